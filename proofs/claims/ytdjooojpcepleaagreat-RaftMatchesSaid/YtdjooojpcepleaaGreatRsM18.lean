/- Package progress, any nodes: Follow, New. -/
import Derived.Test.YtdjooojpcepleaaGreatRsM17
import Derived.Test.YtdjooojpcepleaaGreatRsM16

namespace Go.Proofs.YtdjooojpcepleaaGreat
section
open Go.RowKit Go.Maps Go.ChangeMaps
open Go.«Sort» (grow)
def FolP (w : World) (S : Nat → Prop) (v : Value) (l : List (Int × (Int × Int))) (last : Int) (e : Ending) (w' : World) : Prop :=
 e = .returned (.tuple #[]) ∧ ∃ l', TrkP w' S v (some l') ∧ Keeps S w w' ∧ ∀ q ∈ l', q ∈ l ∨ q.2 = (0, aboveF last)
set_option maxRecDepth 100000 in
set_option maxHeartbeats 3200000 in
theorem rtrk_follow (w : World) (S : Nat → Prop) (v : Value) (l : List (Int × (Int × Int))) (h : TrkP w S v (some l)) (a : Option Addr) (n cap : Nat) (nodes : List Int) (hs : Sl intv w (.slice a n cap) nodes) (hns : ∀ k, (Value.slice a n cap).ownBlock = some k → ¬ S k) (hnd : ∀ x ∈ nodes, 1 ≤ x ∧ x ≤ 7) (hnl : n ≤ 1000)
  (last : Int) (l0 : 0 ≤ last) (l1 : last ≤ 18446744073709551615) : Calls Tryz.prog 76 #[v, .slice a n cap, .int .u64 last] w (FolP w S v l last) := by
 obtain ⟨b, m, rfl, hbx, hmp, hSb, hSm, hok⟩ := h
 have hln : n = nodes.length := by obtain ⟨_, _, e, _⟩ := hs; injection e
 have hnc : n ≤ cap := by obtain ⟨_, _, e, h2, _⟩ := hs; injection e with e1 e2 e3; omega
 have hcm : cap ≤ 9223372036854775807 := by obtain ⟨_, _, e, _, h2, _⟩ := hs; injection e with e1 e2 e3; unfold maxLen at h2; omega
 have c0 : w.cell? ⟨b, 0, none⟩ = some (.map (some m)) := bC hbx 0 rfl
 have HMP := hI hmp
 have HSL := hI hs
 have HNS := hI hns
 have HND := hI hnd
 have HX := hI (show w.heap[b]? = some (.cells #[.map (some m)] 140 (0, 0)) ∧ S b ∧ S m ∧ TrkOk l from ⟨hbx, hSb, hSm, hok⟩)
 have HKN : Hid ((keys l).Nodup) := hI (by obtain ⟨_, _, _, _, h, _⟩ := hmp; exact h)
 have hne : b ≠ m := fun e => by
  obtain ⟨_, _, hmm, _⟩ := hmp
  rw [← e, hbx] at hmm
  cases hmm
 have HLN := hI hln
 have lt := heap_lt hbx
 have ltm := hmp.lt
 clear hbx hmp hSb hSm hok hs hns hnd hln
 go_enter Tryz.func76, Tryz.ntmps76
 go_wp2_with (first | (refine wpList_map_range _ rfl _ _ rfl _ Tryz.underlying138 m l rfl HMP.out ?_; intro ob hit; have HIT := hI hit; clear hit) | fail)
 have HI0 : Hid (MIter Tryz.prog 3 keyN marV (w.alloc ob) m w.heap.size l [] ∧ Keeps S w (w.alloc ob) ∧ (w.alloc ob).heap[b]? = some (.cells #[.map (some m)] 140 (0, 0))) := hI ⟨HIT.out, (Keeps.refl _ _).alloc _, aheap HX.out.1 _⟩
 generalize hw1 : w.alloc ob = W1 at *
 clear hw1 c0 HIT
 go_simp
 go_loopw [6] (fun x wr => ∃ (l1 : List (Int × (Int × Int))) (p : List Int), Hid (MIter Tryz.prog 3 keyN marV wr m w.heap.size l1 p ∧ Keeps S w wr ∧ wr.heap[b]? = some (.cells #[.map (some m)] 140 (0, 0)) ∧ (∀ q ∈ l1, q ∈ l) ∧ p.Nodup ∧ ∀ y ∈ p, y ∈ keys l)) (fun _ wr => l.length - (wr.iterSeen w.heap.size).size)
 case atStart => exact ⟨l, [], hI ⟨HI0.out.1, HI0.out.2.1, HI0.out.2.2, fun q h => h, List.nodup_nil, by simp⟩⟩
 case round =>
  clear HI0
  obtain ⟨l2, p, HI⟩ := hrel
  go_wp2_with (first | (refine wpList_map_next _ rfl _ rfl keyN_inj m w.heap.size l2 p rfl HI.out.1 (fun hd => ?_) (fun key val w' hkv hkp hit' hkw hsz hen => ?_)) | fail)
  ·have HT0 : Hid (TrkP wr S (.pointer (some ⟨b, 0, none⟩)) (some l2) ∧ Keeps S w wr ∧ ∀ q ∈ l2, q ∈ l ∨ q.2 = (0, aboveF last)) := hI ⟨⟨b, m, rfl, HI.out.2.2.1, HI.out.1.map, HX.out.2.1, HX.out.2.2.1, fun q hq => HX.out.2.2.2 q (HI.out.2.2.2.1 q hq)⟩, HI.out.2.1, fun q hq => .inl (HI.out.2.2.2.1 q hq)⟩
   clear hd HI
   go_wp2_with fail
   go_loopw [31] (fun iv wr => ∃ (i : Nat) (l3 : List (Int × (Int × Int))), iv = .int .i64 i ∧ i ≤ n ∧ Hid (TrkP wr S (.pointer (some ⟨b, 0, none⟩)) (some l3) ∧ Keeps S w wr ∧ ∀ q ∈ l3, q ∈ l ∨ q.2 = (0, aboveF last))) (fun iv _ => n - (intOf iv).toNat)
   case atStart => exact ⟨0, l2, rfl, by omega, HT0⟩
   case round =>
    clear HT0
    obtain ⟨i, l3, rfl, hi, HT⟩ := hrel
    by_cases hlt : i < n
    ·obtain ⟨y, hy⟩ : ∃ y, nodes[i]? = some y := ⟨nodes[i]'(by have := HLN.out; omega), by simp⟩
     have hyr := HND.out y (List.mem_of_getElem? hy)
     have hsz := HSL.out.kept HT.out.2.1 HNS.out
     obtain ⟨_, _, hveq, _, _, hcase⟩ := id hsz
     obtain ⟨lb, lo, rfl, hbl, hcell⟩ : ∃ b' o', a = some ⟨b', o', none⟩ ∧ b' < wr.heap.size ∧ wr.cell? ⟨b', o' + i, none⟩ = some (.int .i64 y) := by
      injection hveq with e1 e2 e3
      subst e1
      rcases hcase with ⟨h0, h0'⟩ | ⟨b', o', e, h1, h2⟩
      ·omega
      ·exact ⟨b', o', e, h1, h2 i y hy⟩
     have hh := rtrk_has wr S _ _ HT.out.1 y hyr.1 hyr.2
     have hwf := id_wf hyr.1 hyr.2
     have z1 : (i : Int) < (n : Int) := by omega
     have z2 : i < cap := by omega
     have HYR := hI hyr
     clear hy hsz hveq hcase hyr
     go_wp2_with fail
     refine hh.mono ?_
     rintro e w3 ⟨rfl, hb3⟩
     have HT3 : Hid (TrkP w3 S (.pointer (some ⟨b, 0, none⟩)) (some l3) ∧ Keeps S w w3) := hI ⟨HT.out.1.kept (Keeps.of_belowS (S := fun _ => False) hb3) (fun _ _ h => h), HT.out.2.1.trans (Keeps.of_belowS hb3)⟩
     clear hh hb3 hcell hbl z1 z2
     cases hg : (tget (some l3) y).isSome
     ·obtain ⟨b', m', hv, hbx, hmp, hSb, hSm, hok⟩ := id HT3.out.1
      obtain ⟨rfl⟩ : b = b' := by injection hv with e; injection e with e; injection e
      have HX3 := hI (show w3.heap[b]? = some (.cells #[.map (some m')] 140 (0, 0)) ∧ NMap marV w3 m' l3 ∧ S b ∧ S m' ∧ TrkOk l3 from ⟨hbx, hmp, hSb, hSm, hok⟩)
      have hq : ∀ d os, Calls Tryz.prog 97 #[.int .u64 last] (grow (redrawn w3 d) os) (fun e w'' => e = .returned (.int .u64 (aboveF last)) ∧ ∃ p : Regrown, w'' = grow (redrawn w3 p.d) p.os) := fun d os => Calls.regrown_of ((above_any_ _ last).mono (by rintro e w' ⟨rfl, rfl⟩; exact ⟨rfl, bR⟩))
      have e0 : ∀ d os, (grow (redrawn w3 d) os).cell? ⟨b, 0, none⟩ = some (.map (some m')) := cell_regrown (bC hbx 0 rfl)
      have lt3 := heap_lt hbx
      have HQ := hI hq
      clear hq hg hv hbx hmp hSb hSm hok
      go_wp2_with fail
      refine region_quiet_tail 8 (by kernel_rfl) (by kernel_rfl) ?_
      simp only [List.take_succ_cons, List.take_zero, List.drop_succ_cons, List.drop_zero]
      repeat (quiet_step (first | (with_reducible exact HQ.out _ _)))
      refine wpQuiet_nil ?_
      intro w4 hw'
      have hb4 : Below w3.heap.size w3 w4 := by
       obtain ⟨⟨dq, osq⟩, hw''⟩ := hw'
       subst hw''
       exact below_regrown w3 dq osq
      have HB4 := hI hb4
      have HM4 : Hid (NMap marV w4 m' l3) := hI (HX3.out.2.1.kept (Keeps.of_belowS (S := fun _ => False) hb4) fun h => h)
      clear hw' hb4 e0 lt3
      refine wpList_map_update w4 rfl _ _ _ _ rfl _ nkeyed keyN_inj Tryz.underlying138 m' l3 rfl HM4.out y _ rfl (nkey hwf) (0, aboveF last) rfl ?_
      intro ob hM
      have hk34 : Keeps (fun _ => False) w3 w4 := Keeps.of_belowS HB4.out
      have hset := TrkP.set (S := S) (hk34.heap (fun h => h) HX3.out.1) HM4.out HX3.out.2.2.1 HX3.out.2.2.2.1 ob hM (HX3.out.2.2.2.2.set HYR.out.1 HYR.out.2 (y := (0, aboveF last)) ⟨by simp, by simp⟩ ⟨aboveF_lo l0, aboveF_hi l1⟩)
      have HF : Hid (TrkP (setBlock w4 m' ob) S (.pointer (some ⟨b, 0, none⟩)) (some (aset y (0, aboveF last) l3)) ∧ Keeps S w (setBlock w4 m' ob) ∧ ∀ q ∈ aset y (0, aboveF last) l3, q ∈ l ∨ q.2 = (0, aboveF last)) := hI ⟨hset.1, (HT3.out.2.trans (Keeps.of_belowS HB4.out)).trans hset.2, fun q hq => by
        rcases aset_mem hq with hq | rfl
        · exact HT.out.2.2 q hq
        · exact .inr rfl⟩
      clear hM hset hk34
      go_wp2_with fail
      go_roundw
      case rel => exact ⟨i + 1, _, by go_num, by omega, HF⟩
      case measure => simp [intOf]; omega
     ·have HF : Hid (TrkP w3 S (.pointer (some ⟨b, 0, none⟩)) (some l3) ∧ Keeps S w w3 ∧ ∀ q ∈ l3, q ∈ l ∨ q.2 = (0, aboveF last)) := hI ⟨HT3.out.1, HT3.out.2, HT.out.2.2⟩
      clear hg
      go_wp2_with fail
      go_roundw
      case rel => exact ⟨i + 1, _, by go_num, by omega, HF⟩
      case measure => simp [intOf]; omega
    ·obtain rfl : i = n := by omega
     go_wp2_with fail
     refine bE rfl rfl ?_
     exact ⟨rfl, l3, HT.out⟩
  ·have hmem : key ∈ keys l := List.mem_map.2 ⟨_, HI.out.2.2.2.1 _ hkv, rfl⟩
   have hnd2 : (p ++ [key]).Nodup := List.nodup_append.2 ⟨HI.out.2.2.2.2.1, by simp, by rintro x hx y hy rfl; simp at hy; subst hy; exact hkp hx⟩
   have hsub2 : ∀ y ∈ p ++ [key], y ∈ keys l := fun y hy => by
    rcases List.mem_append.1 hy with hy | hy
    ·exact HI.out.2.2.2.2.2 y hy
    ·simp at hy; subst hy; exact hmem
   have hlen : (p ++ [key]).length ≤ (keys l).length := hnd2.length_le_of_subset hsub2
   have hS := HI.out.1.seen
   have hkr := HX.out.2.2.2 _ (HI.out.2.2.2.1 _ hkv)
   have hwf := id_wf hkr.1.1 hkr.1.2
   have HI2 : Hid (MIter Tryz.prog 3 keyN marV w' m w.heap.size l2 (p ++ [key]) ∧ Keeps S w w' ∧ w'.heap[b]? = some (.cells #[.map (some m)] 140 (0, 0)) ∧ (∀ q ∈ l2, q ∈ l)) := hI ⟨hit', by
     refine ⟨hkw.os.trans HI.out.2.1.os, hkw.tape.trans HI.out.2.1.tape, hkw.output.trans HI.out.2.1.output, Nat.le_trans HI.out.2.1.size hkw.size, fun k hk hn => ?_⟩
     exact (hkw.block k (Nat.lt_of_lt_of_le hk HI.out.2.1.size) (by omega)).trans (HI.out.2.1.block k hk hn), hkw.heap (by omega) HI.out.2.2.1, HI.out.2.2.2.1⟩
   have HP2 := hI (And.intro hnd2 hsub2)
   have HME : Hid (∀ wz : World, (wz.iterSeen w.heap.size).size = (p ++ [key]).length → l.length - (wz.iterSeen w.heap.size).size < l.length - (wr.iterSeen w.heap.size).size) := hI fun wz hz => by
    rw [hz, hS]
    simp only [keys, List.length_map, List.length_append, List.length_singleton] at hlen ⊢
    omega
   have hct := contains_any w' a n cap nodes (HSL.out.kept HI2.out.2.1 HNS.out) key
   have g0 : w'.cell? ⟨b, 0, none⟩ = some (.map (some m)) := bC HI2.out.2.2.1 0 rfl
   have ltw := heap_lt HI2.out.2.2.1
   clear hkv hkp hit' hkw hsz hmem hnd2 hsub2 hlen hS hkr hen HI
   unfold keyN
   refine hct.mono ?_
   rintro e w3 ⟨rfl, rfl⟩
   cases hin : decide (key ∈ nodes)
   ·clear hin hct
    go_wp2_with (first | (refine wpList_map_delete_it _ rfl _ _ _ rfl _ nkeyed keyN_inj Tryz.underlying138 m w.heap.size l2 (p ++ [key]) rfl HI2.out.1 key _ rfl (nkey hwf) ?_; intro ob hM; have HM := hI hM; clear hM) | fail)
    go_roundw
    case rel =>
     have hk : Keeps (fun k => k = m) w' (setBlock w' m ob) := (Keeps.refl (fun k => k = m) w').setBlock (.inl rfl) ob
     exact ⟨_, _, _, _, _, _, _, _, _, _, _, _, _, _, ⟨adel key l2, p ++ [key], hI ⟨HM.out, HI2.out.2.1.trans (hk.mono fun k _ e => e ▸ HX.out.2.2.1), hk.heap hne HI2.out.2.2.1, fun q hq => HI2.out.2.2.2 q ((adel_sub l2).subset hq), HP2.out.1, HP2.out.2⟩⟩, rfl⟩
    case measure => exact HME.out _ HM.out.seen
   ·clear hin hct
    go_wp2_with fail
    go_roundw
    case rel => exact ⟨l2, p ++ [key], hI ⟨HI2.out.1, HI2.out.2.1, HI2.out.2.2.1, HI2.out.2.2.2, HP2.out.1, HP2.out.2⟩⟩
    case measure => exact HME.out _ HI2.out.1.seen
end
section
open Go.RowKit Go.Maps Go.ChangeMaps
def NewTrk (w : World) (last : Int) (e : Ending) (w' : World) : Prop :=
 ∃ v l', e = .returned v ∧ TrkP w' (fun k => w.heap.size ≤ k) v (some l') ∧ Below w.heap.size w w' ∧ ∀ q ∈ l', q.2 = (0, aboveF last)
set_option maxRecDepth 100000 in
theorem rtrk_new (w : World) (a : Option Addr) (n cap : Nat) (nodes : List Int) (hs : Sl intv w (.slice a n cap) nodes) (hnd : ∀ x ∈ nodes, 1 ≤ x ∧ x ≤ 7) (hnl : n ≤ 1000)
  (last : Int) (l0 : 0 ≤ last) (l1 : last ≤ 18446744073709551615) : Calls Tryz.prog 95 #[.slice a n cap, .int .u64 last] w (NewTrk w last) := by
 have hmm := @run_makeMap Tryz.prog
 have HSL := hI hs
 have HND := hI hnd
 clear hs hnd
 go_enter Tryz.func95, Tryz.ntmps95
 go_wp2_with fail
 obtain ⟨W, hW⟩ : ∃ W, W = (w.alloc (.map #[] 0)).alloc (.cells #[.map (some w.heap.size)] 140) := ⟨_, rfl⟩
 have HT : Hid (TrkP W (fun k => w.heap.size ≤ k) (.pointer (some ⟨w.heap.size + 1, 0, none⟩)) (some [])) := hI (by
   rw [hW]
   refine ⟨w.heap.size + 1, w.heap.size, rfl, ?_, (MapOf.made _ _ _ _ w).alloc _, by omega, by omega, by simp⟩
   have : (w.alloc (.map #[] 0)).heap.size = w.heap.size + 1 := by simp
   rw [← this]
   exact bW _ _)
 have HB : Hid (Below w.heap.size w W) := hI (by rw [hW]; exact (bR.alloc nL _).alloc (by simp) _)
 rw [← hW]
 clear hW
 refine (rtrk_follow W _ _ _ HT.out a n cap _ (HSL.out.kept (Keeps.of_belowS (S := fun _ => False) HB.out) fun _ _ h => h) (fun k hk => by have := HSL.out.row_lt k hk; omega) HND.out hnl last l0 l1).mono ?_
 rintro e w1 ⟨rfl, l', ht1, hk1, hq1⟩
 have HT1 : Hid (TrkP w1 (fun k => w.heap.size ≤ k) (.pointer (some ⟨w.heap.size + 1, 0, none⟩)) (some l')) := hI ht1
 have HB1 : Hid (Below w.heap.size w w1) := hI (HB.out.trans (hk1.below HB.out.size fun _ h => h))
 have HQ := hI hq1
 clear ht1 hk1 hq1
 go_wp2_with fail
 go_ret
 exact ⟨_, _, rfl, HT1.out, HB1.out, fun q hq => by
   rcases HQ.out q hq with h | h
   · cases h
   · exact h⟩
end
section
open Go.RowKit
section
variable {C0 : List Int} {g : Gh En} {n : Nat} {x : NodeS} {X : List En}
theorem OkN.install (h : OkN C0 g n x X) (hok : LogOk x.ix x.tm x.es) (hr : x.role = 3) {c : Int} (h1 : 1 ≤ c) (h7 : c ≤ 7) (mv dv : Value) : OkM C0 g n ⟨6, x.id, c, x.term, x.ix, x.tm, 0, false, .slice none 0 0, mv, dv, [], x.mem⟩ := by
 have hn := h.nums hok
 have hx := hok.lo
 have ht := h.termE_ (i := x.ix) hok (t := x.tm) (by unfold termE; rw [if_pos rfl])
 have := h.len
 have hp := h.ni.pos
 have htn := h.tn
 refine ⟨h.ni.sendi hr rfl rfl rfl rfl rfl, by simp, by simp, by simp only; omega, h.i7, h1, h7, h.t0, by simp only; omega, hx, by simp only; omega, ht.1, by simp only; omega, by simp, fun k e he => by simp at he, by simp only [List.length_nil]; omega⟩
theorem OkN.append_ (h : OkN C0 g n x X) (hok : LogOk x.ix x.tm x.es) (hd : ∀ e ∈ x.es, e.d.length ≤ 900) (hr : x.role = 3) {c : Int} (h1 : 1 ≤ c) (h7 : c ≤ 7) {j : Nat} (hj : j ≤ x.es.length) {t : Int} (ht : termE x.ix x.tm x.es (x.ix + j) = some t) {l : List Ent} (hl : l.map Ent.pl = ((x.es.drop j).take 8).map Ent.pl) (ev : Value) :
  OkM C0 g n ⟨4, x.id, c, x.term, x.ix + j, t, x.commit, false, ev, .slice none 0 0, .slice none 0 0, l, []⟩ := by
 have hn := h.nums hok
 have hx := hok.lo
 have hte := h.termE_ hok ht
 have hll := pl_len hl
 have hlen := h.len
 have hp := h.ni.pos
 have htn := h.tn
 have hc := h.c0
 refine ⟨h.ni.sends hr rfl rfl hte.2.2.1 hte.2.1 rfl (by simp only [NodeS.nd, Msg.ms]; omega) (n := 8) ?_, by simp, by simp, by simp only; omega, h.i7, h1, h7, h.t0, by simp only; omega, by simp only; omega, by simp only; omega, hte.1, by simp only; omega, hc, (h.fol hok hd ht 8).pl_ hl, ?_⟩
 ·simp only [NodeS.nd, Msg.ms]
  rw [pl_en hl, show (x.ix + (j : Int)).toNat - x.ix.toNat = j by omega, List.map_take, List.map_drop]
 ·simp only
  have := hn.last
  rw [hll, List.length_take, List.length_drop]
  omega
end
set_option maxRecDepth 100000 in
set_option maxHeartbeats 1600000 in
theorem to_node (w : World) (M F : Nat → Prop) (p : Nat) (x : NodeS) (h : NodeAt w M F p x) (hM : ∀ k, M k → k < w.heap.size) (hl : x.out.length ≤ 1000000) (C0 : List Int) (g : Gh En) (n : Nat) (X : List En) (hN : OkN C0 g n x X) (_ : n ≤ 1000000) (hr : x.role = 3) (c : Int) (h1 : 1 ≤ c) (h7 : c ≤ 7) :
  Calls Tryz.prog 58 #[.pointer (some ⟨p, 0, none⟩), .int .i64 c] w (SendsTo C0 g n w M F p x) := by
 obtain ⟨S, hn⟩ := id h
 have hok := hn.ok
 have hbs := base_any w x.lg x.r x.ix x.tm x.es hn.log
 have HNX : Hid (∀ W, Below w.heap.size w W → Calls Tryz.prog 73 #[x.tv, .int .i64 c] W (Ret (.int .u64 (((tget x.tr c).map (·.2)).getD 0)) W)) := hI fun W hW => rtrk_next W (S 3) x.tv x.tr (hn.trk.kept (Keeps.of_belowS (S := fun _ => False) hW) fun _ _ h => h) c h1 h7
 have hnx0 : 0 ≤ ((tget x.tr c).map (·.2)).getD 0 ∧ ((tget x.tr c).map (·.2)).getD 0 ≤ (X.length : Int) + 1 := by
  have ht := hn.trk
  cases ho : x.tr with
  | none => simp [tget]; omega
  | some l =>
   rw [ho] at ht
   obtain ⟨_, _, _, _, _, _, _, hr0⟩ := ht
   cases ha : aget c l with
   | none => simp [tget, ha]; omega
   | some q =>
    have hm := aget_some_mem ha
    have h2 := hN.nx hr (c, q) (by rw [ho]; exact hm)
    have h3 := (hr0 _ hm).2.2
    simp [tget, ha]
    exact ⟨h3.1, h2⟩
 obtain ⟨tb, htv⟩ : ∃ tb, x.tv = .pointer tb := by
  have := hn.trk
  cases ho : x.tr with
  | none => rw [ho] at this; exact ⟨_, this⟩
  | some l => rw [ho] at this; obtain ⟨b, m, h, _⟩ := this; exact ⟨_, h⟩
 obtain ⟨ma, mc, hmv, hms⟩ : ∃ ma mc, x.imv = .slice ma x.mem.length mc ∧ Sl intv w (.slice ma x.mem.length mc) x.mem := by
  obtain ⟨a, cap, h1, _⟩ := id hn.mem
  exact ⟨a, cap, h1, h1 ▸ hn.mem⟩
 obtain ⟨d, hd, hdl⟩ := hn.dat
 obtain ⟨da, dc, hdv, hds⟩ : ∃ da dc, x.idv = .slice da d.length dc ∧ Sl u8v w (.slice da d.length dc) d := by
  obtain ⟨a, cap, h1, _⟩ := id hd
  exact ⟨a, cap, h1, h1 ▸ hd⟩
 have d9 : w.cell? ⟨p, 9, none⟩ = some (.pointer (some ⟨x.lg, 0, none⟩)) := h.cell 9 rfl
 have d16 : w.cell? ⟨p, 16, none⟩ = some (.pointer tb) := by rw [← htv]; exact h.cell 16 rfl
 have d10 : w.cell? ⟨p, 10, none⟩ = some (.int .u64 x.ix) := h.cell 10 rfl
 have d11 : w.cell? ⟨p, 11, none⟩ = some (.int .u64 x.tm) := h.cell 11 rfl
 have d12 : w.cell? ⟨p, 12, none⟩ = some (.slice ma x.mem.length mc) := by rw [← hmv]; exact h.cell 12 rfl
 have d13 : w.cell? ⟨p, 13, none⟩ = some (.slice da d.length dc) := by rw [← hdv]; exact h.cell 13 rfl
 have hpl := h.plt
 rw [htv] at HNX
 have hml := (mL hN.memb).2.1
 generalize hnx : ((tget x.tr c).map (·.2)).getD 0 = nx at *
 have hix0 := hok.lo
 have H := hI h
 have HM := hI hM
 have HN := hI hN
 have HOK := hI hok
 have HL := hI hl
 by_cases hle : nx ≤ x.ix
 ·have q1 : decide (nx ≤ x.ix) = true := decide_eq_true hle
  have HCL : Hid (∀ W, Below w.heap.size w W → Calls Tryz.prog 28 #[.agg #[.int .u64 x.ix, .int .u64 x.tm, .slice ma x.mem.length mc, .slice da d.length dc]] W (ImgNew W x.ix x.tm x.mem d)) :=
   hI fun W hW => clone_img W x.ix x.tm ma mc x.mem (hms.below hW hms.row_lt) (by omega) da dc d (hds.below hW hds.row_lt) (by omega)
  clear h hM hn hok hms hd hds htv hmv hdv hN hnx hnx0 hl hml
  go_enter Tryz.func58, Tryz.ntmps58
  go_wp2_with fail
  refine hbs.mono ?_
  rintro en w1 ⟨rfl, dn, rfl⟩
  have HB1 : Hid (Below w.heap.size w (w.drewN dn)) := hI (belowDN bR _)
  have hnx := HNX.out _ HB1.out
  clear hbs
  go_wp2_with fail
  refine hnx.mono ?_
  rintro en w2 ⟨rfl, rfl⟩
  clear hnx
  have hcl := HCL.out _ HB1.out
  go_wp2_with fail
  refine hcl.mono ?_
  rintro en w3 ⟨na, nc, ea, ec, rfl, hb3, hsm, hsd, hnm, hnd⟩
  have hb13 := HB1.out.trans (hb3.mono HB1.out.size)
  have HB3 := hI hb13
  have HSM := hI hsm
  have HSD := hI hsd
  have HNM := hI hnm
  have HND := hI hnd
  have e4 : w3.cell? ⟨p, 4, none⟩ = some (.int .u64 x.term) := (H.out.below hb13).cell 4 rfl
  have hp3 : p < w3.heap.size := Nat.lt_of_lt_of_le hpl hb13.size
  clear hb3 hsm hsd hnm hnd hcl hb13 d9 d16 d10 d11 d12 d13
  go_wp2_with fail
  obtain ⟨Y, hY⟩ : ∃ Y, Y = w3.alloc (.cells #[.int .u64 x.ix, .int .u64 x.tm, .slice na x.mem.length nc, .slice ea d.length ec] 40) := ⟨_, rfl⟩
  rw [← hY]
  have hbY : Below w3.heap.size w3 Y := by rw [hY]; exact bR.alloc nL _
  have hyy : Y.heap[w3.heap.size]? = some (.cells #[.int .u64 x.ix, .int .u64 x.tm, .slice na x.mem.length nc, .slice ea d.length ec] 40 (0, 0)) := by rw [hY]; exact bW w3 _
  have y2 := bC hyy 2 rfl
  have y3 := bC hyy 3 rfl
  have HBY := hI (HB3.out.trans (hbY.mono HB3.out.size))
  have k4 : Y.cell? ⟨p, 4, none⟩ = some (.int .u64 x.term) := (H.out.below HBY.out).cell 4 rfl
  have HMS : Hid (MsgOk Y.drew M ⟨6, 0, c, x.term, x.ix, x.tm, 0, false, .slice none 0 0, .slice na x.mem.length nc, .slice ea d.length ec, [], x.mem⟩) :=
   hI ⟨RowE.nil _ _, HSM.out.below (bD hbY) HSM.out.row_lt, fun k hk e => by have := HNM.out k hk; have := HM.out k e; exact absurd (Nat.lt_of_lt_of_le this (Nat.le_trans HB1.out.size (HNM.out k hk))) (Nat.lt_irrefl _), ⟨d, HSD.out.below (bD hbY) HSD.out.row_lt, hdl⟩, fun k hk e => absurd (Nat.lt_of_lt_of_le (HM.out k e) (Nat.le_trans HB1.out.size (HND.out k hk))) (Nat.lt_irrefl _)⟩
  have hs := send_node Y.drew M F p x (H.out.below (bD HBY.out)) (fun k hk => Nat.lt_of_lt_of_le (HM.out k hk) (bD HBY.out).size) _ HMS.out HL.out
  unfold Msg.agg at hs
  clear hY hbY hyy e4
  go_region_law (first
    | (go_simp; go_at_call 66; refine hs.mono ?_; rintro en w4 ⟨rfl, v, hn⟩; have HN4 := hI hn; clear hn))
  all_goals
   go_wp2_with fail
   refine bodyPost_end (results_none rfl _ _ _) rfl ⟨rfl, v, _, HN4.out.ahead (bD HBY.out), ?_⟩
   exact HN.out.install HOK.out hr h1 h7 _ _
 ·obtain ⟨j, hj⟩ : ∃ j : Nat, nx = x.ix + j + 1 := ⟨(nx - x.ix - 1).toNat, by omega⟩
  have hnm := hN.nums hok
  have hjl : j ≤ x.es.length := by have := hnm.last; omega
  have hlen := hN.len
  have hhi := hok.hi
  subst hj
  have q1 : decide (x.ix + (j : Int) + 1 ≤ x.ix) = false := decide_eq_false hle
  have q2 : IntKind.u64.wrap (x.ix + (j : Int) + 1 - 1) = x.ix + j := by rw [show x.ix + (j : Int) + 1 - 1 = x.ix + j by omega]; exact IntWalk.u64_in _ (by omega)
  have q3 : IntKind.u64.wrap (x.ix + (j : Int)) = x.ix + j := IntWalk.u64_in _ (by omega)
  obtain ⟨t, ec, htc, htm⟩ := term_all x.ix x.tm x.es hok x.lg x.r (x.ix + j)
  have hte : ∃ t, termE x.ix x.tm x.es (x.ix + j) = some t := by
   unfold termE
   split
   ·exact ⟨_, rfl⟩
   ·rename_i hne
    rw [if_pos (by omega), show (x.ix + (j : Int) - x.ix - 1).toNat = j - 1 by omega]
    obtain ⟨e, he⟩ : ∃ e, x.es[j - 1]? = some e := ⟨x.es[j - 1]'(by omega), by simp⟩
    exact ⟨e.tm, by rw [he]; rfl⟩
  obtain ⟨t', ht'⟩ := hte
  obtain ⟨rfl, rfl⟩ : ec = 0 ∧ t' = t := by
   rw [ht'] at htc
   rcases htc with ⟨a, b⟩ | ⟨_, _, b⟩
   ·exact ⟨a, Option.some.inj b⟩
   ·cases b
  have HTE := hI ht'
  have HTM : Hid (∀ W, Below w.heap.size w W → Calls Tryz.prog 52 #[.pointer (some ⟨x.lg, 0, none⟩), .int .u64 (x.ix + j)] W (RetB (.tuple #[.int .u64 t', .int .i64 0]) W)) := hI fun W hW => htm W (hn.log.below hW)
  have HFR : Hid (∀ W, Below w.heap.size w W → Calls Tryz.prog 27 #[.pointer (some ⟨x.lg, 0, none⟩), .int .u64 (x.ix + j + 1), .int .i64 8] W (FromR W ((x.es.drop j).take 8))) := hI fun W hW => from_all W x.lg x.r x.ix x.tm x.es (hn.log.below hW) hok hn.dl hn.len j hjl _ rfl 8 (by omega)
  have HDL := hI hn.dl
  clear h hM hn hok hms hd hds htv hmv hdv hN hnx hnx0 hl hml ht' htc htm hnm hlen
  go_enter Tryz.func58, Tryz.ntmps58
  go_wp2_with fail
  refine hbs.mono ?_
  rintro en w1 ⟨rfl, dn, rfl⟩
  have HB1 : Hid (Below w.heap.size w (w.drewN dn)) := hI (belowDN bR _)
  have hnx := HNX.out _ HB1.out
  clear hbs
  go_wp2_with fail
  refine hnx.mono ?_
  rintro en w2 ⟨rfl, rfl⟩
  clear hnx
  have htm := HTM.out _ HB1.out
  go_wp2_with fail
  refine htm.mono ?_
  rintro en w3 ⟨rfl, hb3⟩
  have hb13 := HB1.out.trans (hb3.mono HB1.out.size)
  have HB3 := hI hb13
  have e9 : w3.cell? ⟨p, 9, none⟩ = some (.pointer (some ⟨x.lg, 0, none⟩)) := (H.out.below hb13).cell 9 rfl
  have hfr := HFR.out _ hb13
  clear hb3 htm d9 d16 d10 d11 d12 d13 hb13
  go_wp2_with fail
  refine hfr.mono ?_
  rintro en w4 ⟨v, l, rfl, hrow, hb4, hpl4⟩
  obtain ⟨va, vc, rfl⟩ := own_form hrow.own
  have hb14 := HB3.out.trans (hb4.mono HB3.out.size)
  have HB4 := hI hb14
  have HRW := hI hrow
  have HPL := hI hpl4
  have k4 : w4.cell? ⟨p, 4, none⟩ = some (.int .u64 x.term) := (H.out.below hb14).cell 4 rfl
  have k14 : w4.cell? ⟨p, 14, none⟩ = some (.int .u64 x.commit) := (H.out.below hb14).cell 14 rfl
  have hp4 : p < w4.heap.size := Nat.lt_of_lt_of_le hpl hb14.size
  have HMS : Hid (MsgOk w4.drew M ⟨4, 0, c, x.term, x.ix + j, t', x.commit, false, .slice va l.length vc, .slice none 0 0, .slice none 0 0, l, []⟩) :=
   hI ⟨(HRW.out.rowE (M := M) fun k hk => Nat.lt_of_lt_of_le (HM.out k hk) HB3.out.size).mv (Mv.below M (bD bR)), Sl.nil _ _, im_nil _, ⟨[], Sl.nil _ _, by simp⟩, im_nil _⟩
  have hs := send_node w4.drew M F p x (H.out.below (bD hb14)) (fun k hk => Nat.lt_of_lt_of_le (HM.out k hk) (bD hb14).size) _ HMS.out HL.out
  unfold Msg.agg at hs
  clear hb4 hfr hrow hpl4 hb14 e9
  go_wp2_with fail
  go_region_law (first
    | (go_simp; go_at_call 66; refine hs.mono ?_; rintro en w5 ⟨rfl, v5, hn⟩; have HN5 := hI hn; clear hn))
  all_goals
   go_wp2_with fail
   refine bodyPost_end (results_none rfl _ _ _) rfl ⟨rfl, v5, _, HN5.out.ahead (bD HB4.out), ?_⟩
   exact HN.out.append_ HOK.out HDL.out hr h1 h7 hjl HTE.out HPL.out _
end
section
open Go.RowKit
theorem ofD_members {es : List Ent} : ∀ {k : Nat} {l : List Int} {j : Nat}, ofD es k = some (l, j) → mB l = true
 | 0, _, _, h => by simp [ofD] at h
 | k + 1, l, j, h => by
  rw [ofD] at h
  cases he : es[k]? with
  | none => rw [he] at h; exact ofD_members h
  | some e =>
   rw [he] at h
   simp only at h
   split at h
   ·cases hm : membersOf e.d with
    | none => rw [hm] at h; exact ofD_members h
    | some l' =>
     rw [hm] at h
     simp only [Option.some.injEq, Prod.mk.injEq] at h
     rw [← h.1]
     exact (membersOf_some hm).1
   ·exact ofD_members h
theorem memb_ok {x : NodeS} (h : mB x.mem = true) : mB x.memb = true := by
 unfold NodeS.memb
 cases ho : ofD x.es x.es.length with
 | none => exact h
 | some q => exact ofD_members (l := q.1) (j := q.2) ho
theorem oth_ok {x : NodeS} (h : mB x.mem = true) : x.oth.length ≤ 7 ∧ ∀ c ∈ x.oth, 1 ≤ c ∧ c ≤ 7 := by
 have h1 := mL (memb_ok h)
 refine ⟨Nat.le_trans (List.length_filter_le _ _) h1.2.1, fun c hc => h1.2.2 c (List.mem_filter.1 hc).1⟩
theorem OkN.outs {C0 : List Int} {g : Gh En} {n : Nat} {x : NodeS} {X : List En} (h : OkN C0 g n x X) (s : Int) (v : Value) (o : List Msg) : OkN C0 g n { x with since := s, ov := v, out := o } X :=
 ⟨h.ni, h.i7, h.t0, h.tn, h.c0, h.len, h.memb, h.v0, h.v7, h.nx, h.el⟩
def SendsAll (C0 : List Int) (g : Gh En) (n : Nat) (w : World) (M F : Nat → Prop) (p : Nat) (x : NodeS) (e : Ending) (w' : World) : Prop :=
 e = .returned (.tuple #[]) ∧ ∃ v l, NodTo w M F w' p { x with since := 0, ov := v, out := x.out ++ l } ∧ (∀ m ∈ l, OkM C0 g n m) ∧ l.length ≤ 7
theorem Sl.get {w : World} {a : Option Addr} {c : Nat} {l : List Int} (h : Sl intv w (.slice a l.length c) l) {j : Nat} (hj : j < l.length) : ∃ b o, a = some ⟨b, o, none⟩ ∧ w.cell? ⟨b, o + j, none⟩ = some (.int .i64 l[j]) := by
 obtain ⟨a', c', he, _, _, h3⟩ := h
 injection he with e1 e2 e3
 subst e1
 rcases h3 with ⟨rfl, rfl⟩ | ⟨b, o, rfl, _, hc⟩
 ·omega
 ·exact ⟨b, o, rfl, hc j _ (List.getElem?_eq_getElem hj)⟩
set_option maxRecDepth 100000 in
set_option maxHeartbeats 1600000 in
theorem all_node (w : World) (M F : Nat → Prop) (p : Nat) (x : NodeS) (h : NodeAt w M F p x) (hM : ∀ k, M k → k < w.heap.size) (hl : x.out.length ≤ 900000) (C0 : List Int) (g : Gh En) (n : Nat) (X : List En) (hN : OkN C0 g n x X) (hn6 : n ≤ 1000000) (hr : x.role = 3) :
  Calls Tryz.prog 29 #[.pointer (some ⟨p, 0, none⟩)] w (SendsAll C0 g n w M F p x) := by
 have hml := (mL hN.memb).2.1
 have hml2 := (mL (memb_ok hN.memb)).2.1
 have HO := hI (oth_ok hN.memb)
 have HN := hI hN
 have hpl := h.plt
 have d8 : w.cell? ⟨p, 8, none⟩ = some (.int .i64 x.since) := h.cell 8 rfl
 have f8 := h.free 8
 have HL := hI hl
 have HR := hI ((Rn.start h hM).set { x with since := 0 } 8 (.int .i64 0) rfl rS)
 have hot := others_node _ _ _ p _ HR.out.node (by show x.mem.length ≤ 1000; omega) (by show x.memb.length ≤ 1000; omega)
 have HOT := hI (show Calls Tryz.prog 57 #[.pointer (some ⟨p, 0, none⟩)] (w.setCell ⟨p, 8, none⟩ (.int .i64 0)) (NewL (w.setCell ⟨p, 8, none⟩ (.int .i64 0)) x.oth) from hot)
 clear h hM hl hN hml hml2 hot
 go_enter Tryz.func29, Tryz.ntmps29
 go_wp2_with fail
 refine HOT.out.mono ?_
 rintro en w3 ⟨a, cap, rfl, hb3, hs3, hn3⟩
 have hR3 := HR.out.below hb3
 have him : im (fun k => M k ∨ F k) (.slice a x.oth.length cap) := HR.out.im_new hn3
 have HIM := hI him
 have HR3 := hI hR3
 have HS3 := hI hs3
 have HST := hI (Rn.start hR3.node hR3.ml)
 generalize w.setCell ⟨p, 8, none⟩ (.int .i64 0) = W2 at *
 clear hb3 hs3 hn3 hR3 him d8 f8
 go_wp2_with fail
 go_loopw [10] (fun iv wr => ∃ (j : Nat) (G : Nat → Prop) (v : Value) (l : List Msg), iv = .int .i64 j ∧ j ≤ x.oth.length ∧ Hid (Rn w3 (fun k => M k ∨ F k) F G wr p { x with since := 0, ov := v, out := x.out ++ l } ∧ (∀ m ∈ l, OkM C0 g n m) ∧ l.length = j)) (fun iv _ => x.oth.length - (intOf iv).toNat)
 case atStart => exact ⟨0, F, x.ov, [], rfl, Nat.zero_le _, hI ⟨by rw [List.append_nil]; exact HST.out, (fun m hm => by cases hm), rfl⟩⟩
 case round =>
  clear HST
  obtain ⟨j, G, v, l, rfl, hj, HQ⟩ := hrel
  by_cases hlt : j < x.oth.length
  ·have hsl := HQ.out.1.mv.sl HS3.out HIM.out
   obtain ⟨b, o, rfl, hc⟩ := Sl.get hsl hlt
   have hcc := HO.out.2 x.oth[j] (List.getElem_mem hlt)
   have z1 : (j : Int) < (x.oth.length : Int) := by omega
   have z2 : x.oth.length ≤ 7 := HO.out.1
   have ht := to_node wr _ G p _ HQ.out.1.node HQ.out.1.ml (by have := HL.out; have := HQ.out.2.2; have := HO.out.1; simp; omega) C0 g n X (HN.out.outs 0 v (x.out ++ l)) hn6 hr x.oth[j] hcc.1 hcc.2
   have HT := hI ht
   generalize x.oth[j] = c at *
   generalize hol : x.oth.length = ol at *
   have HOL := hI hol
   clear hsl ht hol
   go_wp2_with fail
   refine HT.out.mono ?_
   rintro en w4 ⟨rfl, v4, m, hn4, hm4⟩
   obtain ⟨G4, hr4⟩ := HQ.out.1.call hn4
   have HR4 := hI hr4
   have HM4 := hI hm4
   clear hn4 hr4 hm4 HT
   go_wp2_with fail
   go_roundw
   case rel => exact ⟨j + 1, G4, v4, l ++ [m], by go_num, by omega, hI ⟨by rw [← List.append_assoc]; exact HR4.out, fun q hq => (by rcases List.mem_append.1 hq with hq | hq; exact HQ.out.2.1 q hq; obtain rfl := List.mem_singleton.1 hq; exact HM4.out), by simp [HQ.out.2.2]⟩⟩
   case measure => exact k_meas hlt
  ·obtain rfl : j = x.oth.length := by omega
   go_wp2_with fail
   refine bodyPost_end (results_none rfl _ _ _) rfl ⟨rfl, v, l, ?_, HQ.out.2.1, by rw [HQ.out.2.2]; exact HO.out.1⟩
   obtain ⟨G', hr'⟩ := HR3.out.call HQ.out.1.to
   exact hr'.to
end
end Go.Proofs.YtdjooojpcepleaaGreat

/- Package entry: Put. Package entry: slices.Clone of entries; Cut. -/
import Derived.Test.YtdjooojpcepleaaGreatRsM12

namespace Go.Proofs.YtdjooojpcepleaaGreat
section
open Go.RowKit
def PutR (w : World) (t : Nat) (_ : Option Nat) (ix tm : Int) (es : List Ent) (i term : Int) (l : List Ent) (e : Ending) (w' : World) : Prop :=
 (∃ c, e = .returned (.tuple #[.int .u64 0, .int .i64 c]) ∧ c ≠ 0 ∧ Below w.heap.size w w') ∨
 (termE ix tm es i = some term ∧ KnownP ix tm es l l.length ∧ e = .returned (.tuple #[.int .u64 0, .int .i64 0]) ∧ Below w.heap.size w w') ∨
 (termE ix tm es i = some term ∧ ∃ m es' g, m < l.length ∧ KnownP ix tm es l m ∧ e = .returned (.tuple #[.int .u64 (i + m + 1), .int .i64 0]) ∧ LogAt w' t (some g) ix tm es' ∧ w.heap.size ≤ g ∧ Keeps (fun k => k = t) w w' ∧
   es'.map Ent.pl = (es.take ((i - ix).toNat + m)).map Ent.pl ++ (l.drop m).map Ent.pl ∧ (i - ix).toNat + m ≤ es.length ∧ es'.length ≤ 1024 ∧ ∀ x ∈ es', x ∈ es ∨ ∀ k, x.v.ownBlock = some k → w.heap.size ≤ k)
theorem termE_le {ix tm : Int} {es : List Ent} {i x : Int} (h : termE ix tm es i = some x) : ix ≤ i ∧ i ≤ ix + es.length := by
 unfold termE at h
 split at h
 ·omega
 ·split at h
  ·cases he : es[(i - ix - 1).toNat]? with
   | none => rw [he] at h; cases h
   | some e =>
    have := (List.getElem?_eq_some_iff.1 he).1
    omega
  ·cases h
theorem known_le {ix tm : Int} {es l : List Ent} {i term : Int} {m : Nat} (ht : termE ix tm es i = some term) (hf : FolOk i term l) (hk : KnownP ix tm es l m) : i + m ≤ ix + es.length := by
 cases m with
 | zero => have := (termE_le ht).2; omega
 | succ q =>
  obtain ⟨e, he⟩ : ∃ e, l[q]? = some e := ⟨l[q]'(by have := hk.1; omega), by simp⟩
  have h1 := (termE_le (hk.2.1 q e (by omega) he)).2
  have h2 := (hf q e he).1
  omega
set_option maxRecDepth 100000 in
set_option maxHeartbeats 3200000 in
theorem lput_any (w : World) (t : Nat) (r : Option Nat) (ix tm : Int) (es : List Ent) (h : LogAt w t r ix tm es) (ok : LogOk ix tm es) (hes : es.length ≤ 1024) (M : Nat → Prop) (hMt : M t) (a : Option Addr) (n cap : Nat) (l : List Ent) (hl : RowE w M (.slice a n cap) l)
  (i term : Int) (hf : FolOk i term l) (hi : 0 ≤ i) (hn : i + n ≤ 9223372036854775807) (ht : 0 ≤ term ∧ term ≤ 18446744073709551615) (hn2 : n ≤ 1000000) :
  Calls Tryz.prog 49 #[.pointer (some ⟨t, 0, none⟩), .int .u64 i, .int .u64 term, .slice a n cap] w (PutR w t r ix tm es i term l) := by
 have hnl : n = l.length := by obtain ⟨_, _, _, _, e, _⟩ := hl; injection e
 subst hnl
 have hfo := follow_ok w M a _ cap l hl i term hf hi hn ht hn2
 have HR := hI hl
 have HL := hI h
 have HF := hI hf
 have HMT := hI hMt
 obtain ⟨x, c, hxc, hterm⟩ := term_all ix tm es ok t r i
 have HT := hI hterm
 have HXC := hI hxc
 have HK : Hid (∀ W, Below w.heap.size w W → Calls Tryz.prog 78 #[.pointer (some ⟨t, 0, none⟩), .slice a l.length cap] W (KnownR W ix tm es l)) := hI fun W hW => known_any W t r ix tm es (h.below hW) ok M a _ cap l (hl.mv (Mv.below M hW)) hn2
 have hx := ok.lo
 have hx2 := ok.hi
 clear h ok hl hf hterm hxc hMt
 obtain ⟨i0, hi0, hz0, hz1, hz2⟩ := info_parts info_entry
 go_enter Tryz.func49, Tryz.ntmps49
 go_wp2_with fail
 refine hfo.mono ?_
 rintro en w1 ⟨rfl, hb1⟩
 have HB1 := hI hb1
 have htc := HT.out w1 (HL.out.below hb1)
 clear hfo hb1 HT
 go_wp2_with fail
 refine htc.mono ?_
 rintro en w2 ⟨rfl, hb2⟩
 have HB2 := hI (HB1.out.trans (hb2.mono HB1.out.size))
 clear hb2 HB1 htc
 by_cases hc : c = 0
 ·subst hc
  by_cases hxt : x = term
  ·subst hxt
   have HTE : Hid (termE ix tm es i = some x) := hI (by rcases HXC.out with ⟨_, h⟩ | ⟨h, _⟩; exact h; omega)
   have hk := HK.out w2 HB2.out
   clear HXC HK
   go_wp2_with fail
   refine hk.mono ?_
   rintro en w3 ⟨m, rfl, hkp, hb3⟩
   have HB3 := hI (HB2.out.trans (hb3.mono HB2.out.size))
   have HKP := hI hkp
   have hml := hkp.1
   clear hb3 HB2 hk hkp
   by_cases hme : m = l.length
   ·subst hme
    obtain ⟨_, _, a', cap', hv, hlc, hcm, hcase⟩ := id HR.out
    injection hv with v1 v2 v3
    subst v1 v3
    unfold maxLen at hcm
    have z0 : (0 : Int) ≤ (l.length : Int) := by omega
    rcases hcase with ⟨rfl, rfl⟩ | ⟨b, o, rfl, hb, _⟩
    ·have hl0 : l.length = 0 := by omega
     clear v2 hml hlc hcm
     go_wp2_with fail
     go_ret2
     exact .inr (.inl ⟨HTE.out, HKP.out, rfl, HB3.out⟩)
    ·by_cases hce : cap = l.length
     ·clear v2 hml
      go_wp2_with fail
      go_ret2
      exact .inr (.inl ⟨HTE.out, HKP.out, rfl, HB3.out⟩)
     ·clear v2 hml
      go_wp2_with fail
      go_ret2
      exact .inr (.inl ⟨HTE.out, HKP.out, rfl, HB3.out⟩)
   ·have hm : m < l.length := by omega
    obtain ⟨e0, he0⟩ : ∃ e0, l[m]? = some e0 := ⟨l[m], by simp⟩
    have hle := known_le HTE.out HF.out HKP.out
    have hge := (termE_le HTE.out).1
    have hx0 := (HF.out m e0 he0).1
    obtain ⟨b, o, cap', hv, k1, k2, k3, c0, c1, c2, c3⟩ := (HR.out.mv (Mv.below M HB3.out)).at he0
    injection hv with v1 v2 v3
    subst v1 v3
    obtain ⟨ga, gc, hbx⟩ := (HL.out.below HB3.out).slice
    have d0 := bC hbx 0 rfl
    have d2 := bC hbx 2 rfl
    have f2 := bF hbx 2
    have HBX := hI hbx
    obtain ⟨kp, hkp⟩ : ∃ kp : Nat, i + m = ix + kp := ⟨(i + m - ix).toNat, by omega⟩
    have hkl : kp ≤ es.length := by omega
    have HKQ := hI hkp
    unfold maxLen at k2
    have z1 : (m : Int) ≤ (l.length : Int) := by omega
    have q5 : ¬ cap = m := by omega
    have e1 : IntKind.u64.wrap (e0.ix - ix) = (kp : Int) + 1 := by rw [show e0.ix - ix = (kp : Int) + 1 by omega]; exact IntWalk.u64_in _ (by omega)
    have e2 : IntKind.u64.wrap (kp : Int) = (kp : Int) := IntWalk.u64_in _ (by omega)
    have z2 : ¬ (l.length - m = 0) := by omega
    have z4 : (((l.length - m : Nat) : Int) == 0) = false := beq_eq_false_iff_ne.2 (by omega)
    have HX0 := hI hx0
    have HE0 := hI he0
    clear v2 hml hkp he0 hx0 hbx hme hle hge
    have hgc : es.length ≤ gc := by
     rcases ((HL.out.below HB3.out).owns HBX.out).1.2 with ⟨h1, h2⟩ | ⟨g, c', _, h1, _, _, h2, _⟩
     ·omega
     ·injection h1 with _ _ h1; omega
    have hkg : kp ≤ gc := by omega
    have HX2 := hI hx2
    clear hx2
    have hdr : (l.drop m).length = l.length - m := by simp
    have HDR := hI hdr
    clear hdr
    by_cases hfull : kp + (l.length - m) ≤ 1024
    ·have z3 : ¬ (1024 : Int) < (kp : Int) + ((l.length - m : Nat) : Int) := by omega
     have q0 : kp ≤ 1024 := by omega
     have q1 : l.length - m ≤ 1024 := by omega
     go_wp2_with fail
     generalize hq : l.length - m = q at *
     have HQ := hI hq
     clear hq
     go_quiet (fail)
     go_wp2_with fail
     have hWd : Below w.heap.size w (w3.drewN nq) := belowDN HB3.out _
     have HC0 : Hid (LogC ((w3.drewN nq).setCell ⟨t, 2, none⟩ (.slice ga kp kp)) t none ix tm (es.take kp)) := hI (LogAt.clip (w := w3.drewN nq) (HL.out.below hWd) HBX.out hkl)
     have HK0 : Hid (Keeps (fun k => k = t) w ((w3.drewN nq).setCell ⟨t, 2, none⟩ (.slice ga kp kp))) := hI (((Keeps.of_below hWd).mono (T := fun k => k = t) fun k hk h => by omega).trans ((Keeps.refl (fun k => k = t) _).setCell (.inl rfl) _))
     obtain ⟨W0, hW0⟩ : ∃ W0, W0 = (w3.drewN nq).setCell ⟨t, 2, none⟩ (.slice ga kp kp) := ⟨_, rfl⟩
     rw [← hW0] at HC0 HK0
     rw [← hW0]
     have HTL := hI HL.out.lt
     clear hW0 hWd c0 c1 c2 c3 d0 d2 f2 e1 e2 z1 z2 z4 q5 hgc hkg HB3 HBX
     go_loopw [74] (fun iv wr => ∃ (j : Nat) (B : Option Nat) (news : List Ent), iv = .int .i64 j ∧ j ≤ q ∧ Hid (LogC wr t B ix tm (es.take kp ++ news) ∧ (1 ≤ j → ∃ g, B = some g ∧ LogAt wr t (some g) ix tm (es.take kp ++ news)) ∧ (∀ k, B = some k → w.heap.size ≤ k) ∧ Keeps (fun k => k = t) w wr ∧ news.map Ent.pl = ((l.drop m).take j).map Ent.pl ∧ news.length = j ∧ ∀ x ∈ news, ∀ k, x.v.ownBlock = some k → w.heap.size ≤ k)) (fun iv _ => q - (intOf iv).toNat)
     case atStart => exact ⟨0, none, [], rfl, Nat.zero_le _, hI ⟨by rw [List.append_nil]; exact HC0.out, fun h => by omega, fun k hk => (by cases hk), HK0.out, by simp, rfl, fun x hx => (by cases hx)⟩⟩
     case round =>
      clear HC0 HK0
      obtain ⟨j, B, news, rfl, hjq, HO⟩ := hrel
      have HMV : Hid (Mv w M wr M) := hI ⟨HO.out.2.2.2.1.mono fun k _ hk => (by subst hk; exact HMT.out), fun k hk => .inl hk⟩
      by_cases hlt : j < q
      ·obtain ⟨e, he⟩ : ∃ e, l[m + j]? = some e := ⟨l[m + j]'(by have := HQ.out; omega), by simp⟩
       have HK := hI he
       obtain ⟨b', o', cap', hv, k1', k2', k3', c0, c1, c2, c3⟩ := (HR.out.mv HMV.out).at he
       injection hv with v1 v2 v3
       injection v1 with v1
       injection v1 with v1 v4 v5
       subst v1 v4 v3
       have hds := ((HR.out.mv HMV.out).2.1 e (List.mem_of_getElem? he)).1
       have HDS := hI hds
       obtain ⟨da, dc, hv2, _⟩ := id hds
       have HV := hI hv2
       rw [hv2] at c3
       have y0 : wr.cell? ⟨b, o + m * 4 + j * 4, none⟩ = some (.int .u64 e.ix) := by rw [show o + m * 4 + j * 4 = o + (m + j) * 4 by omega]; exact c0
       have y1 : wr.cell? ⟨b, o + m * 4 + j * 4 + 1, none⟩ = some (.int .u64 e.tm) := by rw [show o + m * 4 + j * 4 = o + (m + j) * 4 by omega]; exact c1
       have y2 : wr.cell? ⟨b, o + m * 4 + j * 4 + 2, none⟩ = some (.bool e.cf) := by rw [show o + m * 4 + j * 4 = o + (m + j) * 4 by omega]; exact c2
       have y3 : wr.cell? ⟨b, o + m * 4 + j * 4 + 3, none⟩ = some (.slice da e.d.length dc) := by rw [show o + m * 4 + j * 4 = o + (m + j) * 4 by omega]; exact c3
       have hln : (es.take kp ++ news).length = kp + j := by have := HO.out.2.2.2.2.2.1; simp; omega
       have HLN := hI hln
       obtain ⟨X, hX⟩ : ∃ X, X = wr.alloc (.cells #[.int .u64 e.ix, .int .u64 e.tm, .bool e.cf, .slice da e.d.length dc] 47) := ⟨_, rfl⟩
       have hbX : Below wr.heap.size wr X := by rw [hX]; exact bR.alloc nL _
       have HCX := hI (HO.out.1.below hbX)
       have HXB := hI hbX
       obtain ⟨ta, tc, hbx, hrow⟩ := HCX.out.box
       have x2 := bC hbx 2 rfl
       have hce := cloneE_any X.drew e (HDS.out.below (bD hbX) HDS.out.row_lt) (by have := (HF.out _ e he).2.2.2; omega)
       rw [HV.out] at hce
       have hxx : X.heap[wr.heap.size]? = some (.cells #[.int .u64 e.ix, .int .u64 e.tm, .bool e.cf, .slice da e.d.length dc] 47 (0, 0)) := by rw [hX]; exact bW wr _
       have p0 := bC hxx 0 rfl
       have p1 := bC hxx 1 rfl
       have p2 := bC hxx 2 rfl
       have p3 := bC hxx 3 rfl
       have HBX := hI hbx
       have HRW := hI hrow
       have HX := hI hX
       have z1 : (j : Int) < (q : Int) := by omega
       have HM0 : Hid (kp + j + 1 ≤ maxLen ∧ (kp + j + 1) * 48 ≤ 140737488355328) := hI (by unfold maxLen; omega)
       rw [hln] at x2
       clear he c0 c1 c2 c3 k1' k2' k3' hds hv2 hbX hbx hrow hxx hln v2 v5
       go_wp2_with fail
       rw [← hX]
       clear hX
       go_region_law (first
         | (go_simp; go_at_call 55; refine hce.mono ?_; rintro en w4 ⟨u, rfl, hb4, hs4, hn4⟩; obtain ⟨ua, uc, rfl, _⟩ := id hs4; have hbX4 : Below X.heap.size X w4 := (bD (Below.refl _ X)).trans (hb4.mono (by simp)); have HX4 := hI hbX4; have HC4 := hI (HCX.out.below hbX4); have HR4 := hI ((HRW.out.kept (Keeps.of_belowS (S := fun _ => False) hbX4) fun _ _ h => h)); rw [HLN.out] at HR4; have hbx4 := bH hbX4 HBX.out (heap_lt HBX.out); have HB4 := hI hbx4; have l4 := heap_lt hbx4; rw [HLN.out] at hbx4; have x2 := bC hbx4 2 rfl; have HS4 := hI hs4; have HN4 := hI hn4; clear hb4 hs4 hn4 hbX4 hbx4)
         | (refine step_append_rowD _ (by rfl) _ _ _ (by rfl) 47 i0 _ 4 48 Tryz.underlying41 hi0 hz0 hz1 hz2 rfl (by omega) (.slice ta (kp + j) tc) (kp + j) (entCells (es.take kp ++ news)) B (by rfl) (HR4.out.alloc _)
             ⟨w4.heap.size, 0, none⟩ 1 1 [.int .u64 e.ix, .int .u64 e.tm, .bool e.cf, .slice ua e.d.length uc] (by rfl) (by rfl) (cells4_new _ _ _ _ _ _) (by simp [Value.oneCell'])
             (by omega) HM0.out.1 HM0.out.2 (w4.heap.size + 1) (by simp) ?_; intro gg cp w5 hown5 hg5 hat5 hlt5; have hbx5 := (gK (S := fun k => B = some k) hg5 (fun k hk => hk.symm)).heap HC4.out.rt (aheap HB4.out _); have x5 := bC hbx5 2 rfl; have f5 := bF hbx5 2; have l5 := heap_lt hbx5; clear hbx5))
       all_goals
        go_wp2_with fail
        have hB14 : Below wr.heap.size wr w4 := HXB.out.trans (HX4.out.mono HXB.out.size)
        have hown5' : w5.ownsRow 0 47 4 (.slice (some ⟨gg, 0, none⟩) ((es.take kp ++ news).length + 1) cp) ((es.take kp ++ news).length + 1) (entCells (es.take kp ++ news) ++ (⟨e.ix, e.tm, e.cf, .slice ua e.d.length uc, e.d⟩ : Ent).cells) := by rw [HLN.out]; exact hown5
        have hnw : ∀ k, (Value.slice ua e.d.length uc).ownBlock = some k → wr.heap.size ≤ k := fun k hk => Nat.le_trans HXB.out.size (HN4.out k hk)
        have hp := LogC.push (e := ⟨e.ix, e.tm, e.cf, .slice ua e.d.length uc, e.d⟩) HC4.out hB14 (by obtain ⟨_, _, h, _⟩ := HO.out.1.box; exact heap_lt h) HO.out.1.lt HB4.out HS4.out hnw hown5' hg5 hat5
        rw [HLN.out, List.append_assoc] at hp
        have HP := hI hp
        have hgn : w.heap.size ≤ gg := by
         rcases hat5 with h | h
         ·exact HO.out.2.2.1 gg h
         ·have := hB14.size; have := HO.out.2.2.2.1.size; omega
        have HGN := hI hgn
        have HNW := hI hnw
        clear hp hown5 hown5' hg5 hat5 hgn hnw hB14
        go_roundw
        case rel =>
         exact ⟨j + 1, some gg, news ++ [⟨e.ix, e.tm, e.cf, .slice ua e.d.length uc, e.d⟩], by go_num, by omega, hI ⟨HP.out.1.toC, fun _ => ⟨gg, rfl, HP.out.1⟩, fun k hk => (by cases hk; exact HGN.out),
           ((HO.out.2.2.2.1.mono (T := fun k => k = t ∨ w.heap.size ≤ k) fun k _ hk => .inl hk).trans (HP.out.2.mono fun k _ hk => hk.imp id (fun hB => HO.out.2.2.1 k hB))).mono fun k hk h => (by rcases h with h | h; exact h; omega),
           by rw [List.map_append, HO.out.2.2.2.2.1, List.take_add_one, List.map_append, List.getElem?_drop, HK.out]; rfl, by simp [HO.out.2.2.2.2.2.1],
           fun y hy k hk => (by
             rcases List.mem_append.1 hy with hy | hy
             · exact HO.out.2.2.2.2.2.2 y hy k hk
             · obtain rfl := List.mem_singleton.1 hy
               exact Nat.le_trans HO.out.2.2.2.1.size (HNW.out k hk))⟩⟩
        case measure => exact k_meas hlt
      ·obtain rfl : j = q := by omega
       obtain ⟨b', o', cap', hv, k1', k2', k3', c0, c1, c2, c3⟩ := (HR.out.mv HMV.out).at HE0.out
       injection hv with v1 v2 v3
       injection v1 with v1
       injection v1 with v1 v4 v5
       subst v1 v4 v3
       have z1 : (0 : Int) < (j : Int) := by have := HQ.out; omega
       have HJ : Hid (1 ≤ j) := hI (by omega)
       clear v2 v5 c1 c2 c3 k1' k2' k3'
       go_wp2_with fail
       go_ret2
       obtain ⟨g, hBg, hL⟩ := HO.out.2.1 HJ.out
       have hge := (termE_le HTE.out).1
       have hkk : (i - ix).toNat + m = kp := by have := HKQ.out; omega
       refine .inr (.inr ⟨HTE.out, m, es.take kp ++ news, g, hm, HKP.out, (by rw [← HX0.out]; rfl), hL, HO.out.2.2.1 g hBg, HO.out.2.2.2.1, ?_, ?_, ?_, ?_⟩)
       ·rw [hkk, List.map_append, HO.out.2.2.2.2.1, List.take_of_length_le (l := l.drop m) (by rw [HDR.out]; exact Nat.le_refl _)]
       ·omega
       ·have := HO.out.2.2.2.2.2.1; simp; omega
       ·intro y hy
        rcases List.mem_append.1 hy with hy | hy
        ·exact .inl (List.mem_of_mem_take hy)
        ·exact .inr (HO.out.2.2.2.2.2.2 y hy)
    ·have z3 : (1024 : Int) < (kp : Int) + ((l.length - m : Nat) : Int) := by omega
     have q0 : kp ≤ 1024 := by omega
     have q1 : l.length - m ≤ 1000000 := by omega
     go_wp2_with fail
     generalize hq : l.length - m = q at *
     have HQ := hI hq
     clear hq
     go_quiet (fail)
     go_wp2_with fail
     go_ret2
     exact .inl ⟨6, rfl, by omega, belowDN HB3.out _⟩
  ·go_wp2_with fail
   go_ret2
   exact .inl ⟨17, rfl, by omega, HB2.out⟩
 ·go_wp2_with fail
  go_ret2
  exact .inl ⟨c, rfl, hc, HB2.out⟩
end
section
open Go.RowKit
def EntV (w : World) (v : Value) (es : List Ent) : Prop :=
 (∀ e ∈ es, ∃ a n c, e.v = .slice a n c) ∧ ∃ a cap, v = .slice a es.length cap ∧ ((a = none ∧ cap = 0 ∧ es = []) ∨ ∃ b o, a = some ⟨b, o, none⟩ ∧ ∀ j u, (entCells es)[j]? = some u → w.cell? ⟨b, o + j, none⟩ = some u)
theorem entCells_one {es : List Ent} (h : ∀ e ∈ es, ∃ a n c, e.v = .slice a n c) : ∀ u ∈ entCells es, u.oneCell' = true := by
 intro u hu
 obtain ⟨e, he, hu⟩ := List.mem_flatMap.1 hu
 obtain ⟨a, n, c, hv⟩ := h e he
 simp only [Ent.cells, List.mem_cons, List.not_mem_nil, or_false] at hu
 rcases hu with rfl | rfl | rfl | rfl
 ·rfl
 ·rfl
 ·rfl
 ·rw [hv]; rfl
def ClonedE (w : World) (es : List Ent) (e : Ending) (w' : World) : Prop :=
 ∃ v, e = .returned v ∧ Below w.heap.size w w' ∧ w'.ownsRow 0 47 4 v es.length (entCells es) ∧ ∀ k, v.ownBlock = some k → w.heap.size ≤ k
set_option maxRecDepth 100000 in
theorem clone_anyE (w : World) (ad : Option Addr) (n cp : Nat) (es : List Ent) (hu : EntV w (.slice ad n cp) es) (hl : es.length ≤ 1000000) :
  Calls Tryz.prog 86 #[.slice ad n cp] w (ClonedE w es) := by
 obtain ⟨h1, a, cap, hv, hcase⟩ := hu
 injection hv with v1 v2 v3
 subst v1 v2 v3
 have HL := hI hl
 clear hl
 rcases hcase with ⟨rfl, rfl, rfl⟩ | ⟨b, o, rfl, hc⟩
 ·have hnil := fun w => Lib.run_eql_slice_nil (P := Tryz.prog) w 41 47 none 0 0 0 0 Tryz.underlying41
  go_enter Tryz.func86, Tryz.ntmps86
  go_wp2
  go_ret
  exact ⟨_, rfl, bR, World.ownsRow_nil _ _ _ _, fun k hk => by simp [Value.ownBlock] at hk⟩
 ·have hnil := fun w => Lib.run_eql_slice_nil (P := Tryz.prog) w 41 47 (some ⟨b, o, none⟩) es.length cp 0 0 Tryz.underlying41
  obtain ⟨i0, hi, hz0, hz1, hz2⟩ := info_parts info_entry
  have H1 := hI h1
  have HC : Hid (∀ j u, (entCells es)[j]? = some u → (w.alloc (.cells #[] 47)).cell? ((⟨b, o, none⟩ : Addr).add j) = some u) := hI fun j u hj => by
   rw [addr_add]
   exact Lib.cell?_alloc_some _ (hc j u hj)
  clear h1 hc
  go_enter Tryz.func86, Tryz.ntmps86
  have how : (w.alloc (.cells #[] 47)).ownsRow 0 47 4 (.slice (some ⟨w.heap.size, 0, none⟩) 0 0) 0 [] := World.ownsRow_made w #[] 0 (Nat.zero_le _) (Nat.zero_le _) rfl
  have HM0 := hI (show 0 + es.length ≤ maxLen by unfold maxLen; have := HL.out; omega)
  have HM1 := hI (show (0 + es.length) * 48 ≤ 140737488355328 by have := HL.out; omega)
  have HO0 := hI how
  clear how
  go_wp2_with (at_builtin; refine wpList_append_more (w.alloc (.cells #[] 47)) rfl _ _ _ rfl 47 i0 _ 4 48 Tryz.underlying41 hi hz0 hz1 hz2 rfl (by decide) (.slice (some ⟨w.heap.size, 0, none⟩) 0 0) 0 [] rfl HO0.out ⟨b, o, none⟩ es.length cp (entCells es) rfl (entCells_len es) HC.out (entCells_one H1.out) HM0.out HM1.out ?_; intro v' w1 hown hg hrow; have HO := hI hown; have HG := hI hg; have HR := hI hrow; clear hown hg hrow)
  go_ret
  have hown : w1.ownsRow 0 47 4 v' es.length (entCells es) := by have := HO.out; rwa [Nat.zero_add, List.nil_append] at this
  refine ⟨v', rfl, ?_, hown, fun k hk => ?_⟩
  ·have h1 : Keeps (fun k => w.heap.size ≤ k) w w1 := ((Keeps.refl _ w).alloc _).trans (gK HG.out (fun k hk => by simp [Value.ownBlock] at hk; omega))
   exact h1.below nL (fun k hk => hk)
  ·rcases HR.out with h1 | ⟨j, h1, h2, _⟩
   ·rw [h1] at hk; simp [Value.ownBlock] at hk; omega
   ·rw [h1] at hk; cases hk; simp at h2; omega
theorem own_form {w : World} {T : TypeId} {sz : Nat} {v : Value} {n : Nat} {xs : List Value} (h : w.ownsRow 0 T sz v n xs) : ∃ a c, v = .slice a n c := by
 rcases h.2 with ⟨rfl, rfl⟩ | ⟨g, cap, cur, rfl, _⟩
 ·exact ⟨_, _, rfl⟩
 ·exact ⟨_, _, rfl⟩
def CutR (w : World) (t : Nat) (i x : Int) (es : List Ent) (e : Ending) (w' : World) : Prop :=
 ∃ r', e = .returned (.int .i64 0) ∧ LogAt w' t r' i x es ∧ (∀ k, r' = some k → w.heap.size ≤ k) ∧ Keeps (fun k => k = t) w w'
theorem cut_done {w w4 : World} {t : Nat} {r : Option Nat} {ix tm : Int} {es : List Ent} (h : LogAt w4 t r ix tm es) (hb : Below w.heap.size w w4) (ht : t < w.heap.size) {a : Option Addr} {cap : Nat} {i x : Int} {k : Nat}
  (hd : ∀ e ∈ es, ∀ q, e.v.ownBlock = some q → q < w.heap.size)
  (hown : w4.ownsRow 0 47 4 (.slice a (es.drop k).length cap) (es.drop k).length (entCells (es.drop k))) (hnew : ∀ q, (Value.slice a (es.drop k).length cap).ownBlock = some q → w.heap.size ≤ q) {W : World}
  (hW : W = ((w4.setCell ⟨t, 2, none⟩ (.slice a (es.drop k).length cap)).setCell ⟨t, 0, none⟩ (.int .u64 i)).setCell ⟨t, 1, none⟩ (.int .u64 x)) :
  LogAt W t (Value.slice a (es.drop k).length cap).ownBlock i x (es.drop k) ∧ Keeps (fun k => k = t) w W := by
 obtain ⟨v, hbx, _, _⟩ := h.box
 have hks : Keeps (fun k => k = t) w4 W := by rw [hW]; exact ((((Keeps.refl (fun k => k = t) w4).setCell (.inl rfl) _).setCell (.inl rfl) _).setCell (.inl rfl) _)
 refine ⟨⟨⟨_, ?_, owns_kept hown hks fun q hq e => ?_, rfl⟩, fun e => ?_, fun e he => ?_⟩, (((Keeps.of_below hb).mono (T := fun k => k = t) fun k hk h => by omega).trans hks)⟩
 ·rw [hW]
  exact blk_set (blk_set (blk_set hbx 2 _) 0 _) 1 _
 ·have := hnew q hq; omega
 ·have := hnew t e; omega
 ·have he' := List.mem_of_mem_drop he
  obtain ⟨h1, h2⟩ := h.data e he'
  exact ⟨h1.kept hks fun q hq => (h2 q hq).1, fun q hq => ⟨(h2 q hq).1, fun e2 => by have := hd e he' q hq; have := hnew q e2; omega⟩⟩
set_option maxRecDepth 100000 in
set_option maxHeartbeats 1600000 in
theorem cut_any (w : World) (t : Nat) (r : Option Nat) (ix tm : Int) (es : List Ent) (h : LogAt w t r ix tm es) (ok : LogOk ix tm es) (hes : es.length ≤ 1024) (i x : Int) (hi : termE ix tm es i = some x) :
  Calls Tryz.prog 54 #[.pointer (some ⟨t, 0, none⟩), .int .u64 i] w (CutR w t i x (es.drop (i - ix).toNat)) := by
 obtain ⟨x', c, hxc, hterm⟩ := term_all ix tm es ok t r i
 rw [hi] at hxc
 obtain ⟨rfl, hxx⟩ : c = 0 ∧ x = x' := by
  rcases hxc with ⟨h1, h2⟩ | ⟨_, _, h2⟩
  ·exact ⟨h1, Option.some.inj h2⟩
  ·cases h2
 subst hxx
 have hle := termE_le hi
 obtain ⟨k, rfl⟩ : ∃ k : Nat, i = ix + k := ⟨(i - ix).toNat, by omega⟩
 have hk : k ≤ es.length := by omega
 rw [show (ix + (k : Int) - ix).toNat = k by omega]
 have hx := ok.lo
 have hx2 := ok.hi
 have HTM := hterm w h
 have HL := hI h
 have HD : Hid (∀ e ∈ es, ∀ q, e.v.ownBlock = some q → q < w.heap.size) := hI fun e he q hq => (h.data e he).1.row_lt q hq
 have hlt := h.lt
 clear h ok hi hxc hterm hle
 have e1 : IntKind.u64.wrap (ix + (k : Int) - ix) = (k : Int) := by rw [show ix + (k : Int) - ix = (k : Int) by omega]; exact IntWalk.u64_in _ (by omega)
 go_enter Tryz.func54, Tryz.ntmps54
 go_wp2_with fail
 refine HTM.mono ?_
 rintro en w1 ⟨rfl, hb1⟩
 have HB1 := hI hb1
 have HL1 := hI (HL.out.below hb1)
 obtain ⟨ga, gc, hbx⟩ := HL1.out.slice
 have x0 := bC hbx 0 rfl
 have x2 := bC hbx 2 rfl
 have l1 := heap_lt hbx
 have HBX := hI hbx
 have hown := (HL1.out.owns hbx).1
 clear hb1 HTM hbx
 have HDL : Hid ((es.drop k).length = es.length - k) := hI (by simp)
 have hvs : Hid (∀ e ∈ es.drop k, ∃ a n c, e.v = .slice a n c) := hI fun e he => by
  obtain ⟨a, c, hv, _⟩ := (HL1.out.data e (List.mem_of_mem_drop he)).1
  exact ⟨a, _, c, hv⟩
 rcases hown.2 with ⟨hv, h0⟩ | ⟨g, cap, cur, hv, _, hg, hnc, hcm, hcs, hcu⟩
 ·obtain rfl : es = [] := List.eq_nil_of_length_eq_zero h0
  injection hv with v1 v2 v3
  subst v1 v3
  have HCE : Hid (Calls Tryz.prog 86 #[.slice none 0 0] w1.drew (ClonedE w1.drew [])) := hI <| clone_anyE _ none 0 0 [] ⟨(fun e he => by cases he), none, 0, rfl, .inl ⟨rfl, rfl, rfl⟩⟩ (by simp)
  obtain rfl : k = 0 := by simpa using hk
  simp only [List.length_nil, Int.natCast_zero, Int.add_zero] at *
  have e0 : IntKind.u64.wrap 0 = 0 := IntWalk.u64_in _ (by omega)
  clear hown h0 v2
  go_wp2_with fail
  go_region_law (first
    | (go_simp; go_at_call 86; refine HCE.out.mono ?_; rintro en w4 ⟨v, rfl, hb4, ho4, hn4⟩; have hb14 : Below w1.heap.size w1 w4 := (bD (Below.refl _ w1)).trans (hb4.mono (by simp)); have HB4 := hI hb14; have hbx4 := bH hb14 HBX.out l1; have HL4 := hI (HL1.out.below hb14); have x2 := bC hbx4 2 rfl; have f2 := bF hbx4 2; have HBX4 := hI hbx4; obtain ⟨va, vc, rfl⟩ := own_form ho4; have HO4 := hI ho4; have HN4 := hI hn4; clear hb4 hb14 hbx4 ho4 hn4))
  all_goals
   have y0 := bC HBX4.out 0 rfl
   have y1 := bC HBX4.out 1 rfl
   have g0 := bF HBX4.out 0
   have g1 := bF HBX4.out 1
   clear x2 f2
   go_wp2_with fail
   go_ret
   have hq := cut_done (k := 0) (x := x) (i := ix) HL4.out (HB1.out.trans (HB4.out.mono HB1.out.size)) hlt HD.out HO4.out (fun q hq => Nat.le_trans HB1.out.size (HN4.out q hq)) rfl
   exact ⟨_, rfl, hq.1, fun q hq => Nat.le_trans HB1.out.size (HN4.out q hq), hq.2⟩
 ·injection hv with v1 v2 v3
  subst v1 v3
  unfold maxLen at hcm
  have z1 : (k : Int) ≤ (es.length : Int) := by omega
  have z2 : k ≤ gc := by omega
  have hcell : Hid (∀ j u, (entCells (es.drop k))[j]? = some u → w1.drew.cell? ⟨g, k * 4 + j, none⟩ = some u) := hI fun j u hj => by
   refine bC (w := w1.drew) hg _ ?_
   have hj2 : (entCells es)[k * 4 + j]? = some u := by
    have e : entCells es = entCells (es.take k) ++ entCells (es.drop k) := by
     have h := congrArg entCells (List.take_append_drop k es)
     simp only [entCells, List.flatMap_append] at h ⊢
     exact h.symm
    have hl : (entCells (es.take k)).length = k * 4 := by rw [entCells_len, List.length_take, Nat.min_eq_left hk]
    rw [e, List.getElem?_append_right (by omega), hl, Nat.add_sub_cancel_left]
    exact hj
   rw [← hcu, List.getElem?_take] at hj2
   split at hj2
   ·simpa using hj2
   ·cases hj2
  by_cases hce : gc = k
  ·obtain rfl : gc = es.length := by omega
   subst hce
   have HCE : Hid (Calls Tryz.prog 86 #[.slice (some ⟨g, 0, none⟩) 0 0] w1.drew (ClonedE w1.drew (es.drop es.length))) := hI <| clone_anyE _ _ _ _ _ (by simp only [List.drop_length]; exact ⟨(fun e he => by cases he), _, _, rfl, .inr ⟨g, 0, rfl, fun j u hj => by simp [entCells] at hj⟩⟩) (by simp)
   clear hown hg hcs hcu v2
   go_wp2_with fail
   go_region_law (first
     | (go_simp; go_at_call 86; refine HCE.out.mono ?_; rintro en w4 ⟨v, rfl, hb4, ho4, hn4⟩; have hb14 : Below w1.heap.size w1 w4 := (bD (Below.refl _ w1)).trans (hb4.mono (by simp)); have HB4 := hI hb14; have hbx4 := bH hb14 HBX.out l1; have HL4 := hI (HL1.out.below hb14); have x2 := bC hbx4 2 rfl; have f2 := bF hbx4 2; have HBX4 := hI hbx4; obtain ⟨va, vc, rfl⟩ := own_form ho4; have HO4 := hI ho4; have HN4 := hI hn4; clear hb4 hb14 hbx4 ho4 hn4))
   all_goals
    have y0 := bC HBX4.out 0 rfl
    have y1 := bC HBX4.out 1 rfl
    have g0 := bF HBX4.out 0
    have g1 := bF HBX4.out 1
    clear x2 f2
    go_wp2_with fail
    go_ret
    simp only [List.drop_length] at HO4 HN4
    have hq := cut_done (k := es.length) (x := x) (i := ix + (es.length : Nat)) (a := va) (cap := vc) HL4.out (HB1.out.trans (HB4.out.mono HB1.out.size)) hlt HD.out (by simp only [List.drop_length]; exact HO4.out) (fun q hq => Nat.le_trans HB1.out.size (HN4.out q (by simpa using hq))) rfl
    simp only [List.drop_length, List.length_nil] at hq ⊢
    exact ⟨_, rfl, hq.1, fun q hq => Nat.le_trans HB1.out.size (HN4.out q hq), hq.2⟩
  ·have HCE : Hid (Calls Tryz.prog 86 #[.slice (some ⟨g, k * 4, none⟩) (es.length - k) (gc - k)] w1.drew (ClonedE w1.drew (es.drop k))) := hI <| clone_anyE _ _ _ _ _ (by rw [← HDL.out]; exact ⟨hvs.out, _, _, rfl, .inr ⟨g, k * 4, rfl, fun j u hj => hcell.out j u hj⟩⟩) (by simp; omega)
   clear hown hg hcs hcu v2
   go_wp2_with fail
   go_region_law (first
     | (go_simp; go_at_call 86; refine HCE.out.mono ?_; rintro en w4 ⟨v, rfl, hb4, ho4, hn4⟩; have hb14 : Below w1.heap.size w1 w4 := (bD (Below.refl _ w1)).trans (hb4.mono (by simp)); have HB4 := hI hb14; have hbx4 := bH hb14 HBX.out l1; have HL4 := hI (HL1.out.below hb14); have x2 := bC hbx4 2 rfl; have f2 := bF hbx4 2; have HBX4 := hI hbx4; obtain ⟨va, vc, rfl⟩ := own_form ho4; have HO4 := hI ho4; have HN4 := hI hn4; clear hb4 hb14 hbx4 ho4 hn4))
   all_goals
    have y0 := bC HBX4.out 0 rfl
    have y1 := bC HBX4.out 1 rfl
    have g0 := bF HBX4.out 0
    have g1 := bF HBX4.out 1
    clear x2 f2
    go_wp2_with fail
    go_ret
    rw [← HDL.out]
    have hq := cut_done (k := k) (x := x) (i := ix + k) HL4.out (HB1.out.trans (HB4.out.mono HB1.out.size)) hlt HD.out HO4.out (fun q hq => Nat.le_trans HB1.out.size (HN4.out q hq)) rfl
    exact ⟨_, rfl, hq.1, fun q hq => Nat.le_trans HB1.out.size (HN4.out q hq), hq.2⟩
end
end Go.Proofs.YtdjooojpcepleaaGreat

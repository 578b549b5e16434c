/- Package dag: above: all that stand on a node (that it ends, and makes a set). Package dag: Link (what it writes). -/
import Derived.Test.YtheipmallojdkaaGreatDoorIrM05
import Derived.Test.YtheipmallojdkaaGreatDoorIrM06
import Derived.Lib.Strings

namespace Go.Proofs.YtheipmallojdkaaGreatDoor
open Go.RowKit Go.Maps Go.ChangeMaps

def mapSize (w : World) (b : Nat) : Nat := match w.heap[b]? with | some (.map es _) => es.size | _ => 0
def lenOf : Value → Nat | .slice _ n _ => n | _ => 0
theorem MapOf.msize {P : Program} {k : TypeId} {α β : Type} {κ : α → Value} {φ : β → Value} {w : World} {b : Nat} {l : List (α × β)} (h : MapOf P k κ φ w b l) : mapSize w b = l.length := by
  obtain ⟨es, clock, hb, hm, _⟩ := h
  have := congrArg List.length hm
  simp only [List.length_map] at this
  simp only [mapSize, hb]
  rw [← this, Array.length_toList]

/-- In the midst of above: what is next, what is out so far. -/
structure AbI (w0 : World) (N : List ByteArray) (b1 : Nat) (v : Value) (nl : List ByteArray) (lo : List (ByteArray × Bool)) (w : World) : Prop where
  own : w.ownsRow 0 9 1 v nl.length (nl.map keyS)
  new : ∀ k, v.ownBlock = some k → w0.heap.size ≤ k
  out : SMap booV w b1 lo
  b1 : w0.heap.size ≤ b1
  nsub : ∀ y ∈ nl, y ∈ N
  osub : ∀ y ∈ keys lo, y ∈ N
  allT : ∀ p ∈ lo, p.2 = true
  cnt : nl.length ≤ lo.length + 1
  below : Below w0.heap.size w0 w

theorem nodup_sub {l N : List ByteArray} (h : l.Nodup) (hs : ∀ y ∈ l, y ∈ N) : l.length ≤ N.length := h.length_le_of_subset hs

theorem AbI.out_le {w0 w : World} {N : List ByteArray} {b1 : Nat} {v : Value} {nl : List ByteArray} {lo : List (ByteArray × Bool)} (h : AbI w0 N b1 v nl lo w) : lo.length ≤ N.length := by
  obtain ⟨_, _, _, _, hn, _⟩ := h.out
  have := nodup_sub hn h.osub
  simpa [keys] using this

theorem AbI.apart {w0 w : World} {N : List ByteArray} {b1 : Nat} {v : Value} {nl : List ByteArray} {lo : List (ByteArray × Bool)} (h : AbI w0 N b1 v nl lo w) {b : Nat} {o : Obj} (hb : w.heap[b]? = some o) (hc : o.isCells = false) : v.ownBlock ≠ some b := by
  intro e
  rcases h.own.2 with ⟨rfl, _⟩ | ⟨g, cap, cur, rfl, _, hg, _⟩
  · simp [Value.ownBlock] at e
  · simp [Value.ownBlock] at e
    subst e
    rw [hb] at hg
    cases hg
    cases hc

/-- Behind what leaves both alone. -/
theorem AbI.kept {S : Nat → Prop} {w0 w w' : World} {N : List ByteArray} {b1 : Nat} {v : Value} {nl : List ByteArray} {lo : List (ByteArray × Bool)} (h : AbI w0 N b1 v nl lo w) (hk : Keeps S w w') (h1 : ¬ S b1) (h2 : ∀ k, v.ownBlock = some k → ¬ S k) (h3 : ∀ k, S k → w0.heap.size ≤ k) : AbI w0 N b1 v nl lo w' :=
  ⟨owns_kept h.own hk h2, h.new, h.out.kept hk h1, h.b1, h.nsub, h.osub, h.allT, h.cnt, ((Keeps.of_below h.below).trans (hk.mono fun k _ e => h3 k e)).below (Nat.le_refl _) fun k h => h⟩

/-- The last one is taken. -/
theorem AbI.pop {w0 w : World} {N : List ByteArray} {b1 : Nat} {v : Value} {nl : List ByteArray} {lo : List (ByteArray × Bool)} (h : AbI w0 N b1 v nl lo w) {j : Nat} (hj : nl.length = j + 1) :
    ∃ g cap x, v = .slice (some ⟨g, 0, none⟩) (j + 1) cap ∧ w.cell? ⟨g, j, none⟩ = some (.string x) ∧ x ∈ N ∧ j + 1 ≤ cap ∧ cap ≤ 9223372036854775807 ∧ AbI w0 N b1 (.slice (some ⟨g, 0, none⟩) j cap) (nl.take j) lo w := by
  rcases h.own.2 with ⟨_, h0⟩ | ⟨g, cap, cur, rfl, hbase, hg, h1, h2, h3, h4⟩
  · omega
  · have hx : nl[j]? = some (nl[j]'(by omega)) := List.getElem?_eq_getElem (by omega)
    have hlen : (nl.take j).length = j := by rw [List.length_take]; omega
    refine ⟨g, cap, nl[j]'(by omega), by rw [hj], ?_, h.nsub _ (List.getElem_mem _), by omega, by unfold maxLen at h2; exact h2, ?_⟩
    · refine blk_cell hg j ?_
      have e1 : (cur.toList.take (nl.length * 1))[j]? = (nl.map keyS)[j]? := by rw [h4]
      rw [List.getElem?_take_of_lt (by omega), List.getElem?_map, hx] at e1
      simpa [keyS] using e1
    · refine ⟨⟨by simp, .inr ⟨g, cap, cur, by rw [hlen], hbase, hg, by rw [hlen]; omega, h2, h3, ?_⟩⟩, h.new, h.out, h.b1, fun y hy => h.nsub y (List.mem_of_mem_take hy), h.osub, h.allT, by rw [hlen]; have := h.cnt; omega, h.below⟩
      have e1 := congrArg (List.take j) h4
      rw [List.take_take] at e1
      rw [hlen, Nat.mul_one, List.map_take, ← e1, Nat.min_eq_left (by omega)]

/-- One more is out, and next. -/
theorem AbI.push {w0 w w1 : World} {N : List ByteArray} {b1 : Nat} {v v' : Value} {nl : List ByteArray} {lo : List (ByteArray × Bool)} (h : AbI w0 N b1 v nl lo w) {u : ByteArray} (hu : u ∈ N) (hnew : aget u lo = none) {ob : Obj} (hM : SMap booV (setBlock w b1 ob) b1 (aset u true lo))
    (hown : w1.ownsRow 0 9 1 v' (nl.length + 1) (nl.map keyS ++ [.string u])) (hg : ((setBlock w b1 ob).alloc (.cells #[.string u] 9)).grownBy w1 v.ownBlock)
    (hrow : v'.ownBlock = v.ownBlock ∨ ∃ k, v'.ownBlock = some k ∧ ((setBlock w b1 ob).alloc (.cells #[.string u] 9)).heap.size ≤ k ∧ k < w1.heap.size) (hv1 : v.ownBlock ≠ some b1) : AbI w0 N b1 v' (nl ++ [u]) (aset u true lo) w1 := by
  have hz : (setBlock w b1 ob).heap.size = w.heap.size := by simp [setBlock]
  have hk : Keeps (fun k => v.ownBlock = some k) (setBlock w b1 ob) w1 := ((Keeps.refl _ _).alloc _).trans (grown_keeps hg fun k hk => hk.symm)
  have hb := h.below.size
  have hno : u ∉ keys lo := aget_none.1 hnew
  refine ⟨by rw [List.length_append, List.map_append]; exact hown, fun k hk' => ?_, hM.kept hk hv1, h.b1, fun y hy => ?_, fun y hy => ?_, fun p hp => ?_, ?_, ?_⟩
  · rcases hrow with e | ⟨i, e, h1, _⟩
    · exact h.new k (e ▸ hk')
    · rw [e] at hk'; cases hk'; simp at h1; omega
  · rcases List.mem_append.1 hy with hy | hy
    · exact h.nsub y hy
    · simp at hy; subst hy; exact hu
  · rw [keys_aset, if_neg hno] at hy
    rcases List.mem_append.1 hy with hy | hy
    · exact h.osub y hy
    · simp at hy; subst hy; exact hu
  · rcases aset_mem hp with hp | rfl
    · exact h.allT p hp
    · rfl
  · rw [length_aset, if_neg hno, List.length_append, List.length_singleton]
    have := h.cnt
    omega
  · have h1 : Keeps (fun k => w0.heap.size ≤ k) w (setBlock w b1 ob) := (Keeps.refl _ w).setBlock (.inl h.b1) ob
    exact (((Keeps.of_below h.below).trans h1).trans (hk.mono fun k _ e => h.new k e)).below (Nat.le_refl _) fun k h => h

def AboveP (w : World) (e : Ending) (w' : World) : Prop := ∃ b l, e = .returned (.map (some b)) ∧ SMap booV w' b l ∧ Below w.heap.size w w'

abbrev SIter (w : World) (m r : Nat) (l : List (ByteArray × Bool)) (p : List ByteArray) : Prop := MIter Tryz.prog 9 keyS booV w m r l p

set_option maxRecDepth 100000 in
set_option maxHeartbeats 6400000 in
theorem above_any (w : World) (g : Nat) (S : Nat → Prop) {mo mu : Nat} {lo lu : List (ByteArray × Nat)} (h : GraphAt w g S mo mu lo lu) (hn : lo.length ≤ 100000) (key : ByteArray) (hkey : key ∈ keys lo) :
    Calls Tryz.prog 80 #[.pointer (some ⟨g, 0, none⟩), .string key] w (AboveP w) := by
  have hmm := @run_makeMap Tryz.prog
  obtain ⟨i0, hi, hz0, hz1, hz2⟩ := info_parts info_strC
  obtain ⟨W0, hW⟩ : ∃ W0, W0 = (w.alloc (.map #[] 0)).alloc (.cells #[.string key] 9) := ⟨_, rfl⟩
  obtain ⟨N, hN⟩ : ∃ N, N = keys lo := ⟨_, rfl⟩
  have hNl : N.length ≤ 100000 := by rw [hN]; simpa [keys] using hn
  have HI0 : Hid (AbI w N w.heap.size (.slice (some ⟨w.heap.size + 1, 0, none⟩) 1 1) [key] [] W0) := Lib.hid (by
    rw [hW]
    refine ⟨⟨by simp, .inr ⟨w.heap.size + 1, 1, #[.string key], rfl, Nat.zero_le _, ?_, Nat.le_refl _, by unfold maxLen; omega, rfl, rfl⟩⟩, fun k hk => ?_, (MapOf.made _ _ _ _ w).alloc _, Nat.le_refl _, fun y hy => ?_, fun y hy => by simp [keys] at hy, by simp, by simp, ((Below.refl _ w).alloc (Nat.le_refl _) _).alloc (by simp) _⟩
    · have := heap_new (w.alloc (.map #[] 0)) (.cells #[.string key] 9)
      rwa [World.size_alloc] at this
    · simp [Value.ownBlock] at hk; omega
    · simp at hy; subst hy; rw [hN]; exact hkey)
  have HH := Lib.hid h
  have HNN := Lib.hid hN
  have HW := Lib.hid hW
  clear h hW hN hkey hn
  go_enter Tryz.func80, Tryz.ntmps80
  go_wp2
  rw [← HW.out]
  go_loopw [6] (fun nv wr => ∃ nl lout, Hid (AbI w N w.heap.size nv nl lout wr)) (fun nv wr => 2 * (N.length - mapSize wr w.heap.size) + lenOf nv)
  case atStart => exact ⟨_, _, HI0⟩
  case round =>
    clear HI0
    obtain ⟨nl, lout, HA⟩ := hrel
    cases hj : nl.length with
    | zero =>
      have hv : ∃ va vc, u6 = .slice va 0 vc := by
        rcases HA.out.own.2 with ⟨e1, e2⟩ | ⟨g, c, cur, e1, _⟩
        · exact ⟨none, 0, by rw [e1]⟩
        · exact ⟨_, _, by rw [e1, hj]⟩
      obtain ⟨va, vc, rfl⟩ := hv
      go_wp2
      go_ret
      exact ⟨_, lout, rfl, HA.out.out, HA.out.below⟩
    | succ j =>
      obtain ⟨gr_, cap, x, rfl, hcx, hxN, hc1, hc2, hA'⟩ := HA.out.pop hj
      have HA' := Lib.hid hA'
      have hGw := HH.out.below (w' := wr) ⟨HA.out.below.os, HA.out.below.tape, HA.out.below.output, HA.out.below.size, HA.out.below.block⟩
      obtain ⟨c, hgc, hcm⟩ := look_some (show x ∈ keys lu by rw [HH.out.same, ← HNN.out]; exact hxN)
      have hxs : x.size ≤ maxLen := HH.out.nms x (by rw [← HNN.out]; exact hxN)
      have hlk := glook_some hGw.users hxs hgc
      have cg1 : wr.cell? ⟨g, 1, none⟩ = some (.map (some mu)) := blk_cell hGw.box 1 rfl
      have lg := heap_lt hGw.box
      obtain ⟨ls, hls, hlsN, hSc, _, _⟩ := hGw.sets (x, c) (.inr hcm)
      have HLS := Lib.hid hls
      have hcw : c < w.heap.size := HH.out.lt c hSc
      have HLSN := Lib.hid hlsN
      have hj1 : IntKind.i64.wrap (((j + 1 : Nat) : Int) - 1) = (j : Int) := by rw [IntKind.wrap_i64]; omega
      have hcnt := HA.out.cnt
      have hout := HA.out.out_le
      have HJ := Lib.hid hj
      clear hA' hGw hgc hcm hls hlsN hSc
      go_wp2_with (first | (refine wpList_map_range _ rfl _ _ rfl _ Tryz.underlying126 c ls rfl HLS.out ?_; intro ob hit; have HIT := Lib.hid hit; clear hit) | fail)
      obtain ⟨r, hr⟩ : ∃ r, r = wr.heap.size := ⟨_, rfl⟩
      have HR := Lib.hid hr
      rw [← hr] at HIT ⊢
      obtain ⟨W1, hW1⟩ : ∃ W1, W1 = wr.alloc ob := ⟨_, rfl⟩
      rw [← hW1] at HIT ⊢
      have HA1 : Hid (AbI w N w.heap.size (.slice (some ⟨gr_, 0, none⟩) j cap) (nl.take j) lout W1) := Lib.hid (by
        rw [hW1]
        exact HA'.out.kept (S := fun _ => False) ((Keeps.refl _ _).alloc _) (fun h => h) (fun _ _ h => h) fun _ h => h.elim)
      have HM0 : Hid (mapSize wr w.heap.size = lout.length) := Lib.hid HA.out.out.msize
      have htl : (nl.take j).length = j := by rw [List.length_take]; have := HJ.out; omega
      have HTL := Lib.hid htl
      have hwr : w.heap.size ≤ r := by rw [hr]; exact HA.out.below.size
      clear hW1 hr hlk cg1 lg hcx htl
      go_loopw [6] (fun nv wi => ∃ nl2 lo2 p, Hid (AbI w N w.heap.size nv nl2 lo2 wi) ∧ Hid (SIter wi c r ls p) ∧ Hid (p.Nodup ∧ ∀ y ∈ p, y ∈ keys ls) ∧ nl2.length + 2 * lout.length ≤ j + 2 * lo2.length) (fun _ wi => ls.length - (wi.iterSeen r).size)
      case atStart => exact ⟨nl.take j, lout, [], HA1, HIT, Lib.hid ⟨List.nodup_nil, by simp⟩, by have := HTL.out; omega⟩
      case round =>
        clear HA1 HIT
        obtain ⟨nl2, lo2, p, HA2, HIT, HP, hle⟩ := hrel
        have hv : ∃ va vc, u6 = .slice va nl2.length vc := by
          rcases HA2.out.own.2 with ⟨e1, e2⟩ | ⟨g, c, cur, e1, _⟩
          · exact ⟨none, 0, by rw [e1, e2]⟩
          · exact ⟨_, _, e1⟩
        obtain ⟨va, vc, rfl⟩ := hv
        have hcnt2 := HA2.out.cnt
        have hout2 := HA2.out.out_le
        go_wp2_with (first | (refine wpList_map_next _ rfl _ rfl keyS_inj c r ls p rfl HIT.out (fun hd => ?_) (fun u val w' hkv hkp hit' hkw hsz hen => ?_)) | fail)
        · have HM2 : Hid (mapSize wr w.heap.size = lo2.length) := Lib.hid HA2.out.out.msize
          clear hd
          go_wp2
          go_roundw
          case rel => exact ⟨nl2, lo2, HA2⟩
          case measure =>
            rw [HM2.out, HM0.out]
            simp only [lenOf]
            omega
        · have hu : u ∈ keys ls := List.mem_map.2 ⟨_, hkv, rfl⟩
          have huN : u ∈ N := by rw [HNN.out]; exact HLSN.out u hu
          have hus : u.size ≤ maxLen := HH.out.nms u (by rw [← HNN.out]; exact huN)
          have hne : ∀ b o, wr.heap[b]? = some o → o.isCells = false → (Value.slice va nl2.length vc).ownBlock ≠ some b := fun b o hb hc => HA2.out.apart hb hc
          obtain ⟨mm, ss, se, cc, hro⟩ := HIT.out.iter_obj
          have HA3 : Hid (AbI w N w.heap.size (.slice va nl2.length vc) nl2 lo2 w') := Lib.hid (HA2.out.kept hkw (fun e => by have e' : w.heap.size = r := e; obtain ⟨es, cl, q, _⟩ := HA2.out.out; rw [e', hro] at q; cases q) (fun k hk e => hne r _ hro rfl (by have e' : k = r := e; rw [← e']; exact hk)) (fun k e => by rw [e]; exact hwr))
          have HIT2 := Lib.hid hit'
          have HS1 := Lib.hid HIT.out.seen
          have HS2 := Lib.hid hit'.seen
          have hnd2 : (p ++ [u]).Nodup := List.nodup_append.2 ⟨HP.out.1, by simp, by rintro y hy z hz rfl; simp at hz; subst hz; exact hkp hy⟩
          have hsub2 : ∀ y ∈ p ++ [u], y ∈ keys ls := fun y hy => by
            rcases List.mem_append.1 hy with hy | hy
            · exact HP.out.2 y hy
            · simp at hy; subst hy; exact hu
          have HP2 := Lib.hid (show (p ++ [u]).Nodup ∧ ∀ y ∈ p ++ [u], y ∈ keys ls from ⟨hnd2, hsub2⟩)
          have HPL : Hid ((p ++ [u]).length ≤ ls.length) := Lib.hid (by have := nodup_sub hnd2 hsub2; simpa [keys] using this)
          have hlk2 := slook HA3.out.out hus
          have HUN := Lib.hid huN
          unfold keyS booV at hen ⊢
          clear hkv hkp hit' hkw hsz hu huN hne hro hnd2 hsub2
          cases hg2 : aget u lo2 with
          | some bv =>
            have hbv : bv = true := HA3.out.allT _ (aget_some_mem hg2)
            subst hbv
            rw [hg2] at hlk2
            simp only [Option.getD_some] at hlk2
            clear hg2
            go_wp2_with fail
            rw [hlk2]
            go_wp2_with fail
            go_roundw
            case rel => exact ⟨nl2, lo2, p ++ [u], HA3, HIT2, HP2, hle⟩
            case measure => rw [HS2.out, HS1.out]; have := HPL.out; simp at this ⊢; omega
          | none =>
            rw [hg2] at hlk2
            simp only [Option.getD_none] at hlk2
            have HG2 := Lib.hid hg2
            have HUS := Lib.hid hus
            have hv1 : (Value.slice va nl2.length vc).ownBlock ≠ some w.heap.size := by
              obtain ⟨es, cl, q, _⟩ := HA3.out.out
              exact HA3.out.apart q rfl
            have HV1 := Lib.hid hv1
            have HMx : Hid (nl2.length + 1 ≤ maxLen) := Lib.hid (by unfold maxLen; omega)
            have HMy : Hid ((nl2.length + 1) * 16 ≤ 140737488355328) := Lib.hid (by omega)
            clear hg2 hv1 hus
            go_wp2_with fail
            rw [hlk2]
            go_wp2_with (first
              | (refine wpList_map_update _ rfl _ _ _ _ rfl _ skeyed keyS_inj Tryz.underlying126 w.heap.size lo2 rfl HA3.out.out u _ rfl (skey HUS.out) true rfl ?_; intro ob2 hM2; have HM2 := Lib.hid hM2; have HO2 : Hid ((setBlock w' w.heap.size ob2).ownsRow 0 9 1 (.slice va nl2.length vc) nl2.length (nl2.map keyS)) := Lib.hid (owns_kept HA3.out.own ((Keeps.refl (fun k => k = w.heap.size) w').setBlock (.inl rfl) ob2) fun k hk e => HV1.out (by rw [hk, e])); clear hM2 hen hlk2)
              | (at_builtin; go_loud (refine wpList_append_one _ rfl _ _ 38 rfl 9 i0 (.string ⟨#[]⟩) 16 Tryz.underlying38 hi hz0 hz1 hz2 rfl (.slice va nl2.length vc) nl2.length (nl2.map keyS) rfl HO2.out (.string u) 9 rfl rfl HMx.out HMy.out ?_; intro v' w4 hown4 hg4 hrow4; have HA4 := Lib.hid (HA3.out.push HUN.out HG2.out HM2.out hown4 hg4 hrow4 HV1.out); have HG4 := Lib.hid hg4; clear hown4 hg4 hrow4))
              | fail)
            have HIT4 : Hid (SIter w4 c r ls (p ++ [u])) := Lib.hid (by
              have hk4 : Keeps (fun k => k = w.heap.size ∨ (Value.slice va nl2.length vc).ownBlock = some k) w' w4 := (((Keeps.refl (fun k => k = w.heap.size ∨ (Value.slice va nl2.length vc).ownBlock = some k) w').setBlock (.inl (.inl rfl)) ob2).alloc _).trans (grown_keeps HG4.out fun k hk => .inr hk.symm)
              obtain ⟨mm, ss, se, cc, hro⟩ := HIT2.out.iter_obj
              obtain ⟨es1, cl1, hmo, _⟩ := HIT2.out.map
              refine HIT2.out.kept hk4 ?_ ?_
              · rintro (e | e)
                · omega
                · exact HA3.out.apart hmo rfl e
              · rintro (e | e)
                · obtain ⟨es, cl, q, _⟩ := HA3.out.out
                  rw [← e, hro] at q
                  cases q
                · exact HA3.out.apart hro rfl e)
            have HS4 := Lib.hid HIT4.out.seen
            go_roundw
            case rel =>
              refine ⟨nl2 ++ [u], aset u true lo2, p ++ [u], HA4, HIT4, HP2, ?_⟩
              rw [length_aset, if_neg (aget_none.1 HG2.out), List.length_append, List.length_singleton]
              omega
            case measure => rw [HS4.out, HS1.out]; have := HPL.out; simp at this ⊢; omega

end Go.Proofs.YtheipmallojdkaaGreatDoor

namespace Go.Proofs.YtheipmallojdkaaGreatDoor
open Go.RowKit Go.Maps Go.ChangeMaps

def LinkP (w : World) (g : Nat) (S : Nat → Prop) (n : Nat) (e : Ending) (w' : World) : Prop := (∃ x : Int, e = .returned (.int .i64 x)) ∧ Graph w' g S n ∧ Keeps S w w'

/-- A node's set is told by its map; with a node more. -/
theorem GraphAt.link {S : Nat → Prop} {w : World} {g mo mu : Nat} {lo lu : List (ByteArray × Nat)} (h : GraphAt w g S mo mu lo lu) {p : ByteArray × Nat} (hp : p ∈ lo ∨ p ∈ lu) {key : ByteArray} (hkey : key ∈ keys lo) :
    ∃ l, SMap booV w p.2 l ∧ S p.2 ∧ ∀ ob, SMap booV (setBlock w p.2 ob) p.2 (aset key true l) → GraphAt (setBlock w p.2 ob) g S mo mu lo lu ∧ Keeps S w (setBlock w p.2 ob) := by
  obtain ⟨l, a, b, c, d1, d2⟩ := h.sets p hp
  refine ⟨l, a, c, fun ob hM => ⟨h.set_ c d1 d2 (mne a h.box) hM fun k hk => ?_, (Keeps.refl S w).setBlock (.inl c) ob⟩⟩
  rw [keys_aset] at hk
  split at hk
  · exact b k hk
  · rcases List.mem_append.1 hk with hk | hk
    · exact b k hk
    · simp at hk; subst hk; exact hkey

set_option maxRecDepth 100000 in
set_option maxHeartbeats 3200000 in
theorem glink_any (w : World) (g : Nat) (S : Nat → Prop) (n : Nat) (H : Graph w g S n) (hn : n ≤ 100000) (k on : ByteArray) (hks : k.size ≤ maxLen) (hos : on.size ≤ maxLen) :
    Calls Tryz.prog 67 #[.pointer (some ⟨g, 0, none⟩), .string k, .string on] w (LinkP w g S n) := by
  have HG := Lib.hid H
  obtain ⟨mo, mu, lo, lu, H, hl⟩ := H
  have hk1 := ghas_any w g S H k hks
  cases e1 : aget k lo with
  | none =>
    rw [e1] at hk1
    simp only [Option.isSome_none] at hk1
    clear H e1
    go_enter Tryz.func67, Tryz.ntmps67
    go_wp2_with fail
    refine hk1.mono ?_
    rintro e w1 ⟨rfl, rfl⟩
    go_wp2_with fail
    go_ret
    exact ⟨⟨_, rfl⟩, HG.out, Keeps.refl _ _⟩
  | some kb =>
    rw [e1] at hk1
    simp only [Option.isSome_some] at hk1
    have hk2 := ghas_any w g S H on hos
    cases e2 : aget on lo with
    | none =>
      rw [e2] at hk2
      simp only [Option.isSome_none] at hk2
      clear H e1 e2
      go_enter Tryz.func67, Tryz.ntmps67
      go_wp2_with fail
      refine hk1.mono ?_
      rintro e w1 ⟨rfl, rfl⟩
      go_wp2_with fail
      refine hk2.mono ?_
      rintro e w1 ⟨rfl, rfl⟩
      go_wp2_with fail
      go_ret
      exact ⟨⟨_, rfl⟩, HG.out, Keeps.refl _ _⟩
    | some ob =>
      rw [e2] at hk2
      simp only [Option.isSome_some] at hk2
      have hkN : k ∈ keys lo := List.mem_map.2 ⟨_, aget_some_mem e1, rfl⟩
      have hoN : on ∈ keys lo := List.mem_map.2 ⟨_, aget_some_mem e2, rfl⟩
      by_cases heq : k = on
      · subst heq
        clear H e1 e2
        go_enter Tryz.func67, Tryz.ntmps67
        go_wp2_with fail
        refine hk1.mono ?_
        rintro e w1 ⟨rfl, rfl⟩
        go_wp2_with fail
        refine hk2.mono ?_
        rintro e w1 ⟨rfl, rfl⟩
        go_wp2_with fail
        go_ret
        exact ⟨⟨_, rfl⟩, HG.out, Keeps.refl _ _⟩
      have hne : (k.toList == on.toList) = false := by
        rw [beq_eq_false_iff_ne]
        intro e
        rw [Lib.toList_data, Lib.toList_data] at e
        exact heq (ByteArray.ext (Array.ext' e))
      have hab := above_any w g S H (by omega) k hkN
      obtain ⟨ub, e3, hum⟩ := look_some (show on ∈ keys lu by rw [H.same]; exact hoN)
      have HH := Lib.hid H
      have hkm := aget_some_mem e1
      have HKM := Lib.hid hkm
      have HUM := Lib.hid hum
      have HKN := Lib.hid hkN
      have HON := Lib.hid hoN
      have E1 := Lib.hid e1
      have E3 := Lib.hid e3
      have HKS := Lib.hid hks
      have HOS := Lib.hid hos
      clear H e1 e2 e3 hkm hum hkN hoN hks hos
      go_enter Tryz.func67, Tryz.ntmps67
      go_wp2_with fail
      refine hk1.mono ?_
      rintro e w1 ⟨rfl, rfl⟩
      go_wp2_with fail
      refine hk2.mono ?_
      rintro e w1 ⟨rfl, rfl⟩
      go_wp2_with fail
      refine hab.mono ?_
      rintro e w2 ⟨b, l, rfl, hml, hb2⟩
      have H2 := Lib.hid (HH.out.below hb2)
      have HB2 := Lib.hid hb2
      have hlk := slook hml HOS.out
      obtain ⟨bv, hbv⟩ : ∃ bv, (aget on l).getD false = bv := ⟨_, rfl⟩
      rw [hbv] at hlk
      clear hk1 hk2 hab hml hb2 hbv
      cases bv
      · have hr1 := glook_some H2.out.on HKS.out E1.out
        have cg0 : w2.cell? ⟨g, 0, none⟩ = some (.map (some mo)) := blk_cell H2.out.box 0 rfl
        have cg1 : w2.cell? ⟨g, 1, none⟩ = some (.map (some mu)) := blk_cell H2.out.box 1 rfl
        have lg := heap_lt H2.out.box
        obtain ⟨lk, hlkm, hSk, hstep⟩ := H2.out.link (.inl HKM.out) HON.out
        have HL1 := Lib.hid hlkm
        have HST := Lib.hid hstep
        have hr2 := slook hlkm HOS.out
        obtain ⟨cv, hcv⟩ : ∃ cv, (aget on lk).getD false = cv := ⟨_, rfl⟩
        simp only at hr2
        rw [hcv] at hr2
        clear hcv hlkm hSk hstep
        cases cv
        · go_wp2_with (first | (refine wpList_map_update _ rfl _ _ _ _ rfl _ skeyed keyS_inj Tryz.underlying126 kb lk rfl HL1.out on _ rfl (skey HOS.out) true rfl ?_; intro o1 hM1; obtain ⟨h3, k3⟩ := HST.out o1 hM1; have H3 := Lib.hid h3; have K3 := Lib.hid ((Keeps.of_belowS (S := S) HB2.out).trans k3); have cg3 : (setBlock w2 kb o1).cell? ⟨g, 1, none⟩ = some (.map (some mu)) := blk_cell h3.box 1 rfl; have lg3 := heap_lt h3.box; have hr3 := glook_some h3.users HOS.out E3.out; obtain ⟨lw, hlwm, hSw, hstep2⟩ := h3.link (.inr HUM.out) HKN.out; have HL2 := Lib.hid hlwm; have HST2 := Lib.hid hstep2; clear hM1 h3 k3 hlwm hSw hstep2) | (refine wpList_map_update _ rfl _ _ _ _ rfl _ skeyed keyS_inj Tryz.underlying126 ub lw rfl HL2.out k _ rfl (skey HKS.out) true rfl ?_; intro o2 hM2; obtain ⟨h4, k4⟩ := HST2.out o2 hM2; have H4 := Lib.hid h4; have K4 := Lib.hid (K3.out.trans k4); clear hM2 h4 k4) | fail)
          go_ret
          exact ⟨⟨_, rfl⟩, ⟨mo, mu, lo, lu, H4.out, hl⟩, K4.out⟩
        · go_wp2_with fail
          go_ret
          exact ⟨⟨_, rfl⟩, ⟨mo, mu, lo, lu, H2.out, hl⟩, Keeps.of_belowS HB2.out⟩
      · go_wp2_with fail
        go_ret
        exact ⟨⟨_, rfl⟩, ⟨mo, mu, lo, lu, H2.out, hl⟩, Keeps.of_belowS HB2.out⟩

end Go.Proofs.YtheipmallojdkaaGreatDoor

/- begin. -/
import Derived.Test.YtdjooojpcepleaaGreatRsM37
import Derived.Test.YtdjooojpcepleaaGreatRsM41
import Derived.Deep.DeepCutAuto
import Derived.Deep.CutBlock

namespace Go.Proofs.YtdjooojpcepleaaGreat
open Go.RowKit
theorem info_ptr : (Tryz.prog.info? 44).map (fun i => (i.zero, i.size, i.bytes)) = some (some (.pointer none), 1, 8) := by kernel_rfl
theorem info_cfg : (Tryz.prog.info? 64).map (fun i => (i.zero, i.size, i.bytes)) = some (some (.agg #[.int .i64 0, .slice none 0 0, .int .i64 0, .int .i64 0]), 4, 48) := by kernel_rfl
def nodeZ : NodeS := ⟨0, .bool false, 0, 0, 0, 0, 0, 0, 0, 0, none, 0, 0, [], .bool false, [], .bool false, 0, .bool false, none, .bool false, none, .bool false, [], false, false, 0⟩
def Reg13 (w3 : World) (nv cv : Value) (k : Nat) (c : Cl) (p : Nat) (wx : World) : Prop :=
 ∃ w9 nv' cv', PairR w3 w9 nv cv nv' cv' k c.P c.ma c.s c.mcap p ∧ wx = (w9.setCell ⟨c.wd, 0, none⟩ nv').setCell ⟨c.wd, 1, none⟩ cv'
section
variable {w0 w3 Wx w5 Wy w7 : World} {M : Nat → Prop} {k : Nat} {nv cv : Value} {c : Cl}
theorem aft_keeps {v : Value} (hx : Below w3.heap.size w3 Wx) (hg : Wx.grownBy w5 v.ownBlock) : Keeps (fun q => v.ownBlock = some q) w3 w5 := (Keeps.of_belowS hx).trans (gK hg fun _ hq => hq.symm)
theorem pair_nc (h : BgAt w0 w3 M k nv cv c) {gN cN gC cC p : Nat} (hx : Below w3.heap.size w3 Wx) (o5 : w5.ownsRow 0 44 1 (.slice (some ⟨gN, 0, none⟩) (k + 1) cN) (k + 1) (ptrsB c.P k ++ [.pointer (some ⟨p, 0, none⟩)])) (g5 : Wx.grownBy w5 nv.ownBlock) (a5 : nv.ownBlock = some gN ∨ gN = Wx.heap.size)
  (hy : Below w5.heap.size w5 Wy) (o7 : w7.ownsRow 0 64 4 (.slice (some ⟨gC, 0, none⟩) (k + 1) cC) (k + 1) (cfgsB c.ma c.s c.mcap k ++ cfgC c.ma c.s c.mcap k)) (g7 : Wy.grownBy w7 cv.ownBlock) (a7 : cv.ownBlock = some gC ∨ gC = Wy.heap.size) :
  PairR w3 w7 nv cv (.slice (some ⟨gN, 0, none⟩) (k + 1) cN) (.slice (some ⟨gC, 0, none⟩) (k + 1) cC) k c.P c.ma c.s c.mcap p := by
 have hz1 := hx.size
 have hk5 := aft_keeps hx g5
 have hz5 := hk5.size
 have hzy := hy.size
 have hgN5 := (o5.lt gN rfl).2
 have hcl : ∀ q, cv.ownBlock = some q → q < w3.heap.size := fun q e => h.lt q (h.own q (.inr (.inr (.inr (.inr e)))))
 have hxs := g5.size
 have hk7 : Keeps (fun q => cv.ownBlock = some q) w5 w7 := (Keeps.of_belowS hy).trans (gK g7 fun q hq => hq.symm)
 have hgNc : cv.ownBlock ≠ some gN := fun e => by
  rcases a5 with a | a
  ·exact (h.dn gN a).2.2.2 e
  ·have := hcl gN e; omega
 refine ⟨(hk5.mono fun q _ e => .inl e).trans (hk7.mono fun q _ e => .inr e), owns_kept o5 hk7 fun q hq e => ?_, by rw [cfgsB_succ]; exact o7, fun q hq => ?_, fun q hq => ?_, fun q hq e => ?_⟩
 ·simp [Value.ownBlock] at hq; subst hq; exact hgNc e
 ·simp [Value.ownBlock] at hq; subst hq; exact a5.imp id fun e => by omega
 ·simp [Value.ownBlock] at hq; subst hq; exact a7.imp id fun e => by omega
 ·simp [Value.ownBlock] at hq e; subst hq; subst e
  rcases a7 with a | a
  ·exact hgNc a
  ·omega
theorem pair_cn (h : BgAt w0 w3 M k nv cv c) {gN cN gC cC p : Nat} (hx : Below w3.heap.size w3 Wx) (o5 : w5.ownsRow 0 64 4 (.slice (some ⟨gC, 0, none⟩) (k + 1) cC) (k + 1) (cfgsB c.ma c.s c.mcap k ++ cfgC c.ma c.s c.mcap k)) (g5 : Wx.grownBy w5 cv.ownBlock) (a5 : cv.ownBlock = some gC ∨ gC = Wx.heap.size)
  (hy : Below w5.heap.size w5 Wy) (o7 : w7.ownsRow 0 44 1 (.slice (some ⟨gN, 0, none⟩) (k + 1) cN) (k + 1) (ptrsB c.P k ++ [.pointer (some ⟨p, 0, none⟩)])) (g7 : Wy.grownBy w7 nv.ownBlock) (a7 : nv.ownBlock = some gN ∨ gN = Wy.heap.size) :
  PairR w3 w7 nv cv (.slice (some ⟨gN, 0, none⟩) (k + 1) cN) (.slice (some ⟨gC, 0, none⟩) (k + 1) cC) k c.P c.ma c.s c.mcap p := by
 have hz1 := hx.size
 have hk5 := aft_keeps hx g5
 have hz5 := hk5.size
 have hzy := hy.size
 have hgC5 := (o5.lt gC rfl).2
 have hnl : ∀ q, nv.ownBlock = some q → q < w3.heap.size := fun q e => h.lt q (h.own q (.inr (.inr (.inr (.inl e)))))
 have hxs := g5.size
 have hk7 : Keeps (fun q => nv.ownBlock = some q) w5 w7 := (Keeps.of_belowS hy).trans (gK g7 fun q hq => hq.symm)
 have hgCn : nv.ownBlock ≠ some gC := fun e => by
  rcases a5 with a | a
  ·exact (h.dn gC e).2.2.2 a
  ·have := hnl gC e; omega
 refine ⟨(hk5.mono fun q _ e => .inr e).trans (hk7.mono fun q _ e => .inl e), o7, by rw [cfgsB_succ]; exact owns_kept o5 hk7 fun q hq e => (by simp [Value.ownBlock] at hq; subst hq; exact hgCn e), fun q hq => ?_, fun q hq => ?_, fun q hq e => ?_⟩
 ·simp [Value.ownBlock] at hq; subst hq; exact a7.imp id fun e => by omega
 ·simp [Value.ownBlock] at hq; subst hq; exact a5.imp id fun e => by omega
 ·simp [Value.ownBlock] at hq e; subst hq; subst e
  rcases a7 with a | a
  ·exact hgCn a
  ·omega
end
theorem heap_new2 (w : World) (o o' : Obj) : ((w.alloc o).alloc o').drew.heap[w.heap.size + 1]? = some o' := by
 have e : (w.alloc o).heap.size = w.heap.size + 1 := by simp
 rw [← e]
 exact bW (w.alloc o) o'
def NextR (w : World) (k : Nat) (va : Option Addr) (vc j : Nat) (wx : World) : Prop :=
 ∃ (M : Nat → Prop) (nv cv : Value) (c : Cl), c.s = k ∧ c.wd = w.heap.size + 2 ∧ c.ma = va ∧ c.mcap = vc ∧ BgAt w wx M (j + 1) nv cv c
theorem new_ok {s : Nat} {y : NodeS} {k : Int} (h1 : 1 ≤ s) (h7 : s ≤ 7) (k1 : 1 ≤ k) (k7 : k ≤ 7) (y1 : y.id = k) (y2 : y.el = 4) (y4 : y.term = 0) (y5 : y.vote = 0) (y6 : y.role = 0) (y7 : y.ix = 0) (y8 : y.tm = 0) (y9 : y.es.map Ent.pl = []) (y10 : y.mem = memS s) (y11 : y.commit = 0) (y12 : y.pl = none) (y13 : y.tr = none) : OkN (memS s) Gh.none_ 0 y [] := by
 have he : y.es = [] := by simpa using y9
 have hnd : y.nd = NdS.start (memS s) := by
  unfold NodeS.nd trkOf NdS.start
  rw [y4, y5, y6, y7, y8, he, y10, y11, y12, y13]
  rfl
 exact ⟨by rw [hnd]; exact ni_none (by rw [y1]; exact k1), by rw [y1]; exact k7, by rw [y4]; exact Int.le_refl _, by rw [y4]; exact Int.le_refl _, by rw [y11]; exact Int.le_refl _, Nat.le_refl _, by rw [y10]; exact memS_ok h1 h7, by rw [y5]; exact Int.le_refl _, by rw [y5]; decide, fun r => by rw [y6] at r; exact absurd r (by decide), by rw [y2]; decide⟩
set_option maxRecDepth 100000 in
set_option maxHeartbeats 16000000 in
theorem begin_any (w : World) (s : Nat) (h1 : 1 ≤ s) (h7 : s ≤ 7) : Calls Tryz.prog 8 #[.int .i64 s] w (BeginR s w) := by
 have hmm := @run_makeMap Tryz.prog
 obtain ⟨i0, hi, hz0, hz1, hz2⟩ := info_parts info_i64
 obtain ⟨p0, hpi, hp0, hp1, hp2⟩ := info_parts info_ptr
 obtain ⟨ci0, hfi, hf0, hf1, hf2⟩ := info_parts info_cfg
 obtain ⟨W1, hW1⟩ : ∃ W1, W1 = ((w.alloc (.map #[] 0)).alloc (.map #[] 0)).alloc (.cells #[.slice none 0 0, .slice none 0 0, .slice none 0 0, .map (some w.heap.size), .map (some (w.heap.size + 1))] 36) := ⟨_, rfl⟩
 have hb1 : Below w.heap.size w W1 := by rw [hW1]; exact (((bR.alloc nL _).alloc (by simp) _).alloc (by simp; omega) _)
 have hm1 : W1.heap[w.heap.size]? = some (.map #[] 0) := by rw [hW1]; exact aheap (aheap (bW _ _) _) _
 have hm2 : W1.heap[w.heap.size + 1]? = some (.map #[] 0) := by
  rw [hW1]
  have : (w.alloc (.map #[] 0)).heap.size = w.heap.size + 1 := by simp
  rw [← this]
  exact aheap (bW _ _) _
 have hbx : W1.heap[w.heap.size + 2]? = some (.cells #[.slice none 0 0, .slice none 0 0, .slice none 0 0, .map (some w.heap.size), .map (some (w.heap.size + 1))] 36 (0, 0)) := by
  rw [hW1]
  have : ((w.alloc (.map #[] 0)).alloc (.map #[] 0)).heap.size = w.heap.size + 2 := by simp
  rw [← this]
  exact bW _ _
 have Zg := hI hb1
 have Qg := hI hm1
 have Qh := hI hm2
 have Zh := hI hbx
 clear hb1 hm1 hm2 hbx
 go_enter Tryz.func8, Tryz.ntmps8
 go_wp2_with fail
 rw [← hW1]
 clear hW1
 go_loopw [4, 15] (fun v iv wr => ∃ k : Nat, iv = .int .i64 k ∧ k ≤ s ∧ wr.ownsRow 0 3 1 v k ((memS k).map intv) ∧ (∀ j, v.ownBlock = some j → W1.heap.size ≤ j) ∧ Below W1.heap.size W1 wr) (fun _ iv _ => s - (intOf iv).toNat)
 case atStart => exact ⟨0, rfl, Nat.zero_le _, World.ownsRow_nil _ _ _ _, by simp [Value.ownBlock], bR⟩
 case round =>
  obtain ⟨k, rfl, hk, hown, hnew, hb⟩ := hrel
  have HO := hI hown
  have HN := hI hnew
  have HB := hI hb
  have HX0 := hI (show k + 1 ≤ maxLen by unfold maxLen; omega)
  have HX1 := hI (show (k + 1) * 8 ≤ 140737488355328 by omega)
  obtain ⟨va, vc, rfl⟩ := own_form hown
  clear hown hnew hb
  by_cases hlt : k < s
  ·have zk : (k : Int) < (s : Int) := by omega
   go_wp2_with (at_builtin; refine wpList_append_one wr rfl _ _ _ rfl 3 i0 (.int .i64 0) 8 Tryz.underlying37 hi hz0 hz1 hz2 rfl (.slice va k vc) k ((memS k).map intv) rfl HO.out (.int .i64 ((k : Int) + 1)) _ rfl rfl HX0.out HX1.out ?_; intro v' w3 hown3 hg3 hrow3; have HO3 := hI hown3; have HG3 := hI hg3; have HR3 := hI hrow3; clear hown3 hg3 hrow3)
   go_roundw
   case rel =>
    refine ⟨k + 1, by go_num, by omega, by rw [memS_succ, List.map_append]; exact HO3.out, ?_, ?_⟩
    ·intro j hj
     rcases HR3.out with h1 | ⟨i, h1, h2, _⟩
     ·exact HN.out j (h1 ▸ hj)
     ·rw [h1] at hj; cases hj; simp at h2; have := HB.out.size; omega
    ·have h1 : Keeps (fun k => W1.heap.size ≤ k) W1 w3 := ((Keeps.of_below HB.out).alloc _).trans (gK HG3.out fun k hk => HN.out k hk.symm)
     exact h1.below nL (fun k hk => hk)
   case measure => exact k_meas hlt
  ·obtain rfl : k = s := by omega
   have hsl : Sl intv wr (.slice va k vc) (memS k) := by
    have := HO.out
    exact owns_sl (l := memS k) (by rw [memS_len]; exact this)
   have HSL := hI hsl
   have hbg : BgAt w wr (fun q => q = w.heap.size ∨ q = w.heap.size + 1 ∨ q = w.heap.size + 2) 0 (.slice none 0 0) (.slice none 0 0) ⟨k, w.heap.size + 2, 0, 0, w.heap.size, w.heap.size + 1, 0, 0, va, vc, fun _ => 0, fun _ _ => False, fun _ => nodeZ, .slice none 0 0, []⟩ := by
    have hlr := hsl.row_lt
    have hnr := HN.out
    have hz := heap_lt Zh.out
    have hz2 := HB.out.size
    refine ⟨bH HB.out Zh.out hz, World.ownsRow_nil _ _ _ _, World.ownsRow_nil _ _ _ _, bH HB.out Qg.out (heap_lt Qg.out), bH HB.out Qh.out (heap_lt Qh.out), hsl, fun q hq e => ?_, fun i hi => by omega, fun i j q hi => by omega, fun q e => ?_, fun i q hi => by omega, ⟨by show w.heap.size ≠ w.heap.size + 2; omega, by show w.heap.size + 1 ≠ w.heap.size + 2; omega, by show w.heap.size ≠ w.heap.size + 1; omega⟩, fun q e => by simp [Value.ownBlock] at e, fun q e => by simp [Value.ownBlock] at e, fun q e => ?_, fun q e => ?_, Zg.out.trans (HB.out.mono Zg.out.size), fun i hi => by omega, fun i hi => by omega⟩
    ·have := hnr q hq; omega
    ·rcases e with e | e | e | e | e
     ·exact .inr (.inr e)
     ·exact .inl e
     ·exact .inr (.inl e)
     ·simp [Value.ownBlock] at e
     ·simp [Value.ownBlock] at e
    ·omega
    ·omega
   have Zi := hI hbg
   have hs7 : 0 < k := by omega
   clear hsl hbg hlt
   go_wp2_with fail
   go_loopw [25] (fun iv wr => ∃ (j : Nat) (M : Nat → Prop) (nv cv : Value) (c : Cl), iv = .int .i64 j ∧ j ≤ k ∧ Hid (c.s = k ∧ c.wd = w.heap.size + 2 ∧ c.ma = va ∧ c.mcap = vc ∧ BgAt w wr M j nv cv c)) (fun iv _ => k - (intOf iv).toNat)
   case atStart => exact ⟨0, _, _, _, _, rfl, Nat.zero_le _, hI ⟨rfl, rfl, rfl, rfl, Zi.out⟩⟩
   case round =>
    obtain ⟨j, M, nv, cv, c, rfl, hj, HJ⟩ := hrel
    clear Zi
    by_cases hjk : j < k
    ·have zj : (j : Int) < (k : Int) := by omega
     go_upto_block 3 with (fail)
     go_cut [] (fun wx => NextR w k va vc j wx)
     case first =>
      have hml := memS_len k
      have hbg := HJ.out.2.2.2.2
      have hb2 : Below wr.heap.size wr (wr.alloc (.cells #[.int .i64 ((j : Int) + 1), .slice va k vc, .int .i64 4, .int .i64 2] 64)) := bR.alloc nL _
      have hx2 := bW wr (.cells #[.int .i64 ((j : Int) + 1), .slice va k vc, .int .i64 4, .int .i64 2] 64)
      have hbg2 := hbg.below hb2
      have hsl : Sl intv (wr.alloc (.cells #[.int .i64 ((j : Int) + 1), .slice va k vc, .int .i64 4, .int .i64 2] 64)) (.slice va (memS k).length vc) (memS k) := by
       have := hbg2.mem
       rw [HJ.out.2.2.1, HJ.out.2.2.2.1, HJ.out.1] at this
       rw [hml]; exact this
      have hnw := new_node _ M hbg2.lt ((j : Int) + 1) 4 2 va vc (memS k) hsl (memS_ok h1 h7) (by omega) (by omega) (by omega) (by omega) (by omega) (by omega) 0 0 0 0 none 0 [] (Sl.nil _ _) (.inl rfl) none 0 [] (Sl.nil _ _) (by simp) none 0 [] (RowE.nil _ _) (fun q e he => by simp at he) (by omega) (by omega) (by omega) (by omega) (by simp) (by omega) (by omega) (by show lT 0 [] ≤ 0; exact Int.le_refl _) (by omega)
      rw [hml] at hnw
      have Qs := hI hnw
      obtain ⟨w2, hw2⟩ : ∃ W, W = wr.alloc (.cells #[.int .i64 ((j : Int) + 1), .slice va k vc, .int .i64 4, .int .i64 2] 64) := ⟨_, rfl⟩
      obtain ⟨b7, hb7⟩ : ∃ b, b = wr.heap.size := ⟨_, rfl⟩
      rw [← hw2] at Qs hbg2 hx2
      rw [← hb7] at hx2
      have Qt : Hid (¬ M b7) := hI fun e => by have := hbg.lt b7 e; omega
      have Qe := hI hbg2
      have Qu := hI hx2
      clear hsl hnw hbg hbg2 hb2 hx2 hml
      go_wp2_with fail
      rw [← hw2, ← hb7]
      clear hw2 hb7
      refine Qs.out.mono ?_
      rintro en w3 ⟨p, F, y, rfl, hb3, hna, hF, y1, y2, y3, y4, y5, y6, y7, y8, y9, y10, y11, y12, y13, y14⟩
      have Qa := hI (Qe.out.wide hb3 (F := F) fun q hq => ⟨hF q hq, by obtain ⟨S, hn⟩ := hna; exact hn.lt q hq⟩)
      have Zj := hI (bH hb3 Qu.out (heap_lt Qu.out))
      have Qv := hI hna
      have HF := hI hF
      have Qw := hI Qe.out.lt
      have HY := hI (new_ok h1 h7 (by omega) (by omega) y1 y2 y4 y5 y6 y7 y8 y9 (by rw [y10, if_pos rfl]) y11 y12 y13)
      have Za := hI y1
      have Zb := hI y14
      clear hb3 hna hF y1 y2 y3 y4 y5 y6 y7 y8 y9 y10 y11 y12 y13 y14 Qs
      go_wp2_with fail
      obtain ⟨na, nc, rfl⟩ := own_form Qa.out.nodes
      obtain ⟨ca, cc, rfl⟩ := own_form Qa.out.cfg
      have Qq : Hid (cfgC c.ma c.s c.mcap j = [.int .i64 ((j : Int) + 1), .slice va k vc, .int .i64 4, .int .i64 2]) := hI (by rw [HJ.out.1, HJ.out.2.2.1, HJ.out.2.2.2.1]; rfl)
      have HNL : Hid (∀ q, (Value.slice na j nc).ownBlock = some q → q < w3.heap.size) := hI fun q hq => Qa.out.lt q (Qa.out.own q (.inr (.inr (.inr (.inl hq)))))
      have HCL : Hid (∀ q, (Value.slice ca j cc).ownBlock = some q → q < w3.heap.size) := hI fun q hq => Qa.out.lt q (Qa.out.own q (.inr (.inr (.inr (.inr hq)))))
      have HB7 : Hid (¬ ((Value.slice na j nc).ownBlock = some b7 ∨ (Value.slice ca j cc).ownBlock = some b7)) := hI fun e => by
       have h2 := heap_lt Qu.out
       rcases e with e | e
       ·have h3 := Qe.out.own b7 (.inr (.inr (.inr (.inl e)))); exact Qt.out h3
       ·have h3 := Qe.out.own b7 (.inr (.inr (.inr (.inr e)))); exact Qt.out h3
      have Qi : Hid (c.wd = w.heap.size + 1 + 1) := hI HJ.out.2.1
      have HTW : Hid (¬ ((Value.slice na j nc).ownBlock = some (w.heap.size + 1 + 1) ∨ (Value.slice ca j cc).ownBlock = some (w.heap.size + 1 + 1))) := hI fun e => by
       rw [← Qi.out] at e
       rcases e with e | e
       ·exact (Qa.out.dn _ e).1 rfl
       ·exact (Qa.out.dc _ e).1 rfl
      have HBXQ : Hid (w3.heap[w.heap.size + 1 + 1]? = some (.cells #[.slice na j nc, .slice ca j cc, .slice none 0 0, .map (some c.lm), .map (some c.am)] 36 (0, 0))) := hI (by rw [← Qi.out]; exact Qa.out.box)
      have Qc : Hid (∀ W : World, Keeps (fun q => (Value.slice na j nc).ownBlock = some q ∨ (Value.slice ca j cc).ownBlock = some q) w3 W → W.cell? ⟨b7, 0, none⟩ = some (.int .i64 ((j : Int) + 1)) ∧ W.cell? ⟨b7, 1, none⟩ = some (.slice va k vc) ∧ W.cell? ⟨b7, 2, none⟩ = some (.int .i64 4) ∧ W.cell? ⟨b7, 3, none⟩ = some (.int .i64 2)) := hI fun W hW => by
       have hx := hW.heap HB7.out Zj.out
       exact ⟨bC hx 0 rfl, bC hx 1 rfl, bC hx 2 rfl, bC hx 3 rfl⟩
      have Qd : Hid (∀ W : World, Keeps (fun q => (Value.slice na j nc).ownBlock = some q ∨ (Value.slice ca j cc).ownBlock = some q) w3 W → (W.cell? ⟨w.heap.size + 1 + 1, 0, none⟩ = some (.slice na j nc) ∧ W.cell? ⟨w.heap.size + 1 + 1, 1, none⟩ = some (.slice ca j cc)) ∧ (W.frozen? ⟨w.heap.size + 1 + 1, 0, none⟩ = false ∧ W.frozen? ⟨w.heap.size + 1 + 1, 1, none⟩ = false) ∧ w.heap.size + 1 + 1 < W.heap.size ∧ b7 < W.heap.size) := hI fun W hW => by
       have hx := hW.heap HTW.out HBXQ.out
       exact ⟨⟨bC hx 0 rfl, bC hx 1 rfl⟩, ⟨bF hx 0, bF hx 1⟩, heap_lt hx, heap_lt (hW.heap HB7.out Zj.out)⟩
      have hb7q : b7 ≠ w.heap.size + 1 + 1 := fun e => Qt.out (Qe.out.own b7 (.inl (by rw [e]; exact Qi.out.symm)))
      have Qb : Hid (∀ (W : World) (i : Nat) (v : Value), (W.cell? ⟨b7, 0, none⟩ = some (.int .i64 ((j : Int) + 1)) ∧ W.cell? ⟨b7, 1, none⟩ = some (.slice va k vc) ∧ W.cell? ⟨b7, 2, none⟩ = some (.int .i64 4) ∧ W.cell? ⟨b7, 3, none⟩ = some (.int .i64 2)) → ((W.setCell ⟨w.heap.size + 1 + 1, i, none⟩ v).cell? ⟨b7, 0, none⟩ = some (.int .i64 ((j : Int) + 1)) ∧ (W.setCell ⟨w.heap.size + 1 + 1, i, none⟩ v).cell? ⟨b7, 1, none⟩ = some (.slice va k vc) ∧ (W.setCell ⟨w.heap.size + 1 + 1, i, none⟩ v).cell? ⟨b7, 2, none⟩ = some (.int .i64 4) ∧ (W.setCell ⟨w.heap.size + 1 + 1, i, none⟩ v).cell? ⟨b7, 3, none⟩ = some (.int .i64 2))) := hI fun W i v h => by
       have hb := Below.heap_setCell W ⟨w.heap.size + 1 + 1, i, none⟩ v b7 hb7q
       exact ⟨(World.cell?_of_block hb).trans h.1, (World.cell?_of_block hb).trans h.2.1, (World.cell?_of_block hb).trans h.2.2.1, (World.cell?_of_block hb).trans h.2.2.2⟩
      clear hb7q
      have hks : Keeps (fun q => (Value.slice na j nc).ownBlock = some q ∨ (Value.slice ca j cc).ownBlock = some q) w3 w3 := Keeps.refl _ _
      obtain ⟨⟨d0, d1⟩, ⟨f0, f1⟩, hql, hbl⟩ := Qd.out w3 hks
      have hql2 : w.heap.size + 1 + 1 < w3.heap.size + 1 := Nat.lt_succ_of_lt hql
      have hql3 : w.heap.size + 1 < w3.heap.size := Nat.lt_of_succ_lt hql
      have hql4 : w.heap.size + 1 + 1 ≤ w3.heap.size := Nat.le_of_lt hql
      have hbl2 : b7 < w3.heap.size + 1 := Nat.lt_succ_of_lt hbl
      have hbl3 : b7 ≤ w3.heap.size := Nat.le_of_lt hbl
      obtain ⟨e0, e1, e2, e3⟩ := Qc.out w3 hks
      have Zc : Hid (∀ W, Below w3.heap.size w3 W → W.ownsRow 0 44 1 (.slice na j nc) j (ptrsB c.P j)) := hI fun W hW => owns_kept Qa.out.nodes (Keeps.of_belowS (S := fun _ => False) hW) fun _ _ e => e
      have HRC : Hid (∀ W, Below w3.heap.size w3 W → W.ownsRow 0 64 4 (.slice ca j cc) j (cfgsB c.ma c.s c.mcap j)) := hI fun W hW => owns_kept Qa.out.cfg (Keeps.of_belowS (S := fun _ => False) hW) fun _ _ e => e
      have Qk : Hid (Below w3.heap.size w3 (w3.alloc (.cells #[.pointer (some ⟨p, 0, none⟩)] 44)).drew) := hI (bD (bR.alloc nL _))
      have Ql : Hid (Below w3.heap.size w3 ((w3.alloc (.cells #[.pointer (some ⟨p, 0, none⟩)] 44)).alloc (.cells #[.int .i64 ((j : Int) + 1), .slice va k vc, .int .i64 4, .int .i64 2] 64)).drew) := hI (bD ((bR.alloc nL _).alloc (by simp) _))
      have Qm : Hid (Below w3.heap.size w3 ((w3.alloc (.cells #[.int .i64 ((j : Int) + 1), .slice va k vc, .int .i64 4, .int .i64 2] 64)).alloc (.cells #[.pointer (some ⟨p, 0, none⟩)] 44)).drew) := hI (bD ((bR.alloc nL _).alloc (by simp) _))
      have HBD : Hid (Below w3.heap.size w3 (w3.alloc (.cells #[.int .i64 ((j : Int) + 1), .slice va k vc, .int .i64 4, .int .i64 2] 64)).drew) := hI (bD (bR.alloc nL _))
      have HSA : Hid ((w3.alloc (.cells #[.pointer (some ⟨p, 0, none⟩)] 44)).drew.heap[w3.heap.size]? = some (.cells #[.pointer (some ⟨p, 0, none⟩)] 44 (0, 0))) := hI (bW w3 _)
      have HSBN : Hid (((w3.alloc (.cells #[.pointer (some ⟨p, 0, none⟩)] 44)).alloc (.cells #[.int .i64 ((j : Int) + 1), .slice va k vc, .int .i64 4, .int .i64 2] 64)).drew.heap[w3.heap.size]? = some (.cells #[.pointer (some ⟨p, 0, none⟩)] 44 (0, 0))) := hI (aheap (bW w3 _) _)
      have HSBC : Hid (((w3.alloc (.cells #[.pointer (some ⟨p, 0, none⟩)] 44)).alloc (.cells #[.int .i64 ((j : Int) + 1), .slice va k vc, .int .i64 4, .int .i64 2] 64)).drew.heap[w3.heap.size + 1]? = some (.cells #[.int .i64 ((j : Int) + 1), .slice va k vc, .int .i64 4, .int .i64 2] 64 (0, 0))) := hI (heap_new2 w3 _ _)
      have HSCC : Hid (((w3.alloc (.cells #[.int .i64 ((j : Int) + 1), .slice va k vc, .int .i64 4, .int .i64 2] 64)).alloc (.cells #[.pointer (some ⟨p, 0, none⟩)] 44)).drew.heap[w3.heap.size]? = some (.cells #[.int .i64 ((j : Int) + 1), .slice va k vc, .int .i64 4, .int .i64 2] 64 (0, 0))) := hI (aheap (bW w3 _) _)
      have HSCN : Hid (((w3.alloc (.cells #[.int .i64 ((j : Int) + 1), .slice va k vc, .int .i64 4, .int .i64 2] 64)).alloc (.cells #[.pointer (some ⟨p, 0, none⟩)] 44)).drew.heap[w3.heap.size + 1]? = some (.cells #[.pointer (some ⟨p, 0, none⟩)] 44 (0, 0))) := hI (heap_new2 w3 _ _)
      have HSD : Hid ((w3.alloc (.cells #[.int .i64 ((j : Int) + 1), .slice va k vc, .int .i64 4, .int .i64 2] 64)).drew.heap[w3.heap.size]? = some (.cells #[.int .i64 ((j : Int) + 1), .slice va k vc, .int .i64 4, .int .i64 2] 64 (0, 0))) := hI (bW w3 _)
      have Qj := hI (show j + 1 ≤ maxLen by unfold maxLen; omega)
      have Qg := hI (show (j + 1) * 8 ≤ 140737488355328 by omega)
      have Qh := hI (show (j + 1) * 48 ≤ 140737488355328 by omega)
      have Zd : Hid (∀ u ∈ ([.pointer (some ⟨p, 0, none⟩)] : List Value), u.oneCell' = true) := hI (by simp [Value.oneCell'])
      have Ze : Hid (∀ u ∈ cfgC c.ma c.s c.mcap j, u.oneCell' = true) := hI (by rw [Qq.out]; simp [Value.oneCell'])
      clear hks
      have hEw : w3.drew.cell? ⟨b7, 0, none⟩ = some (.int .i64 ((j : Int) + 1)) ∧ w3.drew.cell? ⟨b7, 1, none⟩ = some (.slice va k vc) ∧ w3.drew.cell? ⟨b7, 2, none⟩ = some (.int .i64 4) ∧ w3.drew.cell? ⟨b7, 3, none⟩ = some (.int .i64 2) := ⟨e0, e1, e2, e3⟩
      have hTw : w3.drew.cell? ⟨w.heap.size + 1 + 1, 0, none⟩ = some (.slice na j nc) ∧ w3.drew.cell? ⟨w.heap.size + 1 + 1, 1, none⟩ = some (.slice ca j cc) := ⟨d0, d1⟩
      refine wp_region_G (E := fun w' => w'.cell? ⟨b7, 0, none⟩ = some (.int .i64 ((j : Int) + 1)) ∧ w'.cell? ⟨b7, 1, none⟩ = some (.slice va k vc) ∧ w'.cell? ⟨b7, 2, none⟩ = some (.int .i64 4) ∧ w'.cell? ⟨b7, 3, none⟩ = some (.int .i64 2)) (T := fun w' => w'.cell? ⟨w.heap.size + 1 + 1, 0, none⟩ = some (.slice na j nc) ∧ w'.cell? ⟨w.heap.size + 1 + 1, 1, none⟩ = some (.slice ca j cc)) (sts := [18, 21]) (by kernel_rfl) ?_
      refine wpAnyG_take (i := 0) (oi := ⟨some 38, _, _, _, _, _⟩) (v := ?_) rfl (by kernel_rfl) (by kernel_rfl) (by kernel_rfl) (by kernel_rfl) (fun _ _ _ h => h) (Or.inl ⟨by rfl, ?_⟩) hEw hTw ?_
      rotate_left
      ·(intro w' hSw; (try dsimp only at hSw); go_simp; try with_reducible rfl)
      simp only [Act.put, sA, sZ, sS]
      refine wpAnyG_take (i := 1) (oi := ⟨some 39, _, _, _, _, _⟩) (v := ?_) rfl (by kernel_rfl) (by kernel_rfl) (by kernel_rfl) (by kernel_rfl) (fun _ _ _ h => h) (Or.inl ⟨by rfl, ?_⟩) hEw hTw ?_
      rotate_left
      ·(intro w' hSw; (try dsimp only at hSw); go_simp; try with_reducible rfl)
      simp only [Act.put, sA, sZ, sS]
      refine wpAnyG_take (i := 2) (oi := ⟨some 40, _, _, _, _, _⟩) (v := ?_) rfl (by kernel_rfl) (by kernel_rfl) (by kernel_rfl) (by kernel_rfl) (fun _ _ _ h => h) (Or.inl ⟨by rfl, ?_⟩) hEw hTw ?_
      rotate_left
      ·(intro w' hSw; (try dsimp only at hSw); go_simp; try with_reducible rfl)
      simp only [Act.put, sA, sZ, sS]
      refine wpAnyG_take (i := 3) (oi := ⟨some 41, _, _, _, _, _⟩) (v := ?_) rfl (by kernel_rfl) (by kernel_rfl) (by kernel_rfl) (by kernel_rfl) (fun _ _ _ h => h) (Or.inl ⟨by rfl, ?_⟩) hEw hTw ?_
      rotate_left
      ·(intro w' hSw; (try dsimp only at hSw); go_simp; try with_reducible rfl)
      simp only [Act.put, sA, sZ, sS]
      refine wpAnyG_take (i := 4) (oi := ⟨some 42, _, _, _, _, _⟩) (v := ?_) rfl (by kernel_rfl) (by kernel_rfl) (by kernel_rfl) (by kernel_rfl) (fun _ _ _ h => h) (Or.inl ⟨by rfl, ?_⟩) hEw hTw ?_
      rotate_left
      ·(intro w' hSw; (try dsimp only at hSw); go_simp; try with_reducible rfl)
      simp only [Act.put, sA, sZ, sS]
      refine wpAnyG_takeT (i := 5) (oi := ⟨some 43, _, _, _, _, _⟩) (v := ?_) rfl (by kernel_rfl) (by kernel_rfl) (by kernel_rfl) (by kernel_rfl) (by kernel_rfl) (by kernel_rfl) (fun _ _ _ h => h) (Or.inl ⟨by rfl, ?_⟩) hEw hTw ?_
      rotate_left
      ·(intro w' hSw; (try dsimp only at hSw); go_simp; try with_reducible rfl)
      simp only [Act.put, sA, sZ, sS]
      refine wpAnyG_take (i := 6) (oi := ⟨some 44, _, _, _, _, _⟩) (v := ?_) rfl (by kernel_rfl) (by kernel_rfl) (by kernel_rfl) (by kernel_rfl) (fun _ _ _ h => h) (Or.inl ⟨by rfl, ?_⟩) hEw hTw ?_
      rotate_left
      ·(intro w' hSw; (try dsimp only at hSw); go_simp; try with_reducible rfl)
      simp only [Act.put, sA, sZ, sS]
      refine wpAnyG_take (i := 9) (oi := ⟨some 47, _, _, _, _, _⟩) (v := ?_) rfl (by kernel_rfl) (by kernel_rfl) (by kernel_rfl) (by kernel_rfl) (fun _ _ _ h => h) (Or.inl ⟨by rfl, ?_⟩) hEw hTw ?_
      rotate_left
      ·(intro w' hSw; (try dsimp only at hSw); go_simp; try with_reducible rfl)
      simp only [Act.put, sA, sZ, sS]
      refine wpAnyG_take (i := 10) (oi := ⟨some 48, _, _, _, _, _⟩) (v := ?_) rfl (by kernel_rfl) (by kernel_rfl) (by kernel_rfl) (by kernel_rfl) (fun _ _ _ h => h) (Or.inl ⟨by rfl, ?_⟩) hEw hTw ?_
      rotate_left
      ·(intro w' hSw; (try dsimp only at hSw); go_simp; try with_reducible rfl)
      simp only [Act.put, sA, sZ, sS]
      refine wpAnyG_take (i := 11) (oi := ⟨some 49, _, _, _, _, _⟩) (v := ?_) rfl (by kernel_rfl) (by kernel_rfl) (by kernel_rfl) (by kernel_rfl) (fun _ _ _ h => h) (Or.inl ⟨by rfl, ?_⟩) hEw hTw ?_
      rotate_left
      ·(intro w' hSw; (try dsimp only at hSw); go_simp; try with_reducible rfl)
      simp only [Act.put, sA, sZ, sS]
      refine wpAnyG_takeT (i := 12) (oi := ⟨some 50, _, _, _, _, _⟩) (v := ?_) rfl (by kernel_rfl) (by kernel_rfl) (by kernel_rfl) (by kernel_rfl) (by kernel_rfl) (by kernel_rfl) (fun _ _ _ h => h) (Or.inl ⟨by rfl, ?_⟩) hEw hTw ?_
      rotate_left
      ·(intro w' hSw; (try dsimp only at hSw); go_simp; try with_reducible rfl)
      simp only [Act.put, sA, sZ, sS]
      refine wpAnyG_take (i := 13) (oi := ⟨some 51, _, _, _, _, _⟩) (v := ?_) rfl (by kernel_rfl) (by kernel_rfl) (by kernel_rfl) (by kernel_rfl) (fun _ _ _ h => h) (Or.inl ⟨by rfl, ?_⟩) hEw hTw ?_
      rotate_left
      ·(intro w' hSw; (try dsimp only at hSw); go_simp; try with_reducible rfl)
      simp only [Act.put, sA, sZ, sS]
      refine wA (rs := [7, 14]) (by kernel_rfl) (by simp) (AllReadyG.cons (o := ⟨some 45, _, _, _, _, _⟩) rfl (fun K hK => ?_) (AllReadyG.cons (o := ⟨some 52, _, _, _, _, _⟩) rfl (fun K hK => ?_) AllReadyG.nil))
      ·go_simp
       refine hK.out _ _ (heldG.open (Qc.out _ (Keeps.of_belowS Qk.out)) (Qd.out _ (Keeps.of_belowS Qk.out)).1) ?_
       clear hK K
       try simp only [Act.put, sA, sZ, sS]
       refine wA (rs := [8, 14]) (by kernel_rfl) (by simp) (AllReadyG.cons (o := ⟨some 46, _, _, _, _, _⟩) rfl (fun K hK => ?_) (AllReadyG.cons (o := ⟨some 52, _, _, _, _, _⟩) rfl (fun K hK => ?_) AllReadyG.nil))
       ·(refine step_append_lies _ (by rfl) _ _ _ (by rfl) 0 44 p0 _ 1 8 Tryz.underlying30 hpi hp0 hp1 hp2 rfl (by omega) (.slice na j nc) j (ptrsB c.P j) (by rfl) (Zc.out _ Qk.out) ⟨w3.heap.size, 0, none⟩ 1 1 [.pointer (some ⟨p, 0, none⟩)] (by rfl) (by rfl) (World.news_of_block (HSA.out)) Zd.out (by omega) Qj.out Qg.out (Nat.zero_le _) (w3.heap.size + 1) (by simp) ?_; intro gN cN w5 ho hg ha hl; have Qn := hI ho; have Qo : Hid (∃ Wx, Below w3.heap.size w3 Wx ∧ Wx.grownBy w5 (Value.slice na j nc).ownBlock ∧ ((Value.slice na j nc).ownBlock = some gN ∨ gN = Wx.heap.size)) := hI ⟨_, Qk.out, hg, ha.imp id fun e => (by simpa using e)⟩; have hk5 := aft_keeps (v := .slice na j nc) Qk.out hg; have hk5t : Keeps (fun q => (Value.slice na j nc).ownBlock = some q ∨ (Value.slice ca j cc).ownBlock = some q) w3 w5 := hk5.mono fun q _ e => .inl e; have Qr := hI hk5t; have Qp : Hid (∀ W, Below w5.heap.size w5 W → W.ownsRow 0 64 4 (.slice ca j cc) j (cfgsB c.ma c.s c.mcap j)) := hI (fun W hW => owns_kept (owns_kept Qa.out.cfg hk5 fun q hq e => (Qa.out.dn q e).2.2.2 hq) (Keeps.of_belowS (S := fun _ => False) hW) fun _ _ e => e); obtain ⟨⟨d0, d1⟩, ⟨f0, f1⟩, hql, hbl⟩ := Qd.out w5 hk5t; obtain ⟨e0, e1, e2, e3⟩ := Qc.out w5 hk5t; clear ho hg ha hl hk5 hk5t)
        refine hK.out _ _ (heldG.open ⟨e0, e1, e2, e3⟩ ⟨d0, d1⟩) ?_
        clear hK K
        try simp only [Act.put, sA, sZ, sS]
        refine wA (rs := [14]) (by kernel_rfl) (by simp) (AllReadyG.cons (o := ⟨some 52, _, _, _, _, _⟩) rfl (fun K hK => ?_) AllReadyG.nil)
        go_simp
        refine hK.out _ _ (heldG.open (Qc.out _ (Qr.out.alloc _)) (Qd.out _ (Qr.out.alloc _)).1) ?_
        clear hK K
        try simp only [Act.put, sA, sZ, sS]
        refine wA (rs := [15]) (by kernel_rfl) (by simp) (AllReadyG.cons (o := ⟨some 53, _, _, _, _, _⟩) rfl (fun K hK => ?_) AllReadyG.nil)
        (refine step_append_lies _ (by rfl) _ _ _ (by rfl) 0 64 ci0 _ 4 48 Tryz.underlying31 hfi hf0 hf1 hf2 rfl (by omega) (.slice ca j cc) j (cfgsB c.ma c.s c.mcap j) (by rfl) (Qp.out _ (bR.alloc nL _)) ⟨w5.heap.size, 0, none⟩ 1 1 (cfgC c.ma c.s c.mcap j) (by rfl) (by rfl) (by rw [Qq.out]; exact World.news_of_block (bW w5 _)) Ze.out (by omega) Qj.out Qh.out (Nat.zero_le _) (w5.heap.size + 1) (by simp) ?_; intro gC cC w7 ho hg ha hl; have Qf : Hid (PairR w3 w7 (.slice na j nc) (.slice ca j cc) (.slice (some ⟨gN, 0, none⟩) (j + 1) cN) (.slice (some ⟨gC, 0, none⟩) (j + 1) cC) j c.P c.ma c.s c.mcap p) := hI (by obtain ⟨Wx, h1, h2, h3⟩ := Qo.out; exact pair_nc Qa.out h1 Qn.out h2 h3 (bR.alloc nL _) ho hg (ha.imp id fun e => (by simpa using e))); have hk7t := Qf.out.keeps; obtain ⟨⟨d0, d1⟩, ⟨f0, f1⟩, hql, hbl⟩ := Qd.out w7 hk7t; obtain ⟨e0, e1, e2, e3⟩ := Qc.out w7 hk7t; clear ho hg ha hl hk7t)
        refine hK.out _ _ (heldG.open ⟨e0, e1, e2, e3⟩ ⟨d0, d1⟩) ?_
        clear hK K
        try simp only [Act.put, sA, sZ, sS]
        refine wA (rs := [16]) (by kernel_rfl) (by simp) (AllReadyG.cons (o := ⟨some 54, _, _, _, _, _⟩) rfl (fun K hK => ?_) AllReadyG.nil)
        go_simp
        refine hK.out _ _ (heldG.open ⟨e0, e1, e2, e3⟩ ⟨d0, d1⟩) ?_
        clear hK K
        try simp only [Act.put, sA, sZ, sS]
        refine wA (rs := [17]) (by kernel_rfl) (by simp) (AllReadyG.cons (o := ⟨some 55, _, _, _, _, _⟩) rfl (fun K hK => ?_) AllReadyG.nil)
        go_simp
        refine hK.out _ _ (heldG.open ⟨e0, e1, e2, e3⟩ ⟨d0, d1⟩) ?_
        clear hK K
        try simp only [Act.put, sA, sZ, sS]
        refine wA (rs := [18]) (by kernel_rfl) (by simp) (AllReadyG.cons (o := ⟨none, _, _, _, _, _⟩) rfl (fun K hK => ?_) AllReadyG.nil)
        go_simp
        refine hK.out _ _ (heldG.shut (Qb.out _ _ _ ⟨e0, e1, e2, e3⟩) (by kernel_rfl)) ?_
        clear hK K
        try simp only [Act.put, sA, sZ, sS]
        refine wA (rs := [19]) (by kernel_rfl) (by simp) (AllReadyG.cons (o := ⟨some 56, _, _, _, _, _⟩) rfl (fun K hK => ?_) AllReadyG.nil)
        go_simp
        refine hK.out _ _ (heldG.shut (Qb.out _ _ _ ⟨e0, e1, e2, e3⟩) (by kernel_rfl)) ?_
        clear hK K
        try simp only [Act.put, sA, sZ, sS]
        refine wA (rs := [20]) (by kernel_rfl) (by simp) (AllReadyG.cons (o := ⟨some 57, _, _, _, _, _⟩) rfl (fun K hK => ?_) AllReadyG.nil)
        go_simp
        refine hK.out _ _ (heldG.shut (Qb.out _ _ _ ⟨e0, e1, e2, e3⟩) (by kernel_rfl)) ?_
        clear hK K
        try simp only [Act.put, sA, sZ, sS]
        refine wA (rs := [21]) (by kernel_rfl) (by simp) (AllReadyG.cons (o := ⟨none, _, _, _, _, _⟩) rfl (fun K hK => ?_) AllReadyG.nil)
        go_simp
        refine hK.out _ _ (heldG.shut (Qb.out _ _ _ (Qb.out _ _ _ ⟨e0, e1, e2, e3⟩)) (by kernel_rfl)) ?_
        clear hK K
        try simp only [Act.put, sA, sZ, sS]
        refine wpAnyG_done (by kernel_rfl) ?_ _
        as_aux_lemma =>
         have hmore := Qa.out.more Qf.out (M1 := fun q => M q ∨ F q) (G := F) (y := y) (fun _ h => h) (fun _ h => .inl h) Qv.out (fun q hq hb => by have h2 := HF.out q hq; have h3 := Qw.out q (Qe.out.own q hb); omega) (fun i q hi hq he => by
           obtain ⟨S, hn⟩ := Qe.out.node i hi
           have h2 := HF.out q hq
           have h3 := hn.lt q he
           omega) Za.out (by rw [HJ.out.1]; exact ⟨HY.out, Zb.out⟩)
         rw [Qi.out] at hmore
         go_wp2_with fail
         go_meet
         exact ⟨_, _, _, c.putNode j p F y, HJ.out.1, HJ.out.2.1, HJ.out.2.2.1, HJ.out.2.2.2.1, hmore⟩
       ·go_simp
        refine hK.out _ _ (heldG.open (Qc.out _ (Keeps.of_belowS Ql.out)) (Qd.out _ (Keeps.of_belowS Ql.out)).1) ?_
        clear hK K
        try simp only [Act.put, sA, sZ, sS]
        refine wA (rs := [8]) (by kernel_rfl) (by simp) (AllReadyG.cons (o := ⟨some 46, _, _, _, _, _⟩) rfl (fun K hK => ?_) AllReadyG.nil)
        (refine step_append_lies _ (by rfl) _ _ _ (by rfl) 0 44 p0 _ 1 8 Tryz.underlying30 hpi hp0 hp1 hp2 rfl (by omega) (.slice na j nc) j (ptrsB c.P j) (by rfl) (Zc.out _ Ql.out) ⟨w3.heap.size, 0, none⟩ 1 1 [.pointer (some ⟨p, 0, none⟩)] (by rfl) (by rfl) (World.news_of_block (HSBN.out)) Zd.out (by omega) Qj.out Qg.out (Nat.zero_le _) (w3.heap.size + 2) (by simp) ?_; intro gN cN w5 ho hg ha hl; have Qn := hI ho; have Qo : Hid (∃ Wx, Below w3.heap.size w3 Wx ∧ Wx.grownBy w5 (Value.slice na j nc).ownBlock ∧ ((Value.slice na j nc).ownBlock = some gN ∨ gN = Wx.heap.size)) := hI ⟨_, Ql.out, hg, ha.imp id fun e => (by simpa using e)⟩; have hk5 := aft_keeps (v := .slice na j nc) Ql.out hg; have hk5t : Keeps (fun q => (Value.slice na j nc).ownBlock = some q ∨ (Value.slice ca j cc).ownBlock = some q) w3 w5 := hk5.mono fun q _ e => .inl e; have Qr := hI hk5t; have Qp : Hid (∀ W, Below w5.heap.size w5 W → W.ownsRow 0 64 4 (.slice ca j cc) j (cfgsB c.ma c.s c.mcap j)) := hI (fun W hW => owns_kept (owns_kept Qa.out.cfg hk5 fun q hq e => (Qa.out.dn q e).2.2.2 hq) (Keeps.of_belowS (S := fun _ => False) hW) fun _ _ e => e); have Zf : Hid (w5.heap[w3.heap.size + 1]? = some (.cells #[.int .i64 ((j : Int) + 1), .slice va k vc, .int .i64 4, .int .i64 2] 64 (0, 0))) := hI ((gK (S := fun q => (Value.slice na j nc).ownBlock = some q) hg fun q hq => hq.symm).heap (fun e => (by have := HNL.out _ e; omega)) HSBC.out); obtain ⟨⟨d0, d1⟩, ⟨f0, f1⟩, hql, hbl⟩ := Qd.out w5 hk5t; obtain ⟨e0, e1, e2, e3⟩ := Qc.out w5 hk5t; clear ho hg ha hl hk5 hk5t)
        refine hK.out _ _ (heldG.open ⟨e0, e1, e2, e3⟩ ⟨d0, d1⟩) ?_
        clear hK K
        try simp only [Act.put, sA, sZ, sS]
        refine wA (rs := [15]) (by kernel_rfl) (by simp) (AllReadyG.cons (o := ⟨some 53, _, _, _, _, _⟩) rfl (fun K hK => ?_) AllReadyG.nil)
        (refine step_append_lies _ (by rfl) _ _ _ (by rfl) 0 64 ci0 _ 4 48 Tryz.underlying31 hfi hf0 hf1 hf2 rfl (by omega) (.slice ca j cc) j (cfgsB c.ma c.s c.mcap j) (by rfl) (Qp.out _ bR) ⟨w3.heap.size + 1, 0, none⟩ 1 1 (cfgC c.ma c.s c.mcap j) (by rfl) (by rfl) (by rw [Qq.out]; exact World.news_of_block (Zf.out)) Ze.out (by omega) Qj.out Qh.out (Nat.zero_le _) (w5.heap.size) (by simp) ?_; intro gC cC w7 ho hg ha hl; have Qf : Hid (PairR w3 w7 (.slice na j nc) (.slice ca j cc) (.slice (some ⟨gN, 0, none⟩) (j + 1) cN) (.slice (some ⟨gC, 0, none⟩) (j + 1) cC) j c.P c.ma c.s c.mcap p) := hI (by obtain ⟨Wx, h1, h2, h3⟩ := Qo.out; exact pair_nc Qa.out h1 Qn.out h2 h3 bR ho hg (ha.imp id fun e => (by simpa using e))); have hk7t := Qf.out.keeps; obtain ⟨⟨d0, d1⟩, ⟨f0, f1⟩, hql, hbl⟩ := Qd.out w7 hk7t; obtain ⟨e0, e1, e2, e3⟩ := Qc.out w7 hk7t; clear ho hg ha hl hk7t)
        refine hK.out _ _ (heldG.open ⟨e0, e1, e2, e3⟩ ⟨d0, d1⟩) ?_
        clear hK K
        try simp only [Act.put, sA, sZ, sS]
        refine wA (rs := [16]) (by kernel_rfl) (by simp) (AllReadyG.cons (o := ⟨some 54, _, _, _, _, _⟩) rfl (fun K hK => ?_) AllReadyG.nil)
        go_simp
        refine hK.out _ _ (heldG.open ⟨e0, e1, e2, e3⟩ ⟨d0, d1⟩) ?_
        clear hK K
        try simp only [Act.put, sA, sZ, sS]
        refine wA (rs := [17]) (by kernel_rfl) (by simp) (AllReadyG.cons (o := ⟨some 55, _, _, _, _, _⟩) rfl (fun K hK => ?_) AllReadyG.nil)
        go_simp
        refine hK.out _ _ (heldG.open ⟨e0, e1, e2, e3⟩ ⟨d0, d1⟩) ?_
        clear hK K
        try simp only [Act.put, sA, sZ, sS]
        refine wA (rs := [18]) (by kernel_rfl) (by simp) (AllReadyG.cons (o := ⟨none, _, _, _, _, _⟩) rfl (fun K hK => ?_) AllReadyG.nil)
        go_simp
        refine hK.out _ _ (heldG.shut (Qb.out _ _ _ ⟨e0, e1, e2, e3⟩) (by kernel_rfl)) ?_
        clear hK K
        try simp only [Act.put, sA, sZ, sS]
        refine wA (rs := [19]) (by kernel_rfl) (by simp) (AllReadyG.cons (o := ⟨some 56, _, _, _, _, _⟩) rfl (fun K hK => ?_) AllReadyG.nil)
        go_simp
        refine hK.out _ _ (heldG.shut (Qb.out _ _ _ ⟨e0, e1, e2, e3⟩) (by kernel_rfl)) ?_
        clear hK K
        try simp only [Act.put, sA, sZ, sS]
        refine wA (rs := [20]) (by kernel_rfl) (by simp) (AllReadyG.cons (o := ⟨some 57, _, _, _, _, _⟩) rfl (fun K hK => ?_) AllReadyG.nil)
        go_simp
        refine hK.out _ _ (heldG.shut (Qb.out _ _ _ ⟨e0, e1, e2, e3⟩) (by kernel_rfl)) ?_
        clear hK K
        try simp only [Act.put, sA, sZ, sS]
        refine wA (rs := [21]) (by kernel_rfl) (by simp) (AllReadyG.cons (o := ⟨none, _, _, _, _, _⟩) rfl (fun K hK => ?_) AllReadyG.nil)
        go_simp
        refine hK.out _ _ (heldG.shut (Qb.out _ _ _ (Qb.out _ _ _ ⟨e0, e1, e2, e3⟩)) (by kernel_rfl)) ?_
        clear hK K
        try simp only [Act.put, sA, sZ, sS]
        refine wpAnyG_done (by kernel_rfl) ?_ _
        as_aux_lemma =>
         have hmore := Qa.out.more Qf.out (M1 := fun q => M q ∨ F q) (G := F) (y := y) (fun _ h => h) (fun _ h => .inl h) Qv.out (fun q hq hb => by have h2 := HF.out q hq; have h3 := Qw.out q (Qe.out.own q hb); omega) (fun i q hi hq he => by
           obtain ⟨S, hn⟩ := Qe.out.node i hi
           have h2 := HF.out q hq
           have h3 := hn.lt q he
           omega) Za.out (by rw [HJ.out.1]; exact ⟨HY.out, Zb.out⟩)
         rw [Qi.out] at hmore
         go_wp2_with fail
         go_meet
         exact ⟨_, _, _, c.putNode j p F y, HJ.out.1, HJ.out.2.1, HJ.out.2.2.1, HJ.out.2.2.2.1, hmore⟩
      ·go_simp
       refine hK.out _ _ (heldG.open (Qc.out _ (Keeps.of_belowS HBD.out)) (Qd.out _ (Keeps.of_belowS HBD.out)).1) ?_
       clear hK K
       try simp only [Act.put, sA, sZ, sS]
       refine wA (rs := [7]) (by kernel_rfl) (by simp) (AllReadyG.cons (o := ⟨some 45, _, _, _, _, _⟩) rfl (fun K hK => ?_) AllReadyG.nil)
       go_simp
       refine hK.out _ _ (heldG.open (Qc.out _ (Keeps.of_belowS Qm.out)) (Qd.out _ (Keeps.of_belowS Qm.out)).1) ?_
       clear hK K
       try simp only [Act.put, sA, sZ, sS]
       refine wA (rs := [8]) (by kernel_rfl) (by simp) (AllReadyG.cons (o := ⟨some 46, _, _, _, _, _⟩) rfl (fun K hK => ?_) AllReadyG.nil)
       (refine step_append_lies _ (by rfl) _ _ _ (by rfl) 0 44 p0 _ 1 8 Tryz.underlying30 hpi hp0 hp1 hp2 rfl (by omega) (.slice na j nc) j (ptrsB c.P j) (by rfl) (Zc.out _ Qm.out) ⟨w3.heap.size + 1, 0, none⟩ 1 1 [.pointer (some ⟨p, 0, none⟩)] (by rfl) (by rfl) (World.news_of_block (HSCN.out)) Zd.out (by omega) Qj.out Qg.out (Nat.zero_le _) (w3.heap.size + 2) (by simp) ?_; intro gN cN w5 ho hg ha hl; have Qn := hI ho; have Qo : Hid (∃ Wx, Below w3.heap.size w3 Wx ∧ Wx.grownBy w5 (Value.slice na j nc).ownBlock ∧ ((Value.slice na j nc).ownBlock = some gN ∨ gN = Wx.heap.size)) := hI ⟨_, Qm.out, hg, ha.imp id fun e => (by simpa using e)⟩; have hk5 := aft_keeps (v := .slice na j nc) Qm.out hg; have hk5t : Keeps (fun q => (Value.slice na j nc).ownBlock = some q ∨ (Value.slice ca j cc).ownBlock = some q) w3 w5 := hk5.mono fun q _ e => .inl e; have Qr := hI hk5t; have Qp : Hid (∀ W, Below w5.heap.size w5 W → W.ownsRow 0 64 4 (.slice ca j cc) j (cfgsB c.ma c.s c.mcap j)) := hI (fun W hW => owns_kept (owns_kept Qa.out.cfg hk5 fun q hq e => (Qa.out.dn q e).2.2.2 hq) (Keeps.of_belowS (S := fun _ => False) hW) fun _ _ e => e); have Zf : Hid (w5.heap[w3.heap.size]? = some (.cells #[.int .i64 ((j : Int) + 1), .slice va k vc, .int .i64 4, .int .i64 2] 64 (0, 0))) := hI ((gK (S := fun q => (Value.slice na j nc).ownBlock = some q) hg fun q hq => hq.symm).heap (fun e => (by have := HNL.out _ e; omega)) HSCC.out); obtain ⟨⟨d0, d1⟩, ⟨f0, f1⟩, hql, hbl⟩ := Qd.out w5 hk5t; obtain ⟨e0, e1, e2, e3⟩ := Qc.out w5 hk5t; clear ho hg ha hl hk5 hk5t)
       refine hK.out _ _ (heldG.open ⟨e0, e1, e2, e3⟩ ⟨d0, d1⟩) ?_
       clear hK K
       try simp only [Act.put, sA, sZ, sS]
       refine wA (rs := [15]) (by kernel_rfl) (by simp) (AllReadyG.cons (o := ⟨some 53, _, _, _, _, _⟩) rfl (fun K hK => ?_) AllReadyG.nil)
       (refine step_append_lies _ (by rfl) _ _ _ (by rfl) 0 64 ci0 _ 4 48 Tryz.underlying31 hfi hf0 hf1 hf2 rfl (by omega) (.slice ca j cc) j (cfgsB c.ma c.s c.mcap j) (by rfl) (Qp.out _ bR) ⟨w3.heap.size, 0, none⟩ 1 1 (cfgC c.ma c.s c.mcap j) (by rfl) (by rfl) (by rw [Qq.out]; exact World.news_of_block (Zf.out)) Ze.out (by omega) Qj.out Qh.out (Nat.zero_le _) (w5.heap.size) (by simp) ?_; intro gC cC w7 ho hg ha hl; have Qf : Hid (PairR w3 w7 (.slice na j nc) (.slice ca j cc) (.slice (some ⟨gN, 0, none⟩) (j + 1) cN) (.slice (some ⟨gC, 0, none⟩) (j + 1) cC) j c.P c.ma c.s c.mcap p) := hI (by obtain ⟨Wx, h1, h2, h3⟩ := Qo.out; exact pair_nc Qa.out h1 Qn.out h2 h3 bR ho hg (ha.imp id fun e => (by simpa using e))); have hk7t := Qf.out.keeps; obtain ⟨⟨d0, d1⟩, ⟨f0, f1⟩, hql, hbl⟩ := Qd.out w7 hk7t; obtain ⟨e0, e1, e2, e3⟩ := Qc.out w7 hk7t; clear ho hg ha hl hk7t)
       refine hK.out _ _ (heldG.open ⟨e0, e1, e2, e3⟩ ⟨d0, d1⟩) ?_
       clear hK K
       try simp only [Act.put, sA, sZ, sS]
       refine wA (rs := [16]) (by kernel_rfl) (by simp) (AllReadyG.cons (o := ⟨some 54, _, _, _, _, _⟩) rfl (fun K hK => ?_) AllReadyG.nil)
       go_simp
       refine hK.out _ _ (heldG.open ⟨e0, e1, e2, e3⟩ ⟨d0, d1⟩) ?_
       clear hK K
       try simp only [Act.put, sA, sZ, sS]
       refine wA (rs := [17]) (by kernel_rfl) (by simp) (AllReadyG.cons (o := ⟨some 55, _, _, _, _, _⟩) rfl (fun K hK => ?_) AllReadyG.nil)
       go_simp
       refine hK.out _ _ (heldG.open ⟨e0, e1, e2, e3⟩ ⟨d0, d1⟩) ?_
       clear hK K
       try simp only [Act.put, sA, sZ, sS]
       refine wA (rs := [18]) (by kernel_rfl) (by simp) (AllReadyG.cons (o := ⟨none, _, _, _, _, _⟩) rfl (fun K hK => ?_) AllReadyG.nil)
       go_simp
       refine hK.out _ _ (heldG.shut (Qb.out _ _ _ ⟨e0, e1, e2, e3⟩) (by kernel_rfl)) ?_
       clear hK K
       try simp only [Act.put, sA, sZ, sS]
       refine wA (rs := [19]) (by kernel_rfl) (by simp) (AllReadyG.cons (o := ⟨some 56, _, _, _, _, _⟩) rfl (fun K hK => ?_) AllReadyG.nil)
       go_simp
       refine hK.out _ _ (heldG.shut (Qb.out _ _ _ ⟨e0, e1, e2, e3⟩) (by kernel_rfl)) ?_
       clear hK K
       try simp only [Act.put, sA, sZ, sS]
       refine wA (rs := [20]) (by kernel_rfl) (by simp) (AllReadyG.cons (o := ⟨some 57, _, _, _, _, _⟩) rfl (fun K hK => ?_) AllReadyG.nil)
       go_simp
       refine hK.out _ _ (heldG.shut (Qb.out _ _ _ ⟨e0, e1, e2, e3⟩) (by kernel_rfl)) ?_
       clear hK K
       try simp only [Act.put, sA, sZ, sS]
       refine wA (rs := [21]) (by kernel_rfl) (by simp) (AllReadyG.cons (o := ⟨none, _, _, _, _, _⟩) rfl (fun K hK => ?_) AllReadyG.nil)
       go_simp
       refine hK.out _ _ (heldG.shut (Qb.out _ _ _ (Qb.out _ _ _ ⟨e0, e1, e2, e3⟩)) (by kernel_rfl)) ?_
       clear hK K
       try simp only [Act.put, sA, sZ, sS]
       refine wpAnyG_done (by kernel_rfl) ?_ _
       as_aux_lemma =>
        have hmore := Qa.out.more Qf.out (M1 := fun q => M q ∨ F q) (G := F) (y := y) (fun _ h => h) (fun _ h => .inl h) Qv.out (fun q hq hb => by have h2 := HF.out q hq; have h3 := Qw.out q (Qe.out.own q hb); omega) (fun i q hi hq he => by
          obtain ⟨S, hn⟩ := Qe.out.node i hi
          have h2 := HF.out q hq
          have h3 := hn.lt q he
          omega) Za.out (by rw [HJ.out.1]; exact ⟨HY.out, Zb.out⟩)
        rw [Qi.out] at hmore
        go_wp2_with fail
        go_meet
        exact ⟨_, _, _, c.putNode j p F y, HJ.out.1, HJ.out.2.1, HJ.out.2.2.1, HJ.out.2.2.2.1, hmore⟩
     case rest =>
      obtain ⟨M', nv', cv', c', hn⟩ := hcut
      have HNX := hI hn
      clear hn
      go_wp2_with fail
      go_roundw
      case rel => exact ⟨j + 1, M', nv', cv', c', by go_num, by omega, HNX⟩
      case measure => exact k_meas hjk
    ·obtain rfl : j = k := by omega
     have hd := HJ.out.2.2.2.2.done HJ.out.1 h1 h7
     rw [HJ.out.2.1] at hd
     have HD := hI hd
     clear hd
     go_wp2_with fail
     go_ret
     exact HD.out
end Go.Proofs.YtdjooojpcepleaaGreat

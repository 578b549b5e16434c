/- The statement CrontabParts: its walk. -/
import Derived.Test.YtldieadbkaphkaaGreatDoorDueC
import Derived.Test.YtldieadbkaphkaaGreatDoorFew
import Derived.Test.YtldieadbkaphkaaGreatDoorOpenSp
namespace Go.Proofs.YtldieadbkaphkaaGreatDoor
open Go.RowKit Go.ChangeMaps

theorem few_at (w : World) (s : Sp) (a : Option Addr) (n cap : Nat) (h : SpAt w s a n cap) (W : World) (hb : Below w.heap.size w W) :
    Calls Tryz.prog 7 #[.agg #[.string s.name, .string s.ten, .int .i64 s.pri, .int .i64 s.delay, .slice a n cap, .int .i64 s.base, .int .i64 s.cap, .int .i64 s.att, .int .i64 s.lease, .string s.cron, .int .i64 s.catch_]] W (RetB (.bool (fewB s)) W) :=
  few_any W s a n cap ⟨h.wf, h.row.below hb h.row.row_lt⟩
theorem due_at (w : World) (hm : MaxL w) (s : Sp) (a : Option Addr) (n cap : Nat) (h : SpAt w s a n cap) (W : World) (hb : Below w.heap.size w W) (x y : Int) :
    Calls Tryz.prog 8 #[.agg #[.string s.name, .string s.ten, .int .i64 s.pri, .int .i64 s.delay, .slice a n cap, .int .i64 s.base, .int .i64 s.cap, .int .i64 s.att, .int .i64 s.lease, .string s.cron, .int .i64 s.catch_], .int .i64 x, .int .i64 y] W (DueP W (dueF s x y)) :=
  due_any W (hm.step hb) s a n cap ⟨h.wf, h.row.below hb h.row.row_lt⟩ x y

/-- What the three answers are, in plain words. -/
theorem partsF_law (s : Sp) (ht : tmplB s = true) (x : Int) (m n : Nat) (x0 : 0 ≤ x) (x1 : x ≤ 4294967295) (hm : m < 200) (hn : n < 200) :
    ∃ L1 L2 : List Int, L1.length ≤ 200 ∧ L2.length ≤ 200 ∧ dueF s x (x + m) = (L1.take s.catch_.toNat, L1.length - s.catch_.toNat, 0) ∧ dueF s (x + m) (x + m + n) = (L2.take s.catch_.toNat, L2.length - s.catch_.toNat, 0) ∧
      dueF s x (x + m + n) = ((L1 ++ L2).take s.catch_.toNat, (L1 ++ L2).length - s.catch_.toNat, 0) := by
  have hs : ∀ u v : Int, 0 ≤ u → u ≤ v → v ≤ 4294969295 → spansB u v = true := fun u v h1 h2 h3 => by
    unfold spansB rightB
    simp only [Bool.and_eq_true, decide_eq_true_eq]
    omega
  have h1 := due_named (exOf s) s.catch_.toNat m x x0 (by omega) (by omega)
  have h2 := due_named (exOf s) s.catch_.toNat n (x + m) (by omega) (by omega) (by omega)
  have h3 := due_named (exOf s) s.catch_.toNat (m + n) x x0 (by omega) (by omega)
  rw [namedL_add, show x + ((m + n : Nat) : Int) = x + m + n by omega] at h3
  have l1 := namedL_len (exOf s) m x
  have l2 := namedL_len (exOf s) n (x + m)
  refine ⟨namedL (exOf s) x m, namedL (exOf s) (x + m) n, by omega, by omega, ?_, ?_, ?_⟩
  · unfold dueF; rw [if_pos ht, if_pos (hs _ _ (by omega) (by omega) (by omega)), h1.1, h1.2]
  · unfold dueF; rw [if_pos ht, if_pos (hs _ _ (by omega) (by omega) (by omega)), h2.1, h2.2]
  · unfold dueF; rw [if_pos ht, if_pos (hs _ _ (by omega) (by omega) (by omega)), h3.1, h3.2]

theorem two_sl {w5 w6 : World} {o : Obj} {v : Value} {l : List Int} (h : Sl i64v w5 v l) (hg : (w5.alloc o).grownBy w6 (Value.slice (some ⟨w5.heap.size, 0, none⟩) 0 0).ownBlock) : Sl i64v w6 v l :=
  (h.alloc o).kept (S := fun k => k = w5.heap.size) (grown_keeps hg fun k hk => by simpa [Value.ownBlock] using hk) fun k hk e => by have := h.row_lt k hk; omega
theorem two_below {w5 w6 w7 : World} {o : Obj} {v6 : Value} (hg6 : (w5.alloc o).grownBy w6 (Value.slice (some ⟨w5.heap.size, 0, none⟩) 0 0).ownBlock)
    (hr6 : v6.ownBlock = (Value.slice (some ⟨w5.heap.size, 0, none⟩) 0 0).ownBlock ∨ ∃ k, v6.ownBlock = some k ∧ (w5.alloc o).heap.size ≤ k ∧ k < w6.heap.size) (hg7 : w6.grownBy w7 v6.ownBlock) : Below w5.heap.size w5 w7 := by
  have h1 := hg6.size
  have h2 := hg7.size
  simp at h1
  refine ⟨hg7.os.trans hg6.os, hg7.tape.trans hg6.tape, hg7.output.trans hg6.output, by omega, fun k hk => ?_⟩
  have e1 := hg6.block k (by simp; omega) (fun e => by simp [Value.ownBlock] at e; omega)
  have e2 := hg7.block k (by omega) (fun e => by
    rcases hr6 with h | ⟨j, h, h3, _⟩
    · rw [h] at e; simp [Value.ownBlock] at e; omega
    · rw [h] at e; simp at e h3; omega)
  exact e2.trans (e1.trans (Below.heap_alloc w5 o k hk))
theorem two_own {w7 : World} {v7 : Value} {P Q : List Int} (h : w7.ownsRow 0 2 1 v7 (0 + P.length + Q.length) ([] ++ P.map i64v ++ Q.map i64v)) : ∃ a7 ln c7, v7 = .slice a7 ln c7 ∧ ln = (P ++ Q).length ∧ Sl i64v w7 (.slice a7 ln c7) (P ++ Q) := by
  have hs := owns_sl (enc := i64v) (l := P ++ Q) (by simpa using h)
  obtain ⟨a, c, rfl, h1⟩ := hs
  exact ⟨a, _, c, rfl, rfl, a, c, rfl, h1⟩

set_option maxRecDepth 100000 in
set_option maxHeartbeats 8000000 in
theorem parts_walk (w : World) (hm : MaxL w) (s : Sp) (a : Option Addr) (n cap : Nat) (h : SpAt w s a n cap) (x : Int) (x0 : 0 ≤ x) (x1 : x ≤ 4294967295) (p : Int) (p0 : 0 ≤ p) (p1 : p ≤ 255) (q : Int) (q0 : 0 ≤ q) (q1 : q ≤ 255) :
    Calls Tryz.prog 4 #[s.v (.slice a n cap), .int .u32 x, .int .u8 p, .int .u8 q] w (RetB (.bool true) w) := by
  have HL : Hid (∀ W, MaxL W → Calls Tryz.prog 6 #[] W (RetB (.bool true) W)) := Lib.hid lives16
  have HFW := Lib.hid (few_at w s a n cap h)
  have HDU := Lib.hid (due_at w hm s a n cap h)
  have HM := Lib.hid hm
  have HC1 : Hid (tmplB s = true → 1 ≤ s.catch_ ∧ s.catch_ ≤ 16) := Lib.hid fun ht => ⟨(tmpl_is ht).2.2.2.2.1, (tmpl_is ht).2.2.2.2.2.1⟩
  have HP := Lib.hid (fun ht => partsF_law s ht x)
  have HF0 : Hid (tmplB s = false → ∀ u v, dueF s u v = ([], 0, 1)) := Lib.hid fun ht u v => by unfold dueF; rw [ht]; rfl
  have HB0 : Hid (Below w.heap.size w (w.alloc (.cells #[.string s.name, .string s.ten, .int .i64 s.pri, .int .i64 s.delay, .slice a n cap, .int .i64 s.base, .int .i64 s.cap, .int .i64 s.att, .int .i64 s.lease, .string s.cron, .int .i64 s.catch_] 24))) := Lib.hid ((Below.refl _ _).alloc (Nat.le_refl _) _)
  have HX0 := Lib.hid (heap_new w (.cells #[.string s.name, .string s.ten, .int .i64 s.pri, .int .i64 s.delay, .slice a n cap, .int .i64 s.base, .int .i64 s.cap, .int .i64 s.att, .int .i64 s.lease, .string s.cron, .int .i64 s.catch_] 24))
  clear h hm
  unfold Sp.v Sp.cells
  go_enter Tryz.func4, Tryz.ntmps4
  go_wp2_with fail
  refine (HL.out _ (HM.out.step HB0.out)).mono ?_
  rintro en w1 ⟨rfl, hb1⟩
  have HX1 := Lib.hid (bheap hb1 HX0.out (heap_lt HX0.out))
  have HB1 := Lib.hid (HB0.out.trans (hb1.mono HB0.out.size))
  clear hb1 HX0 HB0
  have c0 : w1.cell? ⟨w.heap.size, 0, none⟩ = some (.string s.name) := blk_cell HX1.out 0 rfl
  have c1 : w1.cell? ⟨w.heap.size, 1, none⟩ = some (.string s.ten) := blk_cell HX1.out 1 rfl
  have c2 : w1.cell? ⟨w.heap.size, 2, none⟩ = some (.int .i64 s.pri) := blk_cell HX1.out 2 rfl
  have c3 : w1.cell? ⟨w.heap.size, 3, none⟩ = some (.int .i64 s.delay) := blk_cell HX1.out 3 rfl
  have c4 : w1.cell? ⟨w.heap.size, 4, none⟩ = some (.slice a n cap) := blk_cell HX1.out 4 rfl
  have c5 : w1.cell? ⟨w.heap.size, 5, none⟩ = some (.int .i64 s.base) := blk_cell HX1.out 5 rfl
  have c6 : w1.cell? ⟨w.heap.size, 6, none⟩ = some (.int .i64 s.cap) := blk_cell HX1.out 6 rfl
  have c7 : w1.cell? ⟨w.heap.size, 7, none⟩ = some (.int .i64 s.att) := blk_cell HX1.out 7 rfl
  have c8 : w1.cell? ⟨w.heap.size, 8, none⟩ = some (.int .i64 s.lease) := blk_cell HX1.out 8 rfl
  have c9 : w1.cell? ⟨w.heap.size, 9, none⟩ = some (.string s.cron) := blk_cell HX1.out 9 rfl
  have c10 : w1.cell? ⟨w.heap.size, 10, none⟩ = some (.int .i64 s.catch_) := blk_cell HX1.out 10 rfl
  go_wp2_with fail
  refine (HFW.out _ HB1.out).mono ?_
  rintro en w2 ⟨rfl, hb2⟩
  have HX2 := Lib.hid (bheap hb2 HX1.out (heap_lt HX1.out))
  have HB2 := Lib.hid (HB1.out.trans (hb2.mono HB1.out.size))
  clear hb2 HX1 HB1 HFW c0 c1 c2 c3 c4 c5 c6 c7 c8 c9 c10
  cases hf : fewB s
  · go_wp2_with fail
    refine (HL.out _ (HM.out.step HB2.out)).mono ?_
    rintro en w3 ⟨rfl, hb3⟩
    have HB3 := Lib.hid (HB2.out.trans (hb3.mono HB2.out.size))
    clear hb3
    go_wp2_with fail
    go_ret
    exact RetB.mk rfl HB3.out
  clear hf
  obtain ⟨A, hA, hA2⟩ : ∃ A : Nat, p % 200 = A ∧ A < 200 := ⟨(p % 200).toNat, by omega, by omega⟩
  obtain ⟨B, hB, hB2⟩ : ∃ B : Nat, q % 200 = B ∧ B < 200 := ⟨(q % 200).toNat, by omega, by omega⟩
  have hA' : p.tmod 200 = (A : Int) := by rw [Int.tmod_eq_emod_of_nonneg p0]; exact hA
  have hB' : q.tmod 200 = (B : Int) := by rw [Int.tmod_eq_emod_of_nonneg q0]; exact hB
  clear hA hB
  go_wp2_with (first | (refine wpList_load_all _ rfl _ _ rfl _ rfl _ _ _ _ HX2.out rfl _ Tryz.underlying24 rfl info_spec ?_) | fail)
  cases ht : tmplB s
  · have hd := HF0.out ht
    have HDN : Hid (∀ W, Below w.heap.size w W → ∀ u v : Int, Calls Tryz.prog 8 #[.agg #[.string s.name, .string s.ten, .int .i64 s.pri, .int .i64 s.delay, .slice a n cap, .int .i64 s.base, .int .i64 s.cap, .int .i64 s.att, .int .i64 s.lease, .string s.cron, .int .i64 s.catch_], .int .i64 u, .int .i64 v] W (DueP W ([], 0, 1))) := Lib.hid fun W hW u v => by
      have := HDU.out W hW u v
      rwa [hd] at this
    clear hd ht HDU
    refine (HDN.out _ HB2.out _ _).mono ?_
    rintro en w3 ⟨a3, c3, rfl, hb3, _⟩
    have HX3 := Lib.hid (bheap hb3 HX2.out (heap_lt HX2.out))
    have HB3 := Lib.hid (HB2.out.trans (hb3.mono HB2.out.size))
    clear hb3 HX2 HB2
    simp only [List.length_nil]
    go_wp2_with (first | (refine wpList_load_all _ rfl _ _ rfl _ rfl _ _ _ _ HX3.out rfl _ Tryz.underlying24 rfl info_spec ?_) | fail)
    refine (HDN.out _ HB3.out _ _).mono ?_
    rintro en w4 ⟨a4, c4, rfl, hb4, _⟩
    have HX4 := Lib.hid (bheap hb4 HX3.out (heap_lt HX3.out))
    have HB4 := Lib.hid (HB3.out.trans (hb4.mono HB3.out.size))
    clear hb4 HX3 HB3
    simp only [List.length_nil]
    go_wp2_with (first | (refine wpList_load_all _ rfl _ _ rfl _ rfl _ _ _ _ HX4.out rfl _ Tryz.underlying24 rfl info_spec ?_) | fail)
    refine (HDN.out _ HB4.out _ _).mono ?_
    rintro en w5 ⟨a5, c5, rfl, hb5, _⟩
    have HB5 := Lib.hid (HB4.out.trans (hb5.mono HB4.out.size))
    clear hb5 HX4 HB4
    simp only [List.length_nil]
    go_wp2_with fail
    go_ret
    exact RetB.mk rfl HB5.out
  obtain ⟨L1, L2, hl1, hl2, hd1, hd2, hd3⟩ := HP.out ht A B x0 x1 hA2 hB2
  have hcc := HC1.out ht
  obtain ⟨c, hc⟩ : ∃ c : Nat, s.catch_ = (c : Int) := ⟨s.catch_.toNat, by omega⟩
  have hcn : s.catch_.toNat = c := by omega
  rw [hcn] at hd1 hd2 hd3
  have d1 := Lib.hid (fun W hW => HDU.out W hW x (x + A))
  have d2 := Lib.hid (fun W hW => HDU.out W hW (x + A) (x + A + B))
  have d3 := Lib.hid (fun W hW => HDU.out W hW x (x + A + B))
  rw [hd1] at d1
  rw [hd2] at d2
  rw [hd3] at d3
  have hcat : s.catch_ = (c : Int) := hc
  have F1 : (L1.take c).length + (L1.length - c) + (L2.take c).length + (L2.length - c) = ((L1 ++ L2).take c).length + ((L1 ++ L2).length - c) := by
    simp only [List.length_take, List.length_append]; omega
  have F2 : Hid (∀ i, i < (L1.take c).length → ((L1 ++ L2).take c)[i]? = (L1.take c ++ L2.take c)[i]?) := Lib.hid fun i hi => by
    have hi' : i < c ∧ i < L1.length := by simp only [List.length_take] at hi; omega
    rw [List.getElem?_append_left hi, List.getElem?_take, List.getElem?_take, if_pos hi'.1, List.getElem?_append_left hi'.2, if_pos hi'.1]
  have F3 : ((L1 ++ L2).take c).length = min c ((L1.take c).length + (L1.length - c) + (L2.take c).length + (L2.length - c)) := by
    simp only [List.length_take, List.length_append]; omega
  have b1 : (L1.take c).length ≤ 16 := by simp only [List.length_take]; omega
  have b2 : (L2.take c).length ≤ 16 := by simp only [List.length_take]; omega
  have b3 : ((L1 ++ L2).take c).length ≤ 16 := by simp only [List.length_take]; omega
  have m1 : L1.length - c ≤ 200 := by omega
  have m2 : L2.length - c ≤ 200 := by omega
  have m3 : (L1 ++ L2).length - c ≤ 400 := by simp only [List.length_append]; omega
  clear hd1 hd2 hd3 hl1 hl2 HDU HP HF0 HC1 ht hcn hc
  generalize L1.take c = P at *
  generalize L2.take c = Q at *
  generalize (L1 ++ L2).take c = R at *
  generalize L1.length - c = k1 at *
  generalize L2.length - c = k2 at *
  generalize (L1 ++ L2).length - c = k3 at *
  have HCAT := Lib.hid hcat
  have G1 := Lib.hid F1
  have G3 := Lib.hid F3
  have HCC := Lib.hid hcc
  clear hcat F1 F3 hcc
  refine (d1.out _ HB2.out).mono ?_
  rintro en w3 ⟨a3, c3, rfl, hb3, hs3⟩
  have HX3 := Lib.hid (bheap hb3 HX2.out (heap_lt HX2.out))
  have HB3 := Lib.hid (HB2.out.trans (hb3.mono HB2.out.size))
  have HS3 := Lib.hid hs3
  clear hb3 HX2 HB2 hs3 d1
  simp only
  go_wp2_with (first | (refine wpList_load_all _ rfl _ _ rfl _ rfl _ _ _ _ HX3.out rfl _ Tryz.underlying24 rfl info_spec ?_) | fail)
  refine (d2.out _ HB3.out).mono ?_
  rintro en w4 ⟨a4, c4, rfl, hb4, hs4⟩
  have HX4 := Lib.hid (bheap hb4 HX3.out (heap_lt HX3.out))
  have HB4 := Lib.hid (HB3.out.trans (hb4.mono HB3.out.size))
  have HS4 := Lib.hid hs4
  have HS3' := Lib.hid (HS3.out.below hb4 HS3.out.row_lt)
  clear hb4 HX3 HB3 hs4 HS3 d2
  simp only
  go_wp2_with (first | (refine wpList_load_all _ rfl _ _ rfl _ rfl _ _ _ _ HX4.out rfl _ Tryz.underlying24 rfl info_spec ?_) | fail)
  refine (d3.out _ HB4.out).mono ?_
  rintro en w5 ⟨a5, c5, rfl, hb5, hs5⟩
  have HX5 := Lib.hid (bheap hb5 HX4.out (heap_lt HX4.out))
  have HB5 := Lib.hid (HB4.out.trans (hb5.mono HB4.out.size))
  have HS5 := Lib.hid hs5
  have HSP := Lib.hid (HS3'.out.below hb5 HS3'.out.row_lt)
  have HSQ := Lib.hid (HS4.out.below hb5 HS4.out.row_lt)
  clear hb5 HX4 HB4 hs5 HS4 HS3' d3
  simp only
  obtain ⟨mn, hmn⟩ : ∃ mn : Nat, mn = min R.length P.length := ⟨_, rfl⟩
  have hmnI : min (R.length : Int) (P.length : Int) = (mn : Int) := by omega
  have HMN := Lib.hid hmn
  clear hmn
  have hsum : (P.length : Int) + (k1 : Int) + (Q.length : Int) + (k2 : Int) = (R.length : Int) + (k3 : Int) := by have := G1.out; omega
  obtain ⟨i0, hi, hz0, hz1, hz2⟩ := info64_parts
  have HO5 : Hid ((w5.alloc (.cells #[] 2)).ownsRow 0 2 1 (.slice (some ⟨w5.heap.size, 0, none⟩) 0 0) 0 []) := Lib.hid ⟨rfl, .inr ⟨w5.heap.size, 0, #[], rfl, Nat.zero_le _, heap_new _ _, Nat.le_refl _, Nat.zero_le _, rfl, rfl⟩⟩
  have HQL : Hid (0 + P.length ≤ maxLen ∧ (0 + P.length) * 8 ≤ 140737488355328 ∧ 0 + P.length + Q.length ≤ maxLen ∧ (0 + P.length + Q.length) * 8 ≤ 140737488355328) := Lib.hid (by unfold maxLen; omega)
  have HXA : Hid ((w5.alloc (.cells #[] 2)).heap[w.heap.size]? = some (.cells #[.string s.name, .string s.ten, .int .i64 s.pri, .int .i64 s.delay, .slice a n cap, .int .i64 s.base, .int .i64 s.cap, .int .i64 s.att, .int .i64 s.lease, .string s.cron, .int .i64 s.catch_] 24)) := Lib.hid (aheap HX5.out _)
  have HBA : Hid (Below w.heap.size w (w5.alloc (.cells #[] 2))) := Lib.hid (HB5.out.alloc HB5.out.size _)
  have HLS : Hid (w5.heap.size = w5.heap.size) := Lib.hid rfl
  go_wp2_with (first
    | (at_builtin; refine wpList_append_sl (w5.alloc (.cells #[] 2)) rfl _ _ _ rfl 2 i0 (.int .i64 0) 8 Tryz.underlying27 hi hz0 hz1 hz2 rfl _ 0 [] rfl HO5.out _ P rfl (HSP.out.alloc _) (fun c => rfl) HQL.out.1 HQL.out.2.1 ?_; intro v6 w6 hown6 hg6 hr6; have HO6 := Lib.hid hown6; have HG6 := Lib.hid hg6; have HR6 := Lib.hid hr6; clear hown6 hg6 hr6)
    | (at_builtin; refine wpList_append_sl w6 rfl _ _ _ rfl 2 i0 (.int .i64 0) 8 Tryz.underlying27 hi hz0 hz1 hz2 rfl v6 (0 + P.length) ([] ++ P.map i64v) rfl HO6.out _ Q rfl (two_sl HSQ.out HG6.out) (fun c => rfl) HQL.out.2.2.1 HQL.out.2.2.2 ?_; intro v7 w7 hown7 hg7 hr7; have HO7 := Lib.hid hown7; have HG7 := Lib.hid hg7; obtain ⟨a7, ln, c7, hv7, hln, h7⟩ := two_own hown7; subst hv7; have HS7 := Lib.hid h7; have HLN := Lib.hid hln; clear hown7 hg7 hr7 h7 hln))
  have hb7 := two_below HG6.out HR6.out HG7.out
  have HB7 := Lib.hid (HB5.out.trans (hb7.mono HB5.out.size))
  have HX7 := Lib.hid (bheap hb7 HX5.out (heap_lt HX5.out))
  have HSR := Lib.hid (HS5.out.below hb7 HS5.out.row_lt)
  clear hb7 HX5 HXA HBA HSP HSQ HS5 HO5 HO6 HO7 HG6 HG7 HR6 HQL hi hz0 hz1 hz2 hsum i0 HLS
  go_loopw [113] (fun i wr => ∃ (k nq : Nat), k ≤ mn ∧ i = .int .i64 k ∧ wr = w7.drewN nq) (fun i _ => mn - (intOf i).toNat)
  case atStart => exact ⟨0, 0, by omega, rfl, rfl⟩
  case round =>
    obtain ⟨k, nq, hk, rfl, rfl⟩ := hrel
    by_cases hlt : k < mn
    · have hkR : k < R.length := by have := HMN.out; omega
      have hkP : k < P.length := by have := HMN.out; omega
      obtain ⟨zk, hz⟩ : ∃ zk, R[k]? = some zk := ⟨_, List.getElem?_eq_getElem hkR⟩
      have hz2 : (P ++ Q)[k]? = some zk := by rw [← F2.out k hkP, hz]
      have hkA : k < ln := by rw [HLN.out]; simp; omega
      obtain ⟨aR, cR, heR, hleR, _, h3R⟩ := HSR.out
      injection heR with e1 e2 e3
      subst e1 e3
      obtain ⟨aA, cA, heA, hleA, _, h3A⟩ := HS7.out
      injection heA with e1 e2 e3
      subst e1 e3
      clear e2
      rcases h3R with ⟨rfl, rfl⟩ | ⟨bR, oR, rfl, hbR, hcR⟩
      · omega
      rcases h3A with ⟨rfl, rfl⟩ | ⟨bA, oA, rfl, hbA, hcA⟩
      · have := HLN.out; omega
      have cR : w7.cell? ⟨bR, oR + k, none⟩ = some (.int .i64 zk) := hcR k zk hz
      have cA : w7.cell? ⟨bA, oA + k, none⟩ = some (.int .i64 zk) := hcA k zk hz2
      clear hcR hcA hz hz2 hleR hleA hbR hbA
      go_wp2_with fail
      go_quiet (fail)
      have HMN' := Lib.hid hkA
      go_wp2_with fail
      go_round
      case rel => exact ⟨k + 1, _, by omega, by go_num, rfl⟩
      case measure => simp [intOf]; omega
    · have hke : k = mn := by omega
      subst hke
      have c10 : (w7.drewN nq).cell? ⟨w.heap.size, 10, none⟩ = some (.int .i64 s.catch_) := blk_cell HX7.out 10 rfl
      have hfin : min s.catch_ ((P.length : Int) + (k1 : Int) + (Q.length : Int) + (k2 : Int)) = (R.length : Int) := by have h1 := HCAT.out; have h2 := G3.out; omega
      go_wp2_with fail
      go_ret
      exact RetB.mk (by first | rfl | simp [hfin]) (bel_drewN HB7.out _)

/-- In the form that the card asks. -/
theorem parts_card (W : World) (hm : MaxL W) (s : Sp) (b : Option Addr) (n cap : Nat) (x p q : Int) (h : SpAt W s b n cap) (hx : (Lit.int .u32 x).wf = true) (hp : (Lit.int .u8 p).wf = true) (hq : (Lit.int .u8 q).wf = true) :
    Calls Tryz.prog 4 #[s.v (.slice b n cap), .int .u32 x, .int .u8 p, .int .u8 q] W (RetB (.bool true) W) := by
  simp [Lit.wf, IntKind.min, IntKind.max, IntKind.bits, IntKind.signed] at hx hp hq
  exact parts_walk W hm s b n cap h x (by omega) (by omega) p (by omega) (by omega) q (by omega) (by omega)

end Go.Proofs.YtldieadbkaphkaaGreatDoor

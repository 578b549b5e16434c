/- The statement CrontabDue: its walk. -/
import Derived.Test.YtldieadbkaphkaaGreatDoorPartC
import Derived.Test.YtldieadbkaphkaaGreatDoorRefC
import Derived.Test.YtldieadbkaphkaaGreatDoorMomW
namespace Go.Proofs.YtldieadbkaphkaaGreatDoor
open Go.RowKit Go.ChangeMaps

theorem namedL_last (e : Ex) (x : Int) (j : Nat) : namedL e x (j + 1) = namedL e x j ++ (if atB e (x + j + 1) = true then [x + j + 1] else []) := by
  rw [namedL_add]
  simp [namedL]
theorem namedL_pre (e : Ex) (x : Int) {i j : Nat} (h : i ≤ j) : ∃ r, namedL e x j = namedL e x i ++ r :=
  ⟨namedL e (x + i) (j - i), by rw [← namedL_add, Nat.add_sub_cancel' h]⟩
theorem refCheck_at (w : World) (s : Sp) (a : Option Addr) (n cap : Nat) (h : SpAt w s a n cap) (hf : fewB s = true) (W : World) (hb : Below w.heap.size w W) :
    Calls Tryz.prog 9 #[.agg #[.string s.name, .string s.ten, .int .i64 s.pri, .int .i64 s.delay, .slice a n cap, .int .i64 s.base, .int .i64 s.cap, .int .i64 s.att, .int .i64 s.lease, .string s.cron, .int .i64 s.catch_]] W (RetB (.int .i64 (checkF s)) W) :=
  refCheck_any W s a n cap ⟨h.wf, h.row.below hb h.row.row_lt⟩ hf
theorem tmpl_no {s : Sp} (h : tmplB s = false) : checkF s ≠ 0 ∨ s.cron.size = 0 := by
  unfold tmplB at h
  by_cases h1 : s.cron.size = 0
  · exact .inr h1
  · left
    intro h2
    rw [h2, decide_eq_true h1] at h
    simp at h
theorem tmpl_yes {s : Sp} (h : tmplB s = true) : checkF s = 0 ∧ s.cron.size ≠ 0 := by
  unfold tmplB at h
  simp only [Bool.and_eq_true, decide_eq_true_eq] at h
  exact ⟨h.2, h.1⟩

/-- How many of the first so many ticks are named, and where the last of them stands. -/
theorem namedP (e : Ex) (x : Int) (N : Nat) : ∃ P : Nat → Nat, P 0 = 0 ∧ P N = (namedL e x N).length ∧ (∀ j, P j ≤ j) ∧ (∀ j : Nat, atB e (x + j + 1) = false → P (j + 1) = P j) ∧
    (∀ j : Nat, j < N → atB e (x + j + 1) = true → P (j + 1) = P j + 1 ∧ (namedL e x N)[P j]? = some (x + j + 1)) := by
  refine ⟨fun j => (namedL e x j).length, rfl, rfl, fun j => namedL_len e j x, fun j h => ?_, fun j hj h => ?_⟩
  · show (namedL e x (j + 1)).length = (namedL e x j).length
    rw [namedL_last, if_neg (by rw [h]; decide), List.append_nil]
  · have h1 := namedL_last e x j
    rw [if_pos h] at h1
    refine ⟨?_, ?_⟩
    · show (namedL e x (j + 1)).length = (namedL e x j).length + 1
      rw [h1, List.length_append]; rfl
    · obtain ⟨r, hr⟩ := namedL_pre e x (show j + 1 ≤ N by omega)
      show (namedL e x N)[(namedL e x j).length]? = some (x + j + 1)
      rw [hr, h1, List.append_assoc, List.getElem?_append_right (Nat.le_refl _), Nat.sub_self]; rfl
theorem cron_parse (s : Bs) (h : (cronF s).2 = 0) : (parseF s).2 = 0 ∧ (cronF s).1 = exF s := by
  unfold cronF at *
  by_cases h0 : (parseF s).2 = 0
  · rw [if_pos h0]; exact ⟨h0, rfl⟩
  · rw [if_neg h0] at h; exact absurd h h0
/-- The times, case by case. -/
theorem due_cases {x y : Int} (big : ¬ (0 ≤ x ∧ y ≤ 1099511627776 ∧ x < y ∧ 4000 < y - x)) : x < 0 ∨ (0 ≤ x ∧ 1099511627776 < y) ∨ (0 ≤ x ∧ y ≤ 1099511627776 ∧ ¬ x < y) ∨ (0 ≤ x ∧ y ≤ 1099511627776 ∧ x < y ∧ ¬ 4000 < y - x) := by omega
theorem bad_cases {x y : Int} (hs : spansB x y = false) : x < 0 ∨ (0 ≤ x ∧ 1099511627776 < x ∧ 1099511627776 < y) ∨ (0 ≤ x ∧ x ≤ 1099511627776 ∧ 1099511627776 < y ∧ ¬ y < x) ∨ (0 ≤ x ∧ y ≤ 1099511627776 ∧ 1099511627776 < x ∧ ¬ x < y) ∨ (0 ≤ x ∧ x ≤ 1099511627776 ∧ y ≤ 1099511627776 ∧ y < x ∧ ¬ x < y) := by
  unfold spansB rightB at hs
  by_cases h1 : 0 ≤ x <;> by_cases h2 : x ≤ 1099511627776 <;> by_cases h3 : 0 ≤ y <;> by_cases h4 : y ≤ 1099511627776 <;> by_cases h5 : x ≤ y <;> simp [h1, h2, h3, h4, h5] at hs <;> omega
theorem span_cases {x y : Int} (hs : spansB x y = true) : 0 ≤ x ∧ x ≤ 1099511627776 ∧ 0 ≤ y ∧ y ≤ 1099511627776 ∧ x ≤ y := by
  unfold spansB rightB at hs
  simp only [Bool.and_eq_true, decide_eq_true_eq] at hs
  omega

set_option maxRecDepth 100000 in
set_option maxHeartbeats 16000000 in
theorem dueD_walk (w : World) (hm : MaxL w) (s : Sp) (a : Option Addr) (n cap : Nat) (h : SpAt w s a n cap) (x : Int) (x0 : -9223372036854775808 ≤ x) (x1 : x ≤ 9223372036854775807) (y : Int) (y0 : -9223372036854775808 ≤ y) (y1 : y ≤ 9223372036854775807) :
    Calls Tryz.prog 3 #[s.v (.slice a n cap), .int .i64 x, .int .i64 y] w (RetB (.bool true) w) := by
  have HL : Hid (∀ W, MaxL W → Calls Tryz.prog 6 #[] W (RetB (.bool true) W)) := Lib.hid lives16
  have HFW := Lib.hid (few_at w s a n cap h)
  have HDU := Lib.hid (fun W hW => due_at w hm s a n cap h W hW x y)
  have HCK := Lib.hid (refCheck_at w s a n cap h)
  have HM := Lib.hid hm
  have HT0 : Hid (tmplB s = false → dueF s x y = ([], 0, 1)) := Lib.hid fun ht => by unfold dueF; rw [ht]; rfl
  have HT1 : Hid (tmplB s = true → spansB x y = false → dueF s x y = ([], 0, 3)) := Lib.hid fun ht hs => by unfold dueF; rw [if_pos ht, hs]; rfl
  have HT2 : Hid (tmplB s = true → spansB x y = true → dueF s x y = (dueT (exOf s) s.catch_.toNat x y, dueM (exOf s) s.catch_.toNat x y, 0)) := Lib.hid fun ht hs => by unfold dueF; rw [if_pos ht, if_pos hs]
  have HB0 : Hid (Below w.heap.size w (w.alloc (.cells #[.string s.name, .string s.ten, .int .i64 s.pri, .int .i64 s.delay, .slice a n cap, .int .i64 s.base, .int .i64 s.cap, .int .i64 s.att, .int .i64 s.lease, .string s.cron, .int .i64 s.catch_] 24))) := Lib.hid ((Below.refl _ _).alloc (Nat.le_refl _) _)
  have HX0 := Lib.hid (heap_new w (.cells #[.string s.name, .string s.ten, .int .i64 s.pri, .int .i64 s.delay, .slice a n cap, .int .i64 s.base, .int .i64 s.cap, .int .i64 s.att, .int .i64 s.lease, .string s.cron, .int .i64 s.catch_] 24))
  clear h hm
  unfold Sp.v Sp.cells
  go_enter Tryz.func3, Tryz.ntmps3
  go_wp2_with fail
  refine (HL.out _ (HM.out.step HB0.out)).mono ?_
  rintro en w1 ⟨rfl, hb1⟩
  have HX1 := Lib.hid (bheap hb1 HX0.out (heap_lt HX0.out))
  have HB1 := Lib.hid (HB0.out.trans (hb1.mono HB0.out.size))
  clear hb1 HX0 HB0
  have c0 : w1.cell? ⟨w.heap.size, 0, none⟩ = some (.string s.name) := blk_cell HX1.out 0 rfl
  have c1 : w1.cell? ⟨w.heap.size, 1, none⟩ = some (.string s.ten) := blk_cell HX1.out 1 rfl
  have c2 : w1.cell? ⟨w.heap.size, 2, none⟩ = some (.int .i64 s.pri) := blk_cell HX1.out 2 rfl
  have c3 : w1.cell? ⟨w.heap.size, 3, none⟩ = some (.int .i64 s.delay) := blk_cell HX1.out 3 rfl
  have c4 : w1.cell? ⟨w.heap.size, 4, none⟩ = some (.slice a n cap) := blk_cell HX1.out 4 rfl
  have c5 : w1.cell? ⟨w.heap.size, 5, none⟩ = some (.int .i64 s.base) := blk_cell HX1.out 5 rfl
  have c6 : w1.cell? ⟨w.heap.size, 6, none⟩ = some (.int .i64 s.cap) := blk_cell HX1.out 6 rfl
  have c7 : w1.cell? ⟨w.heap.size, 7, none⟩ = some (.int .i64 s.att) := blk_cell HX1.out 7 rfl
  have c8 : w1.cell? ⟨w.heap.size, 8, none⟩ = some (.int .i64 s.lease) := blk_cell HX1.out 8 rfl
  have c9 : w1.cell? ⟨w.heap.size, 9, none⟩ = some (.string s.cron) := blk_cell HX1.out 9 rfl
  have c10 : w1.cell? ⟨w.heap.size, 10, none⟩ = some (.int .i64 s.catch_) := blk_cell HX1.out 10 rfl
  go_wp2_with fail
  refine (HFW.out _ HB1.out).mono ?_
  rintro en w2 ⟨rfl, hb2⟩
  have HX2 := Lib.hid (bheap hb2 HX1.out (heap_lt HX1.out))
  have HB2 := Lib.hid (HB1.out.trans (hb2.mono HB1.out.size))
  clear hb2 HX1 HB1 HFW c0 c1 c2 c3 c4 c5 c6 c7 c8 c9 c10
  cases hf : fewB s
  · go_wp2_with fail
    refine (HL.out _ (HM.out.step HB2.out)).mono ?_
    rintro en w3 ⟨rfl, hb3⟩
    have HB3 := Lib.hid (HB2.out.trans (hb3.mono HB2.out.size))
    clear hb3
    go_wp2_with fail
    go_ret
    exact RetB.mk rfl HB3.out
  have HCH := Lib.hid (HCK.out hf)
  clear hf HL HCK
  have HDP := Lib.hid (HDU.out w2 HB2.out)
  clear HDU
  by_cases big : 0 ≤ x ∧ y ≤ 1099511627776 ∧ x < y ∧ 4000 < y - x
  · obtain ⟨g1, g2, g3, g4⟩ := big
    have hw : IntKind.i64.wrap (y - x) = y - x := by rw [IntKind.wrap_i64]; omega
    go_wp2_with fail
    go_ret
    exact RetB.mk rfl HB2.out
  have HZ := Lib.hid (due_cases big)
  clear big
  cases ht : tmplB s
  · have hd := HT0.out ht
    have HNO := Lib.hid (tmpl_no ht)
    have hdp := HDP.out
    rw [hd] at hdp
    clear hd ht HDP HT0 HT1 HT2
    rcases HZ.out with z1 | ⟨z1, z2⟩ | ⟨z1, z2, z3⟩ | ⟨z1, z2, z3, z4⟩
    all_goals
      try have hw : IntKind.i64.wrap (y - x) = y - x := by rw [IntKind.wrap_i64]; omega
      clear HZ
      go_wp2_with (first | (refine wpList_load_all _ rfl _ _ rfl _ rfl _ _ _ _ HX2.out rfl _ Tryz.underlying24 rfl info_spec ?_) | fail)
      refine hdp.mono ?_
      rintro en w3 ⟨a3, c3, rfl, hb3, _⟩
      have HX3 := Lib.hid (bheap hb3 HX2.out (heap_lt HX2.out))
      have HB3 := Lib.hid (HB2.out.trans (hb3.mono HB2.out.size))
      clear hb3
      simp only [List.length_nil]
      go_wp2_with (first | (refine wpList_load_all _ rfl _ _ rfl _ rfl _ _ _ _ HX3.out rfl _ Tryz.underlying24 rfl info_spec ?_) | fail)
      have hch := HCH.out _ HB3.out
      by_cases ck : checkF s = 0
      · have hz : s.cron.size = 0 := (HNO.out).resolve_left (fun h => h ck)
        have e9 := empty_yes hz
        have e9' : s.cron.toList.isEmpty = true := by rw [e9]; rfl
        rw [ck] at hch
        clear ck hz
        refine hch.mono ?_
        rintro en w4 ⟨rfl, hb4⟩
        have HX4 := Lib.hid (bheap hb4 HX3.out (heap_lt HX3.out))
        have HB4 := Lib.hid (HB3.out.trans (hb4.mono HB3.out.size))
        have c9 : w4.cell? ⟨w.heap.size, 9, none⟩ = some (.string s.cron) := blk_cell HX4.out 9 rfl
        clear hb4
        go_wp2_with fail
        go_ret
        exact RetB.mk rfl HB4.out
      · generalize checkF s = r at *
        have ckb : (r == 0) = false := by simp [ck]
        refine hch.mono ?_
        rintro en w4 ⟨rfl, hb4⟩
        have HB4 := Lib.hid (HB3.out.trans (hb4.mono HB3.out.size))
        clear hb4
        go_wp2_with fail
        go_ret
        exact RetB.mk rfl HB4.out
  have hty := tmpl_yes ht
  have hck := HCH.out
  rw [hty.1] at hck
  have HCQ := Lib.hid hck
  clear hck HCH
  have e9 := empty_no hty.2
  have e9' : s.cron.toList.isEmpty = false := by simpa using e9
  cases hs : spansB x y
  · have hdp := HDP.out
    rw [HT1.out ht hs] at hdp
    have HQ := Lib.hid (bad_cases hs)
    clear hty hs ht HDP HT0 HT1 HT2 HZ
    rcases HQ.out with z1 | ⟨z1, z2, z3⟩ | ⟨z1, z2, z3, z4⟩ | ⟨z1, z2, z3, z4⟩ | ⟨z1, z2, z3, z4, z5⟩
    all_goals
      clear HQ
      go_wp2_with (first | (refine wpList_load_all _ rfl _ _ rfl _ rfl _ _ _ _ HX2.out rfl _ Tryz.underlying24 rfl info_spec ?_) | fail)
      refine hdp.mono ?_
      rintro en w3 ⟨a3, c3, rfl, hb3, _⟩
      have HX3 := Lib.hid (bheap hb3 HX2.out (heap_lt HX2.out))
      have HB3 := Lib.hid (HB2.out.trans (hb3.mono HB2.out.size))
      clear hb3
      simp only [List.length_nil]
      go_wp2_with (first | (refine wpList_load_all _ rfl _ _ rfl _ rfl _ _ _ _ HX3.out rfl _ Tryz.underlying24 rfl info_spec ?_) | fail)
      refine (HCQ.out _ HB3.out).mono ?_
      rintro en w4 ⟨rfl, hb4⟩
      have HX4 := Lib.hid (bheap hb4 HX3.out (heap_lt HX3.out))
      have HB4 := Lib.hid (HB3.out.trans (hb4.mono HB3.out.size))
      clear hb4
      have c9 : w4.cell? ⟨w.heap.size, 9, none⟩ = some (.string s.cron) := blk_cell HX4.out 9 rfl
      go_wp2_with fail
      go_ret
      exact RetB.mk rfl HB4.out
  obtain ⟨x2, x3, y2, y3, xy⟩ := span_cases hs
  have htm := tmpl_is ht
  obtain ⟨c, hc⟩ : ∃ c : Nat, s.catch_ = (c : Int) := ⟨s.catch_.toNat, by have := htm.2.2.2.2.1; omega⟩
  have HC := Lib.hid hc
  have HC16 : Hid (c ≤ 16) := Lib.hid (by have := htm.2.2.2.2.2.1; omega)
  obtain ⟨N, hN⟩ : ∃ N : Nat, y = x + N := ⟨(y - x).toNat, by omega⟩
  have HN := Lib.hid hN
  have HN4 : Hid (N ≤ 4000) := Lib.hid (by have := HZ.out; omega)
  obtain ⟨P, p0, pN, pj, pf, pt⟩ := namedP (exOf s) x N
  have hdn := due_named (exOf s) c N x x2 (by omega) (by have := HN4.out; omega)
  have hcp := cron_parse (bsOf s.cron) htm.2.2.2.1
  have HPA : Hid (∀ W, Calls Tryz.prog 10 #[.string s.cron] W (fun e w' => ∃ v l, e = .returned (.tuple #[v, l, .int .i64 0]) ∧ RefAt w' v l (refV (bsOf s.cron)) (splitL 32 (bsOf s.cron)) ∧ Below W.heap.size W w')) := Lib.hid fun W => by
    have := refParse_ok W (bsOf s.cron) hcp.1
    rwa [bs_back] at this
  have HMO : Hid (∀ W (t : Int), 0 ≤ t → t ≤ 1099511627776 → Calls Tryz.prog 12 #[.int .i64 t] W (RetB (momF t).v W)) := Lib.hid refMoment_any
  have HNA : Hid (∀ W (v l : Value) (t : Int), 0 ≤ t → t ≤ 1099511627776 → RefAt W v l (refV (bsOf s.cron)) (splitL 32 (bsOf s.cron)) → Calls Tryz.prog 11 #[v, l, (momF t).v] W (RetB (.bool (atB (exOf s) t)) W)) := Lib.hid fun W v l t t0 t1 hr => by
    obtain ⟨m1, m2, d1, d2, w1, w2, h1, h2, i1, i2⟩ := mom_range t0
    have := named_any W v l _ _ (momF t) hr (by omega) (by omega) (by omega) (by omega) (by omega)
    rw [named_at hcp.1 t0 t1, ← hcp.2] at this
    exact this
  obtain ⟨T, hT⟩ : ∃ T, T = (namedL (exOf s) x N).take c := ⟨_, rfl⟩
  have hd := HT2.out ht hs
  rw [show s.catch_.toNat = c by omega, hN, hdn.1, hdn.2, ← hT, ← pN] at hd
  have hdp := HDP.out
  rw [hN, hd, ← hN] at hdp
  have HPF := Lib.hid pf
  have HPT : Hid (∀ j : Nat, j < N → atB (exOf s) (x + j + 1) = true → P (j + 1) = P j + 1 ∧ (P j < c → T[P j]? = some (x + j + 1))) := Lib.hid fun j hj h => ⟨(pt j hj h).1, fun hlt => by rw [hT, List.getElem?_take, if_pos hlt]; exact (pt j hj h).2⟩
  have HTL : Hid (T.length = min c (P N)) := Lib.hid (by rw [hT, List.length_take, pN])
  have HP0 := Lib.hid p0
  have HPJ := Lib.hid pj
  generalize exOf s = E at *
  generalize refV (bsOf s.cron) = V at *
  generalize splitL 32 (bsOf s.cron) = LF at *
  have HXX : Hid (0 ≤ x ∧ x ≤ 1099511627776 ∧ y ≤ 1099511627776 ∧ x ≤ y) := Lib.hid ⟨x2, x3, y3, xy⟩
  obtain ⟨ln, hln⟩ : ∃ ln, ln = T.length := ⟨_, rfl⟩
  obtain ⟨mi, hmi⟩ : ∃ mi, mi = P N - c := ⟨_, rfl⟩
  have HLN := Lib.hid hln
  have HMI := Lib.hid hmi
  have HDQ : Hid (Calls Tryz.prog 8 #[.agg #[.string s.name, .string s.ten, .int .i64 s.pri, .int .i64 s.delay, .slice a n cap, .int .i64 s.base, .int .i64 s.cap, .int .i64 s.att, .int .i64 s.lease, .string s.cron, .int .i64 s.catch_], .int .i64 x, .int .i64 y] w2 (fun en w' => ∃ a3 c3, en = .returned (.tuple #[.slice a3 ln c3, .int .i64 (mi : Int), .int .i64 0]) ∧ Below w2.heap.size w2 w' ∧ Sl i64v w' (.slice a3 ln c3) T)) := Lib.hid (by
    refine hdp.mono ?_
    rintro en w' ⟨a3, c3, rfl, hb, hsl⟩
    subst hln hmi
    exact ⟨a3, c3, rfl, hb, hsl⟩)
  clear hty htm hc hN pN p0 pj pf pt hdn hcp hT hd hdp hln hmi HDP HT0 HT1 HT2 ht hs
  have hdq := HDQ.out
  clear HDQ
  have z2 : x ≤ 1099511627776 := HXX.out.2.1
  have z0 : 0 ≤ x := HXX.out.1
  have z3 : y ≤ 1099511627776 := HXX.out.2.2.1
  have z5 : ¬ y < x := by have := HXX.out.2.2.2; omega
  by_cases z4 : x < y
  case' pos =>
    have hw : IntKind.i64.wrap (y - x) = y - x := by rw [IntKind.wrap_i64]; omega
    have z6 : ¬ 4000 < y - x := by have h1 := HN.out; have h2 := HN4.out; omega
  all_goals
    clear HZ x2 x3 y2 y3 xy
    go_wp2_with (first | (refine wpList_load_all _ rfl _ _ rfl _ rfl _ _ _ _ HX2.out rfl _ Tryz.underlying24 rfl info_spec ?_) | fail)
    refine hdq.mono ?_
    rintro en w3 ⟨a3, c3, rfl, hb3, hsl3⟩
    have HX3 := Lib.hid (bheap hb3 HX2.out (heap_lt HX2.out))
    have HB3 := Lib.hid (HB2.out.trans (hb3.mono HB2.out.size))
    have HS3 := Lib.hid hsl3
    clear hb3 hsl3 hdq
    go_wp2_with (first | (refine wpList_load_all _ rfl _ _ rfl _ rfl _ _ _ _ HX3.out rfl _ Tryz.underlying24 rfl info_spec ?_) | fail)
    refine (HCQ.out _ HB3.out).mono ?_
    rintro en w4 ⟨rfl, hb4⟩
    have HX4 := Lib.hid (bheap hb4 HX3.out (heap_lt HX3.out))
    have HB4 := Lib.hid (HB3.out.trans (hb4.mono HB3.out.size))
    have HS4 := Lib.hid (HS3.out.below hb4 HS3.out.row_lt)
    clear hb4 HS3 HX3 HB3 HCQ HX2 HB2
    have c9 : w4.cell? ⟨w.heap.size, 9, none⟩ = some (.string s.cron) := blk_cell HX4.out 9 rfl
    go_wp2_with fail
    refine (HPA.out _).mono ?_
    rintro en w5 ⟨v, l, rfl, hr5, hb5⟩
    have HX5 := Lib.hid (bheap hb5 HX4.out (heap_lt HX4.out))
    have HB5 := Lib.hid (HB4.out.trans (hb5.mono HB4.out.size))
    have HS5 := Lib.hid (HS4.out.below hb5 HS4.out.row_lt)
    have HR5 := Lib.hid hr5
    clear hb5 hr5 HS4 HX4 HB4 c9 e9 e9' HPA
    have hwx : IntKind.i64.wrap (x + 1) = x + 1 := by rw [IntKind.wrap_i64]; omega
    clear z4
    go_wp2_with fail
    go_loopw [13, 14, 15] (fun kv mv tv wr => ∃ (j k m : Nat) (u : Int), j ≤ N ∧ kv = .int .i64 k ∧ mv = .int .i64 m ∧ tv = .int .i64 u ∧ u = x + j + 1 ∧ k = min c (P j) ∧ m = P j - c ∧ Below w5.heap.size w5 wr) (fun _ _ tv _ => (y + 1 - intOf tv).toNat)
    case atStart => exact ⟨0, 0, 0, x + 1, by omega, rfl, rfl, rfl, by omega, by rw [HP0.out]; omega, by rw [HP0.out]; omega, Below.refl _ _⟩
    case round =>
      obtain ⟨j, k, m, u, hj, rfl, rfl, rfl, hu, hk, hm, hbw⟩ := hrel
      have HU := Lib.hid hu
      have HK := Lib.hid hk
      have HMM := Lib.hid hm
      have HBW := Lib.hid hbw
      have HJ := Lib.hid hj
      have HPJJ := Lib.hid (HPJ.out j)
      have HXW := Lib.hid (bheap hbw HX5.out (heap_lt HX5.out))
      have u0 : 0 ≤ u := by omega
      have u1 : u ≤ 1099511627777 := by have := HN.out; omega
      have k1 : k ≤ 16 := by have := HC16.out; omega
      have m1 : m ≤ 4000 := by have := HN4.out; have := HPJJ.out; omega
      by_cases hlt : u ≤ y
      · have HJL : Hid (j < N) := Lib.hid (by have := HN.out; omega)
        have HMU := Lib.hid fun W => HMO.out W u u0 (by omega)
        have HNU := Lib.hid fun W hr => HNA.out W v l u u0 (by omega) hr
        have HRW := Lib.hid (HR5.out.below hbw)
        clear hu hk hm hj hbw
        generalize (momF u).v = mu at *
        go_wp2_with fail
        refine (HMU.out _).mono ?_
        rintro en v1 ⟨rfl, gb1⟩
        have GB1 := Lib.hid (HBW.out.trans (gb1.mono HBW.out.size))
        have GR1 := Lib.hid (HRW.out.below gb1)
        clear gb1
        go_wp2_with fail
        refine (HNU.out _ GR1.out).mono ?_
        rintro en v2 ⟨rfl, gb2⟩
        have GB2 := Lib.hid (GB1.out.trans (gb2.mono GB1.out.size))
        have HXV := Lib.hid (bheap GB2.out HX5.out (heap_lt HX5.out))
        clear gb2 HRW HBW HXW GB1 GR1 HMU HNU
        cases hat : atB E u
        · have HPS : Hid (P (j + 1) = P j) := Lib.hid (HPF.out j (by rw [← HU.out]; exact hat))
          clear hat
          go_wp2_with fail
          go_roundw
          case rel => exact ⟨j + 1, k, m, u + 1, by have := HJL.out; omega, rfl, rfl, by go_num, by have := HU.out; omega, by rw [HPS.out]; exact HK.out, by rw [HPS.out]; exact HMM.out, GB2.out⟩
          case measure => simp [intOf]; omega
        · have HPS := Lib.hid (HPT.out j HJL.out (by rw [← HU.out]; exact hat))
          have c10 : v2.cell? ⟨w.heap.size, 10, none⟩ = some (.int .i64 s.catch_) := blk_cell HXV.out 10 rfl
          clear hat
          by_cases hkc : s.catch_ ≤ (k : Int)
          · go_wp2_with fail
            go_roundw
            case rel => exact ⟨j + 1, k, m + 1, u + 1, by have := HJL.out; omega, rfl, by go_num, by go_num, by have := HU.out; omega, by have h1 := HPS.out.1; have h2 := HK.out; have h3 := HC.out; omega, by have h1 := HPS.out.1; have h2 := HK.out; have h3 := HC.out; have h4 := HMM.out; omega, GB2.out⟩
            case measure => simp [intOf]; omega
          · have HKP : Hid (P j = k ∧ k < c) := Lib.hid (by have h2 := HK.out; have h3 := HC.out; omega)
            have htk : T[k]? = some u := by
              have := HPS.out.2 (by rw [HKP.out.1]; exact HKP.out.2)
              rw [HKP.out.1, ← HU.out] at this
              exact this
            have hkl : k < ln := by rw [HLN.out]; exact (List.getElem?_eq_some_iff.1 htk).1
            have hkl' : ¬ (ln : Int) ≤ (k : Int) := by omega
            have hsv := HS5.out.below GB2.out HS5.out.row_lt
            obtain ⟨aT, cT, heT, hleT, _, h3T⟩ := hsv
            injection heT with e1 e2 e3
            subst e1 e3
            rcases h3T with ⟨rfl, rfl⟩ | ⟨bT, oT, rfl, hbT, hcT⟩
            · have := (List.getElem?_eq_some_iff.1 htk).1; omega
            have cT : v2.cell? ⟨bT, oT + k, none⟩ = some (.int .i64 u) := hcT k u htk
            clear hcT htk e2
            go_wp2_with fail
            go_roundw
            case rel => exact ⟨j + 1, k + 1, m, u + 1, by have := HJL.out; omega, by go_num, rfl, by go_num, by have := HU.out; omega, by have h1 := HPS.out.1; have h2 := HKP.out; omega, by have h1 := HPS.out.1; have h2 := HKP.out; have h4 := HMM.out; omega, GB2.out⟩
            case measure => simp [intOf]; omega
      · have hjN : j = N := by have := HN.out; have := HXX.out; omega
        subst hjN
        obtain rfl : k = ln := by rw [HLN.out, HTL.out]; exact hk
        obtain rfl : m = mi := by rw [HMI.out]; exact hm
        have HBR := Lib.hid (HB5.out.trans (hbw.mono HB5.out.size))
        clear hu hk hm hj hbw
        go_wp2_with fail
        go_ret
        exact RetB.mk rfl HBR.out

/-- In the form that the card asks. -/
theorem dueD_card (W : World) (hm : MaxL W) (s : Sp) (b : Option Addr) (n cap : Nat) (x y : Int) (h : SpAt W s b n cap) (hx : (Lit.int .i64 x).wf = true) (hy : (Lit.int .i64 y).wf = true) :
    Calls Tryz.prog 3 #[s.v (.slice b n cap), .int .i64 x, .int .i64 y] W (RetB (.bool true) W) := by
  simp [Lit.wf, IntKind.min, IntKind.max, IntKind.bits, IntKind.signed] at hx hy
  exact dueD_walk W hm s b n cap h x (by omega) (by omega) y (by omega) (by omega)

end Go.Proofs.YtldieadbkaphkaaGreatDoor

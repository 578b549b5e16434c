/- Package spec: numbers (printed by wip/tools/gen_numbers.py). -/
import Derived.Test.YtldieadbkaphkaaGreatDoorSpecW
namespace Go.Proofs.YtldieadbkaphkaaGreatDoor
open Go.RowKit

section
variable (w : World) (nm te cr : ByteArray) (pri de ba ca att le ct : Int) (dp : List ByteArray) (a : Option Addr) (cap : Nat)

set_option maxRecDepth 100000 in
set_option maxHeartbeats 4000000 in
theorem numbers_0 (h0 : ¬ 0 ≤ pri) : Calls Tryz.prog 49 #[Sp.v ⟨nm, te, pri, de, dp, ba, ca, att, le, cr, ct⟩ (.slice a dp.length cap)] w (RetB (.bool false) w) := by
  unfold Sp.v Sp.cells
  go_enter Tryz.func49, Tryz.ntmps49
  go_wp2_with fail
  go_ret
  exact RetB.mk rfl ((Below.refl _ _).alloc (Nat.le_refl _) _)

set_option maxRecDepth 100000 in
set_option maxHeartbeats 4000000 in
theorem numbers_1 (h0 : 0 ≤ pri) (h1 : ¬ pri < 4) : Calls Tryz.prog 49 #[Sp.v ⟨nm, te, pri, de, dp, ba, ca, att, le, cr, ct⟩ (.slice a dp.length cap)] w (RetB (.bool false) w) := by
  unfold Sp.v Sp.cells
  go_enter Tryz.func49, Tryz.ntmps49
  go_wp2_with fail
  go_ret
  exact RetB.mk rfl ((Below.refl _ _).alloc (Nat.le_refl _) _)

set_option maxRecDepth 100000 in
set_option maxHeartbeats 4000000 in
theorem numbers_2 (h0 : 0 ≤ pri) (h1 : pri < 4) (h2 : spanB de = false) : Calls Tryz.prog 49 #[Sp.v ⟨nm, te, pri, de, dp, ba, ca, att, le, cr, ct⟩ (.slice a dp.length cap)] w (RetB (.bool false) w) := by
  unfold Sp.v Sp.cells
  go_enter Tryz.func49, Tryz.ntmps49
  go_wp2_with (first | (go_at_call 61; refine (span_any _ _).mono ?_; rintro e w' ⟨rfl, rfl⟩) | fail)
  go_ret
  exact RetB.mk rfl ((Below.refl _ _).alloc (Nat.le_refl _) _)

set_option maxRecDepth 100000 in
set_option maxHeartbeats 4000000 in
theorem numbers_3 (h0 : 0 ≤ pri) (h1 : pri < 4) (h2 : spanB de = true) (h3 : spanB ba = false) : Calls Tryz.prog 49 #[Sp.v ⟨nm, te, pri, de, dp, ba, ca, att, le, cr, ct⟩ (.slice a dp.length cap)] w (RetB (.bool false) w) := by
  unfold Sp.v Sp.cells
  go_enter Tryz.func49, Tryz.ntmps49
  go_wp2_with (first | (go_at_call 61; refine (span_any _ _).mono ?_; rintro e w' ⟨rfl, rfl⟩) | fail)
  go_ret
  exact RetB.mk rfl ((Below.refl _ _).alloc (Nat.le_refl _) _)

set_option maxRecDepth 100000 in
set_option maxHeartbeats 4000000 in
theorem numbers_4 (h0 : 0 ≤ pri) (h1 : pri < 4) (h2 : spanB de = true) (h3 : spanB ba = true) (h4 : spanB ca = false) : Calls Tryz.prog 49 #[Sp.v ⟨nm, te, pri, de, dp, ba, ca, att, le, cr, ct⟩ (.slice a dp.length cap)] w (RetB (.bool false) w) := by
  unfold Sp.v Sp.cells
  go_enter Tryz.func49, Tryz.ntmps49
  go_wp2_with (first | (go_at_call 61; refine (span_any _ _).mono ?_; rintro e w' ⟨rfl, rfl⟩) | fail)
  go_ret
  exact RetB.mk rfl ((Below.refl _ _).alloc (Nat.le_refl _) _)

set_option maxRecDepth 100000 in
set_option maxHeartbeats 4000000 in
theorem numbers_5 (h0 : 0 ≤ pri) (h1 : pri < 4) (h2 : spanB de = true) (h3 : spanB ba = true) (h4 : spanB ca = true) (h5 : spanB le = false) : Calls Tryz.prog 49 #[Sp.v ⟨nm, te, pri, de, dp, ba, ca, att, le, cr, ct⟩ (.slice a dp.length cap)] w (RetB (.bool false) w) := by
  unfold Sp.v Sp.cells
  go_enter Tryz.func49, Tryz.ntmps49
  go_wp2_with (first | (go_at_call 61; refine (span_any _ _).mono ?_; rintro e w' ⟨rfl, rfl⟩) | fail)
  go_ret
  exact RetB.mk rfl ((Below.refl _ _).alloc (Nat.le_refl _) _)

set_option maxRecDepth 100000 in
set_option maxHeartbeats 4000000 in
theorem numbers_6 (h0 : 0 ≤ pri) (h1 : pri < 4) (h2 : spanB de = true) (h3 : spanB ba = true) (h4 : spanB ca = true) (h5 : spanB le = true) (h6 : ¬ 0 < le) : Calls Tryz.prog 49 #[Sp.v ⟨nm, te, pri, de, dp, ba, ca, att, le, cr, ct⟩ (.slice a dp.length cap)] w (RetB (.bool false) w) := by
  unfold Sp.v Sp.cells
  go_enter Tryz.func49, Tryz.ntmps49
  go_wp2_with (first | (go_at_call 61; refine (span_any _ _).mono ?_; rintro e w' ⟨rfl, rfl⟩) | fail)
  go_ret
  exact RetB.mk rfl ((Below.refl _ _).alloc (Nat.le_refl _) _)

set_option maxRecDepth 100000 in
set_option maxHeartbeats 4000000 in
theorem numbers_7 (h0 : 0 ≤ pri) (h1 : pri < 4) (h2 : spanB de = true) (h3 : spanB ba = true) (h4 : spanB ca = true) (h5 : spanB le = true) (h6 : 0 < le) (h7 : ¬ 1 ≤ att) : Calls Tryz.prog 49 #[Sp.v ⟨nm, te, pri, de, dp, ba, ca, att, le, cr, ct⟩ (.slice a dp.length cap)] w (RetB (.bool false) w) := by
  unfold Sp.v Sp.cells
  go_enter Tryz.func49, Tryz.ntmps49
  go_wp2_with (first | (go_at_call 61; refine (span_any _ _).mono ?_; rintro e w' ⟨rfl, rfl⟩) | fail)
  go_ret
  exact RetB.mk rfl ((Below.refl _ _).alloc (Nat.le_refl _) _)

set_option maxRecDepth 100000 in
set_option maxHeartbeats 4000000 in
theorem numbers_8 (h0 : 0 ≤ pri) (h1 : pri < 4) (h2 : spanB de = true) (h3 : spanB ba = true) (h4 : spanB ca = true) (h5 : spanB le = true) (h6 : 0 < le) (h7 : 1 ≤ att) (h8 : ¬ att ≤ 16) : Calls Tryz.prog 49 #[Sp.v ⟨nm, te, pri, de, dp, ba, ca, att, le, cr, ct⟩ (.slice a dp.length cap)] w (RetB (.bool false) w) := by
  unfold Sp.v Sp.cells
  go_enter Tryz.func49, Tryz.ntmps49
  go_wp2_with (first | (go_at_call 61; refine (span_any _ _).mono ?_; rintro e w' ⟨rfl, rfl⟩) | fail)
  go_ret
  exact RetB.mk rfl ((Below.refl _ _).alloc (Nat.le_refl _) _)

set_option maxRecDepth 100000 in
set_option maxHeartbeats 4000000 in
theorem numbers_9 (h0 : 0 ≤ pri) (h1 : pri < 4) (h2 : spanB de = true) (h3 : spanB ba = true) (h4 : spanB ca = true) (h5 : spanB le = true) (h6 : 0 < le) (h7 : 1 ≤ att) (h8 : att ≤ 16) (h9 : ¬ 0 ≤ ct) : Calls Tryz.prog 49 #[Sp.v ⟨nm, te, pri, de, dp, ba, ca, att, le, cr, ct⟩ (.slice a dp.length cap)] w (RetB (.bool false) w) := by
  unfold Sp.v Sp.cells
  go_enter Tryz.func49, Tryz.ntmps49
  go_wp2_with (first | (go_at_call 61; refine (span_any _ _).mono ?_; rintro e w' ⟨rfl, rfl⟩) | fail)
  go_ret
  exact RetB.mk rfl ((Below.refl _ _).alloc (Nat.le_refl _) _)

set_option maxRecDepth 100000 in
set_option maxHeartbeats 4000000 in
theorem numbers_10 (h0 : 0 ≤ pri) (h1 : pri < 4) (h2 : spanB de = true) (h3 : spanB ba = true) (h4 : spanB ca = true) (h5 : spanB le = true) (h6 : 0 < le) (h7 : 1 ≤ att) (h8 : att ≤ 16) (h9 : 0 ≤ ct) (h10 : ¬ ct ≤ 16) : Calls Tryz.prog 49 #[Sp.v ⟨nm, te, pri, de, dp, ba, ca, att, le, cr, ct⟩ (.slice a dp.length cap)] w (RetB (.bool false) w) := by
  unfold Sp.v Sp.cells
  go_enter Tryz.func49, Tryz.ntmps49
  go_wp2_with (first | (go_at_call 61; refine (span_any _ _).mono ?_; rintro e w' ⟨rfl, rfl⟩) | fail)
  go_ret
  exact RetB.mk rfl ((Below.refl _ _).alloc (Nat.le_refl _) _)

set_option maxRecDepth 100000 in
set_option maxHeartbeats 4000000 in
theorem numbers_11 (hcap : dp.length ≤ maxLen) (h0 : 0 ≤ pri) (h1 : pri < 4) (h2 : spanB de = true) (h3 : spanB ba = true) (h4 : spanB ca = true) (h5 : spanB le = true) (h6 : 0 < le) (h7 : 1 ≤ att) (h8 : att ≤ 16) (h9 : 0 ≤ ct) (h10 : ct ≤ 16) (h11 : ¬ dp.length ≤ 8) : Calls Tryz.prog 49 #[Sp.v ⟨nm, te, pri, de, dp, ba, ca, att, le, cr, ct⟩ (.slice a dp.length cap)] w (RetB (.bool false) w) := by
  unfold maxLen at hcap
  unfold Sp.v Sp.cells
  go_enter Tryz.func49, Tryz.ntmps49
  go_wp2_with (first | (go_at_call 61; refine (span_any _ _).mono ?_; rintro e w' ⟨rfl, rfl⟩) | fail)
  go_ret
  exact RetB.mk rfl ((Below.refl _ _).alloc (Nat.le_refl _) _)

set_option maxRecDepth 100000 in
set_option maxHeartbeats 4000000 in
theorem numbers_12_false (hcap : dp.length ≤ maxLen) (h0 : 0 ≤ pri) (h1 : pri < 4) (h2 : spanB de = true) (h3 : spanB ba = true) (h4 : spanB ca = true) (h5 : spanB le = true) (h6 : 0 < le) (h7 : 1 ≤ att) (h8 : att ≤ 16) (h9 : 0 ≤ ct) (h10 : ct ≤ 16) (h11 : dp.length ≤ 8) (h12 : risesB dp = false) (hs : Sl strv w (.slice a dp.length cap) dp) : Calls Tryz.prog 49 #[Sp.v ⟨nm, te, pri, de, dp, ba, ca, att, le, cr, ct⟩ (.slice a dp.length cap)] w (RetB (.bool false) w) := by
  have hr := rises_any (w.alloc (.cells #[.string nm, .string te, .int .i64 pri, .int .i64 de, .slice a dp.length cap, .int .i64 ba, .int .i64 ca, .int .i64 att, .int .i64 le, .string cr, .int .i64 ct] 24)) a dp.length cap dp (hs.alloc _)
  rw [h12] at hr
  clear h12 hs
  unfold maxLen at hcap
  unfold Sp.v Sp.cells
  go_enter Tryz.func49, Tryz.ntmps49
  go_wp2_with (first | (go_at_call 61; refine (span_any _ _).mono ?_; rintro e w' ⟨rfl, rfl⟩) | fail)
  refine hr.mono ?_
  rintro en w1 ⟨rfl, hb1⟩
  go_wp2_with fail
  go_ret
  exact RetB.mk rfl (((Below.refl _ _).alloc (Nat.le_refl _) _).trans (hb1.mono (by simp)))

set_option maxRecDepth 100000 in
set_option maxHeartbeats 4000000 in
theorem numbers_12_true (hcap : dp.length ≤ maxLen) (h0 : 0 ≤ pri) (h1 : pri < 4) (h2 : spanB de = true) (h3 : spanB ba = true) (h4 : spanB ca = true) (h5 : spanB le = true) (h6 : 0 < le) (h7 : 1 ≤ att) (h8 : att ≤ 16) (h9 : 0 ≤ ct) (h10 : ct ≤ 16) (h11 : dp.length ≤ 8) (h12 : risesB dp = true) (hs : Sl strv w (.slice a dp.length cap) dp) : Calls Tryz.prog 49 #[Sp.v ⟨nm, te, pri, de, dp, ba, ca, att, le, cr, ct⟩ (.slice a dp.length cap)] w (RetB (.bool true) w) := by
  have hr := rises_any (w.alloc (.cells #[.string nm, .string te, .int .i64 pri, .int .i64 de, .slice a dp.length cap, .int .i64 ba, .int .i64 ca, .int .i64 att, .int .i64 le, .string cr, .int .i64 ct] 24)) a dp.length cap dp (hs.alloc _)
  rw [h12] at hr
  clear h12 hs
  unfold maxLen at hcap
  unfold Sp.v Sp.cells
  go_enter Tryz.func49, Tryz.ntmps49
  go_wp2_with (first | (go_at_call 61; refine (span_any _ _).mono ?_; rintro e w' ⟨rfl, rfl⟩) | fail)
  refine hr.mono ?_
  rintro en w1 ⟨rfl, hb1⟩
  go_wp2_with fail
  go_ret
  exact RetB.mk rfl (((Below.refl _ _).alloc (Nat.le_refl _) _).trans (hb1.mono (by simp)))

end

theorem numbers_any (w : World) (s : Sp) (a : Option Addr) (n cap : Nat) (h : Sl strv w (.slice a n cap) s.deps) : Calls Tryz.prog 49 #[s.v (.slice a n cap)] w (RetB (.bool (numbersB s)) w) := by
  obtain ⟨nm, te, pri, de, dp, ba, ca, att, le, cr, ct⟩ := s
  have hs := h
  obtain ⟨a0, kap, he, h1, h2, _⟩ := h
  injection he with e1 e2 e3
  subst e1 e2 e3
  have hcap : dp.length ≤ maxLen := Nat.le_trans h1 h2
  unfold numbersB
  simp only
  by_cases h0 : 0 ≤ pri
  case neg =>
    have hw := numbers_0 w nm te cr pri de ba ca att le ct dp a cap  h0
    simpa [h0] using hw
  by_cases h1 : pri < 4
  case neg =>
    have hw := numbers_1 w nm te cr pri de ba ca att le ct dp a cap h0 h1
    simpa [h0, h1] using hw
  by_cases h2 : spanB de = true
  case neg =>
    have hw := numbers_2 w nm te cr pri de ba ca att le ct dp a cap h0 h1 (by simpa using h2)
    simpa [h0, h1, h2] using hw
  by_cases h3 : spanB ba = true
  case neg =>
    have hw := numbers_3 w nm te cr pri de ba ca att le ct dp a cap h0 h1 h2 (by simpa using h3)
    simpa [h0, h1, h2, h3] using hw
  by_cases h4 : spanB ca = true
  case neg =>
    have hw := numbers_4 w nm te cr pri de ba ca att le ct dp a cap h0 h1 h2 h3 (by simpa using h4)
    simpa [h0, h1, h2, h3, h4] using hw
  by_cases h5 : spanB le = true
  case neg =>
    have hw := numbers_5 w nm te cr pri de ba ca att le ct dp a cap h0 h1 h2 h3 h4 (by simpa using h5)
    simpa [h0, h1, h2, h3, h4, h5] using hw
  by_cases h6 : 0 < le
  case neg =>
    have hw := numbers_6 w nm te cr pri de ba ca att le ct dp a cap h0 h1 h2 h3 h4 h5 h6
    simpa [h0, h1, h2, h3, h4, h5, h6] using hw
  by_cases h7 : 1 ≤ att
  case neg =>
    have hw := numbers_7 w nm te cr pri de ba ca att le ct dp a cap h0 h1 h2 h3 h4 h5 h6 h7
    simpa [h0, h1, h2, h3, h4, h5, h6, h7] using hw
  by_cases h8 : att ≤ 16
  case neg =>
    have hw := numbers_8 w nm te cr pri de ba ca att le ct dp a cap h0 h1 h2 h3 h4 h5 h6 h7 h8
    simpa [h0, h1, h2, h3, h4, h5, h6, h7, h8] using hw
  by_cases h9 : 0 ≤ ct
  case neg =>
    have hw := numbers_9 w nm te cr pri de ba ca att le ct dp a cap h0 h1 h2 h3 h4 h5 h6 h7 h8 h9
    simpa [h0, h1, h2, h3, h4, h5, h6, h7, h8, h9] using hw
  by_cases h10 : ct ≤ 16
  case neg =>
    have hw := numbers_10 w nm te cr pri de ba ca att le ct dp a cap h0 h1 h2 h3 h4 h5 h6 h7 h8 h9 h10
    simpa [h0, h1, h2, h3, h4, h5, h6, h7, h8, h9, h10] using hw
  by_cases h11 : dp.length ≤ 8
  case neg =>
    have hw := numbers_11 w nm te cr pri de ba ca att le ct dp a cap hcap h0 h1 h2 h3 h4 h5 h6 h7 h8 h9 h10 h11
    simpa [h0, h1, h2, h3, h4, h5, h6, h7, h8, h9, h10, h11] using hw
  by_cases h12 : risesB dp = true
  case neg =>
    have hw := numbers_12_false w nm te cr pri de ba ca att le ct dp a cap hcap h0 h1 h2 h3 h4 h5 h6 h7 h8 h9 h10 h11 (by simpa using h12) hs
    simpa [h0, h1, h2, h3, h4, h5, h6, h7, h8, h9, h10, h11, h12] using hw
  have hw := numbers_12_true w nm te cr pri de ba ca att le ct dp a cap hcap h0 h1 h2 h3 h4 h5 h6 h7 h8 h9 h10 h11 h12 hs
  simpa [h0, h1, h2, h3, h4, h5, h6, h7, h8, h9, h10, h11, h12] using hw

end Go.Proofs.YtldieadbkaphkaaGreatDoor

/- Package calendar: Of, Days, Leap. -/
import Derived.Test.YtldieadbkaphkaaGreatDoorBlk
import Derived.Test.YtldieadbkaphkaaGreatDoorCal
import Derived.IntWalk
import Derived.Deep.CutRange
namespace Go.Proofs.YtldieadbkaphkaaGreatDoor
open Go.RowKit

theorem wrap_civ (x : Int) (h0 : -9223372036854775808 ≤ x) (h1 : x ≤ 9223372036854775807) : IntKind.i64.wrap x = x := IntWalk.i64_in _ (by omega)

set_option maxHeartbeats 1000000 in
theorem civil_any (w : World) (n : Int) (h0 : 0 ≤ n) (h1 : n ≤ 1000000000000) : Calls Tryz.prog 86 #[.int .i64 n] w (Ret (.tuple #[.int .i64 (civY n), .int .i64 (civM n), .int .i64 (civD n)]) w) := by
  have a0 : 0 ≤ n % 146097 := by omega
  have a1 : n % 146097 < 146097 := by omega
  obtain ⟨y0, y1, _, _⟩ := yoe_spec _ a0 a1
  obtain ⟨p, q⟩ := doy_spec _ a0 a1
  have hl := lpY_01 (yoeF (n % 146097) + 1)
  have EY := Lib.hid (show (n % 146097 - n % 146097 / 1460 + n % 146097 / 36524 - n % 146097 / 146096) / 365 = yoeF (n % 146097) from rfl)
  have ED := Lib.hid (show n % 146097 - (365 * yoeF (n % 146097) + yoeF (n % 146097) / 4 - yoeF (n % 146097) / 100) = doyF (n % 146097) from rfl)
  have EM := Lib.hid (show (5 * doyF (n % 146097) + 2) / 153 = mpF (n % 146097) from rfl)
  have RY := Lib.hid (show civY n = n / 146097 * 400 + yoeF (n % 146097) + (if mpF (n % 146097) < 10 then 0 else 1) from rfl)
  have RM := Lib.hid (show civM n = if mpF (n % 146097) < 10 then mpF (n % 146097) + 3 else mpF (n % 146097) - 9 from rfl)
  have RD := Lib.hid (show civD n = doyF (n % 146097) - (153 * mpF (n % 146097) + 2) / 5 + 1 from rfl)
  have hm0 : 0 ≤ mpF (n % 146097) ∧ mpF (n % 146097) ≤ 11 := by unfold mpF; omega
  have hd0 : 0 ≤ n / 146097 ∧ n / 146097 ≤ 1000000000000 := by omega
  obtain ⟨m0, m1⟩ := hm0
  obtain ⟨d0, d1⟩ := hd0
  go_enter Tryz.func86, Tryz.ntmps86
  go_upto_region 3 with (fail)
  rw [EY.out]
  generalize n % 146097 = doe at *
  generalize n / 146097 = era at *
  generalize yoeF doe = yoe at *
  go_upto_region 4 with (fail)
  rw [ED.out]
  generalize doyF doe = doy at *
  go_upto_region 5 with (fail)
  rw [EM.out]
  generalize mpF doe = mp at *
  by_cases hlt : mp < 10
  · go_wp2
    go_ret3
    exact ⟨by rw [RY.out, RM.out, RD.out, if_pos hlt, if_pos hlt, Int.add_zero]; rfl, rfl⟩
  · go_wp2
    go_ret3
    exact ⟨by rw [RY.out, RM.out, RD.out, if_neg (by omega), if_neg (by omega)]; rfl, rfl⟩

/-- A minute, by the calendar. -/
structure Mom where
  y : Int
  m : Int
  d : Int
  wd : Int
  h : Int
  mi : Int
def Mom.v (x : Mom) : Value := .agg #[.int .i64 x.y, .int .i64 x.m, .int .i64 x.d, .int .i64 x.wd, .int .i64 x.h, .int .i64 x.mi]
def Mom.zero : Mom := ⟨0, 0, 0, 0, 0, 0⟩
/-- A tick's. -/
def momF (t : Int) : Mom := ⟨civY (t / 1440 + 730425), civM (t / 1440 + 730425), civD (t / 1440 + 730425), (t / 1440 + 6) % 7, t % 1440 / 60, t % 1440 % 60⟩

theorem calOf_no (w : World) (t : Int) (h : t < 0 ∨ 0 ≤ t ∧ 1099511627776 < t) : Calls Tryz.prog 70 #[.int .i64 t] w (RetB (.tuple #[Mom.zero.v, .int .i64 3]) w) := by
  rcases h with h | ⟨h1, h2⟩
  all_goals
    go_enter Tryz.func70, Tryz.ntmps70
    go_wp2
    exact bodyPost_ret (v := .tuple #[Mom.zero.v, .int .i64 3]) (by simp [results, Tryz.results70, go_sem, Mom.v, Mom.zero]) rfl (RetB.mk rfl ((Below.refl _ _).alloc (Nat.le_refl _) _))

theorem calOf_yes (w : World) (t : Int) (h0 : 0 ≤ t) (h1 : t ≤ 1099511627776) : Calls Tryz.prog 70 #[.int .i64 t] w (RetB (.tuple #[(momF t).v, .int .i64 0]) w) := by
  have hc := fun W => civil_any W (t / 1440 + 730425) (by omega) (by omega)
  have EV : Hid ((momF t).v = .agg #[.int .i64 (civY (t / 1440 + 730425)), .int .i64 (civM (t / 1440 + 730425)), .int .i64 (civD (t / 1440 + 730425)), .int .i64 ((t / 1440 + 6) % 7), .int .i64 (t % 1440 / 60), .int .i64 (t % 1440 % 60)]) := Lib.hid rfl
  go_enter Tryz.func70, Tryz.ntmps70
  go_wp2_with fail
  refine (hc _).mono ?_
  rintro e w' ⟨rfl, rfl⟩
  go_wp2
  rw [EV.out]
  generalize civY (t / 1440 + 730425) = a1
  generalize civM (t / 1440 + 730425) = a2
  generalize civD (t / 1440 + 730425) = a3
  exact bodyPost_ret (v := .tuple #[.agg #[.int .i64 a1, .int .i64 a2, .int .i64 a3, .int .i64 ((t / 1440 + 6) % 7), .int .i64 (t % 1440 / 60), .int .i64 (t % 1440 % 60)], .int .i64 0]) (by simp [results, Tryz.results70, go_sem]) rfl (RetB.mk rfl ((Below.refl _ _).alloc (Nat.le_refl _) _))

theorem leap_any (w : World) (y : Int) (h0 : 0 ≤ y) (h1 : y ≤ 1000000000) : Calls Tryz.prog 109 #[.int .i64 y] w (Ret (.bool (lpY y == 1)) w) := by
  have E : Hid ((lpY y == 1) = decide (y % 4 = 0 ∧ (y % 100 ≠ 0 ∨ y % 400 = 0))) := Lib.hid (by unfold lpY; split <;> simp_all)
  by_cases h4 : y % 4 = 0
  · by_cases h100 : y % 100 = 0
    · by_cases h400 : y % 400 = 0
      all_goals
        go_enter Tryz.func109, Tryz.ntmps109
        go_wp2
        go_ret
        exact Ret.mk (bool_eq (by rw [E.out]; simp [*]))
    · go_enter Tryz.func109, Tryz.ntmps109
      go_wp2
      go_ret
      exact Ret.mk (bool_eq (by rw [E.out]; simp [*]))
  · go_enter Tryz.func109, Tryz.ntmps109
    go_wp2
    go_ret
    exact Ret.mk (bool_eq (by rw [E.out]; simp [*]))

theorem daysM_any (w : World) (y m : Int) (h0 : 0 ≤ y) (h1 : y ≤ 1000000000) (m1 : 1 ≤ m) (m2 : m ≤ 12) : Calls Tryz.prog 89 #[.int .i64 y, .int .i64 m] w (Ret (.int .i64 (lenM (lpY y) m)) w) := by
  have hl := fun W => leap_any W y h0 h1
  have h01 := Lib.hid (lpY_01 y)
  have E := Lib.hid (show lenM (lpY y) m = if m = 2 then 28 + lpY y else if m = 4 ∨ m = 6 ∨ m = 9 ∨ m = 11 then 30 else 31 from rfl)
  rcases month_cases m1 m2 with rfl | rfl | rfl | rfl | rfl | rfl | rfl | rfl | rfl | rfl | rfl | rfl
  case inr.inl =>
    generalize lpY y = lp at *
    rcases h01.out with rfl | rfl
    all_goals
      go_enter Tryz.func89, Tryz.ntmps89
      go_wp2_with fail
      refine (hl _).mono ?_
      rintro e w' ⟨rfl, rfl⟩
      go_wp2
      go_ret
      exact Ret.mk (by rw [E.out]; rfl)
  all_goals
    clear hl
    go_enter Tryz.func89, Tryz.ntmps89
    go_wp2
    go_ret
    exact Ret.mk (by rw [E.out]; rfl)

end Go.Proofs.YtldieadbkaphkaaGreatDoor

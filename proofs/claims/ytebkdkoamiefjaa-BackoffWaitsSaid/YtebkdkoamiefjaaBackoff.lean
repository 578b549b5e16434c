/- The contracts of the functions of package backoff and of the statements' own helpers of layer 12: each returns what its plain definition says, and leaves memory as it was. -/
import Derived.Test.YtebkdkoamiefjaaBase
namespace Go.Proofs.Ytebkdkoamiefjaa
open Go.RowKit

/-- The wait behind the k-th failure. -/
def waitF (base most : Int) : Nat → Int
  | 0 => min base most
  | k + 1 => if 0 < base ∧ base < most then waitF (base * 2) most k else min base most

theorem waitF_stop {base most : Int} (k : Nat) (h : ¬ (0 < base ∧ base < most)) : waitF base most k = min base most := by
  cases k with
  | zero => rfl
  | succ k => rw [waitF, if_neg h]

def spanB (x : Int) : Bool := decide (0 ≤ x ∧ x ≤ 1048576)

theorem span_any (x : Int) (w : World) : Calls Try.prog 30 #[.int .i64 x] w (Ret (.bool (spanB x)) w) := by
  by_cases h0 : 0 ≤ x <;> by_cases h1 : x ≤ 1048576
  all_goals
    go_enter Try.func30, Try.ntmps30
    go_wp2
    go_ret
    exact Ret.mk (bool_eq (by simp [spanB]; try omega))

theorem wait_no (base most k : Int) (w : World) (h : (spanB base && spanB most && decide (0 ≤ k)) = false) :
    Calls Try.prog 10 #[.int .i64 base, .int .i64 most, .int .i64 k] w (Ret (.tuple #[.int .i64 0, .int .i64 1]) w) := by
  cases hb : spanB base <;> cases hm : spanB most <;> by_cases hk : 0 ≤ k
  all_goals try (simp [hb, hm, hk] at h; done)
  all_goals
    go_enter Try.func10, Try.ntmps10
    go_wp2_with (go_at_call 30; refine (span_any _ _).mono ?_; rintro e w' ⟨rfl, rfl⟩)
    go_ret2
    exact Ret.mk rfl

theorem wait_yes (base most k : Int) (w : World) (hb : spanB base = true) (hm : spanB most = true) (hk : 0 ≤ k) (hk2 : k ≤ 9223372036854775807) :
    Calls Try.prog 10 #[.int .i64 base, .int .i64 most, .int .i64 k] w (Ret (.tuple #[.int .i64 (waitF base most k.toNat), .int .i64 0]) w) := by
  obtain ⟨k, rfl⟩ := Int.eq_ofNat_of_zero_le hk
  have b1 : 0 ≤ base ∧ base ≤ 1048576 := by simpa [spanB] using hb
  have m1 : 0 ≤ most ∧ most ≤ 1048576 := by simpa [spanB] using hm
  obtain ⟨b1, b2⟩ := b1
  obtain ⟨m1, m2⟩ := m1
  go_enter Try.func10, Try.ntmps10
  go_wp2_with (go_at_call 30; refine (span_any _ _).mono ?_; rintro e w' ⟨rfl, rfl⟩)
  go_loop [8, 2] (fun b i => ∃ (x : Int) (j : Nat), 0 ≤ x ∧ x ≤ 2097152 ∧ j ≤ k ∧ b = .int .i64 x ∧ i = .int .i64 j ∧ waitF x most j = waitF base most k) (fun _ i => (intOf i).toNat)
  case atStart => exact ⟨base, k, by omega, by omega, Nat.le_refl _, rfl, rfl, rfl⟩
  case round =>
    obtain ⟨x, j, x1, x2, hj, rfl, rfl, hw⟩ := hrel
    have HW := Lib.hid hw
    clear hw
    by_cases h1 : 0 < j <;> by_cases h2 : 0 < x <;> by_cases h3 : x < most
    · obtain ⟨j, rfl⟩ : ∃ i, j = i + 1 := ⟨j - 1, by omega⟩
      go_wp2
      go_round
      case rel => exact ⟨x * 2, j, by omega, by omega, by omega, rfl, by go_num, by rw [← HW.out, waitF, if_pos ⟨h2, h3⟩]⟩
      case measure => first | (simp [intOf]; done) | (simp [intOf]; omega)
    all_goals
      have hst : waitF x most j = min x most := by
        first
          | exact waitF_stop _ (by omega)
          | (obtain rfl : j = 0 := (by omega); rfl)
      have HS := Lib.hid hst
      clear hst
      go_wp2
      all_goals
        go_ret2
        have := HS.out
        have := HW.out
        exact Ret.mk (tup2_eq (int_eq (by first | omega | (simp only [Int.toNat_natCast]; omega))) rfl)

theorem waitF_mono (most : Int) : ∀ (k : Nat) (base : Int), waitF base most k ≤ waitF base most (k + 1) ∧ waitF base most k ≤ most
  | 0, base => by
    rw [waitF, waitF]
    split
    · rw [waitF]; omega
    · omega
  | k + 1, base => by
    rw [waitF, waitF]
    split
    · exact waitF_mono most k (base * 2)
    · omega

theorem waitF_double (most : Int) : ∀ (k : Nat) (base : Int), 0 ≤ base → 0 ≤ most → waitF base most (k + 1) = min (2 * waitF base most k) most
  | 0, base, hb, hm => by
    rw [waitF, waitF]
    split
    · rw [waitF]; omega
    · omega
  | k + 1, base, hb, hm => by
    rw [waitF]
    conv => rhs; rw [waitF]
    split
    · exact waitF_double most k (base * 2) (by omega) hm
    · omega

theorem waitF_bounds (most : Int) (k : Nat) (base : Int) (hb : 0 ≤ base) (hm : 0 ≤ most) : 0 ≤ waitF base most k ∧ waitF base most k ≤ most := by
  refine ⟨?_, (waitF_mono most k base).2⟩
  induction k with
  | zero => rw [waitF]; omega
  | succ k ih => exact Int.le_trans ih (waitF_mono most k base).1

/-- The statements' own reckoning of the wait. -/
def lawWaitF : Nat → Int → Int → Nat → Int
  | 0, base, most, _ => min base most
  | f + 1, base, most, k => if 0 < k ∧ base ≤ 1048576 then lawWaitF f (base + base) most (k - 1) else min base most

theorem lawWaitF_eq (most : Int) (hm : 0 ≤ most ∧ most ≤ 1048576) : ∀ (f : Nat) (base : Int) (k : Nat), 0 ≤ base → 2 ^ 21 ≤ base * 2 ^ f ∨ base = 0 ∨ k ≤ f → lawWaitF f base most k = waitF base most k
  | 0, base, k, hb, h => by
    rcases h with h | h | h
    · rw [lawWaitF, waitF_stop _ (by simp at h; omega)]
    · rw [lawWaitF, waitF_stop _ (by omega)]
    · obtain rfl : k = 0 := by omega
      rfl
  | f + 1, base, 0, hb, h => by rw [lawWaitF, if_neg (by omega)]; rfl
  | f + 1, base, k + 1, hb, h => by
    rw [lawWaitF]
    by_cases hc : base ≤ 1048576
    · rw [if_pos ⟨by omega, hc⟩]
      rw [lawWaitF_eq most hm f (base + base) (k + 1 - 1) (by omega) ?_]
      · rw [waitF]
        by_cases h2 : 0 < base ∧ base < most
        · rw [if_pos h2, show base * 2 = base + base by omega]; rfl
        · rw [if_neg h2]
          rw [waitF_stop _ (by omega)]
          omega
      · rcases h with h | h | h
        · left
          rw [Int.pow_succ] at h
          have : (base + base) * 2 ^ f = base * (2 ^ f * 2) := by rw [Int.add_mul, Int.mul_comm (2 ^ f) 2, ← Int.mul_assoc, Int.mul_comm base 2, Int.mul_assoc]; omega
          rw [this]; exact h
        · right; left; omega
        · right; right; omega
    · rw [if_neg (by omega)]
      rw [waitF_stop _ (by omega)]

theorem due_no (now base most k : Int) (w : World) (h : (spanB base && spanB most && decide (0 ≤ k)) = false) :
    Calls Try.prog 11 #[.int .i64 now, .int .i64 base, .int .i64 most, .int .i64 k] w (Ret (.tuple #[.int .i64 0, .int .i64 1]) w) := by
  go_enter Try.func11, Try.ntmps11
  go_wp2_with (go_at_call 10; refine (wait_no _ _ _ _ h).mono ?_; rintro e w' ⟨rfl, rfl⟩)
  go_ret2
  exact Ret.mk rfl

theorem due_yes (now base most k : Int) (w : World) (hb : spanB base = true) (hm : spanB most = true) (hk : 0 ≤ k) (hk2 : k ≤ 9223372036854775807) :
    Calls Try.prog 11 #[.int .i64 now, .int .i64 base, .int .i64 most, .int .i64 k] w
      (Ret (.tuple #[.int .i64 (if 0 ≤ now ∧ now ≤ 1099511627776 then min (now + waitF base most k.toNat) 1099511627776 else 0), .int .i64 (if 0 ≤ now ∧ now ≤ 1099511627776 then 0 else 1)]) w) := by
  have b1 : 0 ≤ base ∧ base ≤ 1048576 := by simpa [spanB] using hb
  have m1 : 0 ≤ most ∧ most ≤ 1048576 := by simpa [spanB] using hm
  have bd := waitF_bounds most k.toNat base b1.1 m1.1
  obtain ⟨w1, w2⟩ := bd
  have HW := wait_yes base most k w hb hm hk hk2
  obtain ⟨m1, m2⟩ := m1
  generalize waitF base most k.toNat = x at *
  have hx : x ≤ 1048576 := by omega
  clear b1 hb hm
  by_cases h1 : 0 ≤ now <;> by_cases h2 : now ≤ 1099511627776
  all_goals
    go_enter Try.func11, Try.ntmps11
    go_wp2_with (go_at_call 10; refine HW.mono ?_; rintro e w' ⟨rfl, rfl⟩)
    all_goals
      go_ret2
      exact Ret.mk (tup2_eq (int_eq (by first | rfl | (simp [*]; done) | (simp [*]; omega) | omega)) (int_eq (by first | rfl | (simp [*]; done) | (simp [*]; omega) | omega)))

end Go.Proofs.Ytebkdkoamiefjaa

/- The statements of layer 12 (backoff): the statements' own helpers, and the three walks. -/
import Derived.Test.YtebkdkoamiefjaaBackoff
import Derived.Handy
namespace Go.Proofs.Ytebkdkoamiefjaa
open Go.RowKit

theorem right_any (base most : Int) (w : World) : Calls Try.prog 12 #[.int .i64 base, .int .i64 most] w (Ret (.bool (spanB base && spanB most)) w) := by
  by_cases h0 : 0 ≤ base <;> by_cases h1 : base ≤ 1048576 <;> by_cases h2 : 0 ≤ most <;> by_cases h3 : most ≤ 1048576
  all_goals
    go_enter Try.func12, Try.ntmps12
    go_wp2
    go_ret
    exact Ret.mk (bool_eq (by simp [spanB]; try omega))

theorem lawWait_any (base most k : Int) (w : World) (hb : spanB base = true) (hm : spanB most = true) (hk : 0 ≤ k) (hk2 : k ≤ 9223372036854775807) :
    Calls Try.prog 13 #[.int .i64 base, .int .i64 most, .int .i64 k] w (Ret (.int .i64 (waitF base most k.toNat)) w) := by
  obtain ⟨k, rfl⟩ := Int.eq_ofNat_of_zero_le hk
  have b1 : 0 ≤ base ∧ base ≤ 1048576 := by simpa [spanB] using hb
  have m1 : 0 ≤ most ∧ most ≤ 1048576 := by simpa [spanB] using hm
  have he : lawWaitF 64 base most k = waitF base most k := by
    by_cases h0 : base = 0
    · exact lawWaitF_eq most m1 64 base k b1.1 (.inr (.inl h0))
    · exact lawWaitF_eq most m1 64 base k b1.1 (.inl (by have : (2:Int) ^ 64 = 18446744073709551616 := by decide
                                                         rw [this]; have : (2:Int)^21 = 2097152 := by decide
                                                         omega))
  have HE := Lib.hid he
  clear he hb hm
  obtain ⟨b1, b2⟩ := b1
  obtain ⟨m1, m2⟩ := m1
  go_enter Try.func13, Try.ntmps13
  go_wp2
  go_loop [0, 7] (fun b i => ∃ (x : Int) (j : Nat), 0 ≤ x ∧ x ≤ 2097152 ∧ j ≤ k ∧ j ≤ 64 ∧ b = .int .i64 x ∧ i = .int .i64 j ∧ lawWaitF (64 - j) x most (k - j) = lawWaitF 64 base most k) (fun _ i => 64 - (intOf i).toNat)
  case atStart => exact ⟨base, 0, by omega, by omega, by omega, by omega, rfl, rfl, rfl⟩
  case round =>
    obtain ⟨x, j, x1, x2, hj, hj2, rfl, rfl, hw⟩ := hrel
    have HW := Lib.hid hw
    clear hw
    by_cases h1 : j < k <;> by_cases h2 : j < 64 <;> by_cases h3 : x ≤ 1048576
    · go_wp2
      go_round
      case rel => exact ⟨x + x, j + 1, by omega, by omega, by omega, by omega, rfl, by go_num, by rw [← HW.out, show 64 - j = (64 - (j + 1)) + 1 by omega, lawWaitF, if_pos ⟨by omega, h3⟩]; rfl⟩
      case measure => simp [intOf]; omega
    all_goals
      have hst : lawWaitF (64 - j) x most (k - j) = min x most := by
        rcases Nat.lt_or_ge j 64 with h | h
        · rw [show 64 - j = (64 - (j + 1)) + 1 by omega, lawWaitF, if_neg (by omega)]
        · rw [show 64 - j = 0 by omega]
          rfl
      have HS := Lib.hid hst
      clear hst
      go_wp2
      all_goals
        go_ret
        have := HS.out
        have := HW.out
        have := HE.out
        exact Ret.mk (int_eq (by first | omega | (simp only [Int.toNat_natCast]; omega)))

/-- All waits but the last one, together. -/
def sumF (base most : Int) : Nat → Int
  | 0 => 0
  | k + 1 => sumF base most k + waitF base most k

theorem sumF_bounds (base most : Int) (hb : 0 ≤ base) (hm : 0 ≤ most ∧ most ≤ 1048576) : ∀ k, 0 ≤ sumF base most k ∧ sumF base most k ≤ k * 1048576
  | 0 => by simp [sumF]
  | k + 1 => by
    have := sumF_bounds base most hb hm k
    have := waitF_bounds most k base hb hm.1
    rw [sumF]
    omega

theorem total_arg (base most n : Int) (w : World) (h : n < 1 ∨ 16 < n) :
    Calls Try.prog 14 #[.int .i64 base, .int .i64 most, .int .i64 n] w (Ret (.tuple #[.int .i64 0, .int .i64 1]) w) := by
  by_cases h1 : n < 1 <;> by_cases h2 : 16 < n
  all_goals try omega
  all_goals
    go_enter Try.func14, Try.ntmps14
    go_wp2
    go_ret2
    exact Ret.mk rfl

theorem total_no (base most n : Int) (w : World) (h1 : 1 ≤ n) (h2 : n ≤ 16) (hs : (spanB base && spanB most) = false) :
    Calls Try.prog 14 #[.int .i64 base, .int .i64 most, .int .i64 n] w (Ret (.tuple #[.int .i64 0, .int .i64 1]) w) := by
  go_enter Try.func14, Try.ntmps14
  go_wp2
  refine wp_loop_rounds 1 ?_
  rw [rounds_succ]
  go_wp2_with (go_at_call 10; refine (wait_no _ _ _ _ (by simp [hs])).mono ?_; rintro e w' ⟨rfl, rfl⟩)
  go_ret2
  exact Ret.mk rfl

theorem total_yes (base most n : Int) (w : World) (h1 : 1 ≤ n) (h2 : n ≤ 16) (hb : spanB base = true) (hm : spanB most = true) :
    Calls Try.prog 14 #[.int .i64 base, .int .i64 most, .int .i64 n] w (Ret (.tuple #[.int .i64 (sumF base most (n.toNat - 1)), .int .i64 0]) w) := by
  obtain ⟨n, rfl⟩ := Int.eq_ofNat_of_zero_le (show 0 ≤ n by omega)
  have b1 : 0 ≤ base ∧ base ≤ 1048576 := by simpa [spanB] using hb
  have m1 : 0 ≤ most ∧ most ≤ 1048576 := by simpa [spanB] using hm
  have HB := Lib.hid b1
  have HM := Lib.hid m1
  have HW := fun k h1 h2 => wait_yes base most k w hb hm h1 h2
  clear b1 m1 hb hm
  go_enter Try.func14, Try.ntmps14
  go_wp2
  go_loop [8, 19] (fun s i => ∃ j : Nat, j ≤ n ∧ i = .int .i64 j ∧ s = .int .i64 (sumF base most (min j (n - 1)))) (fun _ i => n - (intOf i).toNat)
  case atStart => exact ⟨0, by omega, rfl, by simp [sumF]⟩
  case round =>
    obtain ⟨j, hj, rfl, rfl⟩ := hrel
    have sb := sumF_bounds base most HB.out.1 HM.out (min j (n - 1))
    have wb := waitF_bounds most j base HB.out.1 HM.out.1
    have HS : Hid (∀ i, sumF base most (i + 1) = sumF base most i + waitF base most i) := fun _ => rfl
    obtain ⟨w1, w2⟩ := wb
    obtain ⟨s1, s2⟩ := sb
    have hm2 := HM.out.2
    have hs2 : sumF base most (min j (n - 1)) ≤ 20000000 := by omega
    clear s2
    by_cases hlt : j < n
    · by_cases hl2 : j < n - 1
      · obtain ⟨hmin, hmin1⟩ : min j (n - 1) = j ∧ min (j + 1) (n - 1) = j + 1 := ⟨by omega, by omega⟩
        have HN := Lib.hid hmin1
        rw [hmin] at s1 hs2 ⊢
        clear hmin hmin1
        have hw3 : waitF base most j ≤ 1048576 := by omega
        go_wp2_with (go_at_call 10; refine (HW _ (by omega) (by omega)).mono ?_; rintro e w' ⟨rfl, rfl⟩)
        go_round
        case rel => exact ⟨j + 1, by omega, by go_num, by rw [HN.out]; rfl⟩
        case measure => simp [intOf]; omega
      · obtain ⟨hmin, hmin1⟩ : min j (n - 1) = n - 1 ∧ min (j + 1) (n - 1) = n - 1 := ⟨by omega, by omega⟩
        have HN := Lib.hid hmin1
        rw [hmin] at s1 hs2 ⊢
        clear hmin hmin1
        go_wp2_with (go_at_call 10; refine (HW _ (by omega) (by omega)).mono ?_; rintro e w' ⟨rfl, rfl⟩)
        go_round
        case rel => exact ⟨j + 1, by omega, by go_num, by rw [HN.out]⟩
        case measure => simp [intOf]; omega
    · obtain rfl : j = n := by omega
      have hmin : min j (j - 1) = j - 1 := by omega
      rw [hmin]
      clear hmin
      go_wp2
      go_ret2
      exact Ret.mk (tup2_eq (int_eq (by simp)) rfl)

/-- The chapter's example. -/
def exF (k : Nat) : Int := [3, 6, 12, 20, 20].getD k 0

theorem wait_ex (k : Int) (w : World) (h0 : 0 ≤ k) (h1 : k < 5) :
    Calls Try.prog 10 #[.int .i64 3, .int .i64 20, .int .i64 k] w (Ret (.tuple #[.int .i64 (exF k.toNat), .int .i64 0]) w) := by
  have h := wait_yes 3 20 k w (by decide) (by decide) h0 (by omega)
  have he : waitF 3 20 k.toNat = exF k.toNat := by
    obtain ⟨k, rfl⟩ := Int.eq_ofNat_of_zero_le h0
    have : k < 5 := by omega
    clear h h0 h1
    match k, this with
    | 0, _ => decide
    | 1, _ => decide
    | 2, _ => decide
    | 3, _ => decide
    | 4, _ => decide
  rw [he] at h
  exact h

theorem lives12 (w : World) : Calls Try.prog 9 #[] w (RetB (.bool true) w) := by
  go_enter Try.func9, Try.ntmps9
  go_wp2
  have e0 : exF 0 = 3 := rfl
  have e1 : exF 1 = 6 := rfl
  have e2 : exF 2 = 12 := rfl
  have e3 : exF 3 = 20 := rfl
  have e4 : exF 4 = 20 := rfl
  refine wp_loop_rounds 6 ?_
  iterate 6
    rw [rounds_succ]
    go_wp2_with (go_at_call 10; refine (wait_ex _ _ (by omega) (by omega)).mono ?_; rintro e w' ⟨rfl, rfl⟩)
  go_ret
  exact ⟨rfl, (Below.refl _ _).alloc (Nat.le_refl _) _⟩

set_option maxHeartbeats 400000 in
theorem doubles_walk (a0 a1 a2 : Int) (w : World) (h0 : (Lit.int .u32 a0).wf = true) (h1 : (Lit.int .u32 a1).wf = true) (h2 : (Lit.int .u8 a2).wf = true) :
    Calls Try.prog 3 #[.int .u32 a0, .int .u32 a1, .int .u8 a2] w (RetB (.bool true) w) := by
  have d0 := bounds_u32 h0
  have d1 := bounds_u32 h1
  have d2 := bounds_u8 h2
  have y0 : spanB (a0 % 1048577) = true := by simp [spanB]; omega
  have y1 : spanB (a1 % 1048577) = true := by simp [spanB]; omega
  have hd := waitF_double (a1 % 1048577) a2.toNat (a0 % 1048577) (by omega) (by omega)
  have hb := waitF_bounds (a1 % 1048577) a2.toNat (a0 % 1048577) (by omega) (by omega)
  have HW := fun k w h1 h2 => wait_yes _ _ k w y0 y1 h1 h2
  have ht : (a2 + 1).toNat = a2.toNat + 1 := by omega
  have HD := Lib.hid hd
  have HT := Lib.hid ht
  obtain ⟨hb1, hb2⟩ := hb
  have hm2 : a1 % 1048577 ≤ 1048576 := by omega
  obtain ⟨d2, d3⟩ := d2
  obtain ⟨c0, c1⟩ := d0
  obtain ⟨c2, c3⟩ := d1
  clear hd ht y0 y1 h0 h1 h2
  go_enter Try.func3, Try.ntmps3
  go_wp2_with (first | (go_at_call 9; refine (lives12 _).mono ?_; rintro e w1 ⟨rfl, hbel⟩) | (go_at_call 10; refine (HW _ _ (by omega) (by omega)).mono ?_; rintro e w' ⟨rfl, rfl⟩))
  all_goals
    go_ret
    have h1 := HD.out
    have h2 := HT.out
    refine RetB.mk (bool_eq ?_) hbel
    simp only [beq_iff_eq]
    rw [h2, h1]
    omega

set_option maxHeartbeats 400000 in
theorem waits_no (now base most k : Int) (w : World) (h : (spanB base && spanB most && decide (0 ≤ k)) = false) :
    Calls Try.prog 4 #[.int .i64 now, .int .i64 base, .int .i64 most, .int .i64 k] w (RetB (.bool true) w) := by
  have HN := Lib.hid h
  have h' : (spanB base && spanB most) = false ∨ ((spanB base && spanB most) = true ∧ k < 0) := by
    cases hs : (spanB base && spanB most)
    · exact .inl rfl
    · right; refine ⟨rfl, ?_⟩; simp [hs] at h; omega
  clear h
  rcases h' with hs | ⟨hs, hk⟩
  all_goals
    go_enter Try.func4, Try.ntmps4
    go_wp2_with (first | (go_at_call 9; refine (lives12 _).mono ?_; rintro e w1 ⟨rfl, hbel⟩) | (go_at_call 10; refine (wait_no _ _ _ _ HN.out).mono ?_; rintro e w' ⟨rfl, rfl⟩) | (go_at_call 11; refine (due_no _ _ _ _ _ HN.out).mono ?_; rintro e w' ⟨rfl, rfl⟩) | (go_at_call 12; refine (right_any _ _ _).mono ?_; rintro e w' ⟨rfl, rfl⟩))
    go_ret
    exact RetB.mk rfl hbel

set_option maxHeartbeats 400000 in
theorem waits_yes (now base most k : Int) (w : World) (hb : spanB base = true) (hm : spanB most = true) (hk : 0 ≤ k) (hk2 : k ≤ 9223372036854775807) :
    Calls Try.prog 4 #[.int .i64 now, .int .i64 base, .int .i64 most, .int .i64 k] w (RetB (.bool true) w) := by
  have HW := fun w => wait_yes base most k w hb hm hk hk2
  have HL := fun w => lawWait_any base most k w hb hm hk hk2
  have HD := fun w => due_yes now base most k w hb hm hk hk2
  have HR := fun w => right_any base most w
  have b1 : 0 ≤ base ∧ base ≤ 1048576 := by simpa [spanB] using hb
  have m1 : 0 ≤ most ∧ most ≤ 1048576 := by simpa [spanB] using hm
  have bd := waitF_bounds most k.toNat base b1.1 m1.1
  rw [hb, hm] at HR
  generalize waitF base most k.toNat = x at *
  obtain ⟨x1, x2⟩ := bd
  have x3 : x ≤ 1048576 := by omega
  clear b1 m1 x2 hb hm hk2
  by_cases h1 : 0 ≤ now <;> by_cases h2 : now ≤ 1099511627776
  · rw [if_pos ⟨h1, h2⟩, if_pos ⟨h1, h2⟩] at HD
    by_cases h3 : now + x ≤ 1099511627776
    · rw [show min (now + x) 1099511627776 = now + x by omega] at HD
      go_enter Try.func4, Try.ntmps4
      go_wp2_with (first | (go_at_call 9; refine (lives12 _).mono ?_; rintro e w1 ⟨rfl, hbel⟩) | (go_at_call 10; refine (HW _).mono ?_; rintro e w' ⟨rfl, rfl⟩) | (go_at_call 11; refine (HD _).mono ?_; rintro e w' ⟨rfl, rfl⟩) | (go_at_call 12; refine (HR _).mono ?_; rintro e w' ⟨rfl, rfl⟩) | (go_at_call 13; refine (HL _).mono ?_; rintro e w' ⟨rfl, rfl⟩))
      go_ret
      exact RetB.mk (bool_eq (by first | rfl | simp)) hbel
    · rw [show min (now + x) 1099511627776 = 1099511627776 by omega] at HD
      go_enter Try.func4, Try.ntmps4
      go_wp2_with (first | (go_at_call 9; refine (lives12 _).mono ?_; rintro e w1 ⟨rfl, hbel⟩) | (go_at_call 10; refine (HW _).mono ?_; rintro e w' ⟨rfl, rfl⟩) | (go_at_call 11; refine (HD _).mono ?_; rintro e w' ⟨rfl, rfl⟩) | (go_at_call 12; refine (HR _).mono ?_; rintro e w' ⟨rfl, rfl⟩) | (go_at_call 13; refine (HL _).mono ?_; rintro e w' ⟨rfl, rfl⟩))
      go_ret
      exact RetB.mk (bool_eq (by first | rfl | simp)) hbel
  all_goals
    rw [if_neg (by omega), if_neg (by omega)] at HD
    go_enter Try.func4, Try.ntmps4
    go_wp2_with (first | (go_at_call 9; refine (lives12 _).mono ?_; rintro e w1 ⟨rfl, hbel⟩) | (go_at_call 10; refine (HW _).mono ?_; rintro e w' ⟨rfl, rfl⟩) | (go_at_call 11; refine (HD _).mono ?_; rintro e w' ⟨rfl, rfl⟩) | (go_at_call 12; refine (HR _).mono ?_; rintro e w' ⟨rfl, rfl⟩) | (go_at_call 13; refine (HL _).mono ?_; rintro e w' ⟨rfl, rfl⟩))
    all_goals
      go_ret
      exact RetB.mk (bool_eq (by first | rfl | simp)) hbel

theorem waits_walk (a0 a1 a2 a3 : Int) (w : World) (_h0 : (Lit.int .i64 a0).wf = true) (_h1 : (Lit.int .i64 a1).wf = true) (_h2 : (Lit.int .i64 a2).wf = true) (h3 : (Lit.int .i64 a3).wf = true) :
    Calls Try.prog 4 #[.int .i64 a0, .int .i64 a1, .int .i64 a2, .int .i64 a3] w (RetB (.bool true) w) := by
  cases h : (spanB a1 && spanB a2 && decide (0 ≤ a3))
  · exact waits_no a0 a1 a2 a3 w h
  · simp only [Bool.and_eq_true, decide_eq_true_eq] at h
    exact waits_yes a0 a1 a2 a3 w h.1.1 h.1.2 h.2 (bounds_i64 h3).2

set_option maxHeartbeats 400000 in
theorem grows_no (base most n : Int) (w : World) (h : (spanB base && spanB most) = false ∨ ((spanB base && spanB most) = true ∧ (n < 1 ∨ 16 < n))) :
    Calls Try.prog 5 #[.int .i64 base, .int .i64 most, .int .i64 n] w (RetB (.bool true) w) := by
  have HT : ∀ w, Calls Try.prog 14 #[.int .i64 base, .int .i64 most, .int .i64 n] w (Ret (.tuple #[.int .i64 0, .int .i64 1]) w) := by
    intro w
    by_cases hn : n < 1 ∨ 16 < n
    · exact total_arg _ _ _ _ hn
    · rcases h with h | h
      · exact total_no _ _ _ _ (by omega) (by omega) h
      · exact absurd h.2 hn
  rcases h with hs | ⟨hs, hk | hk⟩
  all_goals
    go_enter Try.func5, Try.ntmps5
    go_wp2_with (first | (go_at_call 9; refine (lives12 _).mono ?_; rintro e w1 ⟨rfl, hbel⟩) | (go_at_call 14; refine (HT _).mono ?_; rintro e w' ⟨rfl, rfl⟩) | (go_at_call 12; refine (right_any _ _ _).mono ?_; rintro e w' ⟨rfl, rfl⟩))
    go_ret
    exact RetB.mk rfl hbel

set_option maxHeartbeats 400000 in
theorem grows_yes (base most n : Int) (w : World) (hb : spanB base = true) (hm : spanB most = true) (h1 : 1 ≤ n) (h2 : n ≤ 16) :
    Calls Try.prog 5 #[.int .i64 base, .int .i64 most, .int .i64 n] w (RetB (.bool true) w) := by
  have HW := fun k w hk hk2 => wait_yes base most k w hb hm hk hk2
  have HT := fun w => total_yes base most n w h1 h2 hb hm
  have HR := fun w => right_any base most w
  rw [hb, hm] at HR
  have b1 : 0 ≤ base ∧ base ≤ 1048576 := by simpa [spanB] using hb
  have m1 : 0 ≤ most ∧ most ≤ 1048576 := by simpa [spanB] using hm
  have HB := Lib.hid b1
  have HM := Lib.hid m1
  clear b1 m1 hb hm
  obtain ⟨n, rfl⟩ := Int.eq_ofNat_of_zero_le (show 0 ≤ n by omega)
  go_enter Try.func5, Try.ntmps5
  go_wp2_with (first | (go_at_call 9; refine (lives12 _).mono ?_; rintro e w1 ⟨rfl, hbel⟩) | (go_at_call 14; refine (HT _).mono ?_; rintro e w' ⟨rfl, rfl⟩) | (go_at_call 12; refine (HR _).mono ?_; rintro e w' ⟨rfl, rfl⟩))
  go_loop [9, 10, 43] (fun l s i => ∃ (j : Nat) (x : Int), j ≤ n - 1 ∧ i = .int .i64 j ∧ s = .int .i64 (sumF base most j) ∧ l = .int .i64 x ∧ x ≤ waitF base most j) (fun _ _ i => n - (intOf i).toNat)
  case atStart => exact ⟨0, 0, by omega, rfl, rfl, rfl, (waitF_bounds most 0 base HB.out.1 HM.out.1).1⟩
  case round =>
    obtain ⟨j, x, hj, rfl, rfl, rfl, hx⟩ := hrel
    have sb := sumF_bounds base most HB.out.1 HM.out j
    have wb := waitF_bounds most j base HB.out.1 HM.out.1
    have hs1 : Hid (sumF base most (j + 1) = sumF base most j + waitF base most j) := rfl
    have hmo := Lib.hid (waitF_mono most j base).1
    obtain ⟨w1, w2⟩ := wb
    obtain ⟨s1, s2⟩ := sb
    have hm2 := HM.out.2
    have hs2 : sumF base most j ≤ 20000000 := by omega
    have hw3 : waitF base most j ≤ 1048576 := by omega
    clear s2
    by_cases hlt : j < n - 1
    · go_wp2_with (go_at_call 10; refine (HW _ _ (by omega) (by omega)).mono ?_; rintro e w' ⟨rfl, rfl⟩)
      go_round
      case rel => exact ⟨j + 1, _, by omega, by go_num, by rw [hs1.out], rfl, hmo.out⟩
      case measure => simp [intOf]; omega
    · obtain rfl : j = n - 1 := by omega
      go_wp2
      go_ret
      exact RetB.mk (bool_eq (by simp)) hbel

theorem grows_walk (a0 a1 a2 : Int) (w : World) (_h0 : (Lit.int .i64 a0).wf = true) (_h1 : (Lit.int .i64 a1).wf = true) (_h2 : (Lit.int .i64 a2).wf = true) :
    Calls Try.prog 5 #[.int .i64 a0, .int .i64 a1, .int .i64 a2] w (RetB (.bool true) w) := by
  cases h : (spanB a0 && spanB a1)
  · exact grows_no _ _ _ _ (.inl h)
  · by_cases hn : a2 < 1 ∨ 16 < a2
    · exact grows_no _ _ _ _ (.inr ⟨h, hn⟩)
    · simp only [Bool.and_eq_true] at h
      exact grows_yes _ _ _ _ h.1 h.2 (by omega) (by omega)

end Go.Proofs.Ytebkdkoamiefjaa

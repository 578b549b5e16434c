/- The calendar in plain words: package calendar's formula is the date. No program. -/
import Derived.KernelRfl
namespace Go.Proofs.YtldieadbkaphkaaGreatDoor

/-- One in a leap year. -/
def lpY (y : Int) : Int := if y % 4 = 0 ∧ (y % 100 ≠ 0 ∨ y % 400 = 0) then 1 else 0
/-- Days ahead of the 1st of January of a year, from the year 0 on. -/
def dby (y : Int) : Int := 365 * y + (y + 3) / 4 - (y + 99) / 100 + (y + 399) / 400
theorem lpY_01 (y : Int) : lpY y = 0 ∨ lpY y = 1 := by unfold lpY; split <;> omega
theorem dby_succ (y : Int) : dby (y + 1) = dby y + 365 + lpY y := by
  unfold dby lpY
  split <;> omega
theorem dby_era (y : Int) : dby (y + 400) = dby y + 146097 := by unfold dby; omega
theorem lpY_era (y : Int) : lpY (y + 400) = lpY y := by unfold lpY; split <;> split <;> omega
theorem dby_mono {a b : Int} (h : a ≤ b) : dby a ≤ dby b := by unfold dby; omega
theorem dby_2000 : dby 2000 = 730485 := by decide

/-- Days of a month. -/
def lenM (lp m : Int) : Int := if m = 2 then 28 + lp else if m = 4 ∨ m = 6 ∨ m = 9 ∨ m = 11 then 30 else 31
/-- Days ahead of a month. -/
def cumM (lp m : Int) : Int :=
  if m = 1 then 0 else if m = 2 then 31 else lp + (if m = 3 then 59 else if m = 4 then 90 else if m = 5 then 120 else if m = 6 then 151 else if m = 7 then 181 else if m = 8 then 212 else if m = 9 then 243 else if m = 10 then 273 else if m = 11 then 304 else 334)

theorem month_cases {m : Int} (h1 : 1 ≤ m) (h2 : m ≤ 12) : m = 1 ∨ m = 2 ∨ m = 3 ∨ m = 4 ∨ m = 5 ∨ m = 6 ∨ m = 7 ∨ m = 8 ∨ m = 9 ∨ m = 10 ∨ m = 11 ∨ m = 12 := by omega
theorem cum_succ (lp : Int) {m : Int} (h1 : 1 ≤ m) (h2 : m ≤ 11) : cumM lp (m + 1) = cumM lp m + lenM lp m := by
  rcases month_cases h1 (by omega) with rfl | rfl | rfl | rfl | rfl | rfl | rfl | rfl | rfl | rfl | rfl | rfl <;> simp [cumM, lenM] <;> omega
theorem cum_end (lp : Int) : cumM lp 12 + lenM lp 12 = 365 + lp := by simp [cumM, lenM]; omega
theorem lenM_pos {lp : Int} (h : lp = 0 ∨ lp = 1) (m : Int) : 28 ≤ lenM lp m ∧ lenM lp m ≤ 31 := by unfold lenM; split <;> (try split) <;> omega

/-- A date is that of a day, by days since the 1st of January 2000. -/
structure IsDate (y m d n : Int) : Prop where
  m1 : 1 ≤ m
  m12 : m ≤ 12
  d1 : 1 ≤ d
  dl : d ≤ lenM (lpY y) m
  sum : dby y + cumM (lpY y) m + d - 1 = n + 730485

theorem cum_range {lp m : Int} (hl : lp = 0 ∨ lp = 1) (h1 : 1 ≤ m) (h2 : m ≤ 12) : 0 ≤ cumM lp m ∧ cumM lp m + lenM lp m ≤ 365 + lp := by
  rcases month_cases h1 h2 with rfl | rfl | rfl | rfl | rfl | rfl | rfl | rfl | rfl | rfl | rfl | rfl <;> simp [cumM, lenM] <;> omega
theorem cum_lt {lp m k : Int} (hl : lp = 0 ∨ lp = 1) (h1 : 1 ≤ m) (h2 : k ≤ 12) (h : m < k) : cumM lp m + lenM lp m ≤ cumM lp k := by
  rcases month_cases h1 (by omega) with rfl | rfl | rfl | rfl | rfl | rfl | rfl | rfl | rfl | rfl | rfl | rfl <;> rcases month_cases (m := k) (by omega) h2 with rfl | rfl | rfl | rfl | rfl | rfl | rfl | rfl | rfl | rfl | rfl | rfl <;> first | omega | (simp [cumM, lenM]; done) | (simp [cumM, lenM]; omega)

theorem IsDate.year {y m d n : Int} (h : IsDate y m d n) : dby y ≤ n + 730485 ∧ n + 730485 < dby (y + 1) := by
  have h1 := cum_range (lpY_01 y) h.m1 h.m12
  have h2 := dby_succ y
  have h3 := h.sum
  have h4 := h.d1
  have h5 := h.dl
  omega

theorem IsDate.unique {y m d y' m' d' n : Int} (h : IsDate y m d n) (g : IsDate y' m' d' n) : y = y' ∧ m = m' ∧ d = d' := by
  have h1 := h.year
  have g1 := g.year
  have e : y = y' := by
    rcases Int.lt_trichotomy y y' with h2 | h2 | h2
    · have := dby_mono (a := y + 1) (b := y') (by omega); omega
    · exact h2
    · have := dby_mono (a := y' + 1) (b := y) (by omega); omega
  subst e
  have hs := h.sum
  have gs := g.sum
  have h4 := h.d1
  have h5 := h.dl
  have g4 := g.d1
  have g5 := g.dl
  have e : m = m' := by
    rcases Int.lt_trichotomy m m' with h2 | h2 | h2
    · have := cum_lt (lpY_01 y) h.m1 g.m12 h2; omega
    · exact h2
    · have := cum_lt (lpY_01 y) g.m1 h.m12 h2; omega
  subst e
  exact ⟨rfl, rfl, by omega⟩

theorem IsDate.era {y m d n : Int} (h : IsDate y m d n) : IsDate (y + 400) m d (n + 146097) := by
  have := h.sum
  have e := dby_era y
  have l := lpY_era y
  exact ⟨h.m1, h.m12, h.d1, by rw [l]; exact h.dl, by rw [l, e]; omega⟩

/-! ### the formula -/
def yoeF (doe : Int) : Int := (doe - doe / 1460 + doe / 36524 - doe / 146096) / 365
def doyF (doe : Int) : Int := doe - (365 * yoeF doe + yoeF doe / 4 - yoeF doe / 100)
def mpF (doe : Int) : Int := (5 * doyF doe + 2) / 153
def civY (n : Int) : Int := n / 146097 * 400 + yoeF (n % 146097) + (if mpF (n % 146097) < 10 then 0 else 1)
def civM (n : Int) : Int := if mpF (n % 146097) < 10 then mpF (n % 146097) + 3 else mpF (n % 146097) - 9
def civD (n : Int) : Int := doyF (n % 146097) - (153 * mpF (n % 146097) + 2) / 5 + 1

theorem yoe_step (doe : Int) (h : 0 ≤ doe) : doe - doe / 1460 + doe / 36524 - doe / 146096 ≤ (doe + 1) - (doe + 1) / 1460 + (doe + 1) / 36524 - (doe + 1) / 146096 := by omega
def yoeN (doe : Nat) : Nat := (doe - doe / 1460 + doe / 36524 - doe / 146096)
theorem yoeN_mono {a b : Nat} (h : a ≤ b) : yoeN a ≤ yoeN b := by
  induction h with
  | refl => exact Nat.le_refl _
  | step _ ih => exact Nat.le_trans ih (by unfold yoeN; omega)
/-- The day at which a year of an era begins. -/
def ysN (y : Nat) : Nat := 365 * y + y / 4 - y / 100
theorem ends_ok : ∀ y : Fin 400, yoeN (ysN y) / 365 = y ∧ yoeN ((if y.val = 399 then 146097 else ysN (y + 1)) - 1) / 365 = y := by decide +kernel
theorem find_year (doe : Nat) (h : doe < 146097) : ∃ y, y < 400 ∧ ysN y ≤ doe ∧ doe < (if y = 399 then 146097 else ysN (y + 1)) := by
  have key : ∀ k, k ≤ 400 → (∃ y, y < k ∧ ysN y ≤ doe ∧ doe < (if y = 399 then 146097 else ysN (y + 1))) ∨ (if k = 400 then 146097 else ysN k) ≤ doe := by
    intro k
    induction k with
    | zero => intro _; right; simp [ysN]
    | succ k ih =>
      intro hk
      rcases ih (by omega) with ⟨y, h1, h2⟩ | h1
      · exact .inl ⟨y, by omega, h2⟩
      · rw [if_neg (by omega)] at h1
        rcases Nat.lt_or_ge doe (if k = 399 then 146097 else ysN (k + 1)) with h3 | h3
        · exact .inl ⟨k, by omega, h1, h3⟩
        · right
          by_cases e : k = 399
          · subst e; simpa using h3
          · rw [if_neg e] at h3; rw [if_neg (by omega)]; exact h3
  rcases key 400 (Nat.le_refl _) with ⟨y, h1, h2⟩ | h1
  · exact ⟨y, h1, h2⟩
  · rw [if_pos rfl] at h1; omega

theorem yoe_spec (doe : Int) (h0 : 0 ≤ doe) (h1 : doe < 146097) : 0 ≤ yoeF doe ∧ yoeF doe ≤ 399 ∧ 365 * yoeF doe + yoeF doe / 4 - yoeF doe / 100 ≤ doe ∧ doe ≤ 365 * yoeF doe + yoeF doe / 4 - yoeF doe / 100 + 364 + (if (yoeF doe + 1) % 4 = 0 ∧ ((yoeF doe + 1) % 100 ≠ 0 ∨ yoeF doe = 399) then 1 else 0) := by
  obtain ⟨k, rfl⟩ : ∃ k : Nat, doe = (k : Int) := ⟨doe.toNat, by omega⟩
  obtain ⟨y, hy, hlo, hhi⟩ := find_year k (by omega)
  have e1 := (ends_ok ⟨y, hy⟩).1
  have e2 := (ends_ok ⟨y, hy⟩).2
  simp only at e1 e2
  have m1 := yoeN_mono hlo
  have m2 := yoeN_mono (show k ≤ (if y = 399 then 146097 else ysN (y + 1)) - 1 by omega)
  have q1 := Nat.div_le_div_right (c := 365) m1
  have q2 := Nat.div_le_div_right (c := 365) m2
  have hy2 : yoeN k / 365 = y := by omega
  have hf : yoeF (k : Int) = (y : Int) := by
    rw [← hy2]
    unfold yoeF yoeN
    omega
  rw [hf]
  clear e1 e2 m1 m2 q1 q2 hy2 hf
  unfold ysN at hlo hhi
  by_cases e : y = 399
  · subst e
    simp at hhi
    refine ⟨by omega, by omega, by omega, ?_⟩
    rw [if_pos (by omega)]
    omega
  · rw [if_neg e] at hhi
    have h4 : y % 4 = 0 ∨ y % 4 = 1 ∨ y % 4 = 2 ∨ y % 4 = 3 := by omega
    have h100 : (y + 1) / 100 = y / 100 ∨ (y + 1) / 100 = y / 100 + 1 := by omega
    refine ⟨by omega, by omega, by omega, ?_⟩
    rcases h4 with h4 | h4 | h4 | h4
    · rw [if_neg (by omega)]; omega
    · rw [if_neg (by omega)]; omega
    · rw [if_neg (by omega)]; omega
    · by_cases h5 : y % 100 = 99
      · rw [if_neg (by omega)]; omega
      · rw [if_pos (by omega)]; omega

theorem doy_spec (doe : Int) (h0 : 0 ≤ doe) (h1 : doe < 146097) : 0 ≤ doyF doe ∧ doyF doe ≤ 364 + lpY (yoeF doe + 1) := by
  obtain ⟨a, b, c, d⟩ := yoe_spec doe h0 h1
  unfold doyF lpY
  generalize yoeF doe = y at *
  refine ⟨by omega, ?_⟩
  split at d
  · rw [if_pos (by omega)]; omega
  · split <;> omega

theorem lp_count (y : Int) : (y + 3) / 4 - (y + 99) / 100 + (y + 399) / 400 + lpY y = y / 4 - y / 100 + y / 400 + 1 := by
  unfold lpY; split <;> omega

theorem civ_date (n : Int) (h : 0 ≤ n) : IsDate (civY n) (civM n) (civD n) (n - 730425) := by
  have hd0 : 0 ≤ n % 146097 := by omega
  have hd1 : n % 146097 < 146097 := by omega
  obtain ⟨a, b, _, _⟩ := yoe_spec _ hd0 hd1
  obtain ⟨p, q⟩ := doy_spec _ hd0 hd1
  have hsum : n % 146097 = 365 * yoeF (n % 146097) + yoeF (n % 146097) / 4 - yoeF (n % 146097) / 100 + doyF (n % 146097) := by unfold doyF; omega
  unfold civY civM civD
  have hmp : mpF (n % 146097) = (5 * doyF (n % 146097) + 2) / 153 := rfl
  have hn : n = 146097 * (n / 146097) + n % 146097 := by omega
  generalize mpF (n % 146097) = mp at *
  generalize doyF (n % 146097) = doy at *
  generalize yoeF (n % 146097) = yoe at *
  generalize n / 146097 = era at *
  generalize n % 146097 = doe at *
  have hl : lpY (yoe + 1) = lpY (era * 400 + yoe + 1) := by unfold lpY; split <;> split <;> omega
  have hc := lp_count (era * 400 + yoe)
  have hs := dby_succ (era * 400 + yoe)
  have h01 := lpY_01 (era * 400 + yoe)
  have h02 := lpY_01 (era * 400 + yoe + 1)
  rw [hl] at q
  have hdb : dby (era * 400 + yoe) + lpY (era * 400 + yoe) + 59 + doy = n + 60 := by unfold dby; omega
  have hm0 : 0 ≤ mp ∧ mp ≤ 11 := by omega
  by_cases hlt : mp < 10
  · rw [if_pos hlt, if_pos hlt, Int.add_zero]
    suffices hh : 1 ≤ mp + 3 ∧ mp + 3 ≤ 12 ∧ 1 ≤ doy - (153 * mp + 2) / 5 + 1 ∧ doy - (153 * mp + 2) / 5 + 1 ≤ lenM (lpY (era * 400 + yoe)) (mp + 3) ∧ dby (era * 400 + yoe) + cumM (lpY (era * 400 + yoe)) (mp + 3) + (doy - (153 * mp + 2) / 5 + 1) - 1 = n - 730425 + 730485 from ⟨hh.1, hh.2.1, hh.2.2.1, hh.2.2.2.1, hh.2.2.2.2⟩
    generalize lpY (era * 400 + yoe) = lp at *
    generalize dby (era * 400 + yoe) = db at *
    clear hs hc hl q hsum
    have hm : mp = 0 ∨ mp = 1 ∨ mp = 2 ∨ mp = 3 ∨ mp = 4 ∨ mp = 5 ∨ mp = 6 ∨ mp = 7 ∨ mp = 8 ∨ mp = 9 := by omega
    rcases hm with rfl | rfl | rfl | rfl | rfl | rfl | rfl | rfl | rfl | rfl <;> exact ⟨by omega, by omega, by omega, by simp [lenM]; omega, by simp [cumM]; omega⟩
  · rw [if_neg hlt, if_neg hlt]
    suffices hh : 1 ≤ mp - 9 ∧ mp - 9 ≤ 12 ∧ 1 ≤ doy - (153 * mp + 2) / 5 + 1 ∧ doy - (153 * mp + 2) / 5 + 1 ≤ lenM (lpY (era * 400 + yoe + 1)) (mp - 9) ∧ dby (era * 400 + yoe + 1) + cumM (lpY (era * 400 + yoe + 1)) (mp - 9) + (doy - (153 * mp + 2) / 5 + 1) - 1 = n - 730425 + 730485 from ⟨hh.1, hh.2.1, hh.2.2.1, hh.2.2.2.1, hh.2.2.2.2⟩
    generalize lpY (era * 400 + yoe + 1) = lp2 at *
    generalize lpY (era * 400 + yoe) = lp at *
    generalize dby (era * 400 + yoe + 1) = db2 at *
    generalize dby (era * 400 + yoe) = db at *
    clear hc hl hsum
    have hm : mp = 10 ∨ mp = 11 := by omega
    rcases hm with rfl | rfl <;> exact ⟨by omega, by omega, by omega, by simp [lenM]; omega, by simp [cumM]; omega⟩

end Go.Proofs.YtldieadbkaphkaaGreatDoor

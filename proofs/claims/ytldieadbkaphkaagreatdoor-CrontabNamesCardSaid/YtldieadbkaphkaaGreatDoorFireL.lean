/- Package fires in plain words: the next tick, what a jump passes over, eras. -/
import Derived.Test.YtldieadbkaphkaaGreatDoorCronM
namespace Go.Proofs.YtldieadbkaphkaaGreatDoor

/-- The first named tick of n ones from x on. -/
def nxt (e : Ex) (x : Int) : Nat → Int × Bool
  | 0 => (0, false)
  | n + 1 => if atB e x then (x, true) else nxt e (x + 1) n
def perEra : Int := 210379680
/-- What Next answers. -/
def nextF (e : Ex) (after : Int) : Int × Bool :=
  if 1099511627776 ≤ after then (0, false) else nxt e (max after (-1) + 1) (min (max after (-1) + 1 + perEra) 1099511627776 + 1 - (max after (-1) + 1)).toNat

theorem nxt_hit {e : Ex} : ∀ {n : Nat} {x t : Int}, x ≤ t → t < x + n → atB e t = true → (∀ u, x ≤ u → u < t → atB e u = false) → nxt e x n = (t, true)
  | 0, x, t, h1, h2, _, _ => by omega
  | n + 1, x, t, h1, h2, h3, h4 => by
    unfold nxt
    by_cases h : x = t
    · subst h; rw [if_pos h3]
    · rw [if_neg (by rw [h4 x (by omega) (by omega)]; decide)]
      exact nxt_hit (by omega) (by omega) h3 fun u a b => h4 u (by omega) b
theorem nxt_miss {e : Ex} : ∀ {n : Nat} {x : Int}, (∀ u, x ≤ u → u < x + n → atB e u = false) → nxt e x n = (0, false)
  | 0, _, _ => rfl
  | n + 1, x, h => by
    unfold nxt
    rw [if_neg (by rw [h x (by omega) (by omega)]; decide)]
    exact nxt_miss fun u a b => h u (by omega) (by omega)
theorem nxt_cases (e : Ex) : ∀ (n : Nat) (x : Int), (∃ t, nxt e x n = (t, true) ∧ x ≤ t ∧ t < x + n ∧ atB e t = true ∧ ∀ u, x ≤ u → u < t → atB e u = false) ∨ (nxt e x n = (0, false) ∧ ∀ u, x ≤ u → u < x + n → atB e u = false)
  | 0, x => .inr ⟨rfl, fun u a b => by omega⟩
  | n + 1, x => by
    by_cases h : atB e x = true
    · exact .inl ⟨x, by unfold nxt; rw [if_pos h], by omega, by omega, h, fun u a b => by omega⟩
    · rcases nxt_cases e n (x + 1) with ⟨t, h1, h2, h3, h4, h5⟩ | ⟨h1, h2⟩
      · refine .inl ⟨t, by unfold nxt; rw [if_neg h]; exact h1, by omega, by omega, h4, fun u a b => ?_⟩
        by_cases hu : u = x
        · subst hu; simpa using h
        · exact h5 u (by omega) b
      · refine .inr ⟨by unfold nxt; rw [if_neg h]; exact h1, fun u a b => ?_⟩
        by_cases hu : u = x
        · subst hu; simpa using h
        · exact h2 u (by omega) (by omega)
/-- Ticks that aren't named are passed over. -/
theorem nxt_skip {e : Ex} : ∀ (k n : Nat) (x : Int), k ≤ n → (∀ u, x ≤ u → u < x + k → atB e u = false) → nxt e x n = nxt e (x + k) (n - k)
  | 0, n, x, _, _ => by simp
  | k + 1, 0, x, h, _ => by omega
  | k + 1, n + 1, x, h, hu => by
    have h1 : nxt e x (n + 1) = nxt e (x + 1) n := by
      rw [nxt, if_neg (by rw [hu x (by omega) (by omega)]; decide)]
    rw [h1, nxt_skip k n (x + 1) (by omega) (fun u a b => hu u (by omega) (by omega))]
    rw [show x + 1 + (k : Int) = x + ((k + 1 : Nat) : Int) by omega, show n - k = n + 1 - (k + 1) by omega]

/-! ### What a moment's parts are, some ticks on -/
theorem momF_date {t : Int} (h0 : 0 ≤ t) : IsDate (momF t).y (momF t).m (momF t).d (t / 1440) := by
  have hc := civ_date (t / 1440 + 730425) (by omega)
  rw [show t / 1440 + 730425 - 730425 = t / 1440 by omega] at hc
  exact hc
theorem mom_month {t u : Int} (h0 : 0 ≤ t) (htu : t ≤ u) (h : (momF t).d + (u / 1440 - t / 1440) ≤ lenM (lpY (momF t).y) (momF t).m) :
    (momF u).y = (momF t).y ∧ (momF u).m = (momF t).m ∧ (momF u).d = (momF t).d + (u / 1440 - t / 1440) := by
  have hd := momF_date h0
  have hs := hd.sum
  have h1 := hd.d1
  have hd2 : IsDate (momF t).y (momF t).m ((momF t).d + (u / 1440 - t / 1440)) (u / 1440) := ⟨hd.m1, hd.m12, by omega, h, by omega⟩
  exact (momF_date (t := u) (by omega)).unique hd2
theorem mom_sameday {t u : Int} (h : u / 1440 = t / 1440) : (momF u).y = (momF t).y ∧ (momF u).m = (momF t).m ∧ (momF u).d = (momF t).d ∧ (momF u).wd = (momF t).wd := by
  unfold momF; simp only; rw [h]; exact ⟨rfl, rfl, rfl, rfl⟩
theorem momF_era {t : Int} (h0 : 0 ≤ t) : (momF (t + perEra)).m = (momF t).m ∧ (momF (t + perEra)).d = (momF t).d ∧ (momF (t + perEra)).wd = (momF t).wd ∧ (momF (t + perEra)).h = (momF t).h ∧ (momF (t + perEra)).mi = (momF t).mi := by
  have hq : (t + perEra) / 1440 = t / 1440 + 146097 := by unfold perEra; omega
  have hd := (momF_date h0).era
  have h2 := momF_date (t := t + perEra) (by unfold perEra; omega)
  rw [hq] at h2
  obtain ⟨_, h4, h5⟩ := h2.unique hd
  refine ⟨h4, h5, ?_, ?_, ?_⟩
  · unfold momF; simp only; rw [hq]; omega
  · unfold momF perEra; simp only; omega
  · unfold momF perEra; simp only; omega
theorem atB_era (e : Ex) {t : Int} (h0 : 0 ≤ t) (h1 : t + perEra ≤ 1099511627776) : atB e (t + perEra) = atB e t := by
  obtain ⟨a, b, c, d, f⟩ := momF_era h0
  have hp : perEra = 210379680 := rfl
  unfold atB namesM
  rw [if_pos ⟨by omega, h1⟩, if_pos ⟨h0, by omega⟩, a, b, c, d, f]
theorem atB_eras (e : Ex) : ∀ (k : Nat) {t : Int}, 0 ≤ t → t + perEra * k ≤ 1099511627776 → atB e (t + perEra * k) = atB e t
  | 0, t, _, _ => by simp
  | k + 1, t, h0, h1 => by
    have hp : perEra = 210379680 := rfl
    rw [show t + perEra * ((k + 1 : Nat) : Int) = (t + perEra * k) + perEra by rw [hp]; omega] at h1 ⊢
    rw [atB_era e (by rw [hp]; omega) h1]
    exact atB_eras e k h0 (by omega)

/-! ### The jump -/
/-- Is a day named, whatever the hour? -/
def wholeB (e : Ex) (m : Mom) : Bool := namesB ⟨1, 1, e.da, e.mo, e.we, e.ad, e.aw⟩ 0 0 m.d.toNat m.m.toNat m.wd.toNat
def jumpF (e : Ex) (t : Int) : Int :=
  if e.mo.testBit (momF t).m.toNat = false then (lenM (lpY (momF t).y) (momF t).m - (momF t).d + 1) * 1440 - ((momF t).h * 60 + (momF t).mi)
  else if wholeB e (momF t) = false then 1440 - ((momF t).h * 60 + (momF t).mi)
  else if e.ho.testBit (momF t).h.toNat = false then 60 - (momF t).mi
  else 1
theorem names_whole {e : Ex} {m : Mom} (h : wholeB e m = false) : namesM e m = false := by
  unfold wholeB at h
  unfold namesM
  unfold namesB at h ⊢
  simp only [show Nat.testBit 1 0 = true by decide, Bool.true_eq_false, false_or] at h
  by_cases hm : e.mo.testBit m.m.toNat = false
  · rw [if_pos (.inr (.inr hm))]
  · rw [if_neg hm] at h
    by_cases hb : e.mi.testBit m.mi.toNat = false ∨ e.ho.testBit m.h.toNat = false ∨ e.mo.testBit m.m.toNat = false
    · rw [if_pos hb]
    · rw [if_neg hb]; exact h
theorem jump_ok (e : Ex) {t : Int} (h0 : 0 ≤ t) : 1 ≤ jumpF e t ∧ jumpF e t ≤ 50000 := by
  have hr := mom_range h0
  have hd := momF_date h0
  have h1 := hd.dl
  have h2 := lenM_pos (lpY_01 (momF t).y) (momF t).m
  unfold jumpF
  split
  · omega
  · split
    · omega
    · split <;> omega
theorem atB_no {e : Ex} {u : Int} (h : namesM e (momF u) = false) : atB e u = false := by
  unfold atB; split
  · exact h
  · rfl
theorem jump_skip (e : Ex) {t : Int} (h0 : 0 ≤ t) (hn : atB e t = false) : ∀ u, t ≤ u → u < t + jumpF e t → atB e u = false := by
  intro u h1 h2
  have hhm : (momF t).h * 60 + (momF t).mi = t % 1440 := by unfold momF; simp only; omega
  unfold jumpF at h2
  rw [hhm] at h2
  have hd := momF_date h0
  by_cases hm : e.mo.testBit (momF t).m.toNat = false
  · rw [if_pos hm] at h2
    have hl := hd.dl
    have hmm := (mom_month h0 h1 (by generalize lenM (lpY (momF t).y) (momF t).m = L at *; omega)).2.1
    refine atB_no ?_
    unfold namesM namesB
    rw [hmm, if_pos (.inr (.inr hm))]
  · rw [if_neg hm] at h2
    by_cases hw : wholeB e (momF t) = false
    · rw [if_pos hw] at h2
      obtain ⟨_, a, b, c⟩ := mom_sameday (t := t) (u := u) (by omega)
      refine atB_no (names_whole ?_)
      unfold wholeB at hw ⊢
      rw [a, b, c]; exact hw
    · rw [if_neg hw] at h2
      by_cases hh : e.ho.testBit (momF t).h.toNat = false
      · rw [if_pos hh] at h2
        have e1 : (momF u).h = (momF t).h := by unfold momF at h2 ⊢; simp only at h2 ⊢; omega
        refine atB_no ?_
        unfold namesM namesB
        rw [e1, if_pos (.inr (.inl hh))]
      · rw [if_neg hh] at h2
        rw [show u = t by omega]; exact hn

/-! ### The first check of the statements -/
def live8B : Bs := [48, 32, 48, 32, 50, 57, 32, 50, 32, 42]
def live8E : Ex := ⟨1, 1, 536870912, 4, 127, false, true⟩
theorem live8_days : ∀ k : Fin 1520, k.val = 59 ∨ ¬ (civM ((k.val : Int) + 730425) = 2 ∧ civD ((k.val : Int) + 730425) = 29) := by decide +kernel
theorem bit1 (n : Nat) (h : Nat.testBit 1 n = true) : n = 0 := by
  rw [show (1 : Nat) = 2 ^ 0 from rfl, Nat.testBit_two_pow] at h
  have := of_decide_eq_true h; omega
theorem live8_only {u : Int} (h0 : 0 ≤ u) (h1 : u < 1520 * 1440) (h : atB live8E u = true) : u = 84960 := by
  have hr := mom_range h0
  unfold atB at h
  split at h
  · unfold namesM namesB at h
    split at h
    · exact absurd h (by decide)
    · rename_i hb
      have b1 : Nat.testBit 1 (momF u).mi.toNat = true := (Bool.not_eq_false _).mp fun q => hb (.inl q)
      have b2 : Nat.testBit 1 (momF u).h.toNat = true := (Bool.not_eq_false _).mp fun q => hb (.inr (.inl q))
      have b3 : Nat.testBit 4 (momF u).m.toNat = true := (Bool.not_eq_false _).mp fun q => hb (.inr (.inr q))
      have c1 := bit1 _ b1
      have c2 := bit1 _ b2
      rw [if_pos (.inr rfl)] at h
      have b4 : Nat.testBit 536870912 (momF u).d.toNat = true := by simp only [Bool.and_eq_true] at h; exact h.1
      rw [show (4 : Nat) = 2 ^ 2 from rfl, Nat.testBit_two_pow] at b3
      rw [show (536870912 : Nat) = 2 ^ 29 from rfl, Nat.testBit_two_pow] at b4
      have c3 := of_decide_eq_true b3
      have c4 := of_decide_eq_true b4
      have hu : u % 1440 = 0 := by
        have e1 : (momF u).mi = u % 1440 % 60 := rfl
        have e2 : (momF u).h = u % 1440 / 60 := rfl
        omega
      rcases live8_days ⟨(u / 1440).toNat, by omega⟩ with hk | hk
      · simp only at hk; omega
      · simp only at hk
        rw [show (((u / 1440).toNat : Nat) : Int) = u / 1440 by omega] at hk
        exact absurd ⟨show (momF u).m = 2 by omega, show (momF u).d = 29 by omega⟩ hk
  · exact absurd h (by decide)
theorem live8_at1 : atB live8E 84960 = true := by kernel_rfl
theorem live8_at2 : atB live8E 2188800 = true := by kernel_rfl
theorem live8_parse : cronF live8B = (live8E, 0) := by kernel_rfl
theorem live8_n1 : nextF live8E 0 = (84960, true) := by
  unfold nextF
  rw [if_neg (by decide)]
  refine nxt_hit (by decide) (by decide) live8_at1 fun u a b => ?_
  by_cases h : atB live8E u = true
  · have := live8_only (by have : max (0 : Int) (-1) + 1 = 1 := by decide
                           omega) (by omega) h; omega
  · simpa using h
theorem live8_n2 : nextF live8E 84960 = (2188800, true) := by
  unfold nextF
  rw [if_neg (by decide)]
  refine nxt_hit (by decide) (by decide) live8_at2 fun u a b => ?_
  by_cases h : atB live8E u = true
  · have e : max (84960 : Int) (-1) + 1 = 84961 := by decide
    have := live8_only (by omega) (by omega) h; omega
  · simpa using h

/-! ### The law FiresEras -/
theorem nxt_some {e : Ex} {x : Int} {n : Nat} : (nxt e x n).2 = true ↔ ∃ u, x ≤ u ∧ u < x + n ∧ atB e u = true := by
  rcases nxt_cases e n x with ⟨t, h1, h2, h3, h4, _⟩ | ⟨h1, h2⟩
  · rw [h1]; exact ⟨fun _ => ⟨t, h2, h3, h4⟩, fun _ => rfl⟩
  · rw [h1]; exact ⟨fun h => absurd h (by decide), fun ⟨u, a, b, c⟩ => by rw [h2 u a b] at c; exact absurd c (by decide)⟩
theorem nxt_shift {e : Ex} : ∀ (n : Nat) (x : Int), 0 ≤ x → x + n + perEra ≤ 1099511627776 → nxt e (x + perEra) n = if (nxt e x n).2 then ((nxt e x n).1 + perEra, true) else (0, false)
  | 0, x, _, _ => rfl
  | n + 1, x, h0, h1 => by
    unfold nxt
    rw [atB_era e h0 (by omega)]
    by_cases h : atB e x = true
    · rw [if_pos h, if_pos h]; rfl
    · rw [if_neg h, if_neg h, show x + perEra + 1 = x + 1 + perEra by omega]
      exact nxt_shift n (x + 1) (by omega) (by omega)
/-- Whether any tick of an era is named does not hang on where it begins. -/
theorem nxt_any {e : Ex} {x : Int} (h0 : 0 ≤ x) (h1 : x ≤ 1000000000000) : (nxt e x 210379681).2 = (nxt e 0 210379681).2 := by
  have hp : perEra = 210379680 := rfl
  rw [Bool.eq_iff_iff, nxt_some, nxt_some]
  constructor
  · rintro ⟨u, a, b, c⟩
    refine ⟨u % perEra, by rw [hp]; omega, by rw [hp]; omega, ?_⟩
    have := atB_eras e (u / perEra).toNat (t := u % perEra) (by rw [hp]; omega) (by rw [hp]; omega)
    rw [← this, show u % perEra + perEra * (((u / perEra).toNat : Nat) : Int) = u by rw [hp]; omega]
    exact c
  · rintro ⟨u, a, b, c⟩
    have hk : ∃ k : Nat, x ≤ u + perEra * k ∧ u + perEra * k < x + 210379681 ∧ u + perEra * k ≤ 1099511627776 := by
      by_cases h : x ≤ u
      · exact ⟨0, by omega, by omega, by omega⟩
      · exact ⟨((x - u + 210379679) / 210379680).toNat, by rw [hp]; omega, by rw [hp]; omega, by rw [hp]; omega⟩
    obtain ⟨k, k1, k2, k3⟩ := hk
    exact ⟨_, k1, k2, by rw [atB_eras e k (by omega) k3]; exact c⟩
theorem eras_law (e : Ex) (t : Int) (h0 : 0 ≤ t) (h1 : t ≤ 4294967295) :
    atB e (t + perEra) = atB e t ∧ (nextF e (t + perEra)).2 = (nextF e t).2 ∧ (nextF e (-1)).2 = (nextF e t).2 ∧ ((nextF e t).2 = true → (nextF e (t + perEra)).1 = (nextF e t).1 + perEra) := by
  have hp : perEra = 210379680 := rfl
  have e1 : nextF e t = nxt e (t + 1) 210379681 := by
    unfold nextF; rw [if_neg (by omega), hp, show max t (-1) + 1 = t + 1 by omega, show (min (t + 1 + 210379680) 1099511627776 + 1 - (t + 1)).toNat = 210379681 by omega]
  have e2 : nextF e (t + perEra) = nxt e (t + 1 + perEra) 210379681 := by
    unfold nextF; rw [if_neg (by omega), hp, show max (t + 210379680) (-1) + 1 = t + 1 + 210379680 by omega, show (min (t + 1 + 210379680 + 210379680) 1099511627776 + 1 - (t + 1 + 210379680)).toNat = 210379681 by omega]
  have e3 : nextF e (-1) = nxt e 0 210379681 := by
    unfold nextF; rw [if_neg (by omega), hp]; rfl
  rw [e1, e2, e3, nxt_shift _ _ (by omega) (by omega), ← nxt_any (e := e) (x := t + 1) (by omega) (by omega)]
  refine ⟨atB_era e h0 (by omega), ?_, rfl, fun h => by rw [if_pos h]⟩
  cases (nxt e (t + 1) 210379681).2 <;> rfl

end Go.Proofs.YtldieadbkaphkaaGreatDoor

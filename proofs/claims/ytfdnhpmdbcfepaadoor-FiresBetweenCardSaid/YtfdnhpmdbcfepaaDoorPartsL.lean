/- The statement FiresParts in plain words. -/
import Derived.Test.YtfdnhpmdbcfepaaDoorCount
namespace Go.Proofs.YtfdnhpmdbcfepaaDoor

theorem next_spec2 (e : Ex) (t : Int) (h0 : 0 ≤ t) (h1 : t < 1099511627776) :
    (∃ n, nextF e t = (n, true) ∧ t < n ∧ n ≤ 1099511627776 ∧ atB e n = true ∧ ∀ u, t < u → u < n → atB e u = false) ∨
    (nextF e t = (0, false) ∧ ∀ u, t < u → u ≤ t + 210379680 → atB e u = false) := by
  have hp : perEra = 210379680 := rfl
  have hv : nextF e t = nxt e (t + 1) (min (t + 1 + 210379680) 1099511627776 + 1 - (t + 1)).toNat := by
    rw [nextF_val e t (by omega), show max t (-1) = t by omega, hp]
  rcases nxt_cases e (min (t + 1 + 210379680) 1099511627776 + 1 - (t + 1)).toNat (t + 1) with ⟨n, e1, a, b, c, d⟩ | ⟨e1, a⟩
  · left
    exact ⟨n, by rw [hv, e1], by omega, by omega, c, fun u h2 h3 => d u (by omega) h3⟩
  · right
    refine ⟨by rw [hv, e1], fun u h2 h3 => ?_⟩
    by_cases hu : u ≤ 1099511627776
    · exact a u (by omega) (by omega)
    · unfold atB; rw [if_neg (by omega)]

/-- How many of n ticks behind one are named. -/
def numN (e : Ex) : Int → Nat → Int
  | _, 0 => 0
  | a, n + 1 => (if atB e (a + 1) = true then 1 else 0) + numN e (a + 1) n
theorem numN_add (e : Ex) : ∀ (m n : Nat) (a : Int), numN e a (m + n) = numN e a m + numN e (a + m) n
  | 0, n, a => by simp [numN]
  | m + 1, n, a => by
    have ih := numN_add e m n (a + 1)
    rw [show m + 1 + n = (m + n) + 1 by omega, numN, numN, ih, show a + ((m + 1 : Nat) : Int) = a + 1 + m by omega]
    omega
theorem numN_skip (e : Ex) : ∀ (j n : Nat) (a : Int), j ≤ n → (∀ u, a < u → u ≤ a + j → atB e u = false) → numN e a n = numN e (a + j) (n - j)
  | 0, n, a, _, _ => by simp
  | j + 1, 0, a, h, _ => by omega
  | j + 1, n + 1, a, h, hu => by
    have ih := numN_skip e j n (a + 1) (by omega) fun u h1 h2 => hu u (by omega) (by omega)
    rw [numN, if_neg (by rw [hu (a + 1) (by omega) (by omega)]; decide), ih, show a + 1 + (j : Int) = a + ((j + 1 : Nat) : Int) by omega, show n - j = n + 1 - (j + 1) by omega]
    omega
theorem numN_none (e : Ex) (n : Nat) (a : Int) (h : ∀ u, a < u → u ≤ a + n → atB e u = false) : numN e a n = 0 := by
  rw [numN_skip e n n a (Nat.le_refl _) h, Nat.sub_self]; rfl
theorem cnt_num (e : Ex) : ∀ (n k : Nat) (a : Int), n ≤ k → 0 ≤ a → a + n < 1099511627776 → n ≤ 200000000 → cntF e (a + n) k a = numN e a n := by
  intro n
  induction n using Nat.strongRecOn with
  | ind n ih =>
    intro k a hk h0 h1 h2
    rcases next_spec2 e a h0 (by omega) with ⟨t, e1, g1, g2, g3, g4⟩ | ⟨e1, g⟩
    · by_cases ht : t ≤ a + n
      · obtain ⟨k, rfl⟩ : ∃ k', k = k' + 1 := ⟨k - 1, by omega⟩
        obtain ⟨j, hj⟩ : ∃ j : Nat, t = a + j + 1 := ⟨(t - a - 1).toNat, by omega⟩
        have hs := numN_skip e j n a (by omega) fun u h3 h4 => g4 u h3 (by omega)
        obtain ⟨m, hm⟩ : ∃ m, n - j = m + 1 := ⟨n - j - 1, by omega⟩
        have hi := ih m (by omega) k t (by omega) (by omega) (by omega) (by omega)
        rw [cnt_step ⟨e1, ht⟩ k, hs, hm, numN, ← hj, if_pos g3, ← hi, show t + (m : Int) = a + n by omega]
      · rw [cnt_stop (fun x hx => by obtain ⟨h3, h4⟩ := hx; rw [e1] at h3; simp at h3; omega), numN_none e n a fun u h3 h4 => g4 u h3 (by omega)]
    · rw [cnt_stop (fun x hx => by obtain ⟨h3, _⟩ := hx; rw [e1] at h3; simp at h3), numN_none e n a fun u h3 h4 => g u h3 (by omega)]
theorem cnt_range (e : Ex) (to_ : Int) : ∀ (k : Nat) (a : Int), 0 ≤ cntF e to_ k a ∧ cntF e to_ k a ≤ k
  | 0, a => by simp [cntF]
  | k + 1, a => by
    have ih := cnt_range e to_ k (nextF e a).1
    unfold cntF
    split <;> omega
theorem parts_law (e : Ex) (x m n : Int) (x0 : 0 ≤ x) (x1 : x ≤ 4294967295) (m0 : 0 ≤ m) (m1 : m < 2000) (n0 : 0 ≤ n) (n1 : n < 2000) :
    cntF e (x + m) 10000 x + cntF e (x + m + n) 10000 (x + m) = cntF e (x + m + n) 10000 x := by
  obtain ⟨m, rfl⟩ : ∃ q : Nat, m = q := ⟨m.toNat, by omega⟩
  obtain ⟨n, rfl⟩ : ∃ q : Nat, n = q := ⟨n.toNat, by omega⟩
  have h1 := cnt_num e m 10000 x (by omega) x0 (by omega) (by omega)
  have h2 := cnt_num e n 10000 (x + m) (by omega) (by omega) (by omega) (by omega)
  have h3 := cnt_num e (m + n) 10000 x (by omega) x0 (by omega) (by omega)
  rw [show x + ((m + n : Nat) : Int) = x + m + n by omega] at h3
  rw [h1, h2, h3, numN_add]

end Go.Proofs.YtfdnhpmdbcfepaaDoor

/- An expression's text in plain words. -/
import Derived.Test.YtfdnhpmdbcfepaaDoorCronA
import Derived.Lib.TrailingZeros
import Derived.Lib.ItoaNum
import Derived.Lib.Join
namespace Go.Proofs.YtfdnhpmdbcfepaaDoor

/-- A number of at most two digits. -/
def dec2 (v : Nat) : Bs := if v < 10 then [UInt8.ofNat (48 + v)] else [UInt8.ofNat (48 + v / 10), UInt8.ofNat (48 + v % 10)]
theorem dec2_eq {v : Nat} (h : v < 100) : Lib.decDigits v = dec2 v := by
  unfold dec2
  by_cases h1 : v < 10
  · rw [if_pos h1, Lib.decDigits_one h1]
  · rw [if_neg h1, Lib.decDigits_two h1 h]
def joinL (c : UInt8) : List Bs → Bs
  | [] => []
  | [a] => a
  | a :: b :: r => a ++ c :: joinL c (b :: r)
theorem join_eq (c : UInt8) : ∀ l : List Bs, Lib.join l [c] = joinL c l
  | [] => rfl
  | [a] => by simp [Lib.join, List.intercalate, joinL]
  | a :: b :: r => by
    have ih := join_eq c (b :: r)
    unfold Lib.join at ih ⊢
    rw [joinL, ← ih]
    simp [List.intercalate]
theorem joinL_snoc (c : UInt8) : ∀ (l : List Bs) (a : Bs), l ≠ [] → joinL c (l ++ [a]) = joinL c l ++ c :: a
  | [], _, h => absurd rfl h
  | [b], a, _ => rfl
  | b :: d :: r, a, _ => by
    have ih := joinL_snoc c (d :: r) a (by simp)
    show b ++ c :: joinL c ((d :: r) ++ [a]) = (b ++ c :: joinL c (d :: r)) ++ c :: a
    rw [ih]; simp
def bitsFrom : Nat → Nat → Nat → List Nat
  | 0, _, _ => []
  | f + 1, k, v => if v.testBit k = true then k :: bitsFrom f (k + 1) v else bitsFrom f (k + 1) v
def bitsL (v : Nat) : List Nat := bitsFrom 64 0 v
theorem bitsFrom_congr : ∀ (f k v u : Nat), (∀ j, k ≤ j → j < k + f → v.testBit j = u.testBit j) → bitsFrom f k v = bitsFrom f k u
  | 0, _, _, _, _ => rfl
  | f + 1, k, v, u, h => by
    unfold bitsFrom
    rw [h k (Nat.le_refl _) (by omega), bitsFrom_congr f (k + 1) v u fun j h1 h2 => h j (by omega) (by omega)]
theorem bitsFrom_step : ∀ (f k c v u : Nat), k ≤ c → c < k + f → v.testBit c = true → (∀ j, j < c → v.testBit j = false) → (∀ j, u.testBit j = (v.testBit j && decide (j ≠ c))) → bitsFrom f k v = c :: bitsFrom f k u
  | 0, k, c, v, u, h1, h2, _, _, _ => by omega
  | f + 1, k, c, v, u, h1, h2, h3, h4, h5 => by
    unfold bitsFrom
    by_cases h : k = c
    · subst h
      rw [if_pos h3, if_neg (by rw [h5]; simp), bitsFrom_congr f (k + 1) v u fun j a b => by rw [h5 j]; have : j ≠ k := by omega
                                                                                             simp [this]]
    · rw [if_neg (by rw [h4 k (by omega)]; decide), if_neg (by rw [h5, h4 k (by omega)]; simp)]
      exact bitsFrom_step f (k + 1) c v u (by omega) (by omega) h3 h4 h5
theorem low_clear {v : Nat} (h0 : v ≠ 0) (hv : v < 18446744073709551616) : Lib.ctz 64 v < 64 ∧ v.testBit (Lib.ctz 64 v) = true ∧ (∀ j, j < Lib.ctz 64 v → v.testBit j = false) ∧ ∀ j, (v &&& (v - 1)).testBit j = (v.testBit j && decide (j ≠ Lib.ctz 64 v)) := by
  obtain ⟨m, hm, hk⟩ := Lib.ctzFrom_spec 64 v (by omega) hv
  have e : Lib.ctz 64 v = Lib.ctzFrom 64 v := by simp [Lib.ctz, h0]
  rw [e]
  generalize Lib.ctzFrom 64 v = c at *
  have hv1 : ∀ j, v.testBit j = (decide (j ≥ c) && (2 * m + 1).testBit (j - c)) := fun j => by rw [hm, Nat.testBit_two_pow_mul]
  have hp : 0 < 2 ^ c := Nat.two_pow_pos c
  have hm1 : v - 1 = 2 ^ c * (2 * m) + (2 ^ c - 1) := by rw [hm, Nat.mul_add, Nat.mul_one]; omega
  have hv2 : ∀ j, (v - 1).testBit j = if j < c then true else (2 * m).testBit (j - c) := fun j => by
    rw [hm1, Nat.testBit_two_pow_mul_add _ (by omega)]
    by_cases h : j < c
    · rw [if_pos h, if_pos h, Nat.testBit_two_pow_sub_one]; simp [h]
    · rw [if_neg h, if_neg h]
  refine ⟨hk, by rw [hv1]; simp [Nat.testBit_zero], fun j hj => by rw [hv1]; simp; omega, fun j => ?_⟩
  rw [Nat.testBit_and, hv1, hv2]
  rcases Nat.lt_trichotomy j c with h | h | h
  · have : ¬ (c ≤ j) := by omega
    simp [this]
  · subst h
    simp
  · have h1 : ¬ j < c := by omega
    have h2 : c ≤ j := by omega
    have h3 : j ≠ c := by omega
    obtain ⟨d, hd⟩ : ∃ d, j - c = d + 1 := ⟨j - c - 1, by omega⟩
    rw [if_neg h1, hd, Nat.testBit_succ, Nat.testBit_succ]
    simp [h2, h3]
    rw [show (2 * m + 1) / 2 = m by omega]
    simp
theorem bitsL_step {v : Nat} (h0 : v ≠ 0) (hv : v < 18446744073709551616) : bitsL v = Lib.ctz 64 v :: bitsL (v &&& (v - 1)) := by
  obtain ⟨h1, h2, h3, h4⟩ := low_clear h0 hv
  exact bitsFrom_step 64 0 _ v _ (Nat.zero_le _) (by omega) h2 h3 h4
theorem bitsL_zero : bitsL 0 = [] := by decide
theorem clear_lt {v : Nat} (h0 : v ≠ 0) : v &&& (v - 1) < v := Nat.lt_of_le_of_lt Nat.and_le_right (by omega)
theorem bitsFrom_mem : ∀ (f k v j : Nat), j ∈ bitsFrom f k v ↔ (k ≤ j ∧ j < k + f ∧ v.testBit j = true)
  | 0, k, v, j => by simp [bitsFrom]; omega
  | f + 1, k, v, j => by
    have ih := bitsFrom_mem f (k + 1) v j
    unfold bitsFrom
    by_cases h : v.testBit k = true
    · rw [if_pos h, List.mem_cons, ih]
      constructor
      · rintro (rfl | ⟨a, b, c⟩)
        · exact ⟨by omega, by omega, h⟩
        · exact ⟨by omega, by omega, c⟩
      · rintro ⟨a, b, c⟩
        by_cases e : j = k
        · exact .inl e
        · exact .inr ⟨by omega, by omega, c⟩
    · rw [if_neg h, ih]
      constructor
      · rintro ⟨a, b, c⟩; exact ⟨by omega, by omega, c⟩
      · rintro ⟨a, b, c⟩
        refine ⟨?_, by omega, c⟩
        by_cases e : j = k
        · subst e; exact absurd c h
        · omega
theorem bitsL_mem (v j : Nat) : j ∈ bitsL v ↔ (j < 64 ∧ v.testBit j = true) := by
  unfold bitsL; rw [bitsFrom_mem]; simp
theorem bitsFrom_len : ∀ (f k v : Nat), (bitsFrom f k v).length ≤ f
  | 0, _, _ => by simp [bitsFrom]
  | f + 1, k, v => by
    have ih := bitsFrom_len f (k + 1) v
    unfold bitsFrom; split <;> simp <;> omega
theorem bitsL_len (v : Nat) : (bitsL v).length ≤ 64 := bitsFrom_len 64 0 v
theorem bitsL_ne {v : Nat} (h0 : v ≠ 0) (hv : v < 18446744073709551616) : bitsL v ≠ [] := by rw [bitsL_step h0 hv]; simp

/-- A field's text. -/
def textF (v : Nat) (any : Bool) : Bs := if any = true then [42] else if v = 0 then [45] else joinL 44 ((bitsL v).map dec2)
def wholeN : Nat → Nat
  | 0 => 1152921504606846975
  | 1 => 16777215
  | 2 => 4294967294
  | 3 => 8190
  | _ => 255
def fieldV (e : Ex) : Nat → Nat
  | 0 => e.mi
  | 1 => e.ho
  | 2 => e.da
  | 3 => e.mo
  | _ => e.we
def anyF (e : Ex) : Nat → Bool
  | 0 => e.mi == 1152921504606846975
  | 1 => e.ho == 16777215
  | 2 => e.ad
  | 3 => e.mo == 8190
  | _ => e.aw
def textsE (e : Ex) : List Bs := (List.range 5).map fun k => textF (fieldV e k) (anyF e k)
/-- An expression's text. -/
def textE (e : Ex) : Bs := joinL 32 (textsE e)
theorem dec2_len (v : Nat) : (dec2 v).length ≤ 2 := by unfold dec2; split <;> simp
theorem joinL_len (c : UInt8) (m : Nat) : ∀ l : List Bs, (∀ a ∈ l, a.length ≤ m) → (joinL c l).length ≤ l.length * (m + 1)
  | [], _ => by simp [joinL]
  | [a], h => by have := h a (by simp); simp [joinL]; omega
  | a :: b :: r, h => by
    have ih := joinL_len c m (b :: r) fun x hx => h x (List.mem_cons_of_mem _ hx)
    have h1 := h a (by simp)
    simp only [joinL, List.length_append, List.length_cons] at ih ⊢
    have : (r.length + 1 + 1) * (m + 1) = (r.length + 1) * (m + 1) + (m + 1) := by rw [Nat.add_mul]; omega
    omega
theorem textF_len (v : Nat) (any : Bool) : (textF v any).length ≤ 192 := by
  unfold textF
  split
  · simp
  · split
    · simp
    · have h := joinL_len 44 2 ((bitsL v).map dec2) (fun a ha => by obtain ⟨x, _, rfl⟩ := List.mem_map.1 ha; exact dec2_len x)
      have := bitsL_len v
      rw [List.length_map] at h
      omega
theorem textE_len (e : Ex) : (textE e).length ≤ 965 := by
  unfold textE
  have h := joinL_len 32 192 (textsE e) (fun a ha => by unfold textsE at ha; obtain ⟨x, _, rfl⟩ := List.mem_map.1 ha; exact textF_len _ _)
  have : (textsE e).length = 5 := by unfold textsE; simp
  rw [this] at h
  exact h

end Go.Proofs.YtfdnhpmdbcfepaaDoor

/- The statement CronValues in plain words. -/
import Derived.Test.YtfdnhpmdbcfepaaDoorTextL
namespace Go.Proofs.YtfdnhpmdbcfepaaDoor

theorem bitsFrom_snoc : ∀ (f k v : Nat), bitsFrom (f + 1) k v = bitsFrom f k v ++ (if v.testBit (k + f) = true then [k + f] else [])
  | 0, k, v => by simp [bitsFrom]
  | f + 1, k, v => by
    have ih := bitsFrom_snoc f (k + 1) v
    rw [bitsFrom, ih, show k + 1 + f = k + (f + 1) by omega]
    conv => rhs; rw [bitsFrom]
    split <;> simp
/-- Up to bit x, are the bits just those of the bounds? -/
def allU (v : Nat) (lo hi : Int) : Nat → Bool
  | 0 => true
  | x + 1 => allU v lo hi x && (v.testBit x == (decide (lo ≤ (x : Int)) && decide ((x : Int) ≤ hi)))
theorem allU_iff (v : Nat) (lo hi : Int) : ∀ x : Nat, allU v lo hi x = true ↔ ∀ j, j < x → v.testBit j = (decide (lo ≤ (j : Int)) && decide ((j : Int) ≤ hi))
  | 0 => by simp [allU]
  | x + 1 => by
    have ih := allU_iff v lo hi x
    rw [allU, Bool.and_eq_true, ih, beq_iff_eq]
    constructor
    · rintro ⟨h1, h2⟩ j hj
      by_cases e : j = x
      · subst e; exact h2
      · exact h1 j (by omega)
    · intro h
      exact ⟨fun j hj => h j (by omega), h x (by omega)⟩
theorem whole_bits : ∀ k : Fin 5, ∀ j : Fin 64, (wholeN k.val).testBit j.val = (decide ((fld k.val).low ≤ (j.val : Int)) && decide ((j.val : Int) ≤ (fld k.val).high)) := by decide +kernel
theorem whole_lt : ∀ k : Fin 5, wholeN k.val < 18446744073709551616 := by decide
theorem allU_whole {k : Nat} (hk : k < 5) {v : Nat} (hv : v < 18446744073709551616) : allU v (fld k).low (fld k).high 64 = (v == wholeN k) := by
  rw [Bool.eq_iff_iff, allU_iff, beq_iff_eq]
  constructor
  · intro h
    apply Nat.eq_of_testBit_eq
    intro j
    by_cases hj : j < 64
    · rw [h j hj]; exact (whole_bits ⟨k, hk⟩ ⟨j, hj⟩).symm
    · have hp : (18446744073709551616 : Nat) ≤ 2 ^ j := Nat.pow_le_pow_right (n := 2) (by decide) (show 64 ≤ j by omega)
      rw [Nat.testBit_lt_two_pow (Nat.lt_of_lt_of_le hv hp), Nat.testBit_lt_two_pow (Nat.lt_of_lt_of_le (whole_lt ⟨k, hk⟩) hp)]
  · rintro rfl j hj
    exact whole_bits ⟨k, hk⟩ ⟨j, hj⟩
/-- What stands ahead of a field's text. -/
def preE (e : Ex) (k : Nat) : Bs := if k = 0 then [] else joinL 32 ((textsE e).take k) ++ [32]
theorem textsE_get (e : Ex) {k : Nat} (hk : k < 5) : (textsE e)[k]? = some (textF (fieldV e k) (anyF e k)) := by
  unfold textsE; rw [List.getElem?_map, List.getElem?_range hk]; rfl
theorem pre_step (e : Ex) {k : Nat} (hk : k < 5) : joinL 32 ((textsE e).take (k + 1)) = preE e k ++ textF (fieldV e k) (anyF e k) := by
  obtain ⟨hlt, hg⟩ := List.getElem?_eq_some_iff.1 (textsE_get e hk)
  rw [List.take_succ_eq_append_getElem hlt, hg]
  unfold preE
  by_cases h0 : k = 0
  · subst h0; rw [if_pos rfl]; rfl
  · rw [if_neg h0, joinL_snoc 32 _ _ (fun h => by have h5 : (textsE e).length = 5 := (by unfold textsE; simp); have h6 := congrArg List.length h; rw [List.length_take, h5] at h6; simp at h6; omega)]
    simp
theorem pre_len (e : Ex) (k : Nat) (hk : k ≤ 5) : (joinL 32 ((textsE e).take k)).length ≤ 965 := by
  have h := joinL_len 32 192 ((textsE e).take k) (fun a ha => by
    have ha := List.mem_of_mem_take ha
    unfold textsE at ha; obtain ⟨x, _, rfl⟩ := List.mem_map.1 ha; exact textF_len _ _)
  have h2 : ((textsE e).take k).length ≤ 5 := by rw [List.length_take]; omega
  have : ((textsE e).take k).length * (192 + 1) ≤ 5 * 193 := Nat.mul_le_mul_right _ h2
  omega
/-- A list of numbers' text, some of them. -/
theorem some_len (x v : Nat) (hx : x ≤ 64) : (joinL 44 ((bitsFrom x 0 v).map dec2)).length ≤ 192 := by
  have h := joinL_len 44 2 ((bitsFrom x 0 v).map dec2) (fun a ha => by obtain ⟨y, _, rfl⟩ := List.mem_map.1 ha; exact dec2_len y)
  have := bitsFrom_len x 0 v
  rw [List.length_map] at h
  omega

end Go.Proofs.YtfdnhpmdbcfepaaDoor

/- What the bits of numbers come to: the seven bits of a byte, a number put together, a signed number as a number. Of no program. -/
import Derived.Test.YtbfhgljmopgejaaGreatOctM
import Derived.Laws.Bits64b
import Derived.Laws.BitsLemmas
namespace Go.Proofs.YtbfhgljmopgejaaGreat
open Go.RowKit

set_option maxRecDepth 100000 in
theorem or128 (x : Nat) : bits .or .u8 ((x % 256 : Nat) : Int) 128 = ((x % 128 + 128 : Nat) : Int) := by
  have h := (bits_nat .u8 8 (by decide) wraps_u8 (x % 256) 128 (by omega) (by omega)).2
  rw [show ((128 : Int)) = ((128 : Nat) : Int) from rfl, h]
  have : ∀ y : Fin 256, y.val ||| 128 = y.val % 128 + 128 := by decide
  have h1 := this ⟨x % 256, by omega⟩
  simp only at h1
  rw [h1]
  omega

set_option maxRecDepth 100000 in
theorem and127 (x : Nat) (h : x < 256) : bits .and .u8 (x : Int) 127 = ((x % 128 : Nat) : Int) := by
  have h := (bits_nat .u8 8 (by decide) wraps_u8 x 127 (by omega) (by omega)).1
  rw [show ((127 : Int)) = ((127 : Nat) : Int) from rfl, h]
  have : ∀ y : Fin 256, y.val &&& 127 = y.val % 128 := by decide
  have h1 := this ⟨x, by omega⟩
  simp only at h1
  rw [h1]

theorem or_shift (i a c : Nat) (ha : a < 128 ^ i) (hi : i ≤ 9) (hc : c < 128) (h9 : i = 9 → c ≤ 1) : bits .or .u64 (a : Int) ((c * 128 ^ i : Nat) : Int) = ((a + c * 128 ^ i : Nat) : Int) := by
  have hp : 128 ^ i = 2 ^ (7 * i) := by rw [Nat.pow_mul]
  have hlt : c * 128 ^ i < 18446744073709551616 := by
    rcases Nat.lt_or_ge i 9 with h | h
    · have : 128 ^ i ≤ 128 ^ 8 := Nat.pow_le_pow_right (by omega) (by omega)
      have h2 : c * 128 ^ i ≤ 127 * 128 ^ 8 := Nat.mul_le_mul (by omega) this
      omega
    · obtain rfl : i = 9 := by omega
      have := h9 rfl
      omega
  have hal : a < 18446744073709551616 := by
    have : 128 ^ i ≤ 128 ^ 9 := Nat.pow_le_pow_right (by omega) (by omega)
    omega
  rw [bits_or_u64_nat _ _ hal hlt]
  rw [hp] at ha ⊢
  rw [Nat.or_comm, Nat.mul_comm, ← Nat.two_pow_add_eq_or_of_lt ha c, Nat.add_comm]

theorem shl_fits (i c : Nat) (hi : i ≤ 9) (hc : c < 128) (h9 : i = 9 → c ≤ 1) : c * 128 ^ i < 18446744073709551616 := by
  rcases Nat.lt_or_ge i 9 with h | h
  · have : 128 ^ i ≤ 128 ^ 8 := Nat.pow_le_pow_right (by omega) (by omega)
    have h2 : c * 128 ^ i ≤ 127 * 128 ^ 8 := Nat.mul_le_mul (by omega) this
    omega
  · obtain rfl : i = 9 := by omega
    have := h9 rfl
    omega

theorem num_step (k acc : Nat) (c : UInt8) (hacc : acc < 128 ^ k) (hk : k ≤ 9) (h9 : k = 9 → c.toNat ≤ 1) :
    bits .or .u64 (acc : Int) (IntKind.u64.wrap (IntKind.u64.wrap (bits .and .u8 (c.toNat : Int) 127) * 2 ^ (7 * (k : Int)).toNat)) = ((acc + c.toNat % 128 * 128 ^ k : Nat) : Int) := by
  have hc := c.toNat_lt
  have hfit := shl_fits k (c.toNat % 128) hk (by omega) (by omega)
  rw [and127 _ hc]
  have e1 : IntKind.u64.wrap ((c.toNat % 128 : Nat) : Int) = ((c.toNat % 128 : Nat) : Int) := by rw [IntKind.wrap_u64]; omega
  have e2 : (7 * (k : Int)).toNat = 7 * k := by omega
  have e3 : ((2 : Int) ^ (7 * k)) = ((128 ^ k : Nat) : Int) := by rw [Int.pow_mul]; norm_cast
  rw [e1, e2, e3, ← Int.natCast_mul]
  have e4 : IntKind.u64.wrap ((c.toNat % 128 * 128 ^ k : Nat) : Int) = ((c.toNat % 128 * 128 ^ k : Nat) : Int) := by rw [IntKind.wrap_u64]; omega
  rw [e4]
  exact or_shift k acc _ hacc hk (by omega) (by omega)

theorem fold_pos (x : Nat) (h : x ≤ 9223372036854775807) : bits .xor .u64 ((2 * x : Nat) : Int) 0 = ((2 * x : Nat) : Int) := by
  have := bits_xor_u64_nat (2 * x) 0 (by omega) (by omega)
  simpa using this

theorem fold_neg (y : Nat) (h : y < 18446744073709551616) (h2 : y % 2 = 0) : bits .xor .u64 (y : Int) 18446744073709551615 = ((18446744073709551615 - y : Nat) : Int) := by
  have := bits_xor_u64_nat y 18446744073709551615 h (by omega)
  rw [show ((18446744073709551615 : Int)) = ((18446744073709551615 : Nat) : Int) from rfl, this]
  congr 1
  apply Nat.eq_of_testBit_eq
  intro i
  rw [Nat.testBit_xor, show 18446744073709551615 - y = 2 ^ 64 - (y + 1) by omega, Nat.testBit_two_pow_sub_succ (by omega), show 18446744073709551615 = 2 ^ 64 - 1 from rfl, Nat.testBit_two_pow_sub_one]
  by_cases hi : i < 64
  · simp [hi]
  · have : y.testBit i = false := Nat.testBit_lt_two_pow (Nat.lt_of_lt_of_le (show y < 2 ^ 64 by omega) (Nat.pow_le_pow_right (by omega) (by omega)))
    simp [hi, this]

theorem xor_i64_zero (a : Nat) (h : a < 9223372036854775808) : bits .xor .i64 (a : Int) 0 = (a : Int) := by
  show IntKind.i64.wrap ((BitVec.ofInt 64 (a : Int) ^^^ BitVec.ofInt 64 0).toNat : Int) = _
  have h1 : (BitVec.ofInt 64 (a : Int)).toNat = a := by
    rw [BitVec.ofInt_natCast, BitVec.toNat_ofNat]; exact Nat.mod_eq_of_lt (by omega)
  rw [show BitVec.ofInt 64 0 = 0#64 from rfl, BitVec.xor_zero, h1, IntKind.wrap_i64]
  omega
theorem xor_i64_ones (a : Nat) (h : a < 9223372036854775808) : bits .xor .i64 (a : Int) (-1) = -(a : Int) - 1 := by
  show IntKind.i64.wrap ((BitVec.ofInt 64 (a : Int) ^^^ BitVec.ofInt 64 (-1)).toNat : Int) = _
  have h1 : (BitVec.ofInt 64 (a : Int)).toNat = a := by
    rw [BitVec.ofInt_natCast, BitVec.toNat_ofNat]; exact Nat.mod_eq_of_lt (by omega)
  rw [show BitVec.ofInt 64 (-1) = BitVec.allOnes 64 from rfl, BitVec.xor_allOnes, BitVec.toNat_not, h1, IntKind.wrap_i64]
  omega

theorem zag_bits (n : Nat) (h : n < 18446744073709551616) : bits .xor .i64 ((n : Int) / 2) (wrap64 (-wrap64 (bits .and .u64 (n : Int) 1))) = zag n := by
  have h1 : bits .and .u64 (n : Int) 1 = ((n % 2 : Nat) : Int) := by
    have := bits_and_u64_nat n 1 h (by omega)
    rw [Nat.and_one_is_mod] at this
    exact this
  rw [h1]
  have e0 : ((n : Int) / 2) = ((n / 2 : Nat) : Int) := by omega
  rw [e0]
  unfold zag
  rcases Nat.mod_two_eq_zero_or_one n with h2 | h2
  · rw [h2, if_pos rfl, show wrap64 (-wrap64 ((0 : Nat) : Int)) = 0 by unfold wrap64; omega]
    exact xor_i64_zero _ (by omega)
  · rw [h2, if_neg (by decide), show wrap64 (-wrap64 ((1 : Nat) : Int)) = -1 by unfold wrap64; omega]
    exact xor_i64_ones _ (by omega)

theorem fold_bits (x : Int) (h1 : -9223372036854775808 ≤ x) (h2 : x ≤ 9223372036854775807) :
    bits .xor .u64 (IntKind.u64.wrap (IntKind.u64.wrap x * 2)) (IntKind.u64.wrap (x / 9223372036854775808)) = (zig x : Int) := by
  rw [IntKind.wrap_u64, IntKind.wrap_u64, IntKind.wrap_u64]
  unfold zig
  by_cases h0 : x < 0
  · rw [if_pos h0]
    have e1 : x % 18446744073709551616 * 2 % 18446744073709551616 = (((2 * x + 18446744073709551616).toNat : Nat) : Int) := by omega
    have e2 : x / 9223372036854775808 % 18446744073709551616 = 18446744073709551615 := by omega
    rw [e1, e2, fold_neg _ (by omega) (by omega)]
    omega
  · rw [if_neg h0]
    have e1 : x % 18446744073709551616 * 2 % 18446744073709551616 = ((2 * x.toNat : Nat) : Int) := by omega
    have e2 : x / 9223372036854775808 % 18446744073709551616 = 0 := by omega
    rw [e1, e2, fold_pos _ (by omega)]
    omega

end Go.Proofs.YtbfhgljmopgejaaGreat

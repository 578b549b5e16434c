/- What the bits of numbers come to: the seven bits of a byte, a number put together, a signed number as a number. Of no program. Package octet: what its Writer writes. Rows of bytes that are read: as a text; a part of them. Package octet: the Writer's texts and signed numbers, its bytes; a Reader of bytes. -/
import Derived.Test.YtheipmallojdkaaGreatDoorIrM14
import Derived.Laws.Bits64b
import Derived.Laws.BitsLemmas
import Derived.Test.YtheipmallojdkaaGreatDoorIrM06
import Derived.Laws.BytesArg
import Derived.Test.YtheipmallojdkaaGreatDoorIrM02
import Derived.Laws.IdiomStrings
import Derived.Lib.ConvBytes

namespace Go.Proofs.YtheipmallojdkaaGreatDoor
open Go.RowKit

set_option maxRecDepth 100000 in
theorem or128 (x : Nat) : bits .or .u8 ((x % 256 : Nat) : Int) 128 = ((x % 128 + 128 : Nat) : Int) := by
  have h := (bits_nat .u8 8 (by decide) wraps_u8 (x % 256) 128 (by omega) (by omega)).2
  rw [show ((128 : Int)) = ((128 : Nat) : Int) from rfl, h]
  have : ∀ y : Fin 256, y.val ||| 128 = y.val % 128 + 128 := by decide
  have h1 := this ⟨x % 256, by omega⟩
  simp only at h1
  rw [h1]
  omega

set_option maxRecDepth 100000 in
theorem and127 (x : Nat) (h : x < 256) : bits .and .u8 (x : Int) 127 = ((x % 128 : Nat) : Int) := by
  have h := (bits_nat .u8 8 (by decide) wraps_u8 x 127 (by omega) (by omega)).1
  rw [show ((127 : Int)) = ((127 : Nat) : Int) from rfl, h]
  have : ∀ y : Fin 256, y.val &&& 127 = y.val % 128 := by decide
  have h1 := this ⟨x, by omega⟩
  simp only at h1
  rw [h1]

theorem or_shift (i a c : Nat) (ha : a < 128 ^ i) (hi : i ≤ 9) (hc : c < 128) (h9 : i = 9 → c ≤ 1) : bits .or .u64 (a : Int) ((c * 128 ^ i : Nat) : Int) = ((a + c * 128 ^ i : Nat) : Int) := by
  have hp : 128 ^ i = 2 ^ (7 * i) := by rw [Nat.pow_mul]
  have hlt : c * 128 ^ i < 18446744073709551616 := by
    rcases Nat.lt_or_ge i 9 with h | h
    · have : 128 ^ i ≤ 128 ^ 8 := Nat.pow_le_pow_right (by omega) (by omega)
      have h2 : c * 128 ^ i ≤ 127 * 128 ^ 8 := Nat.mul_le_mul (by omega) this
      omega
    · obtain rfl : i = 9 := by omega
      have := h9 rfl
      omega
  have hal : a < 18446744073709551616 := by
    have : 128 ^ i ≤ 128 ^ 9 := Nat.pow_le_pow_right (by omega) (by omega)
    omega
  rw [bits_or_u64_nat _ _ hal hlt]
  rw [hp] at ha ⊢
  rw [Nat.or_comm, Nat.mul_comm, ← Nat.two_pow_add_eq_or_of_lt ha c, Nat.add_comm]

theorem shl_fits (i c : Nat) (hi : i ≤ 9) (hc : c < 128) (h9 : i = 9 → c ≤ 1) : c * 128 ^ i < 18446744073709551616 := by
  rcases Nat.lt_or_ge i 9 with h | h
  · have : 128 ^ i ≤ 128 ^ 8 := Nat.pow_le_pow_right (by omega) (by omega)
    have h2 : c * 128 ^ i ≤ 127 * 128 ^ 8 := Nat.mul_le_mul (by omega) this
    omega
  · obtain rfl : i = 9 := by omega
    have := h9 rfl
    omega

theorem num_step (k acc : Nat) (c : UInt8) (hacc : acc < 128 ^ k) (hk : k ≤ 9) (h9 : k = 9 → c.toNat ≤ 1) :
    bits .or .u64 (acc : Int) (IntKind.u64.wrap (IntKind.u64.wrap (bits .and .u8 (c.toNat : Int) 127) * 2 ^ (7 * (k : Int)).toNat)) = ((acc + c.toNat % 128 * 128 ^ k : Nat) : Int) := by
  have hc := c.toNat_lt
  have hfit := shl_fits k (c.toNat % 128) hk (by omega) (by omega)
  rw [and127 _ hc]
  have e1 : IntKind.u64.wrap ((c.toNat % 128 : Nat) : Int) = ((c.toNat % 128 : Nat) : Int) := by rw [IntKind.wrap_u64]; omega
  have e2 : (7 * (k : Int)).toNat = 7 * k := by omega
  have e3 : ((2 : Int) ^ (7 * k)) = ((128 ^ k : Nat) : Int) := by rw [Int.pow_mul]; norm_cast
  rw [e1, e2, e3, ← Int.natCast_mul]
  have e4 : IntKind.u64.wrap ((c.toNat % 128 * 128 ^ k : Nat) : Int) = ((c.toNat % 128 * 128 ^ k : Nat) : Int) := by rw [IntKind.wrap_u64]; omega
  rw [e4]
  exact or_shift k acc _ hacc hk (by omega) (by omega)

theorem fold_pos (x : Nat) (h : x ≤ 9223372036854775807) : bits .xor .u64 ((2 * x : Nat) : Int) 0 = ((2 * x : Nat) : Int) := by
  have := bits_xor_u64_nat (2 * x) 0 (by omega) (by omega)
  simpa using this

theorem fold_neg (y : Nat) (h : y < 18446744073709551616) (h2 : y % 2 = 0) : bits .xor .u64 (y : Int) 18446744073709551615 = ((18446744073709551615 - y : Nat) : Int) := by
  have := bits_xor_u64_nat y 18446744073709551615 h (by omega)
  rw [show ((18446744073709551615 : Int)) = ((18446744073709551615 : Nat) : Int) from rfl, this]
  congr 1
  apply Nat.eq_of_testBit_eq
  intro i
  rw [Nat.testBit_xor, show 18446744073709551615 - y = 2 ^ 64 - (y + 1) by omega, Nat.testBit_two_pow_sub_succ (by omega), show 18446744073709551615 = 2 ^ 64 - 1 from rfl, Nat.testBit_two_pow_sub_one]
  by_cases hi : i < 64
  · simp [hi]
  · have : y.testBit i = false := Nat.testBit_lt_two_pow (Nat.lt_of_lt_of_le (show y < 2 ^ 64 by omega) (Nat.pow_le_pow_right (by omega) (by omega)))
    simp [hi, this]

theorem xor_i64_zero (a : Nat) (h : a < 9223372036854775808) : bits .xor .i64 (a : Int) 0 = (a : Int) := by
  show IntKind.i64.wrap ((BitVec.ofInt 64 (a : Int) ^^^ BitVec.ofInt 64 0).toNat : Int) = _
  have h1 : (BitVec.ofInt 64 (a : Int)).toNat = a := by
    rw [BitVec.ofInt_natCast, BitVec.toNat_ofNat]; exact Nat.mod_eq_of_lt (by omega)
  rw [show BitVec.ofInt 64 0 = 0#64 from rfl, BitVec.xor_zero, h1, IntKind.wrap_i64]
  omega
theorem xor_i64_ones (a : Nat) (h : a < 9223372036854775808) : bits .xor .i64 (a : Int) (-1) = -(a : Int) - 1 := by
  show IntKind.i64.wrap ((BitVec.ofInt 64 (a : Int) ^^^ BitVec.ofInt 64 (-1)).toNat : Int) = _
  have h1 : (BitVec.ofInt 64 (a : Int)).toNat = a := by
    rw [BitVec.ofInt_natCast, BitVec.toNat_ofNat]; exact Nat.mod_eq_of_lt (by omega)
  rw [show BitVec.ofInt 64 (-1) = BitVec.allOnes 64 from rfl, BitVec.xor_allOnes, BitVec.toNat_not, h1, IntKind.wrap_i64]
  omega

theorem zag_bits (n : Nat) (h : n < 18446744073709551616) : bits .xor .i64 ((n : Int) / 2) (wrap64 (-wrap64 (bits .and .u64 (n : Int) 1))) = zag n := by
  have h1 : bits .and .u64 (n : Int) 1 = ((n % 2 : Nat) : Int) := by
    have := bits_and_u64_nat n 1 h (by omega)
    rw [Nat.and_one_is_mod] at this
    exact this
  rw [h1]
  have e0 : ((n : Int) / 2) = ((n / 2 : Nat) : Int) := by omega
  rw [e0]
  unfold zag
  rcases Nat.mod_two_eq_zero_or_one n with h2 | h2
  · rw [h2, if_pos rfl, show wrap64 (-wrap64 ((0 : Nat) : Int)) = 0 by unfold wrap64; omega]
    exact xor_i64_zero _ (by omega)
  · rw [h2, if_neg (by decide), show wrap64 (-wrap64 ((1 : Nat) : Int)) = -1 by unfold wrap64; omega]
    exact xor_i64_ones _ (by omega)

theorem fold_bits (x : Int) (h1 : -9223372036854775808 ≤ x) (h2 : x ≤ 9223372036854775807) :
    bits .xor .u64 (IntKind.u64.wrap (IntKind.u64.wrap x * 2)) (IntKind.u64.wrap (x / 9223372036854775808)) = (zig x : Int) := by
  rw [IntKind.wrap_u64, IntKind.wrap_u64, IntKind.wrap_u64]
  unfold zig
  by_cases h0 : x < 0
  · rw [if_pos h0]
    have e1 : x % 18446744073709551616 * 2 % 18446744073709551616 = (((2 * x + 18446744073709551616).toNat : Nat) : Int) := by omega
    have e2 : x / 9223372036854775808 % 18446744073709551616 = 18446744073709551615 := by omega
    rw [e1, e2, fold_neg _ (by omega) (by omega)]
    omega
  · rw [if_neg h0]
    have e1 : x % 18446744073709551616 * 2 % 18446744073709551616 = ((2 * x.toNat : Nat) : Int) := by omega
    have e2 : x / 9223372036854775808 % 18446744073709551616 = 0 := by omega
    rw [e1, e2, fold_pos _ (by omega)]
    omega

end Go.Proofs.YtheipmallojdkaaGreatDoor

namespace Go.Proofs.YtheipmallojdkaaGreatDoor
open Go.RowKit

/-- A byte, as a cell holds it. -/
def u8v (c : UInt8) : Value := .int .u8 (c.toNat : Int)

theorem info_u8 : (Tryz.prog.info? 5).map (fun i => (i.zero, i.size, i.bytes)) = some (some (.int .u8 0), 1, 1) := by kernel_rfl

/-- Block p is a Writer, r its row's block, bs what is written. -/
def Wr (w : World) (p : Nat) (r : Option Nat) (bs : List UInt8) : Prop :=
  ∃ v, w.heap[p]? = some (.cells #[v] 49 (0, 0)) ∧ v.ownBlock = r ∧ r ≠ some p ∧ w.ownsRow 0 5 1 v bs.length (bs.map u8v)

/-- From w to w' a Writer in block p has been written on, its row from r to r'; all else is as it was. -/
structure Wrote (p : Nat) (w : World) (r : Option Nat) (w' : World) (r' : Option Nat) : Prop where
  keeps : Keeps (fun k => k = p ∨ some k = r) w w'
  row : r' = r ∨ ∃ k, r' = some k ∧ w.heap.size ≤ k

theorem Wrote.refl (p : Nat) (w : World) (r : Option Nat) : Wrote p w r w r := ⟨Keeps.refl _ _, .inl rfl⟩
theorem Wrote.trans {p : Nat} {w w' w'' : World} {r r' r'' : Option Nat} (h : Wrote p w r w' r') (k : Wrote p w' r' w'' r'') : Wrote p w r w'' r'' := by
  refine ⟨⟨k.keeps.os.trans h.keeps.os, k.keeps.tape.trans h.keeps.tape, k.keeps.output.trans h.keeps.output, Nat.le_trans h.keeps.size k.keeps.size, fun i hi hn => ?_⟩, ?_⟩
  · have hs := h.keeps.size
    refine (k.keeps.block i (by omega) ?_).trans (h.keeps.block i hi hn)
    rintro (rfl | e)
    · exact hn (.inl rfl)
    · rcases h.row with h1 | ⟨j, h1, h2⟩
      · exact hn (.inr (e.trans h1))
      · rw [h1] at e; cases e; omega
  · have hs := h.keeps.size
    rcases k.row with h1 | ⟨j, h1, h2⟩
    · rcases h.row with h3 | ⟨i, h3, h4⟩
      · exact .inl (h1.trans h3)
      · exact .inr ⟨i, h1.trans h3, h4⟩
    · exact .inr ⟨j, h1, by omega⟩

/-- A Writer wrote bs behind what it held. -/
def WroteB (p : Nat) (w : World) (r : Option Nat) (bs : List UInt8) (e : Ending) (w' : World) : Prop :=
  e = .returned (.tuple #[]) ∧ ∃ r', Wr w' p r' bs ∧ Wrote p w r w' r'

theorem Wr.lt {w : World} {p : Nat} {r : Option Nat} {bs : List UInt8} (h : Wr w p r bs) : p < w.heap.size := by
  obtain ⟨v, h, _⟩ := h
  exact heap_lt h
theorem Wr.row_lt {w : World} {p : Nat} {r : Option Nat} {bs : List UInt8} (h : Wr w p r bs) : ∀ k, r = some k → k < w.heap.size := by
  obtain ⟨v, h1, h2, h3, h4⟩ := h
  intro k hk
  exact (h4.lt k (h2.trans hk)).2

/-- Behind what leaves the Writer and its row alone. -/
theorem Wr.kept {S : Nat → Prop} {w w' : World} {p : Nat} {r : Option Nat} {bs : List UInt8} (h : Wr w p r bs) (hk : Keeps S w w') (hp : ¬ S p) (hr : ∀ k, r = some k → ¬ S k) : Wr w' p r bs := by
  obtain ⟨v, h1, h2, h3, h4⟩ := h
  exact ⟨v, hk.heap hp h1, h2, h3, owns_kept h4 hk fun k hkk => hr k (h2 ▸ hkk)⟩

theorem Wr.alloc {w : World} {p : Nat} {r : Option Nat} {bs : List UInt8} (h : Wr w p r bs) (o : Obj) : Wr (w.alloc o) p r bs :=
  h.kept ((Keeps.refl (fun _ => False) w).alloc o) (fun h => h) (fun _ _ h => h)

theorem wr_still {w w0 w1 : World} {p : Nat} {v : Value} {T : TypeId} (hp : w.heap[p]? = some (.cells #[v] T (0, 0))) (hne : v.ownBlock ≠ some p) (h0 : Below w.heap.size w w0) (hg : w0.grownBy w1 v.ownBlock) :
    w1.cell? ⟨p, 0, none⟩ = some v ∧ w1.frozen? ⟨p, 0, none⟩ = false ∧ p < w1.heap.size := by
  have hplt := heap_lt hp
  have hs0 := h0.size
  have hp1 : w1.heap[p]? = some (.cells #[v] T (0, 0)) := by
    rw [hg.block p (by omega) (fun e => hne e.symm)]
    exact bheap h0 hp hplt
  exact ⟨cell_of_one hp1, free_of_one hp1, heap_lt hp1⟩

/-- One append more: the field is set to what it answered. -/
theorem Wr.push {w w0 w1 : World} {p : Nat} {v v' : Value} {n : Nat} {bs more : List UInt8} {xs : List Value} (hp : w.heap[p]? = some (.cells #[v] 49 (0, 0))) (hne : v.ownBlock ≠ some p) (hn : n = (bs ++ more).length) (hx : xs = (bs ++ more).map u8v)
    (h0 : Below w.heap.size w w0) (hown : w1.ownsRow 0 5 1 v' n xs) (hg : w0.grownBy w1 v.ownBlock)
    (hrow : v'.ownBlock = v.ownBlock ∨ ∃ k, v'.ownBlock = some k ∧ w0.heap.size ≤ k ∧ k < w1.heap.size) :
    Wr (w1.setCell ⟨p, 0, none⟩ v') p v'.ownBlock (bs ++ more) ∧ Wrote p w v.ownBlock (w1.setCell ⟨p, 0, none⟩ v') v'.ownBlock := by
  subst hn hx
  have hplt := heap_lt hp
  have hs0 := h0.size
  have hp1 : w1.heap[p]? = some (.cells #[v] 49 (0, 0)) := by
    rw [hg.block p (by omega) (fun e => hne e.symm)]
    exact bheap h0 hp hplt
  have hne' : v'.ownBlock ≠ some p := by
    rcases hrow with h | ⟨k, h, h2, _⟩
    · rw [h]; exact hne
    · rw [h]; intro e; cases e; omega
  refine ⟨⟨v', ?_, rfl, hne', ?_⟩, ⟨?_, ?_⟩⟩
  · exact one_setCell hp1
  · exact owns_kept hown ((Keeps.refl (fun k => k = p) w1).setCell (.inl rfl) _) (fun k hk e => hne' (by rw [hk, e]))
  · exact ((Keeps.of_belowS h0).trans (grown_keeps hg fun k h => .inr h)).setCell (.inl (.inl rfl)) _
  · rcases hrow with h | ⟨k, h, h2, _⟩
    · exact .inl h
    · exact .inr ⟨k, h, by omega⟩

/-- Between append and the store of its answer. -/
structure WrMid (W : World) (p : Nat) (r : Option Nat) (bs : List UInt8) (v' : Value) (w1 : World) : Prop where
  cell : ∃ v, w1.cell? ⟨p, 0, none⟩ = some v
  free : w1.frozen? ⟨p, 0, none⟩ = false
  lt : p < w1.heap.size
  wr : Wr (w1.setCell ⟨p, 0, none⟩ v') p v'.ownBlock bs
  wrote : Wrote p W r (w1.setCell ⟨p, 0, none⟩ v') v'.ownBlock

theorem wpList_wr_push (W : World) {ops : Array Oper} {rest : List Oper} {o : Oper} {a : Act} {Q : Exit → Act → World → Prop} (hgd : o.guard = none) (s x : Operand)
    (ho : o.op = .call { callee := .builtin .append, args := #[s, x], argTypes := #[22, 22] })
    (p : Nat) (r : Option Nat) (bs : List UInt8) (hW : Wr W p r bs) (v : Value) (hv : W.cell? ⟨p, 0, none⟩ = some v) (hs : a.eval s = v)
    (c : UInt8) (u : Value) (T : TypeId) (hx : a.eval x = .slice (some ⟨W.heap.size, 0, none⟩) 1 1) (hu : u = u8v c) (hl : bs.length < 70368744177664)
    (h : ∀ ad n cp w1, WrMid W p r (bs ++ [c]) (.slice ad n cp) w1 → wpList Tryz.prog ops Q rest (a.put o.dst (.slice ad n cp)) w1) : wpList Tryz.prog ops Q (o :: rest) a (W.alloc (.cells #[u] T)) := by
  obtain ⟨v0, hp, rfl, hne, hown⟩ := hW
  obtain ⟨i0, hi, hz0, hz1, hz2⟩ := info_parts info_u8
  have : v0 = v := by rw [cell_of_one hp] at hv; exact Option.some.inj hv
  subst this hu
  refine wpList_append_one W hgd s x 22 ho 5 i0 (.int .u8 0) 1 Tryz.underlying22 hi hz0 hz1 hz2 rfl v0 _ _ hs hown (u8v c) T hx rfl (by unfold maxLen; omega) (by omega) ?_
  intro v' w1 hown1 hg1 hrow1
  have hb0 := (Below.refl W.heap.size W).alloc (Nat.le_refl _) (.cells #[u8v c] T)
  obtain ⟨hc1, hf1, hl1⟩ := wr_still hp hne hb0 hg1
  obtain ⟨h1, h2⟩ := Wr.push (bs := bs) (more := [c]) hp hne (by simp) (by simp) hb0 hown1 hg1 hrow1
  obtain ⟨ad, n, cp, rfl⟩ : ∃ ad n cp, v' = .slice ad n cp := by
    rcases hown1.2 with ⟨rfl, _⟩ | ⟨g, cap, cur, rfl, _⟩
    · exact ⟨_, _, _, rfl⟩
    · exact ⟨_, _, _, rfl⟩
  exact h ad n cp w1 ⟨⟨_, hc1⟩, hf1, hl1, h1, h2⟩

section
variable (w : World) (p : Nat) (r : Option Nat) (bs : List UInt8) (h : Wr w p r bs)
include h

set_option maxRecDepth 100000 in
set_option maxHeartbeats 1000000 in
theorem num_any (x : Int) (h0 : 0 ≤ x) (hx : x ≤ 18446744073709551615) (hl : bs.length + 10 ≤ 70368744177664) :
    Calls Tryz.prog 18 #[.pointer (some ⟨p, 0, none⟩), .int .u64 x] w (WroteB p w r (bs ++ numB x.toNat)) := by
  have hlen := numB_len10 (x := x.toNat) (by omega)
  have H := Lib.hid h
  have HL := Lib.hid hl
  have HN := Lib.hid hlen
  clear h hl hlen
  go_enter Tryz.func18, Tryz.ntmps18
  go_wp2
  go_loopw [1] (fun xv wr => ∃ (y : Int) (pre : List UInt8) (r' : Option Nat), 0 ≤ y ∧ y ≤ 18446744073709551615 ∧ xv = .int .u64 y ∧ numB x.toNat = pre ++ numB y.toNat ∧ Wr wr p r' (bs ++ pre) ∧ Wrote p w r wr r') (fun xv _ => (intOf xv).toNat)
  case atStart => exact ⟨x, [], r, h0, hx, rfl, rfl, by simpa using H.out, Wrote.refl _ _ _⟩
  case round =>
    obtain ⟨y, pre, r', hy0, hy, rfl, hnum, hW, hk⟩ := hrel
    clear h0 hx
    have HU := Lib.hid hnum
    have HK := Lib.hid hk
    have HW := Lib.hid hW
    obtain ⟨v, hp, _⟩ := hW
    have hcell := cell_of_one hp
    clear hnum hk hp
    have HS := Lib.hid (show (bs ++ pre).length < 70368744177664 by
      have h1 := HL.out; have h2 := HN.out; have h3 := numB_pos y.toNat; rw [HU.out] at h2; simp only [List.length_append] at h2 ⊢; omega)
    by_cases h1 : 128 ≤ y
    · have HB := Lib.hid (show numB y.toNat = UInt8.ofNat (y.toNat % 128 + 128) :: numB (y.toNat / 128) from numB_ge (by omega))
      have HC := Lib.hid (show Value.int .u8 (bits .or .u8 (y % 256) 128) = u8v (UInt8.ofNat (y.toNat % 128 + 128)) by
        have e1 : y % 256 = ((y.toNat % 256 : Nat) : Int) := by omega
        rw [e1, or128]
        unfold u8v
        rw [toNat_ofNat (by omega)])
      go_wp2_with (at_builtin; refine wpList_wr_push wr rfl _ _ rfl p r' _ HW.out v hcell rfl _ _ _ rfl HC.out HS.out ?_; intro ad n cp w1 hm; obtain ⟨⟨vv, hc1⟩, hf1, hl1, hw1, hk1⟩ := hm; have HW1 := Lib.hid hw1; have HK1 := Lib.hid hk1; clear hw1 hk1 hcell)
      go_roundw
      case rel =>
        refine ⟨y / 128, pre ++ [UInt8.ofNat (y.toNat % 128 + 128)], _, by omega, by omega, rfl, ?_, by rw [← List.append_assoc]; exact HW1.out, HK.out.trans HK1.out⟩
        rw [HU.out, HB.out, show (y / 128).toNat = y.toNat / 128 by omega]
        simp
      case measure => simp [intOf]; omega
    · have HB := Lib.hid (show numB y.toNat = [UInt8.ofNat y.toNat] from numB_lt (by omega))
      have HC := Lib.hid (show Value.int .u8 y = u8v (UInt8.ofNat y.toNat) by
        unfold u8v
        rw [toNat_ofNat (by omega)]
        congr 1
        omega)
      go_wp2_with (at_builtin; refine wpList_wr_push wr rfl _ _ rfl p r' _ HW.out v hcell rfl _ _ _ rfl HC.out HS.out ?_; intro ad n cp w1 hm; obtain ⟨⟨vv, hc1⟩, hf1, hl1, hw1, hk1⟩ := hm; have HW1 := Lib.hid hw1; have HK1 := Lib.hid hk1; clear hw1 hk1 hcell)
      go_end0
      refine ⟨rfl, _, ?_, HK.out.trans HK1.out⟩
      have := HW1.out
      rw [List.append_assoc, ← HB.out, ← HU.out] at this
      exact this
end

end Go.Proofs.YtheipmallojdkaaGreatDoor

namespace Go.Proofs.YtheipmallojdkaaGreatDoor
open Go.RowKit

/-- 'string(b)' of a slice of bytes that is read. -/
theorem sl_string {w : World} {a : Option Addr} {n cap : Nat} {l : List UInt8} (h : Sl u8v w (.slice a n cap) l) {src : TypeId} (hs : Tryz.prog.underlying src = some (.slice 5)) :
    (convert src 9 (.slice a n cap)).run Tryz.prog w = .ok (.string ⟨l.toArray⟩) w := by
  obtain ⟨a', cap', he, h1, h2, h3⟩ := h
  cases he
  rcases h3 with ⟨rfl, rfl⟩ | ⟨b, o, rfl, hb, hc⟩
  · have hl : l = [] := List.eq_nil_of_length_eq_zero (by omega)
    subst hl
    exact run_convert_bytes_nil w src 5 hs Tryz.underlying5 _ _ 9 Tryz.underlying9
  · refine run_convert_bytes_back w src 9 5 ⟨b, o, none⟩ cap l hs Tryz.underlying5 Tryz.underlying9 fun j hj => ?_
    rw [addr_add]
    exact hc j _ (List.getElem?_eq_getElem hj)

theorem Sl.take {α : Type} {enc : α → Value} {w : World} {a : Option Addr} {n cap : Nat} {l : List α} (h : Sl enc w (.slice a n cap) l) (k : Nat) (hk : k ≤ l.length) : Sl enc w (.slice a k cap) (l.take k) := by
  obtain ⟨a', cap', he, h1, h2, h3⟩ := h
  cases he
  have hl : (l.take k).length = k := by rw [List.length_take]; omega
  refine ⟨a, cap, by rw [hl], by omega, h2, ?_⟩
  rcases h3 with h3 | ⟨b, o, rfl, hb, hc⟩
  · exact .inl h3
  · refine .inr ⟨b, o, rfl, hb, fun i c hi => hc i c ?_⟩
    rw [List.getElem?_take] at hi
    split at hi
    · exact hi
    · cases hi

theorem Sl.drop {α : Type} {enc : α → Value} {w : World} {b o n cap : Nat} {l : List α} (h : Sl enc w (.slice (some ⟨b, o, none⟩) n cap) l) (k : Nat) (hk : k ≤ l.length) : Sl enc w (.slice (some ⟨b, o + k, none⟩) (n - k) (cap - k)) (l.drop k) := by
  obtain ⟨a', cap', he, h1, h2, h3⟩ := h
  cases he
  have hl : (l.drop k).length = l.length - k := List.length_drop
  refine ⟨_, _, by rw [hl], by omega, by omega, ?_⟩
  rcases h3 with h3 | ⟨b', o', he, hb, hc⟩
  · cases h3.1
  · cases he
    refine .inr ⟨b, o + k, rfl, hb, fun i c hi => ?_⟩
    rw [Nat.add_assoc]
    exact hc (k + i) c (by rw [List.getElem?_drop] at hi; exact hi)
theorem Sl.none_nil {α : Type} {enc : α → Value} {w : World} {n cap : Nat} {l : List α} (h : Sl enc w (.slice none n cap) l) : l = [] ∧ n = 0 ∧ cap = 0 := by
  obtain ⟨a', cap', he, h1, h2, h3⟩ := h
  cases he
  rcases h3 with ⟨_, rfl⟩ | ⟨b', o', he, _⟩
  · exact ⟨List.eq_nil_of_length_eq_zero (by omega), by omega, rfl⟩
  · cases he
theorem Sl.empty {α : Type} {enc : α → Value} {w : World} {b o : Nat} (hb : b < w.heap.size) : Sl enc w (.slice (some ⟨b, o, none⟩) 0 0) ([] : List α) :=
  ⟨_, 0, rfl, by simp, Nat.zero_le _, .inr ⟨b, o, rfl, hb, fun i c hi => by simp at hi⟩⟩
theorem Sl.some_row {α : Type} {enc : α → Value} {w : World} {x : Addr} {n cap : Nat} {l : List α} (h : Sl enc w (.slice (some x) n cap) l) : ∃ b o, x = ⟨b, o, none⟩ ∧ b < w.heap.size ∧ n = l.length ∧ n ≤ cap ∧ cap ≤ maxLen := by
  obtain ⟨a', cap', he, h1, h2, h3⟩ := h
  cases he
  rcases h3 with ⟨h, _⟩ | ⟨b', o', he, hb, _⟩
  · cases h
  · cases he; exact ⟨b', o', rfl, hb, rfl, h1, h2⟩

end Go.Proofs.YtheipmallojdkaaGreatDoor

namespace Go.Proofs.YtheipmallojdkaaGreatDoor
open Go.RowKit

theorem u8v_one (c : UInt8) : (u8v c).oneCell' = true := rfl

/-- '[]byte(s)'. -/
theorem wpList_bytes_of {w : World} {ops : Array Oper} {rest : List Oper} {o : Oper} {a : Act} {Q : Exit → Act → World → Prop} (hgd : o.guard = none) (x : Operand) (ho : o.op = .convert 9 22 x) (s : ByteArray) (hx : a.eval x = .string s) (hs : s.size ≤ maxLen)
    (h : ∀ v w', Below w.heap.size w w' → v.ownBlock = some w.heap.size → Sl u8v w' v s.data.toList → wpList Tryz.prog ops Q rest (a.put o.dst v) w') : wpList Tryz.prog ops Q (o :: rest) a w := by
  refine wpList_plain hgd fun K hK => ?_
  have hr := Lib.run_convert_string_bytes (P := Tryz.prog) w 9 22 5 s Tryz.underlying9 Tryz.underlying22 Tryz.underlying5
  unfold Oper.wp execOp
  simp only [ho, hx, hr, Sem.run_bind, Result.andThen_ok]
  refine hK _ _ (h _ _ ⟨rfl, rfl, rfl, by rw [Lib.bytesWorld_size]; omega, fun k hk => Lib.bytesWorld_at_old w _ s k hk⟩ rfl ?_)
  have hge := grownCap_ge w s.size 0 5
  have hle := grownCap_le_maxLen w s.size 0 5 hs
  have hlen : s.data.toList.length = s.size := by rw [Array.length_toList]; rfl
  refine ⟨_, _, by rw [hlen], by omega, hle, .inr ⟨w.heap.size, 0, rfl, by rw [Lib.bytesWorld_size]; omega, fun i c hi => ?_⟩⟩
  have hi' : i < s.size := by have := (List.getElem?_eq_some_iff.1 hi).1; omega
  rw [Nat.zero_add, Lib.bytesWorld_cell w _ s i hi', List.getD_eq_getElem?_getD, hi]
  rfl

/-- A slice of bytes behind a Writer's. -/
theorem wpList_wr_raw (W : World) {ops : Array Oper} {rest : List Oper} {o : Oper} {a : Act} {Q : Exit → Act → World → Prop} (hgd : o.guard = none) (s x : Operand)
    (ho : o.op = .call { callee := .builtin .append, args := #[s, x], argTypes := #[22, 22] })
    (p : Nat) (r : Option Nat) (bs : List UInt8) (hW : Wr W p r bs) (v : Value) (hv : W.cell? ⟨p, 0, none⟩ = some v) (hs : a.eval s = v)
    (u : Value) (l : List UInt8) (hx : a.eval x = u) (hu : Sl u8v W u l) (hl : bs.length + l.length ≤ 70368744177664)
    (h : ∀ ad n cp w1, WrMid W p r (bs ++ l) (.slice ad n cp) w1 → wpList Tryz.prog ops Q rest (a.put o.dst (.slice ad n cp)) w1) : wpList Tryz.prog ops Q (o :: rest) a W := by
  obtain ⟨v0, hp, rfl, hne, hown⟩ := hW
  obtain ⟨i0, hi, hz0, hz1, hz2⟩ := info_parts info_u8
  have : v0 = v := by rw [cell_of_one hp] at hv; exact Option.some.inj hv
  subst this
  refine wpList_append_sl W hgd s x 22 ho 5 i0 (.int .u8 0) 1 Tryz.underlying22 hi hz0 hz1 hz2 rfl v0 _ _ hs hown u l hx hu u8v_one (by unfold maxLen; omega) (by omega) ?_
  intro v' w1 hown1 hg1 hrow1
  have hb0 := Below.refl W.heap.size W
  obtain ⟨hc1, hf1, hl1⟩ := wr_still hp hne hb0 hg1
  obtain ⟨h1, h2⟩ := Wr.push (bs := bs) (more := l) hp hne (by simp) (by simp) hb0 hown1 hg1 hrow1
  obtain ⟨ad, n, cp, rfl⟩ : ∃ ad n cp, v' = .slice ad n cp := by
    rcases hown1.2 with ⟨rfl, _⟩ | ⟨g, cap, cur, rfl, _⟩
    · exact ⟨_, _, _, rfl⟩
    · exact ⟨_, _, _, rfl⟩
  exact h ad n cp w1 ⟨⟨_, hc1⟩, hf1, hl1, h1, h2⟩

theorem fold_any (w : World) (x : Int) (h1 : -9223372036854775808 ≤ x) (h2 : x ≤ 9223372036854775807) : Calls Tryz.prog 47 #[.int .i64 x] w (Ret (.int .u64 (zig x)) w) := by
  have H1 := Lib.hid h1
  have H2 := Lib.hid h2
  clear h1 h2
  go_enter Tryz.func47, Tryz.ntmps47
  go_wp2
  go_ret
  exact Ret.mk (int_eq (fold_bits x H1.out H2.out))

section
variable (w : World) (p : Nat) (r : Option Nat) (bs : List UInt8) (h : Wr w p r bs)
include h

theorem raw_any (ad : Option Addr) (n cp : Nat) (l : List UInt8) (hu : Sl u8v w (.slice ad n cp) l) (hl : bs.length + l.length ≤ 70368744177664) :
    Calls Tryz.prog 71 #[.pointer (some ⟨p, 0, none⟩), .slice ad n cp] w (WroteB p w r (bs ++ l)) := by
  have H := Lib.hid h
  have HU := Lib.hid hu
  have HL := Lib.hid hl
  obtain ⟨v, hp, _⟩ := h
  have hcell := cell_of_one hp
  clear hu hl hp
  go_enter Tryz.func71, Tryz.ntmps71
  go_wp2_with (at_builtin; refine wpList_wr_raw w rfl _ _ rfl p r _ H.out v hcell rfl _ l rfl HU.out HL.out ?_; intro ad' n' cp' w1 hm; obtain ⟨⟨vv, hc1⟩, hf1, hl1, hw1, hk1⟩ := hm; have HW1 := Lib.hid hw1; have HK1 := Lib.hid hk1; clear hw1 hk1 hcell)
  go_end0
  exact ⟨rfl, _, HW1.out, HK1.out⟩

theorem wtext_any (s : ByteArray) (hl : bs.length + s.size + 10 ≤ 70368744177664) :
    Calls Tryz.prog 52 #[.pointer (some ⟨p, 0, none⟩), .string s] w (WroteB p w r (bs ++ textB s.data.toList)) := by
  have hlen : s.data.toList.length = s.size := by rw [Array.length_toList]; rfl
  have hn := num_any w p r bs h s.size (by omega) (by omega) (by omega)
  have e1 : ((s.size : Int)).toNat = s.size := by omega
  rw [e1] at hn
  have HL := Lib.hid hl
  have HLN := Lib.hid hlen
  have hsz : s.size ≤ 70368744177664 := by omega
  clear hl hlen e1 h
  go_enter Tryz.func52, Tryz.ntmps52
  go_wp2_with fail
  refine hn.mono ?_
  rintro e w1 ⟨rfl, r1, hW1, hk1⟩
  go_wp2_with (first
    | (refine wpList_bytes_of rfl _ rfl s rfl (by unfold maxLen; omega) ?_; intro v w2 hb2 hv2 hs2)
    )
  obtain ⟨ad, cp, rfl, _⟩ := id hs2
  have hl2 := HL.out
  have hW2 : Wr w2 p r1 (bs ++ numB s.size) := hW1.kept (Keeps.of_belowS (S := fun _ => False) hb2) (fun h => h) (fun _ _ h => h)
  have hlb : (bs ++ numB s.size).length + s.data.toList.length ≤ 70368744177664 := by
    have := numB_len10 (x := s.size) (by omega)
    rw [List.length_append, HLN.out]; omega
  have hraw := raw_any w2 p r1 _ hW2 ad _ cp s.data.toList hs2 hlb
  clear hs2 hn hlb
  go_wp2_with fail
  refine hraw.mono ?_
  rintro e w3 ⟨rfl, r3, hW3, hk3⟩
  go_wp2_with fail
  go_end0
  refine ⟨rfl, r3, ?_, hk1.trans (Wrote.trans ⟨Keeps.of_belowS hb2, .inl rfl⟩ hk3)⟩
  unfold textB
  rw [HLN.out, ← List.append_assoc]
  exact hW3

theorem wint_any (x : Int) (h1 : -9223372036854775808 ≤ x) (h2 : x ≤ 9223372036854775807) (hl : bs.length + 10 ≤ 70368744177664) :
    Calls Tryz.prog 16 #[.pointer (some ⟨p, 0, none⟩), .int .i64 x] w (WroteB p w r (bs ++ intB x)) := by
  have hf := fold_any w x h1 h2
  have hz := zig_lt h1 h2
  have hn := num_any w p r bs h (zig x) (by omega) (by omega) hl
  unfold intB
  have e1 : ((zig x : Int)).toNat = zig x := by omega
  rw [e1] at hn
  generalize zig x = z at *
  clear h h1 h2 hz e1
  go_enter Tryz.func16, Tryz.ntmps16
  go_wp2_with (go_at_call 47; refine hf.mono ?_; rintro e w' ⟨rfl, rfl⟩)
  refine hn.mono ?_
  rintro e w1 ⟨rfl, r1, hW1, hk1⟩
  go_wp2_with fail
  go_end0
  exact ⟨rfl, r1, hW1, hk1⟩
end

/-- What is cloned: the same bytes, in a row of its own. -/
def Cloned (w : World) (l : List UInt8) (e : Ending) (w' : World) : Prop :=
  ∃ v, e = .returned v ∧ Below w.heap.size w w' ∧ Sl u8v w' v l ∧ w'.ownsRow 0 5 1 v l.length (l.map u8v) ∧ ∀ k, v.ownBlock = some k → w.heap.size ≤ k

set_option maxRecDepth 100000 in
theorem clone_any (w : World) (ad : Option Addr) (n cp : Nat) (l : List UInt8) (hu : Sl u8v w (.slice ad n cp) l) (hl : l.length ≤ 70368744177664) :
    Calls Tryz.prog 30 #[.slice ad n cp] w (Cloned w l) := by
  have HU := Lib.hid hu
  have HL := Lib.hid hl
  clear hl
  cases ad with
  | none =>
    obtain ⟨rfl, rfl, rfl⟩ := hu.none_nil
    clear hu
    have hnil := fun w => Lib.run_eql_slice_nil (P := Tryz.prog) w 22 5 none 0 0 0 0 Tryz.underlying22
    go_enter Tryz.func30, Tryz.ntmps30
    go_wp2
    go_ret
    exact ⟨_, rfl, Below.refl _ _, Sl.nil _ _, World.ownsRow_nil _ _ _ _, fun k hk => by simp [Value.ownBlock] at hk⟩
  | some x =>
    obtain ⟨b, o, rfl, hb, rfl, hn, hc⟩ := hu.some_row
    clear hu hc hn
    have hnil := fun w => Lib.run_eql_slice_nil (P := Tryz.prog) w 22 5 (some ⟨b, o, none⟩) l.length cp 0 0 Tryz.underlying22
    obtain ⟨i0, hi, hz0, hz1, hz2⟩ := info_parts info_u8
    go_enter Tryz.func30, Tryz.ntmps30
    have how : (w.alloc (.cells #[] 5)).ownsRow 0 5 1 (.slice (some ⟨w.heap.size, 0, none⟩) 0 0) 0 [] := World.ownsRow_made w #[] 0 (Nat.zero_le _) (Nat.zero_le _) rfl
    have hus : Sl u8v (w.alloc (.cells #[] 5)) (.slice (some ⟨b, o, none⟩) l.length cp) l := HU.out.alloc _
    have HM0 := Lib.hid (show 0 + l.length ≤ maxLen by unfold maxLen; have := HL.out; omega)
    have HM1 := Lib.hid (show (0 + l.length) * 1 ≤ 140737488355328 by have := HL.out; omega)
    have HO0 := Lib.hid how
    have HU0 := Lib.hid hus
    clear how hus
    go_wp2_with (at_builtin; refine wpList_append_sl (w.alloc (.cells #[] 5)) rfl _ _ _ rfl 5 i0 (.int .u8 0) 1 Tryz.underlying22 hi hz0 hz1 hz2 rfl (.slice (some ⟨w.heap.size, 0, none⟩) 0 0) 0 [] rfl HO0.out (.slice (some ⟨b, o, none⟩) l.length cp) l rfl HU0.out u8v_one HM0.out HM1.out ?_; intro v' w1 hown hg hrow; have HO := Lib.hid hown; have HG := Lib.hid hg; have HR := Lib.hid hrow; clear hown hg hrow)
    go_ret
    have hown : w1.ownsRow 0 5 1 v' l.length (l.map u8v) := by have := HO.out; rwa [Nat.zero_add, List.nil_append] at this
    refine ⟨v', rfl, ?_, owns_sl hown, hown, fun k hk => ?_⟩
    · have h1 : Keeps (fun k => w.heap.size ≤ k) w w1 := ((Keeps.refl _ w).alloc _).trans (grown_keeps HG.out (fun k hk => by simp [Value.ownBlock] at hk; omega))
      exact h1.below (Nat.le_refl _) (fun k hk => hk)
    · rcases HR.out with h1 | ⟨j, h1, h2, _⟩
      · rw [h1] at hk; simp [Value.ownBlock] at hk; omega
      · rw [h1] at hk; cases hk; simp at h2; omega

section
variable (w : World) (p : Nat) (r : Option Nat) (bs : List UInt8) (h : Wr w p r bs)
include h

theorem wbytes_any (hl : bs.length ≤ 70368744177664) : Calls Tryz.prog 25 #[.pointer (some ⟨p, 0, none⟩)] w (Cloned w bs) := by
  obtain ⟨v, hp, _, _, hown⟩ := h
  have hcell := cell_of_one hp
  have hs := owns_sl hown
  obtain ⟨ad, cp, rfl, _⟩ := id hs
  have hcl := clone_any w ad _ cp bs hs hl
  clear hp hown hs hl
  go_enter Tryz.func25, Tryz.ntmps25
  go_wp2_with fail
  refine hcl.mono ?_
  rintro e w1 ⟨u, rfl, hr⟩
  go_wp2_with fail
  go_ret
  exact ⟨_, rfl, hr⟩
end

end Go.Proofs.YtheipmallojdkaaGreatDoor

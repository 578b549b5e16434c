/- Small words and lemmas that all walks of this seat use. Numbers and texts as bytes, in plain words: what is written, what is read, and that each undoes the other. Of no program. What the bits of numbers come to: the seven bits of a byte, a number put together, a signed number as a number. Of no program. Maps as plain lists of pairs, in the order in which their keys came: what a look-up, a store, a deletion and len do to them; and a frame for writes into known blocks. Of whatever program. -/
import Derived.Test.YtdjooojpcepleaaGreatRows
import Derived.WalkKit
import Derived.WalkLawsBesides
import Derived.WalkSpells
import Derived.Lib.Hide
import Derived.StillTailTactics
import Derived.Laws.Bits64b
import Derived.Laws.BitsLemmas
import Derived.Maps.OwnSet
import Derived.Maps.OwnOps

namespace Go.Proofs.YtdjooojpcepleaaGreat
section
open Go.RowKit
theorem hI {p : Prop} (h : p) : Go.RowKit.Hid p := h
theorem bR {B : Nat} {w : World} : Below B w w := Below.refl _ _
theorem nL {n : Nat} : n ≤ n := Nat.le_refl _
theorem bE {P : Program} {fn : Func} {R : Ending → World → Prop} {a : Act} {w : World} (h : fn.results = #[]) (hd : a.defers = []) (hR : R (.returned (.tuple #[])) w) : bodyPost P fn R .normal a w := bodyPost_end (results_none h _ _ _) hd hR
theorem bT {P : Program} {fn : Func} {R : Ending → World → Prop} {a : Act} {w : World} (h : fn.results = #[]) (hd : a.defers = []) (hR : R (.returned (.tuple #[])) w) : bodyPost P fn R .ret a w := bodyPost_ret (results_none h _ _ _) hd hR
theorem sA {α : Type} (l : List α) (i : Nat) (a : α) : l.toArray.setIfInBounds i a = (l.set i a).toArray := List.setIfInBounds_toArray ..
theorem sZ {α : Type} (a : α) (l : List α) (b : α) : (a :: l).set 0 b = b :: l := rfl
theorem sS {α : Type} (a : α) (l : List α) (n : Nat) (b : α) : (a :: l).set (n + 1) b = a :: l.set n b := rfl
theorem rX {A B C D E F G H I J K L M N : Type} {a : A} {b : B} {c : C} {d : D} {e : E} {f : F} {g : G} {h : H} {i : I} {j : J} {k : K} {l : L} {m : M} {n : N} : a = a ∧ b = b ∧ c = c ∧ d = d ∧ e = e ∧ f = f ∧ g = g ∧ h = h ∧ i = i ∧ j = j ∧ k = k ∧ l = l ∧ m = m ∧ n = n := ⟨rfl, rfl, rfl, rfl, rfl, rfl, rfl, rfl, rfl, rfl, rfl, rfl, rfl, rfl⟩
theorem bH {W w1 : World} {B : Nat} (hb : Below B W w1) {k : Nat} {o : Obj} (h : W.heap[k]? = some o) (hk : k < B) : w1.heap[k]? = some o := (hb.block k hk).trans h
theorem aheap {W : World} {k : Nat} {o : Obj} (h : W.heap[k]? = some o) (o' : Obj) : (W.alloc o').heap[k]? = some o := by
 have hk : k < W.heap.size := by
  rcases Nat.lt_or_ge k W.heap.size with h1 | h1
  ·exact h1
  ·simp [Array.getElem?_eq_none h1] at h
 exact (Below.heap_alloc _ _ _ hk).trans h
theorem bcell {W w1 : World} {B : Nat} (hb : Below B W w1) : ∀ b o, b < B → w1.cell? ⟨b, o, none⟩ = W.cell? ⟨b, o, none⟩ :=
 fun b o h => hb.cell (p := ⟨b, o, none⟩) h
theorem cell_lt {w : World} {a : Addr} {v : Value} (h : w.cell? a = some v) : a.block < w.heap.size := by
 rcases Nat.lt_or_ge a.block w.heap.size with h1 | h1
 ·exact h1
 ·simp [World.cell?, Array.getElem?_eq_none h1] at h
def Ret (v : Value) (w : World) (e : Ending) (w' : World) : Prop := e = .returned v ∧ w = w'
def RetB (v : Value) (w : World) (e : Ending) (w' : World) : Prop := e = .returned v ∧ Below w.heap.size w w'
theorem RetB.mk {v u : Value} {w w' : World} (h : u = v) (b : Below w.heap.size w w') : RetB v w (.returned u) w' := ⟨by rw [h], b⟩
def RetN (v : Value) (w : World) (e : Ending) (w' : World) : Prop := e = .returned v ∧ ∃ o, w' = w.alloc o
theorem RetN.mk {v u : Value} {w : World} (o : Obj) (h : u = v) : RetN v w (.returned u) (w.alloc o) := ⟨by rw [h], o, rfl⟩
theorem Ret.mk {v u : Value} {w : World} (h : u = v) : Ret v w (.returned u) w := ⟨by rw [h], rfl⟩
theorem bW (w : World) (o : Obj) : (w.alloc o).heap[w.heap.size]? = some o := by
 show (w.heap.push o)[w.heap.size]? = _
 simp
theorem still_tail {P : Program} {id : Nat} {Q : Exit → Act → World → Prop} {a : Act} {w : World} {l : List Oper} (n : Nat) (hm : P.follows .mixedOrders = true) (hB : Region.lexTailB .any l.toArray n = true)
  (h : ∀ W, W = w.drew → wpStill P l.toArray W (fun a' => wpList P l.toArray Q (l.drop n) a' W) (l.take n) a) : (Code.region id l.toArray true).wp P Q a w :=
 wp_region_still_tail n hm hB (h _ rfl)
theorem int_eq {k : IntKind} {a b : Int} (h : a = b) : Value.int k a = Value.int k b := by rw [h]
theorem bool_eq {a b : Bool} (h : a = b) : Value.bool a = Value.bool b := by rw [h]
end
section
def numB (x : Nat) : List UInt8 := if h : x < 128 then [UInt8.ofNat x] else UInt8.ofNat (x % 128 + 128) :: numB (x / 128)
termination_by x
decreasing_by omega
theorem numB_lt {x : Nat} (h : x < 128) : numB x = [UInt8.ofNat x] := by rw [numB, dif_pos h]
theorem numB_ge {x : Nat} (h : 128 ≤ x) : numB x = UInt8.ofNat (x % 128 + 128) :: numB (x / 128) := by rw [numB, dif_neg (by omega)]
theorem numB_len (n : Nat) : ∀ x, x < 128 ^ (n + 1) → (numB x).length ≤ n + 1 := by
 induction n with
 | zero => intro x h; rw [numB_lt (by simpa using h)]; simp
 | succ n ih =>
  intro x h
  rcases Nat.lt_or_ge x 128 with h1 | h1
  ·rw [numB_lt h1]; simp
  ·rw [numB_ge h1]
   have := ih (x / 128) (by rw [Nat.div_lt_iff_lt_mul (by omega)]; rw [Nat.pow_succ] at h; exact h)
   simp only [List.length_cons]; omega
theorem numB_len10 {x : Nat} (h : x < 18446744073709551616) : (numB x).length ≤ 10 := numB_len 9 x (by omega)
theorem numB_pos (x : Nat) : 1 ≤ (numB x).length := by
 rcases Nat.lt_or_ge x 128 with h | h
 ·rw [numB_lt h]; simp
 ·rw [numB_ge h]; simp
def dec : Nat → Nat → List UInt8 → Int ⊕ (Nat × List UInt8)
 | _, _, [] => .inl 4
 | i, x, c :: r => if 9 < i ∨ (i = 9 ∧ 1 < c.toNat) ∨ (c.toNat = 0 ∧ 0 < i) then .inl 2 else
  if c.toNat < 128 then .inr (x + c.toNat % 128 * 128 ^ i, r) else dec (i + 1) (x + c.toNat % 128 * 128 ^ i) r
theorem toNat_ofNat {x : Nat} (h : x < 256) : (UInt8.ofNat x).toNat = x := by simp; omega
theorem dec_numB (r : List UInt8) : ∀ (n i : Nat) (x y : Nat), i + n = 9 → y < 2 * 128 ^ n → (0 < y ∨ i = 0) → dec i x (numB y ++ r) = .inr (x + y * 128 ^ i, r) := by
 intro n
 induction n with
 | zero =>
  intro i x y hi hy h0
  rw [numB_lt (by simp at hy; omega)]
  simp only [List.cons_append, List.nil_append, dec]
  rw [toNat_ofNat (by simp at hy; omega)]
  simp only [Nat.pow_zero] at hy
  rw [if_neg (by omega), if_pos (by omega), Nat.mod_eq_of_lt (by omega)]
 | succ n ih =>
  intro i x y hi hy h0
  rcases Nat.lt_or_ge y 128 with h1 | h1
  ·rw [numB_lt h1]
   simp only [List.cons_append, List.nil_append, dec]
   rw [toNat_ofNat (by omega), if_neg (by omega), if_pos h1, Nat.mod_eq_of_lt h1]
  ·rw [numB_ge h1]
   simp only [List.cons_append, dec]
   rw [toNat_ofNat (by omega), if_neg (by omega), if_neg (by omega)]
   rw [ih (i + 1) _ (y / 128) (by omega) (by rw [Nat.div_lt_iff_lt_mul (by omega)]; rw [Nat.pow_succ] at hy; omega) (by omega)]
   have e1 : (y % 128 + 128) % 128 = y % 128 := by omega
   rw [e1, Nat.pow_succ, Nat.add_assoc, ← Nat.mul_assoc, Nat.mul_right_comm, ← Nat.add_mul]
   have e2 : y % 128 + y / 128 * 128 = y := by omega
   rw [e2]
theorem dec_num {y : Nat} (h : y < 18446744073709551616) (r : List UInt8) : dec 0 0 (numB y ++ r) = .inr (y, r) := by
 have := dec_numB r 9 0 0 y (by omega) (by omega) (.inr rfl)
 simpa using this
theorem dec_back : ∀ (l : List UInt8) (i x : Nat) (z : Nat) (r : List UInt8), dec i x l = .inr (z, r) → i ≤ 9 ∧ ∃ y, z = x + y * 128 ^ i ∧ l = numB y ++ r ∧ y < 2 * 128 ^ (9 - i) ∧ (0 < y ∨ i = 0) := by
 intro l
 induction l with
 | nil => intro i x z r h; simp [dec] at h
 | cons c l ih =>
  intro i x z r h
  have hc := c.toNat_lt
  simp only [dec] at h
  split at h
  ·cases h
  ·rename_i hn
   have hi : i ≤ 9 := by omega
   split at h
   ·rename_i h1
    simp only [Sum.inr.injEq, Prod.mk.injEq] at h
    obtain ⟨rfl, rfl⟩ := h
    refine ⟨hi, c.toNat, by rw [Nat.mod_eq_of_lt h1], ?_, ?_, by omega⟩
    ·rw [numB_lt h1]; simp
    ·rcases Nat.lt_or_ge i 9 with h9 | h9
     ·have : 128 ^ 1 ≤ 128 ^ (9 - i) := Nat.pow_le_pow_right (by omega) (by omega)
      omega
     ·obtain rfl : i = 9 := by omega
      simp; omega
   ·rename_i h1
    obtain ⟨hi2, y, rfl, rfl, hy, h0⟩ := ih _ _ _ _ h
    have hy0 : 0 < y := by omega
    refine ⟨hi, c.toNat % 128 + y * 128, ?_, ?_, ?_, by omega⟩
    ·rw [Nat.pow_succ, Nat.add_mul, Nat.mul_assoc, Nat.mul_comm 128, Nat.add_assoc]
    ·have h128 : 128 ≤ c.toNat % 128 + y * 128 := by omega
     rw [numB_ge h128]
     have e1 : (c.toNat % 128 + y * 128) % 128 + 128 = c.toNat := by omega
     have e2 : (c.toNat % 128 + y * 128) / 128 = y := by omega
     rw [e1, e2]
     simp
    ·obtain ⟨k, hk⟩ : ∃ k, 9 - i = k + 1 := ⟨8 - i, by omega⟩
     rw [show 9 - (i + 1) = k by omega] at hy
     rw [hk, Nat.pow_succ]
     omega
theorem dec_of {l : List UInt8} {z : Nat} {r : List UInt8} (h : dec 0 0 l = .inr (z, r)) : l = numB z ++ r ∧ z < 18446744073709551616 := by
 obtain ⟨_, y, rfl, rfl, hy, _⟩ := dec_back l 0 0 z r h
 simp at hy ⊢
 omega
structure RS where
 b : List UInt8
 e : Int
deriving DecidableEq
def RS.fail (s : RS) (e : Int) : RS := if s.e = 0 then ⟨[], e⟩ else s
def RS.ok (s : RS) : Prop := s.e ≠ 0 → s.b = []
def numR (s : RS) : Nat × RS := if s.e = 0 then (match dec 0 0 s.b with | .inl e => (0, ⟨[], e⟩) | .inr (x, r) => (x, ⟨r, 0⟩)) else (0, s)
def countR (most : Nat) (s : RS) : Nat × RS := if most < (numR s).1 then (0, (numR s).2.fail 15) else numR s
def endR (s : RS) : Int := if s.e = 0 then (if s.b.length = 0 then 0 else 15) else s.e
theorem dec_err : ∀ (l : List UInt8) (i x : Nat) (e : Int), dec i x l = .inl e → e = 2 ∨ e = 4
 | [], i, x, e, h => by simp [dec] at h; omega
 | c :: r, i, x, e, h => by
  simp only [dec] at h
  split at h
  ·simp at h; omega
  ·split at h
   ·cases h
   ·exact dec_err r _ _ e h
theorem numR_lt (s : RS) : (numR s).1 < 18446744073709551616 := by
 unfold numR
 split
 ·split
  ·simp
  ·rename_i h; exact (dec_of h).2
 ·simp
theorem numR_back {s : RS} (h : (numR s).2.e = 0) : s = ⟨numB (numR s).1 ++ (numR s).2.b, 0⟩ := by
 obtain ⟨b, e⟩ := s
 unfold numR at *
 by_cases h0 : e = 0
 ·subst h0
  simp only [if_true] at *
  cases hd : dec 0 0 b with
  | inl e' =>
   rw [hd] at h
   simp only at h
   rcases dec_err _ _ _ _ hd with h1 | h1 <;> omega
  | inr p =>
   obtain ⟨x, r⟩ := p
   simp only
   rw [← (dec_of hd).1]
 ·simp only [if_neg h0] at h
  exact absurd h h0
theorem numR_num {x : Nat} (hx : x < 18446744073709551616) (r : List UInt8) : numR ⟨numB x ++ r, 0⟩ = (x, ⟨r, 0⟩) := by
 simp [numR, dec_num hx]
theorem countR_back {m : Nat} {s : RS} (h : (countR m s).2.e = 0) : s = ⟨numB (countR m s).1 ++ (countR m s).2.b, 0⟩ ∧ (countR m s).1 ≤ m := by
 unfold countR at *
 by_cases h1 : m < (numR s).1
 ·rw [if_pos h1] at h
  simp only [RS.fail] at h
  split at h
  ·simp at h
  ·rename_i h2; exact absurd h h2
 ·rw [if_neg h1] at *
  exact ⟨numR_back h, by omega⟩
theorem countR_num {x m : Nat} (hx : x < 18446744073709551616) (hm : x ≤ m) (r : List UInt8) : countR m ⟨numB x ++ r, 0⟩ = (x, ⟨r, 0⟩) := by
 unfold countR
 rw [numR_num hx, if_neg (by simp; omega)]
theorem numR_err {s : RS} (h : s.e ≠ 0) : numR s = (0, s) := by unfold numR; rw [if_neg h]
end
section
open Go.RowKit
set_option maxRecDepth 100000 in
theorem or128 (x : Nat) : bits .or .u8 ((x % 256 : Nat) : Int) 128 = ((x % 128 + 128 : Nat) : Int) := by
 have h := (bits_nat .u8 8 (by decide) wraps_u8 (x % 256) 128 (by omega) (by omega)).2
 rw [show ((128 : Int)) = ((128 : Nat) : Int) from rfl, h]
 have : ∀ y : Fin 256, y.val ||| 128 = y.val % 128 + 128 := by decide
 have h1 := this ⟨x % 256, by omega⟩
 simp only at h1
 rw [h1]
 omega
set_option maxRecDepth 100000 in
theorem and127 (x : Nat) (h : x < 256) : bits .and .u8 (x : Int) 127 = ((x % 128 : Nat) : Int) := by
 have h := (bits_nat .u8 8 (by decide) wraps_u8 x 127 (by omega) (by omega)).1
 rw [show ((127 : Int)) = ((127 : Nat) : Int) from rfl, h]
 have : ∀ y : Fin 256, y.val &&& 127 = y.val % 128 := by decide
 have h1 := this ⟨x, by omega⟩
 simp only at h1
 rw [h1]
theorem or_shift (i a c : Nat) (ha : a < 128 ^ i) (hi : i ≤ 9) (hc : c < 128) (h9 : i = 9 → c ≤ 1) : bits .or .u64 (a : Int) ((c * 128 ^ i : Nat) : Int) = ((a + c * 128 ^ i : Nat) : Int) := by
 have hp : 128 ^ i = 2 ^ (7 * i) := by rw [Nat.pow_mul]
 have hlt : c * 128 ^ i < 18446744073709551616 := by
  rcases Nat.lt_or_ge i 9 with h | h
  ·have : 128 ^ i ≤ 128 ^ 8 := Nat.pow_le_pow_right (by omega) (by omega)
   have h2 : c * 128 ^ i ≤ 127 * 128 ^ 8 := Nat.mul_le_mul (by omega) this
   omega
  ·obtain rfl : i = 9 := by omega
   have := h9 rfl
   omega
 have hal : a < 18446744073709551616 := by
  have : 128 ^ i ≤ 128 ^ 9 := Nat.pow_le_pow_right (by omega) (by omega)
  omega
 rw [bits_or_u64_nat _ _ hal hlt]
 rw [hp] at ha ⊢
 rw [Nat.or_comm, Nat.mul_comm, ← Nat.two_pow_add_eq_or_of_lt ha c, Nat.add_comm]
theorem shl_fits (i c : Nat) (hi : i ≤ 9) (hc : c < 128) (h9 : i = 9 → c ≤ 1) : c * 128 ^ i < 18446744073709551616 := by
 rcases Nat.lt_or_ge i 9 with h | h
 ·have : 128 ^ i ≤ 128 ^ 8 := Nat.pow_le_pow_right (by omega) (by omega)
  have h2 : c * 128 ^ i ≤ 127 * 128 ^ 8 := Nat.mul_le_mul (by omega) this
  omega
 ·obtain rfl : i = 9 := by omega
  have := h9 rfl
  omega
theorem num_step (k acc : Nat) (c : UInt8) (hacc : acc < 128 ^ k) (hk : k ≤ 9) (h9 : k = 9 → c.toNat ≤ 1) :
  bits .or .u64 (acc : Int) (IntKind.u64.wrap (IntKind.u64.wrap (bits .and .u8 (c.toNat : Int) 127) * 2 ^ (7 * (k : Int)).toNat)) = ((acc + c.toNat % 128 * 128 ^ k : Nat) : Int) := by
 have hc := c.toNat_lt
 have hfit := shl_fits k (c.toNat % 128) hk (by omega) (by omega)
 rw [and127 _ hc]
 have e1 : IntKind.u64.wrap ((c.toNat % 128 : Nat) : Int) = ((c.toNat % 128 : Nat) : Int) := by rw [IntKind.wrap_u64]; omega
 have e2 : (7 * (k : Int)).toNat = 7 * k := by omega
 have e3 : ((2 : Int) ^ (7 * k)) = ((128 ^ k : Nat) : Int) := by rw [Int.pow_mul]; norm_cast
 rw [e1, e2, e3, ← Int.natCast_mul]
 have e4 : IntKind.u64.wrap ((c.toNat % 128 * 128 ^ k : Nat) : Int) = ((c.toNat % 128 * 128 ^ k : Nat) : Int) := by rw [IntKind.wrap_u64]; omega
 rw [e4]
 exact or_shift k acc _ hacc hk (by omega) (by omega)
end
section
open Go.RowKit Go.Maps Go.ChangeMaps
structure Keeps (S : Nat → Prop) (w w' : World) : Prop where
 os : w'.os = w.os
 tape : w'.tape = w.tape
 output : w'.output = w.output
 size : w.heap.size ≤ w'.heap.size
 block : ∀ k, k < w.heap.size → ¬ S k → w'.heap[k]? = w.heap[k]?
namespace Keeps
variable {S T : Nat → Prop} {a b c w w' : World}
theorem refl (S : Nat → Prop) (w : World) : Keeps S w w := ⟨rfl, rfl, rfl, Nat.le_refl _, fun _ _ _ => rfl⟩
theorem trans (h : Keeps S a b) (k : Keeps S b c) : Keeps S a c :=
 ⟨k.os.trans h.os, k.tape.trans h.tape, k.output.trans h.output, Nat.le_trans h.size k.size, fun i hi hs => (k.block i (Nat.lt_of_lt_of_le hi h.size) hs).trans (h.block i hi hs)⟩
theorem mono (h : Keeps S a b) (hs : ∀ k, k < a.heap.size → S k → T k) : Keeps T a b := ⟨h.os, h.tape, h.output, h.size, fun k hk hn => h.block k hk fun x => hn (hs k hk x)⟩
theorem drew (h : Keeps S a w) : Keeps S a w.drew := ⟨h.os, h.tape, h.output, h.size, h.block⟩
theorem alloc (h : Keeps S a w) (o : Obj) : Keeps S a (w.alloc o) :=
 h.trans ⟨rfl, rfl, rfl, by simp, fun k hk _ => Below.heap_alloc _ _ _ hk⟩
theorem setCell (h : Keeps S a w) {p : Addr} (hp : S p.block ∨ a.heap.size ≤ p.block) (u : Value) : Keeps S a (w.setCell p u) :=
 ⟨h.os, h.tape, h.output, by simpa [World.setCell] using h.size, fun k hk hn => (Below.heap_setCell _ _ _ _ (by rintro rfl; rcases hp with hp | hp; exact hn hp; omega)).trans (h.block k hk hn)⟩
theorem setBlock (h : Keeps S a w) {p : Nat} (hp : S p ∨ a.heap.size ≤ p) (o : Obj) : Keeps S a (setBlock w p o) :=
 ⟨h.os, h.tape, h.output, by simpa [ChangeMaps.setBlock] using h.size, fun k hk hn => by
   have hne : p ≠ k := by rintro rfl; rcases hp with hp | hp; exact hn hp; omega
   simp only [ChangeMaps.setBlock, Array.getElem?_setIfInBounds, if_neg hne]
   exact h.block k hk hn⟩
theorem below {B : Nat} (h : Keeps S a b) (hB : B ≤ a.heap.size) (hs : ∀ k, S k → B ≤ k) : Below B a b :=
 ⟨h.os, h.tape, h.output, h.size, fun k hk => h.block k (by omega) fun x => by have := hs k x; omega⟩
theorem of_below {B : Nat} (h : Below B a b) : Keeps (fun k => B ≤ k) a b := ⟨h.os, h.tape, h.output, h.size, fun k _ hn => h.block k (by omega)⟩
theorem of_belowS (h : Below a.heap.size a b) : Keeps S a b := ⟨h.os, h.tape, h.output, h.size, fun k hk _ => h.block k hk⟩
theorem heap {o : Obj} {k : Nat} (h : Keeps S a b) (hn : ¬ S k) (ho : a.heap[k]? = some o) : b.heap[k]? = some o := by
 have hk : k < a.heap.size := by rcases Nat.lt_or_ge k a.heap.size with h | h; exact h; simp [Array.getElem?_eq_none h] at ho
 rw [h.block k hk hn, ho]
end Keeps
theorem heap_lt {w : World} {k : Nat} {o : Obj} (ho : w.heap[k]? = some o) : k < w.heap.size := by
 rcases Nat.lt_or_ge k w.heap.size with h | h; exact h; simp [Array.getElem?_eq_none h] at ho
section
variable {α β : Type} [DecidableEq α]
def aget (a : α) : List (α × β) → Option β
 | [] => none
 | (x, b) :: r => if x = a then some b else aget a r
def aset (a : α) (b : β) : List (α × β) → List (α × β)
 | [] => [(a, b)]
 | (x, c) :: r => if x = a then (x, b) :: r else (x, c) :: aset a b r
def adel (a : α) : List (α × β) → List (α × β)
 | [] => []
 | (x, c) :: r => if x = a then r else (x, c) :: adel a r
def keys (l : List (α × β)) : List α := l.map (·.1)
theorem aget_none {a : α} : ∀ {l : List (α × β)}, aget a l = none ↔ a ∉ keys l
 | [] => by simp [aget, keys]
 | (x, b) :: r => by
  by_cases h : x = a
  ·simp [aget, keys, h]
  ·have := aget_none (a := a) (l := r)
   simp only [aget, if_neg h, keys, List.map_cons, List.mem_cons, not_or] at *
   rw [this]; exact ⟨fun h' => ⟨fun e => h e.symm, h'⟩, fun h' => h'.2⟩
theorem aget_some_mem {a : α} {b : β} : ∀ {l : List (α × β)}, aget a l = some b → (a, b) ∈ l
 | (x, c) :: r, h => by
  by_cases hx : x = a
  ·simp only [aget, if_pos hx, Option.some.injEq] at h; subst h; subst hx; simp
  ·simp only [aget, if_neg hx] at h; exact List.mem_cons_of_mem _ (aget_some_mem h)
theorem aget_of_mem {a : α} {b : β} : ∀ {l : List (α × β)}, (keys l).Nodup → (a, b) ∈ l → aget a l = some b
 | (x, c) :: r, hn, h => by
  simp only [keys, List.map_cons, List.nodup_cons] at hn
  rcases List.mem_cons.1 h with h | h
  ·cases h; simp [aget]
  ·have hx : x ≠ a := by rintro rfl; exact hn.1 (List.mem_map.2 ⟨_, h, rfl⟩)
   simp only [aget, if_neg hx]
   exact aget_of_mem hn.2 h
theorem keys_aset (a : α) (b : β) : ∀ l : List (α × β), keys (aset a b l) = if a ∈ keys l then keys l else keys l ++ [a]
 | [] => by simp [aset, keys]
 | (x, c) :: r => by
  by_cases h : x = a
  ·subst h; simp [aset, keys]
  ·have ih := keys_aset a b r
   have e1 : keys (aset a b ((x, c) :: r)) = x :: keys (aset a b r) := by simp [aset, if_neg h, keys]
   have e2 : keys ((x, c) :: r) = x :: keys r := rfl
   rw [e1, ih, e2]
   by_cases h2 : a ∈ keys r
   ·rw [if_pos h2, if_pos (List.mem_cons_of_mem _ h2)]
   ·rw [if_neg h2, if_neg (by intro e; rcases List.mem_cons.1 e with e | e; exact h e.symm; exact h2 e)]; rfl
theorem nodup_aset {a : α} {b : β} {l : List (α × β)} (h : (keys l).Nodup) : (keys (aset a b l)).Nodup := by
 rw [keys_aset]
 split
 ·exact h
 ·rename_i hn
  exact List.nodup_append.2 ⟨h, by simp, by rintro x hx y hy rfl; simp at hy; subst hy; exact hn hx⟩
theorem aset_mem {a : α} {b : β} {p : α × β} : ∀ {l : List (α × β)}, p ∈ aset a b l → p ∈ l ∨ p = (a, b)
 | [], h => by simp [aset] at h; exact .inr h
 | (x, c) :: r, h => by
  by_cases hx : x = a
  ·subst hx
   simp only [aset, if_pos] at h
   rcases List.mem_cons.1 h with h | h
   ·exact .inr h
   ·exact .inl (List.mem_cons_of_mem _ h)
  ·simp only [aset, if_neg hx] at h
   rcases List.mem_cons.1 h with h | h
   ·exact .inl (by simp [h])
   ·rcases aset_mem h with h | h
    ·exact .inl (List.mem_cons_of_mem _ h)
    ·exact .inr h
theorem adel_sub {a : α} : ∀ (l : List (α × β)), (adel a l).Sublist l
 | [] => by simp [adel]
 | (x, c) :: r => by
  by_cases h : x = a
  ·simp [adel, h]
  ·simp only [adel, if_neg h]; exact (adel_sub r).cons_cons _
theorem adel_none {a : α} : ∀ {l : List (α × β)}, a ∉ keys l → adel a l = l
 | [], _ => rfl
 | (x, c) :: r, h => by
  simp only [keys, List.map_cons, List.mem_cons, not_or] at h
  have hx : ¬ x = a := fun e => h.1 e.symm
  simp only [adel, if_neg hx]
  rw [adel_none (l := r) h.2]
end
section
variable {P : Program} {k : TypeId} {α β : Type} {κ : α → Value} {φ : β → Value}
def Born (es : List MapEntry) (clock : Nat) : Prop := (∀ x ∈ es, x.born < clock) ∧ (es.map (·.born)).Nodup
theorem Born.push {es : List MapEntry} {clock : Nat} (h : Born es clock) (k v : Value) : Born (es ++ [⟨k, v, clock⟩]) (clock + 1) := by
 refine ⟨fun x hx => ?_, ?_⟩
 ·rcases List.mem_append.1 hx with hx | hx
  ·have := h.1 x hx; omega
  ·simp at hx; subst hx; simp
 ·rw [List.map_append]
  refine List.nodup_append.2 ⟨h.2, by simp, ?_⟩
  rintro a ha b hb rfl
  obtain ⟨x, hx, rfl⟩ := List.mem_map.1 ha
  have := h.1 x hx
  simp at hb
  omega
theorem Born.of_borns {es es' : List MapEntry} {clock : Nat} (h : Born es clock) (e : es'.map (·.born) = es.map (·.born)) : Born es' clock := by
 refine ⟨fun x hx => ?_, by rw [e]; exact h.2⟩
 have : x.born ∈ es.map (·.born) := by rw [← e]; exact List.mem_map.2 ⟨x, hx, rfl⟩
 obtain ⟨y, hy, hyx⟩ := List.mem_map.1 this
 rw [← hyx]
 exact h.1 y hy
theorem Born.sub {es es' : List MapEntry} {clock : Nat} (h : Born es clock) (hs : es'.Sublist es) : Born es' clock :=
 ⟨fun x hx => h.1 x (hs.subset hx), (hs.map _).nodup h.2⟩
theorem borns_modify (f : MapEntry → MapEntry) (hf : ∀ e, (f e).born = e.born) : ∀ (es : List MapEntry) (j : Nat), (es.modify j f).map (·.born) = es.map (·.born)
 | [], _ => by simp
 | e :: es, 0 => by simp [List.modify_zero_cons, hf]
 | e :: es, j + 1 => by simp [List.modify_succ_cons, borns_modify f hf es j]
def MapOf (P : Program) (k : TypeId) (κ : α → Value) (φ : β → Value) (w : World) (b : Nat) (m : List (α × β)) : Prop :=
 ∃ es clock, w.heap[b]? = some (.map es clock) ∧ es.toList.map (fun e => (e.key, e.val)) = m.map (fun p => (κ p.1, φ p.2)) ∧ (keys m).Nodup ∧ (∀ p ∈ m, ∃ x, keyOf P k (κ p.1) = some x) ∧ Born es.toList clock
theorem MapOf.made (P : Program) (k : TypeId) (κ : α → Value) (φ : β → Value) (w : World) : MapOf P k κ φ (w.alloc (.map #[] 0)) w.heap.size ([] : List (α × β)) :=
 ⟨#[], 0, by show (w.heap.push _)[w.heap.size]? = _; simp, rfl, List.nodup_nil, by simp, by simp [Born]⟩
theorem MapOf.lt {w : World} {b : Nat} {m : List (α × β)} (h : MapOf P k κ φ w b m) : b < w.heap.size := by
 obtain ⟨es, clock, hb, _⟩ := h
 exact heap_lt hb
theorem MapOf.same {w w' : World} {b : Nat} {m : List (α × β)} (h : MapOf P k κ φ w b m) (he : w'.heap[b]? = w.heap[b]?) : MapOf P k κ φ w' b m := by
 obtain ⟨es, clock, hb, r⟩ := h
 exact ⟨es, clock, he.trans hb, r⟩
theorem MapOf.kept {S : Nat → Prop} {w w' : World} {b : Nat} {m : List (α × β)} (h : MapOf P k κ φ w b m) (hk : Keeps S w w') (hn : ¬ S b) : MapOf P k κ φ w' b m :=
 h.same (hk.block b h.lt hn)
theorem MapOf.alloc {w : World} {b : Nat} {m : List (α × β)} (h : MapOf P k κ φ w b m) (o : Obj) : MapOf P k κ φ (w.alloc o) b m :=
 h.same (Below.heap_alloc _ _ _ h.lt)
theorem MapOf.keysK {w : World} {b : Nat} {m : List (α × β)} (h : MapOf P k κ φ w b m) : ∀ {es : Array MapEntry} {clock : Nat}, w.heap[b]? = some (.map es clock) → ∀ e ∈ es.toList, ∃ l, keyOf P k e.key = some l := by
 obtain ⟨es, clock, hb, hm, hn, hk, hbn⟩ := h
 intro es' clock' hb' e he
 rw [hb] at hb'
 cases hb'
 have : (e.key, e.val) ∈ m.map (fun p => (κ p.1, φ p.2)) := by rw [← hm]; exact List.mem_map.2 ⟨e, he, rfl⟩
 obtain ⟨p, hp, hpe⟩ := List.mem_map.1 this
 obtain ⟨x, hx⟩ := hk p hp
 simp only [Prod.mk.injEq] at hpe
 exact ⟨x, by rw [← hpe.1]; exact hx⟩
variable [DecidableEq α]
theorem entries_find : ∀ {es : List MapEntry} {m : List (α × β)} {key : α}, (∀ a b : α, κ a = κ b → a = b) → es.map (fun e => (e.key, e.val)) = m.map (fun p => (κ p.1, φ p.2)) → (∀ e ∈ es, e.key ≠ κ key) → aget key m = none
 | [], [], _, _, _, _ => rfl
 | e :: es, (x, v) :: m, key, inj, h, hn => by
  simp only [List.map_cons, List.cons.injEq, Prod.mk.injEq] at h
  have hx : x ≠ key := by rintro rfl; exact hn e (by simp) h.1.1
  simp only [aget, if_neg hx]
  exact entries_find inj h.2 (fun e' he' => hn e' (by simp [he']))
theorem entries_at : ∀ {es : List MapEntry} {m : List (α × β)} {key : α} {j : Nat} {e : MapEntry}, (∀ a b : α, κ a = κ b → a = b) → es.map (fun e => (e.key, e.val)) = m.map (fun p => (κ p.1, φ p.2)) → (keys m).Nodup → es[j]? = some e → e.key = κ key →
  ∃ b, aget key m = some b ∧ e.val = φ b ∧ (∀ val' : β, (es.modify j fun e => { e with key := κ key, val := φ val' }).map (fun e => (e.key, e.val)) = (aset key val' m).map (fun p => (κ p.1, φ p.2))) ∧
   (es.eraseIdx j).map (fun e => (e.key, e.val)) = (adel key m).map (fun p => (κ p.1, φ p.2))
 | [], _, _, j, _, _, _, _, h, _ => by simp at h
 | e0 :: es, [], _, _, _, _, h, _, _, _ => by simp at h
 | e0 :: es, (x, v) :: m, key, j, e, inj, h, hnd, hj, hk => by
  simp only [List.map_cons, List.cons.injEq, Prod.mk.injEq] at h
  simp only [keys, List.map_cons, List.nodup_cons] at hnd
  cases j with
  | zero =>
   simp only [List.getElem?_cons_zero, Option.some.injEq] at hj
   subst hj
   have hx : x = key := inj _ _ (h.1.1.symm.trans hk)
   subst hx
   refine ⟨v, by simp [aget], h.1.2, fun val' => ?_, ?_⟩
   ·simp [aset, h.2, List.modify_zero_cons]
   ·simp [adel, h.2]
  | succ j =>
   simp only [List.getElem?_cons_succ] at hj
   obtain ⟨b, h1, h2, h3, h4⟩ := entries_at inj h.2 hnd.2 hj hk
   have hx : x ≠ key := by
    rintro rfl
    have := aget_some_mem h1
    exact hnd.1 (List.mem_map.2 ⟨_, this, rfl⟩)
   refine ⟨b, by simp only [aget, if_neg hx]; exact h1, h2, fun val' => ?_, ?_⟩
   ·simp only [List.modify_succ_cons, List.map_cons, aset, if_neg hx, h3 val', h.1.1, h.1.2]
   ·simp only [List.eraseIdx_cons_succ, List.map_cons, adel, if_neg hx, h4, h.1.1, h.1.2]
theorem MapOf.run_lookup {w : World} {b : Nat} {m : List (α × β)} (h : MapOf P k κ φ w b m) (K : Keyed P k) (inj : ∀ a b : α, κ a = κ b → a = b) {t e : TypeId} (ht : P.underlying t = some (.map k e)) {z : Value} (hz : (zeroValue e).run P w = .ok z w)
  {key : α} {kl : Lit} (hkey : keyOf P k (κ key) = some kl) (c : Bool) :
  (Instr.lookup t (.map (some b)) (κ key) c).run P w = .ok (if c then .tuple #[((aget key m).map φ).getD z, .bool (aget key m).isSome] else ((aget key m).map φ).getD z) w := by
 have hK := fun es clock => h.keysK (es := es) (clock := clock)
 obtain ⟨es, clock, hb, hm, hn, hk, hbn⟩ := h
 rcases K.find w hkey es.toList (hK _ _ hb) with ⟨h1, h2⟩ | ⟨j, e0, h1, h2, h3⟩
 ·have hf := entries_find inj hm h2
  simp [Instr.lookup, run_underlying ht, MapKept.run_getObj_map hb, K.check w _ hkey, h1, hz, Result.andThen, hf]
 ·obtain ⟨v, hv, he, _⟩ := entries_at inj hm hn h2 h3
  simp [Instr.lookup, run_underlying ht, MapKept.run_getObj_map hb, K.check w _ hkey, h1, Result.andThen, hv, he]
section
variable {w : World} {b : Nat} {m : List (α × β)} (h : MapOf P k κ φ w b m) (K : Keyed P k) (inj : ∀ a b : α, κ a = κ b → a = b) {t e : TypeId} (ht : P.underlying t = some (.map k e)) {z : Value} (hz : (zeroValue e).run P w = .ok z w)
 {key : α} {kl : Lit} (hkey : keyOf P k (κ key) = some kl)
include h K inj ht hz hkey
theorem MapOf.run_ok_none (hg : aget key m = none) : (Instr.lookup t (.map (some b)) (κ key) true).run P w = .ok (.tuple #[z, .bool false]) w := by
 rw [h.run_lookup K inj ht hz hkey, hg]; rfl
end
theorem MapOf.run_update {w : World} {b : Nat} {m : List (α × β)} (h : MapOf P k κ φ w b m) (K : Keyed P k) (inj : ∀ a b : α, κ a = κ b → a = b) {t e : TypeId} (ht : P.underlying t = some (.map k e))
  {key : α} {kl : Lit} (hkey : keyOf P k (κ key) = some kl) (val : β) :
  ∃ o, (Instr.mapUpdate t (.map (some b)) (κ key) (φ val)).run P w = .ok () (setBlock w b o) ∧ MapOf P k κ φ (setBlock w b o) b (aset key val m) := by
 have hK := fun es clock => h.keysK (es := es) (clock := clock)
 obtain ⟨es, clock, hb, hm, hn, hk, hbn⟩ := h
 have hkeys : ∀ p ∈ aset key val m, ∃ x, keyOf P k (κ p.1) = some x := by
  intro p hp
  rcases aset_mem hp with hp | rfl
  ·exact hk p hp
  ·exact ⟨kl, hkey⟩
 rcases K.find w hkey es.toList (hK _ _ hb) with ⟨h1, h2⟩ | ⟨j, e0, h1, h2, h3⟩
 ·have hf := entries_find inj hm h2
  refine ⟨.map (es.push ⟨κ key, φ val, clock⟩) (clock + 1), ?_, _, _, heap_setBlock_same hb _, ?_, nodup_aset hn, hkeys, by rw [Array.toList_push]; exact hbn.push _ _⟩
  ·simp [Instr.mapUpdate, run_underlying ht, MapKept.run_getObj_map hb, K.check w false hkey, h1, MapKept.run_setObj_map _ hb, Result.andThen, setBlock]
  ·rw [Array.toList_push, List.map_append, hm]
   have hf' := aget_none.1 hf
   have : aset key val m = m ++ [(key, val)] := by
    clear hm hn hk hkeys hf
    induction m with
    | nil => rfl
    | cons p m ih =>
     obtain ⟨x, c⟩ := p
     simp only [keys, List.map_cons, List.mem_cons, not_or] at hf'
     have hx : ¬ x = key := fun e => hf'.1 e.symm
     simp only [aset, if_neg hx, List.cons_append]
     rw [ih hf'.2]
   rw [this]
   simp
 ·obtain ⟨v, hv, he, hmod, _⟩ := entries_at inj hm hn h2 h3
  have hjs : j < es.size := by simpa using (List.getElem?_eq_some_iff.1 h2).1
  have hke : ((es[j]?).map (·.key)).getD (κ key) = κ key := by
   have : es[j]? = some e0 := by simpa using h2
   simp [this, h3]
  refine ⟨.map (es.modify j fun e => { e with key := κ key, val := φ val }) clock, ?_, _, _, heap_setBlock_same hb _, ?_, nodup_aset hn, hkeys, by rw [Array.toList_modify]; exact hbn.of_borns (borns_modify (fun e => { e with key := κ key, val := φ val }) (fun _ => rfl) _ _)⟩
  ·simp [Instr.mapUpdate, run_underlying ht, MapKept.run_getObj_map hb, K.check w false hkey, h1, hke, K.stays w hkey, MapKept.run_setObj_map _ hb, Result.andThen, setBlock]
  ·rw [Array.toList_modify]
   exact hmod val
variable (w : World) {ops : Array Oper} {rest : List Oper} {o : Oper} {a : Act} {Q : Exit → Act → World → Prop}
theorem wpList_map_lookup (hg : o.guard = none) (m x : Operand) (t : TypeId) (c : Bool) (hop : o.op = Op.lookup t m x c) (e : TypeId) (K : Keyed P k) (inj : ∀ a b : α, κ a = κ b → a = b) (ht : P.underlying t = some (.map k e))
  {z : Value} (hz : (zeroValue e).run P w = .ok z w) (b : Nat) (l : List (α × β)) (hm : a.eval m = .map (some b)) (h : MapOf P k κ φ w b l) (key : α) (kl : Lit) (hx : a.eval x = κ key) (hkey : keyOf P k (κ key) = some kl)
  (val : Value) (hval : (if c then Value.tuple #[((aget key l).map φ).getD z, .bool (aget key l).isSome] else ((aget key l).map φ).getD z) = val)
  (hK : wpList P ops Q rest (a.put o.dst val) w) : wpList P ops Q (o :: rest) a w := by
 refine wpList_plain hg fun K' hK' => ?_
 have hrun := h.run_lookup K inj ht hz hkey c
 rw [hval] at hrun
 unfold Oper.wp
 simp [execOp, hop, hm, hx, hrun, Result.andThen]
 exact hK' _ _ hK
theorem wpList_map_update (hg : o.guard = none) (m x v : Operand) (t : TypeId) (hop : o.op = Op.mapUpdate t m x v) (e : TypeId) (K : Keyed P k) (inj : ∀ a b : α, κ a = κ b → a = b) (ht : P.underlying t = some (.map k e))
  (b : Nat) (l : List (α × β)) (hm : a.eval m = .map (some b)) (h : MapOf P k κ φ w b l) (key : α) (kl : Lit) (hx : a.eval x = κ key) (hkey : keyOf P k (κ key) = some kl) (val : β) (hv : a.eval v = φ val)
  (hK : ∀ ob, MapOf P k κ φ (setBlock w b ob) b (aset key val l) → wpList P ops Q rest (a.put o.dst undef) (setBlock w b ob)) : wpList P ops Q (o :: rest) a w := by
 refine wpList_plain hg fun K' hK' => ?_
 obtain ⟨ob, hrun, hM⟩ := h.run_update K inj ht hkey val
 unfold Oper.wp
 simp [execOp, hop, hm, hx, hv, hrun, Result.andThen]
 exact hK' _ _ (hK ob hM)
end
end
end Go.Proofs.YtdjooojpcepleaaGreat

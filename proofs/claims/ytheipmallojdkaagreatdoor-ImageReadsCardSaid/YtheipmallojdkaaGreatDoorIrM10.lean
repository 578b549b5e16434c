/- Expressions of package cron in plain words. No program. A job's spec: what it is, as a value; which may be (plain). Package heap: a heap's blocks; order, swap (what they write, not what they mean). -/
import Derived.Test.YtheipmallojdkaaGreatDoorIrM09
import Derived.Lib.Atoi
import Derived.Test.YtheipmallojdkaaGreatDoorIrM06
import Derived.Deep.RegionHeld3
import Derived.Laws.Cover1

namespace Go.Proofs.YtheipmallojdkaaGreatDoor

/-- A field. -/
structure Fld where
  low : Int
  high : Int
  names : Bs
def monthsB : Bs := [106, 97, 110, 102, 101, 98, 109, 97, 114, 97, 112, 114, 109, 97, 121, 106, 117, 110, 106, 117, 108, 97, 117, 103, 115, 101, 112, 111, 99, 116, 110, 111, 118, 100, 101, 99]
def daysB : Bs := [115, 117, 110, 109, 111, 110, 116, 117, 101, 119, 101, 100, 116, 104, 117, 102, 114, 105, 115, 97, 116]
def fld : Nat → Fld
  | 0 => ⟨0, 59, []⟩
  | 1 => ⟨0, 23, []⟩
  | 2 => ⟨1, 31, []⟩
  | 3 => ⟨1, 12, monthsB⟩
  | _ => ⟨0, 7, daysB⟩
def Fld.none : Fld := ⟨0, 0, []⟩

/-- A number or a name; false: it is none. -/
def numF (f : Fld) (s : Bs) : Int × Bool :=
  if s.length = 3 ∧ f.names ≠ [] then
    if 0 ≤ Lib.index f.names s ∧ Lib.index f.names s % 3 = 0 then (f.low + Lib.index f.names s / 3, true) else (0, false)
  else if s.length < 1 ∨ 2 < s.length ∨ s.all digB = false then (0, false)
  else (decV s, true)
def inF (f : Fld) (n : Int) : Bool := decide (f.low ≤ n) && decide (n ≤ f.high)
/-- What stands behind a /: how far a step is, and what is wrong. -/
def stepF (s : Bs) (is : Bool) : Int × Int :=
  if is = false then (1, 0)
  else if (numF Fld.none s).2 = false then (0, 2)
  else if (numF Fld.none s).1 < 1 ∨ 60 < (numF Fld.none s).1 then (0, 3)
  else ((numF Fld.none s).1, 0)
/-- From one number on, up to another one, by steps. -/
def rangeL : Nat → Int → Int → Int → List Int
  | 0, _, _, _ => []
  | k + 1, x, to, n => if x ≤ to then x :: rangeL k (x + n) to n else []
/-- From where to where, and what is wrong; none: it has not the form. -/
def spanF (f : Fld) (body : Bs) (stepped : Bool) : Option (Int × Int × Int) :=
  if body = [42] then some (f.low, f.high, 0)
  else if (cutL 45 body).2.2 = true then
    if (numF f (cutL 45 body).1).2 = false ∨ (numF f (cutL 45 body).2.1).2 = false then .none
    else some ((numF f (cutL 45 body).1).1, (numF f (cutL 45 body).2.1).1,
      if inF f (numF f (cutL 45 body).1).1 = false ∨ inF f (numF f (cutL 45 body).2.1).1 = false ∨ (numF f (cutL 45 body).2.1).1 < (numF f (cutL 45 body).1).1 then 3 else 0)
  else if (numF f body).2 = false ∨ stepped = true then .none
  else some ((numF f body).1, (numF f body).1, if inF f (numF f body).1 = false then 3 else 0)
/-- A part's values, and what is wrong. -/
def partF (f : Fld) (s : Bs) : List Int × Int :=
  match spanF f (cutL 47 s).1 (cutL 47 s).2.2 with
  | .none => ([], 2)
  | some (a, b, e) =>
    if (stepF (cutL 47 s).2.1 (cutL 47 s).2.2).2 = 2 then ([], 2)
    else if e ≠ 0 then ([], e)
    else if (stepF (cutL 47 s).2.1 (cutL 47 s).2.2).2 ≠ 0 then ([], (stepF (cutL 47 s).2.1 (cutL 47 s).2.2).2)
    else (rangeL 64 a b (stepF (cutL 47 s).2.1 (cutL 47 s).2.2).1, 0)
def partsF (f : Fld) : List Bs → List Int × Int
  | [] => ([], 0)
  | p :: r => if (partF f p).2 ≠ 0 then ([], (partF f p).2) else if (partsF f r).2 ≠ 0 then ([], (partsF f r).2) else ((partF f p).1 ++ (partsF f r).1, 0)
/-- A field's values, and what is wrong. -/
def valuesF (f : Fld) (s : Bs) : List Int × Int := partsF f (splitL 44 s)
/-- Fields' values, from field i on, and what is wrong. -/
def fieldsF : Nat → List Bs → List (List Int) × Int
  | _, [] => ([], 0)
  | i, t :: r => if (valuesF (fld i) t).2 ≠ 0 then ([], (valuesF (fld i) t).2) else if (fieldsF (i + 1) r).2 ≠ 0 then ([], (fieldsF (i + 1) r).2) else ((valuesF (fld i) t).1 :: (fieldsF (i + 1) r).1, 0)
/-- A text's. -/
def parseF (s : Bs) : List (List Int) × Int :=
  if 128 < s.length then ([], 15) else if (splitL 32 s).length ≠ 5 then ([], 2) else fieldsF 0 (splitL 32 s)

/-! ### as bits -/
def bitOf (x : Int) : Nat := 2 ^ x.toNat
def orBits : List Int → Nat := fun l => l.foldl (fun a x => a ||| bitOf x) 0
theorem orBits_snoc (l : List Int) (x : Int) : orBits (l ++ [x]) = orBits l ||| bitOf x := by simp [orBits, List.foldl_append]
theorem foldl_or (l : List Int) : ∀ a, l.foldl (fun a x => a ||| bitOf x) a = a ||| orBits l := by
  induction l with
  | nil => intro a; simp [orBits]
  | cons x r ih =>
    intro a
    rw [List.foldl_cons, ih]
    show _ = a ||| List.foldl (fun a x => a ||| bitOf x) (0 ||| bitOf x) r
    rw [ih, Nat.zero_or, Nat.or_assoc]
theorem orBits_append (l k : List Int) : orBits (l ++ k) = orBits l ||| orBits k := by
  unfold orBits
  rw [List.foldl_append, foldl_or]
  rfl
theorem testBit_orBits (l : List Int) (h : ∀ x ∈ l, 0 ≤ x) (k : Nat) : (orBits l).testBit k = decide ((k : Int) ∈ l) := by
  induction l with
  | nil => simp [orBits]
  | cons x r ih =>
    have h1 := ih fun y hy => h y (List.mem_cons_of_mem _ hy)
    have h0 := h x (by simp)
    rw [show x :: r = [x] ++ r from rfl, orBits_append, Nat.testBit_or, h1]
    have e : orBits [x] = bitOf x := by simp [orBits]
    rw [e, bitOf, Nat.testBit_two_pow]
    rw [Bool.eq_iff_iff]
    simp only [Bool.or_eq_true, decide_eq_true_eq, List.singleton_append, List.mem_cons]
    constructor
    · rintro (h | h)
      · left; omega
      · exact .inr h
    · rintro (h | h)
      · left; omega
      · exact .inr h
theorem orBits_lt (l : List Int) (h : ∀ x ∈ l, 0 ≤ x ∧ x ≤ 63) : orBits l < 18446744073709551616 := by
  induction l with
  | nil => simp [orBits]
  | cons x r ih =>
    have h1 := ih fun y hy => h y (List.mem_cons_of_mem _ hy)
    have h0 := h x (by simp)
    rw [show x :: r = [x] ++ r from rfl, orBits_append]
    have e : orBits [x] = bitOf x := by simp [orBits]
    rw [e]
    have h2 : bitOf x < 2 ^ 64 := Nat.pow_lt_pow_right (by decide) (by omega)
    exact Nat.or_lt_two_pow (n := 64) h2 h1

theorem rangeL_mem : ∀ (k : Nat) (x to n y : Int), 0 < n → y ∈ rangeL k x to n → x ≤ y ∧ y ≤ to
  | 0, _, _, _, _, _, h => by simp [rangeL] at h
  | k + 1, x, to, n, y, hn, h => by
    unfold rangeL at h
    split at h
    · rcases List.mem_cons.1 h with rfl | h
      · omega
      · have := rangeL_mem k (x + n) to n y hn h; omega
    · simp at h
/-- By steps of one it is all. -/
theorem rangeL_one : ∀ (k : Nat) (x to y : Int), to < x + k → (y ∈ rangeL k x to 1 ↔ x ≤ y ∧ y ≤ to)
  | 0, x, to, y, h => by simp only [rangeL, List.not_mem_nil, false_iff]; omega
  | k + 1, x, to, y, h => by
    unfold rangeL
    split
    · rw [List.mem_cons, rangeL_one k (x + 1) to y (by omega)]; omega
    · simp only [List.not_mem_nil, false_iff]; omega

theorem dec_bound : ∀ (l : Bs), l.all digB = true → ∀ a : Int, 0 ≤ a → 0 ≤ l.foldl (fun a (c : UInt8) => a * 10 + ((c.toNat : Int) - 48)) a
  | [], _, a, h => h
  | c :: r, h, a, ha => by
    simp only [List.all_cons, Bool.and_eq_true, digB, decide_eq_true_eq] at h
    exact dec_bound r h.2 (a * 10 + ((c.toNat : Int) - 48)) (by omega)
theorem decV_range (s : Bs) (h : s.all digB = true) (hl : s.length ≤ 2) : 0 ≤ decV s ∧ decV s ≤ 99 := by
  match s, hl with
  | [], _ => simp [decV]
  | [a], _ => simp [digB] at h; simp [decV]; omega
  | [a, b], _ => simp [digB] at h; simp [decV]; omega
theorem index_le (s sub : Bs) : Lib.index s sub ≤ s.length := by
  induction s with
  | nil => unfold Lib.index; split <;> simp
  | cons b l ih => unfold Lib.index; split <;> (try split) <;> simp <;> omega
theorem numF_range (f : Fld) (s : Bs) (hl : 0 ≤ f.low ∧ f.low ≤ 1) (hn : f.names.length ≤ 36) : 0 ≤ (numF f s).1 ∧ (numF f s).1 ≤ 99 := by
  unfold numF
  have := index_le f.names s
  split
  · split
    · rename_i h; simp only; omega
    · simp
  · split
    · simp
    · rename_i h
      exact decV_range s (by simpa using fun e => h (.inr (.inr e))) (by omega)
theorem fld_low (i : Nat) : 0 ≤ (fld i).low ∧ (fld i).low ≤ 1 := by
  match i with
  | 0 => decide
  | 1 => decide
  | 2 => decide
  | 3 => decide
  | n + 4 => show 0 ≤ (0 : Int) ∧ (0 : Int) ≤ 1; decide
theorem fld_names (i : Nat) : (fld i).names.length ≤ 36 := by
  match i with
  | 0 => decide
  | 1 => decide
  | 2 => decide
  | 3 => decide
  | n + 4 => show daysB.length ≤ 36; decide
theorem fld_high (i : Nat) : (fld i).low ≤ (fld i).high ∧ (fld i).high ≤ 59 := by
  match i with
  | 0 => decide
  | 1 => decide
  | 2 => decide
  | 3 => decide
  | n + 4 => show (0 : Int) ≤ 7 ∧ (7 : Int) ≤ 59; decide

theorem stepF_pos (s : Bs) (is : Bool) (h : (stepF s is).2 = 0) : 1 ≤ (stepF s is).1 ∧ (stepF s is).1 ≤ 60 := by
  unfold stepF at h ⊢
  split
  · simp
  · rename_i h1
    rw [if_neg h1] at h
    split
    · rename_i h2; rw [if_pos h2] at h; cases h
    · rename_i h2
      rw [if_neg h2] at h
      split
      · rename_i h3; rw [if_pos h3] at h; cases h
      · omega
theorem spanF_in (i : Nat) (b : Bs) (st : Bool) (x y : Int) (h : spanF (fld i) b st = some (x, y, 0)) : (fld i).low ≤ x ∧ y ≤ (fld i).high ∧ x ≤ y := by
  have hf := fld_high i
  unfold spanF at h
  split at h
  · simp at h; omega
  · split at h
    · split at h
      · cases h
      · simp only [Option.some.injEq, Prod.mk.injEq] at h
        obtain ⟨rfl, rfl, h3⟩ := h
        split at h3
        · cases h3
        · rename_i h4
          simp only [inF, not_or, Bool.not_eq_false, Bool.and_eq_true, decide_eq_true_eq] at h4
          omega
    · split at h
      · cases h
      · simp only [Option.some.injEq, Prod.mk.injEq] at h
        obtain ⟨rfl, rfl, h3⟩ := h
        split at h3
        · cases h3
        · rename_i h4
          simp only [inF, Bool.not_eq_false, Bool.and_eq_true, decide_eq_true_eq] at h4
          omega
theorem partF_in (i : Nat) (s : Bs) : ∀ x ∈ (partF (fld i) s).1, (fld i).low ≤ x ∧ x ≤ (fld i).high := by
  intro x hx
  unfold partF at hx
  split at hx
  · simp at hx
  · rename_i a b e hs
    split at hx
    · simp at hx
    · split at hx
      · simp at hx
      · rename_i he
        split at hx
        · simp at hx
        · rename_i hg
          obtain rfl : e = 0 := by simpa using he
          have h1 := spanF_in i _ _ _ _ hs
          have h2 := stepF_pos _ _ (by simpa using hg)
          have := rangeL_mem _ _ _ _ _ (by omega) hx
          omega
theorem partsF_in (i : Nat) : ∀ (l : List Bs), ∀ x ∈ (partsF (fld i) l).1, (fld i).low ≤ x ∧ x ≤ (fld i).high
  | [], x, hx => by simp [partsF] at hx
  | p :: r, x, hx => by
    unfold partsF at hx
    split at hx
    · simp at hx
    · split at hx
      · simp at hx
      · rcases List.mem_append.1 hx with h | h
        · exact partF_in i p x h
        · exact partsF_in i r x h
theorem valuesF_in (i : Nat) (s : Bs) : ∀ x ∈ (valuesF (fld i) s).1, 0 ≤ x ∧ x ≤ 59 := by
  intro x hx
  have h1 := partsF_in i _ x hx
  have h2 := fld_low i
  have h3 := fld_high i
  omega

/-- A whole expression. -/
structure Ex where
  mi : Nat
  ho : Nat
  da : Nat
  mo : Nat
  we : Nat
  ad : Bool
  aw : Bool
def Ex.zero : Ex := ⟨0, 0, 0, 0, 0, false, false⟩
/-- 7 is Sunday, too. -/
def sunday (v : Nat) : Nat := (v &&& 18446744073709551487) ||| (v / 128 &&& 1)
theorem mask7 : ∀ k : Fin 64, (18446744073709551487 : Nat).testBit k.val = decide (k.val ≠ 7) := by decide +kernel
theorem testBit_sunday (v k : Nat) (hk : k < 64) : (sunday v).testBit k = (if k = 7 then false else if k = 0 then v.testBit 0 || v.testBit 7 else v.testBit k) := by
  unfold sunday
  rw [Nat.testBit_or, Nat.testBit_and, mask7 ⟨k, hk⟩, Nat.testBit_and, show v / 128 = v / 2 ^ 7 from rfl, Nat.testBit_div_two_pow]
  have h1 : Nat.testBit 1 k = decide (k = 0) := by
    rw [show (1 : Nat) = 2 ^ 0 from rfl, Nat.testBit_two_pow]
    rw [Bool.eq_iff_iff]; simp; exact ⟨fun h => h.symm, fun h => h.symm⟩
  rw [h1]
  by_cases h7 : k = 7
  · subst h7; simp
  · rw [if_neg h7]
    by_cases h0 : k = 0
    · subst h0; simp
    · simp [h7, h0]
theorem sunday_lt (v : Nat) : sunday v < 18446744073709551616 :=
  Nat.or_lt_two_pow (n := 64) (Nat.and_lt_two_pow _ (by decide)) (Nat.and_lt_two_pow _ (by decide))
def exF (s : Bs) : Ex :=
  ⟨orBits ((parseF s).1.getD 0 []), orBits ((parseF s).1.getD 1 []), orBits ((parseF s).1.getD 2 []), orBits ((parseF s).1.getD 3 []), sunday (orBits ((parseF s).1.getD 4 [])),
   decide ((splitL 32 s).getD 2 [] = [42]), decide ((splitL 32 s).getD 4 [] = [42])⟩
/-- What Parse answers. -/
def cronF (s : Bs) : Ex × Int := if (parseF s).2 = 0 then (exF s, 0) else (Ex.zero, (parseF s).2)

theorem fieldsF_length : ∀ (l : List Bs) (i : Nat), (fieldsF i l).2 = 0 → (fieldsF i l).1.length = l.length
  | [], _, _ => rfl
  | t :: r, i, h => by
    unfold fieldsF at h ⊢
    split
    · rename_i h1; rw [if_pos h1] at h; exact absurd h h1
    · rename_i h1
      rw [if_neg h1] at h
      split
      · rename_i h2; rw [if_pos h2] at h; exact absurd h h2
      · rename_i h2
        simp only [List.length_cons]
        rw [fieldsF_length r (i + 1) (by simpa using h2)]
theorem fieldsF_get : ∀ (l : List Bs) (i k : Nat), (fieldsF i l).2 = 0 → k < l.length → (fieldsF i l).1.getD k [] = (valuesF (fld (i + k)) (l.getD k [])).1 ∧ (valuesF (fld (i + k)) (l.getD k [])).2 = 0
  | [], _, _, _, h => by simp at h
  | t :: r, i, k, h, hk => by
    unfold fieldsF at h ⊢
    split
    · rename_i h1; rw [if_pos h1] at h; exact absurd h h1
    · rename_i h1
      rw [if_neg h1] at h
      split
      · rename_i h2; rw [if_pos h2] at h; exact absurd h h2
      · rename_i h2
        cases k with
        | zero => exact ⟨by simp, by simpa using h1⟩
        | succ k =>
          have := fieldsF_get r (i + 1) k (by simpa using h2) (by simpa using hk)
          rw [show i + (k + 1) = i + 1 + k by omega]
          simpa using this

theorem parseF_ok {s : Bs} (h : (parseF s).2 = 0) : s.length ≤ 128 ∧ (splitL 32 s).length = 5 ∧ (parseF s).1 = (fieldsF 0 (splitL 32 s)).1 ∧ (fieldsF 0 (splitL 32 s)).2 = 0 := by
  unfold parseF at h ⊢
  split
  · rename_i h1; rw [if_pos h1] at h; cases h
  · rename_i h1
    rw [if_neg h1] at h
    split
    · rename_i h2; rw [if_pos h2] at h; cases h
    · rename_i h2
      rw [if_neg h2] at h
      exact ⟨by omega, by omega, rfl, h⟩
theorem parseF_get {s : Bs} (h : (parseF s).2 = 0) {k : Nat} (hk : k < 5) : (parseF s).1.getD k [] = (valuesF (fld k) ((splitL 32 s).getD k [])).1 ∧ (valuesF (fld k) ((splitL 32 s).getD k [])).2 = 0 := by
  obtain ⟨_, h2, h3, h4⟩ := parseF_ok h
  rw [h3]
  have := fieldsF_get (splitL 32 s) 0 k h4 (by omega)
  rwa [Nat.zero_add] at this
theorem parseF_in {s : Bs} (h : (parseF s).2 = 0) {k : Nat} (hk : k < 5) : ∀ x ∈ (parseF s).1.getD k [], (fld k).low ≤ x ∧ x ≤ (fld k).high := by
  rw [(parseF_get h hk).1]
  exact partsF_in k _

/-- A field of * alone has all values. -/
theorem values_star (i : Nat) : (valuesF (fld i) [42]).2 = 0 ∧ ∀ x, x ∈ (valuesF (fld i) [42]).1 ↔ (fld i).low ≤ x ∧ x ≤ (fld i).high := by
  have hf := fld_high i
  have hl := fld_low i
  have h1 : splitL 44 [42] = [[42]] := by decide
  have h2 : cutL 47 [42] = ([42], [], false) := by decide
  have hp : partF (fld i) [42] = (rangeL 64 (fld i).low (fld i).high 1, 0) := by
    unfold partF spanF
    rw [h2]
    simp [stepF]
  unfold valuesF
  rw [h1]
  unfold partsF
  rw [hp]
  simp only [partsF]
  refine ⟨by simp, fun x => ?_⟩
  have := rangeL_one 64 (fld i).low (fld i).high x (by omega)
  simpa using this

theorem atoi_digits (s : Bs) (h : s.all digB = true) (h1 : 1 ≤ s.length) (h2 : s.length ≤ 2) : Lib.atoi s = some (decV s) := by
  match s, h1, h2 with
  | [a], _, _ =>
    simp [digB] at h
    have ha : Lib.digitVal a = some (a.toNat - 48) := by unfold Lib.digitVal; rw [if_pos h]
    have n1 : (a == 45) = false := by simp; rintro rfl; simp at h
    have n2 : (a == 43) = false := by simp; rintro rfl; simp at h
    simp [Lib.atoi, n1, n2, Lib.decNat, Lib.decFrom, ha, decV]
    omega
  | [a, b], _, _ =>
    simp [digB] at h
    have ha : Lib.digitVal a = some (a.toNat - 48) := by unfold Lib.digitVal; rw [if_pos h.1]
    have hb : Lib.digitVal b = some (b.toNat - 48) := by unfold Lib.digitVal; rw [if_pos h.2]
    have n1 : (a == 45) = false := by simp; rintro rfl; simp at h
    have n2 : (a == 43) = false := by simp; rintro rfl; simp at h
    simp [Lib.atoi, n1, n2, Lib.decNat, Lib.decFrom, ha, hb, decV]
    omega

end Go.Proofs.YtheipmallojdkaaGreatDoor

namespace Go.Proofs.YtheipmallojdkaaGreatDoor
open Go.RowKit

def strv (s : ByteArray) : Value := .string s

/-- A spec. -/
structure Sp where
  name : ByteArray
  ten : ByteArray
  pri : Int
  delay : Int
  deps : List ByteArray
  base : Int
  cap : Int
  att : Int
  lease : Int
  cron : ByteArray
  catch_ : Int

def Sp.cells (s : Sp) (dv : Value) : Array Value := #[.string s.name, .string s.ten, .int .i64 s.pri, .int .i64 s.delay, dv, .int .i64 s.base, .int .i64 s.cap, .int .i64 s.att, .int .i64 s.lease, .string s.cron, .int .i64 s.catch_]
def Sp.v (s : Sp) (dv : Value) : Value := .agg (s.cells dv)

def i64B (x : Int) : Prop := -9223372036854775808 ≤ x ∧ x ≤ 9223372036854775807
/-- Its numbers and texts are such as a program can hold. -/
structure Sp.Wf (s : Sp) : Prop where
  name : s.name.size ≤ maxLen
  ten : s.ten.size ≤ maxLen
  cron : s.cron.size ≤ maxLen
  deps : ∀ d ∈ s.deps, d.size ≤ maxLen
  pri : i64B s.pri
  delay : i64B s.delay
  base : i64B s.base
  cap : i64B s.cap
  att : i64B s.att
  lease : i64B s.lease
  catch_ : i64B s.catch_

def lessB (a b : ByteArray) : Bool := Op.bytesLess a.toList b.toList
/-- Each one comes behind the one ahead. -/
def risesB : List ByteArray → Bool
  | a :: b :: l => lessB a b && risesB (b :: l)
  | _ => true
theorem rises_iff : ∀ l : List ByteArray, risesB l = true ↔ ∀ i a b, l[i]? = some a → l[i + 1]? = some b → lessB a b = true
  | [] => by simp [risesB]
  | [_] => by simp [risesB]
  | a :: b :: l => by
    have ih := rises_iff (b :: l)
    rw [risesB, Bool.and_eq_true, ih]
    constructor
    · rintro ⟨h1, h2⟩ i x y hx hy
      cases i with
      | zero => simp at hx hy; subst hx; subst hy; exact h1
      | succ i => exact h2 i x y (by simpa using hx) (by simpa using hy)
    · intro h
      exact ⟨h 0 a b rfl rfl, fun i x y hx hy => h (i + 1) x y (by simpa using hx) (by simpa using hy)⟩

def spanB (x : Int) : Bool := decide (0 ≤ x) && decide (x ≤ 1048576)
def numbersB (s : Sp) : Bool :=
  decide (0 ≤ s.pri) && decide (s.pri < 4) && spanB s.delay && spanB s.base && spanB s.cap && spanB s.lease && decide (0 < s.lease) && decide (1 ≤ s.att) && decide (s.att ≤ 16) && decide (0 ≤ s.catch_) && decide (s.catch_ ≤ 16) && decide (s.deps.length ≤ 8) && risesB s.deps
def spNamesB (s : Sp) : Bool := nameB s.name && nameB s.ten && s.deps.all nameB
/-- A text's bytes. -/
def bsOf (s : ByteArray) : Bs := s.data.toList
/-- What Check answers. -/
def checkF (s : Sp) : Int :=
  if spNamesB s = false then 16
  else if numbersB s = false then 3
  else if s.cron.size = 0 then (if s.catch_ = 0 then 0 else 1)
  else if (cronF (bsOf s.cron)).2 ≠ 0 then (cronF (bsOf s.cron)).2
  else if s.catch_ = 0 then 3
  else if 0 < s.deps.length ∨ 0 < s.delay ∨ 16 < s.name.size then 1
  else 0
/-- May it be a template? -/
def tmplB (s : Sp) : Bool := decide (s.cron.size ≠ 0) && decide (checkF s = 0)

theorem tmpl_is {s : Sp} (h : tmplB s = true) : spNamesB s = true ∧ numbersB s = true ∧ s.cron.size ≠ 0 ∧ (cronF (bsOf s.cron)).2 = 0 ∧ 1 ≤ s.catch_ ∧ s.catch_ ≤ 16 ∧ s.deps = [] ∧ s.delay = 0 ∧ s.name.size ≤ 16 := by
  unfold tmplB at h
  simp only [Bool.and_eq_true, decide_eq_true_eq] at h
  obtain ⟨h1, h2⟩ := h
  by_cases hn : spNamesB s = false
  · unfold checkF at h2; rw [if_pos hn] at h2; omega
  by_cases hm : numbersB s = false
  · unfold checkF at h2; rw [if_neg hn, if_pos hm] at h2; omega
  by_cases hc : (cronF (bsOf s.cron)).2 ≠ 0
  · unfold checkF at h2; rw [if_neg hn, if_neg hm, if_neg h1, if_pos hc] at h2; exact absurd h2 hc
  by_cases hk : s.catch_ = 0
  · unfold checkF at h2; rw [if_neg hn, if_neg hm, if_neg h1, if_neg hc, if_pos hk] at h2; omega
  by_cases hx : 0 < s.deps.length ∨ 0 < s.delay ∨ 16 < s.name.size
  · unfold checkF at h2; rw [if_neg hn, if_neg hm, if_neg h1, if_neg hc, if_neg hk, if_pos hx] at h2; omega
  have hm' : numbersB s = true := by simpa using hm
  have hm'' := hm'
  unfold numbersB spanB at hm''
  simp only [Bool.and_eq_true, decide_eq_true_eq] at hm''
  refine ⟨by simpa using hn, hm', h1, by simpa using hc, by omega, by omega, ?_, by omega, by omega⟩
  exact List.eq_nil_of_length_eq_zero (by omega)

end Go.Proofs.YtheipmallojdkaaGreatDoor

namespace Go.Proofs.YtheipmallojdkaaGreatDoor
open Go.RowKit Go.Maps Go.ChangeMaps

def cmpU (x y : Int) : Int := if x < y then -1 else if y < x then 1 else 0
def cmpS (x y : ByteArray) : Int := if Op.bytesLess x.toList y.toList then -1 else if x.toList == y.toList then 0 else 1

set_option maxRecDepth 100000 in
theorem nanU_any (w : World) (x : Int) : Calls Tryz.prog 134 #[.int .u64 x] w (Ret (.bool false) w) := by
  go_enter Tryz.func134, Tryz.ntmps134
  go_wp2
  go_ret
  exact Ret.mk (by simp)
set_option maxRecDepth 100000 in
theorem nanS_any (w : World) (x : ByteArray) : Calls Tryz.prog 113 #[.string x] w (Ret (.bool false) w) := by
  go_enter Tryz.func113, Tryz.ntmps113
  go_wp2
  go_ret
  exact Ret.mk (by simp)

set_option maxRecDepth 100000 in
theorem cmpU_any (w : World) (x y : Int) : Calls Tryz.prog 125 #[.int .u64 x, .int .u64 y] w (Ret (.int .i64 (cmpU x y)) w) := by
  have h1 := fun w => nanU_any w x
  have h2 := fun w => nanU_any w y
  by_cases h : x < y
  · have hv : cmpU x y = -1 := by unfold cmpU; rw [if_pos h]
    rw [hv]
    go_enter Tryz.func125, Tryz.ntmps125
    go_wp2_with (go_at_call 134; first | (refine (h1 _).mono ?_; rintro e w' ⟨rfl, rfl⟩) | (refine (h2 _).mono ?_; rintro e w' ⟨rfl, rfl⟩))
    go_ret
    exact Ret.mk rfl
  · by_cases h' : y < x
    · have hv : cmpU x y = 1 := by unfold cmpU; rw [if_neg h, if_pos h']
      rw [hv]
      go_enter Tryz.func125, Tryz.ntmps125
      go_wp2_with (go_at_call 134; first | (refine (h1 _).mono ?_; rintro e w' ⟨rfl, rfl⟩) | (refine (h2 _).mono ?_; rintro e w' ⟨rfl, rfl⟩))
      go_ret
      exact Ret.mk rfl
    · have hv : cmpU x y = 0 := by unfold cmpU; rw [if_neg h, if_neg h']
      rw [hv]
      go_enter Tryz.func125, Tryz.ntmps125
      go_wp2_with (go_at_call 134; first | (refine (h1 _).mono ?_; rintro e w' ⟨rfl, rfl⟩) | (refine (h2 _).mono ?_; rintro e w' ⟨rfl, rfl⟩))
      go_ret
      exact Ret.mk rfl

set_option maxRecDepth 100000 in
theorem cmpS_any (w : World) (x y : ByteArray) : Calls Tryz.prog 126 #[.string x, .string y] w (Ret (.int .i64 (cmpS x y)) w) := by
  have h1 := fun w => nanS_any w x
  have h2 := fun w => nanS_any w y
  by_cases h : Op.bytesLess x.toList y.toList = true
  · have hv : cmpS x y = -1 := by unfold cmpS; rw [if_pos h]
    rw [hv]
    go_enter Tryz.func126, Tryz.ntmps126
    go_wp2_with (go_at_call 113; first | (refine (h1 _).mono ?_; rintro e w' ⟨rfl, rfl⟩) | (refine (h2 _).mono ?_; rintro e w' ⟨rfl, rfl⟩))
    go_ret
    exact Ret.mk rfl
  · have hb : Op.bytesLess x.toList y.toList = false := by simpa using h
    by_cases h' : (x.toList == y.toList) = true
    · have hv : cmpS x y = 0 := by unfold cmpS; rw [if_neg h, if_pos h']
      rw [hv]
      clear h
      go_enter Tryz.func126, Tryz.ntmps126
      go_wp2_with (go_at_call 113; first | (refine (h1 _).mono ?_; rintro e w' ⟨rfl, rfl⟩) | (refine (h2 _).mono ?_; rintro e w' ⟨rfl, rfl⟩))
      go_ret
      exact Ret.mk rfl
    · have hv : cmpS x y = 1 := by unfold cmpS; rw [if_neg h, if_neg h']
      have hc : (x.toList == y.toList) = false := by simpa using h'
      rw [hv]
      clear h h'
      go_enter Tryz.func126, Tryz.ntmps126
      go_wp2_with (go_at_call 113; first | (refine (h1 _).mono ?_; rintro e w' ⟨rfl, rfl⟩) | (refine (h2 _).mono ?_; rintro e w' ⟨rfl, rfl⟩))
      go_ret
      exact Ret.mk rfl

/-- The first that isn't 0. -/
def or2 (x y : Int) : Int := if x = 0 then y else x
set_option maxRecDepth 100000 in
theorem or_any (w : World) (b : Nat) (x y : Int) (h0 : w.cell? ⟨b, 0, none⟩ = some (.int .i64 x)) (h1 : w.cell? ⟨b, 1, none⟩ = some (.int .i64 y)) : Calls Tryz.prog 124 #[.slice (some ⟨b, 0, none⟩) 2 2] w (Ret (.int .i64 (or2 x y)) w) := by
  go_enter Tryz.func124, Tryz.ntmps124
  go_wp2
  go_loopw [8] (fun iv wr => wr = w ∧ ((iv = .int .i64 0) ∨ (iv = .int .i64 1 ∧ x = 0) ∨ (iv = .int .i64 2 ∧ x = 0 ∧ y = 0))) (fun iv _ => 2 - (intOf iv).toNat)
  case atStart => exact ⟨rfl, .inl rfl⟩
  case round =>
    obtain ⟨rfl, hc⟩ := hrel
    rcases hc with rfl | ⟨rfl, hx⟩ | ⟨rfl, hx, hy⟩
    · by_cases hx : x = 0
      · have e1 : (x != 0) = false := by simp [hx]
        go_wp2
        go_roundw
        case rel => simp [hx]
        case measure => simp [intOf]
      · have e1 : (x != 0) = true := by simp [hx]
        go_wp2
        go_ret
        exact Ret.mk (by simp [or2, hx])
    · by_cases hy : y = 0
      · have e1 : (y != 0) = false := by simp [hy]
        go_wp2
        go_roundw
        case rel => simp [hx, hy]
        case measure => simp [intOf]
      · have e1 : (y != 0) = true := by simp [hy]
        go_wp2
        go_ret
        exact Ret.mk (by simp [or2, hx])
    · go_wp2
      go_ret
      exact Ret.mk (by simp [or2, hx, hy])

theorem acell {W : World} {a : Addr} {v : Value} (h : W.cell? a = some v) (o : Obj) : (W.alloc o).drew.cell? a = some v :=
  ((Below.refl W.heap.size W).alloc (Nat.le_refl _) o).cell (cell_lt h) |>.trans h
/-- Which one of two is ahead. -/
def orderF (a b : ByteArray × Int) : Int := or2 (cmpU a.2 b.2) (cmpS a.1 b.1)
def itV (a : ByteArray × Int) : Value := .agg #[.string a.1, .int .u64 a.2]

set_option maxRecDepth 100000 in
set_option maxHeartbeats 1600000 in
theorem order_any (w : World) (a b : ByteArray × Int) : Calls Tryz.prog 114 #[itV a, itV b] w (RetB (.int .i64 (orderF a b)) w) := by
  obtain ⟨a1, a2⟩ := a
  obtain ⟨b1, b2⟩ := b
  have HU := Lib.hid fun w => cmpU_any w a2 b2
  have HS := Lib.hid fun w => cmpS_any w a1 b1
  have HV : Hid (orderF (a1, a2) (b1, b2) = or2 (cmpU a2 b2) (cmpS a1 b1)) := Lib.hid rfl
  obtain ⟨x, hx⟩ : ∃ x, cmpU a2 b2 = x := ⟨_, rfl⟩
  obtain ⟨y, hy⟩ : ∃ y, cmpS a1 b1 = y := ⟨_, rfl⟩
  rw [hx] at HU HV
  rw [hy] at HS HV
  clear hx hy
  unfold itV
  simp only
  go_enter Tryz.func114, Tryz.ntmps114
  go_wp2_with fail
  obtain ⟨W0, hW⟩ : ∃ W0, W0 = (w.alloc (.cells #[.string a1, .int .u64 a2] 178)).alloc (.cells #[.string b1, .int .u64 b2] 178) := ⟨_, rfl⟩
  rw [← hW]
  have h1 : W0.heap[w.heap.size]? = some (.cells #[.string a1, .int .u64 a2] 178 (0, 0)) := by rw [hW]; exact aheap (heap_new _ _) _
  have h2 : W0.heap[w.heap.size + 1]? = some (.cells #[.string b1, .int .u64 b2] 178 (0, 0)) := by
    rw [hW]
    have := heap_new (w.alloc (.cells #[.string a1, .int .u64 a2] 178)) (.cells #[.string b1, .int .u64 b2] 178)
    rwa [World.size_alloc] at this
  have HB : Hid (Below w.heap.size w W0) := Lib.hid (by rw [hW]; exact ((Below.refl _ w).alloc (Nat.le_refl _) _).alloc (by simp) _)
  have c0 : W0.cell? ⟨w.heap.size, 0, none⟩ = some (.string a1) := blk_cell h1 0 rfl
  have c1 : W0.cell? ⟨w.heap.size, 1, none⟩ = some (.int .u64 a2) := blk_cell h1 1 rfl
  have d0 : W0.cell? ⟨w.heap.size + 1, 0, none⟩ = some (.string b1) := blk_cell h2 0 rfl
  have d1 : W0.cell? ⟨w.heap.size + 1, 1, none⟩ = some (.int .u64 b2) := blk_cell h2 1 rfl
  have k0 : (W0.alloc (.cells #[.int .i64 x, .int .i64 y] 3)).drew.cell? ⟨W0.heap.size, 0, none⟩ = some (.int .i64 x) := blk_cell (heap_new W0 _) 0 rfl
  have k1 : (W0.alloc (.cells #[.int .i64 x, .int .i64 y] 3)).drew.cell? ⟨W0.heap.size, 1, none⟩ = some (.int .i64 y) := blk_cell (heap_new W0 _) 1 rfl
  clear hW h1 h2
  go_region_held3 (fun w' => w'.cell? ⟨w.heap.size, 0, none⟩ = some (.string a1) ∧ w'.cell? ⟨w.heap.size, 1, none⟩ = some (.int .u64 a2) ∧ w'.cell? ⟨w.heap.size + 1, 0, none⟩ = some (.string b1) ∧ w'.cell? ⟨w.heap.size + 1, 1, none⟩ = some (.int .u64 b2)) (first | exact ⟨c0, c1, d0, d1⟩ | exact ⟨acell c0 _, acell c1 _, acell d0 _, acell d1 _⟩)
    (first
      | (go_at_call 125; refine (HU.out _).mono ?_; rintro en w3 ⟨rfl, rfl⟩)
      | (go_at_call 126; refine (HS.out _).mono ?_; rintro en w3 ⟨rfl, rfl⟩)
      | (go_at_call 124; refine (or_any _ _ x y k0 k1).mono ?_; rintro en w3 ⟨rfl, rfl⟩))
  go_wp2_with fail
  go_ret
  rw [HV.out]
  exact RetB.mk rfl (below_drewN' (HB.out.alloc HB.out.size _) 1)

end Go.Proofs.YtheipmallojdkaaGreatDoor

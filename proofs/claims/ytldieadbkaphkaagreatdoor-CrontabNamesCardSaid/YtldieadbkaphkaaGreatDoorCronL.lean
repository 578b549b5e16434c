/- Expressions of package cron in plain words. No program. -/
import Derived.Test.YtldieadbkaphkaaGreatDoorStrL
import Derived.Lib.Atoi
namespace Go.Proofs.YtldieadbkaphkaaGreatDoor

/-- A field. -/
structure Fld where
  low : Int
  high : Int
  names : Bs
def monthsB : Bs := [106, 97, 110, 102, 101, 98, 109, 97, 114, 97, 112, 114, 109, 97, 121, 106, 117, 110, 106, 117, 108, 97, 117, 103, 115, 101, 112, 111, 99, 116, 110, 111, 118, 100, 101, 99]
def daysB : Bs := [115, 117, 110, 109, 111, 110, 116, 117, 101, 119, 101, 100, 116, 104, 117, 102, 114, 105, 115, 97, 116]
def fld : Nat → Fld
  | 0 => ⟨0, 59, []⟩
  | 1 => ⟨0, 23, []⟩
  | 2 => ⟨1, 31, []⟩
  | 3 => ⟨1, 12, monthsB⟩
  | _ => ⟨0, 7, daysB⟩
def Fld.none : Fld := ⟨0, 0, []⟩

/-- A number or a name; false: it is none. -/
def numF (f : Fld) (s : Bs) : Int × Bool :=
  if s.length = 3 ∧ f.names ≠ [] then
    if 0 ≤ Lib.index f.names s ∧ Lib.index f.names s % 3 = 0 then (f.low + Lib.index f.names s / 3, true) else (0, false)
  else if s.length < 1 ∨ 2 < s.length ∨ s.all digB = false then (0, false)
  else (decV s, true)
def inF (f : Fld) (n : Int) : Bool := decide (f.low ≤ n) && decide (n ≤ f.high)
/-- What stands behind a /: how far a step is, and what is wrong. -/
def stepF (s : Bs) (is : Bool) : Int × Int :=
  if is = false then (1, 0)
  else if (numF Fld.none s).2 = false then (0, 2)
  else if (numF Fld.none s).1 < 1 ∨ 60 < (numF Fld.none s).1 then (0, 3)
  else ((numF Fld.none s).1, 0)
/-- From one number on, up to another one, by steps. -/
def rangeL : Nat → Int → Int → Int → List Int
  | 0, _, _, _ => []
  | k + 1, x, to, n => if x ≤ to then x :: rangeL k (x + n) to n else []
/-- From where to where, and what is wrong; none: it has not the form. -/
def spanF (f : Fld) (body : Bs) (stepped : Bool) : Option (Int × Int × Int) :=
  if body = [42] then some (f.low, f.high, 0)
  else if (cutL 45 body).2.2 = true then
    if (numF f (cutL 45 body).1).2 = false ∨ (numF f (cutL 45 body).2.1).2 = false then .none
    else some ((numF f (cutL 45 body).1).1, (numF f (cutL 45 body).2.1).1,
      if inF f (numF f (cutL 45 body).1).1 = false ∨ inF f (numF f (cutL 45 body).2.1).1 = false ∨ (numF f (cutL 45 body).2.1).1 < (numF f (cutL 45 body).1).1 then 3 else 0)
  else if (numF f body).2 = false ∨ stepped = true then .none
  else some ((numF f body).1, (numF f body).1, if inF f (numF f body).1 = false then 3 else 0)
/-- A part's values, and what is wrong. -/
def partF (f : Fld) (s : Bs) : List Int × Int :=
  match spanF f (cutL 47 s).1 (cutL 47 s).2.2 with
  | .none => ([], 2)
  | some (a, b, e) =>
    if (stepF (cutL 47 s).2.1 (cutL 47 s).2.2).2 = 2 then ([], 2)
    else if e ≠ 0 then ([], e)
    else if (stepF (cutL 47 s).2.1 (cutL 47 s).2.2).2 ≠ 0 then ([], (stepF (cutL 47 s).2.1 (cutL 47 s).2.2).2)
    else (rangeL 64 a b (stepF (cutL 47 s).2.1 (cutL 47 s).2.2).1, 0)
def partsF (f : Fld) : List Bs → List Int × Int
  | [] => ([], 0)
  | p :: r => if (partF f p).2 ≠ 0 then ([], (partF f p).2) else if (partsF f r).2 ≠ 0 then ([], (partsF f r).2) else ((partF f p).1 ++ (partsF f r).1, 0)
/-- A field's values, and what is wrong. -/
def valuesF (f : Fld) (s : Bs) : List Int × Int := partsF f (splitL 44 s)
/-- Fields' values, from field i on, and what is wrong. -/
def fieldsF : Nat → List Bs → List (List Int) × Int
  | _, [] => ([], 0)
  | i, t :: r => if (valuesF (fld i) t).2 ≠ 0 then ([], (valuesF (fld i) t).2) else if (fieldsF (i + 1) r).2 ≠ 0 then ([], (fieldsF (i + 1) r).2) else ((valuesF (fld i) t).1 :: (fieldsF (i + 1) r).1, 0)
/-- A text's. -/
def parseF (s : Bs) : List (List Int) × Int :=
  if 128 < s.length then ([], 15) else if (splitL 32 s).length ≠ 5 then ([], 2) else fieldsF 0 (splitL 32 s)

/-! ### as bits -/
def bitOf (x : Int) : Nat := 2 ^ x.toNat
def orBits : List Int → Nat := fun l => l.foldl (fun a x => a ||| bitOf x) 0
theorem orBits_snoc (l : List Int) (x : Int) : orBits (l ++ [x]) = orBits l ||| bitOf x := by simp [orBits, List.foldl_append]
theorem foldl_or (l : List Int) : ∀ a, l.foldl (fun a x => a ||| bitOf x) a = a ||| orBits l := by
  induction l with
  | nil => intro a; simp [orBits]
  | cons x r ih =>
    intro a
    rw [List.foldl_cons, ih]
    show _ = a ||| List.foldl (fun a x => a ||| bitOf x) (0 ||| bitOf x) r
    rw [ih, Nat.zero_or, Nat.or_assoc]
theorem orBits_append (l k : List Int) : orBits (l ++ k) = orBits l ||| orBits k := by
  unfold orBits
  rw [List.foldl_append, foldl_or]
  rfl
theorem testBit_orBits (l : List Int) (h : ∀ x ∈ l, 0 ≤ x) (k : Nat) : (orBits l).testBit k = decide ((k : Int) ∈ l) := by
  induction l with
  | nil => simp [orBits]
  | cons x r ih =>
    have h1 := ih fun y hy => h y (List.mem_cons_of_mem _ hy)
    have h0 := h x (by simp)
    rw [show x :: r = [x] ++ r from rfl, orBits_append, Nat.testBit_or, h1]
    have e : orBits [x] = bitOf x := by simp [orBits]
    rw [e, bitOf, Nat.testBit_two_pow]
    rw [Bool.eq_iff_iff]
    simp only [Bool.or_eq_true, decide_eq_true_eq, List.singleton_append, List.mem_cons]
    constructor
    · rintro (h | h)
      · left; omega
      · exact .inr h
    · rintro (h | h)
      · left; omega
      · exact .inr h
theorem orBits_lt (l : List Int) (h : ∀ x ∈ l, 0 ≤ x ∧ x ≤ 63) : orBits l < 18446744073709551616 := by
  induction l with
  | nil => simp [orBits]
  | cons x r ih =>
    have h1 := ih fun y hy => h y (List.mem_cons_of_mem _ hy)
    have h0 := h x (by simp)
    rw [show x :: r = [x] ++ r from rfl, orBits_append]
    have e : orBits [x] = bitOf x := by simp [orBits]
    rw [e]
    have h2 : bitOf x < 2 ^ 64 := Nat.pow_lt_pow_right (by decide) (by omega)
    exact Nat.or_lt_two_pow (n := 64) h2 h1

theorem rangeL_mem : ∀ (k : Nat) (x to n y : Int), 0 < n → y ∈ rangeL k x to n → x ≤ y ∧ y ≤ to
  | 0, _, _, _, _, _, h => by simp [rangeL] at h
  | k + 1, x, to, n, y, hn, h => by
    unfold rangeL at h
    split at h
    · rcases List.mem_cons.1 h with rfl | h
      · omega
      · have := rangeL_mem k (x + n) to n y hn h; omega
    · simp at h
/-- By steps of one it is all. -/
theorem rangeL_one : ∀ (k : Nat) (x to y : Int), to < x + k → (y ∈ rangeL k x to 1 ↔ x ≤ y ∧ y ≤ to)
  | 0, x, to, y, h => by simp only [rangeL, List.not_mem_nil, false_iff]; omega
  | k + 1, x, to, y, h => by
    unfold rangeL
    split
    · rw [List.mem_cons, rangeL_one k (x + 1) to y (by omega)]; omega
    · simp only [List.not_mem_nil, false_iff]; omega

theorem dec_bound : ∀ (l : Bs), l.all digB = true → ∀ a : Int, 0 ≤ a → 0 ≤ l.foldl (fun a (c : UInt8) => a * 10 + ((c.toNat : Int) - 48)) a
  | [], _, a, h => h
  | c :: r, h, a, ha => by
    simp only [List.all_cons, Bool.and_eq_true, digB, decide_eq_true_eq] at h
    exact dec_bound r h.2 (a * 10 + ((c.toNat : Int) - 48)) (by omega)
theorem decV_range (s : Bs) (h : s.all digB = true) (hl : s.length ≤ 2) : 0 ≤ decV s ∧ decV s ≤ 99 := by
  match s, hl with
  | [], _ => simp [decV]
  | [a], _ => simp [digB] at h; simp [decV]; omega
  | [a, b], _ => simp [digB] at h; simp [decV]; omega
theorem index_le (s sub : Bs) : Lib.index s sub ≤ s.length := by
  induction s with
  | nil => unfold Lib.index; split <;> simp
  | cons b l ih => unfold Lib.index; split <;> (try split) <;> simp <;> omega
theorem numF_range (f : Fld) (s : Bs) (hl : 0 ≤ f.low ∧ f.low ≤ 1) (hn : f.names.length ≤ 36) : 0 ≤ (numF f s).1 ∧ (numF f s).1 ≤ 99 := by
  unfold numF
  have := index_le f.names s
  split
  · split
    · rename_i h; simp only; omega
    · simp
  · split
    · simp
    · rename_i h
      exact decV_range s (by simpa using fun e => h (.inr (.inr e))) (by omega)
theorem fld_low (i : Nat) : 0 ≤ (fld i).low ∧ (fld i).low ≤ 1 := by
  match i with
  | 0 => decide
  | 1 => decide
  | 2 => decide
  | 3 => decide
  | n + 4 => show 0 ≤ (0 : Int) ∧ (0 : Int) ≤ 1; decide
theorem fld_names (i : Nat) : (fld i).names.length ≤ 36 := by
  match i with
  | 0 => decide
  | 1 => decide
  | 2 => decide
  | 3 => decide
  | n + 4 => show daysB.length ≤ 36; decide
theorem fld_high (i : Nat) : (fld i).low ≤ (fld i).high ∧ (fld i).high ≤ 59 := by
  match i with
  | 0 => decide
  | 1 => decide
  | 2 => decide
  | 3 => decide
  | n + 4 => show (0 : Int) ≤ 7 ∧ (7 : Int) ≤ 59; decide

theorem stepF_pos (s : Bs) (is : Bool) (h : (stepF s is).2 = 0) : 1 ≤ (stepF s is).1 ∧ (stepF s is).1 ≤ 60 := by
  unfold stepF at h ⊢
  split
  · simp
  · rename_i h1
    rw [if_neg h1] at h
    split
    · rename_i h2; rw [if_pos h2] at h; cases h
    · rename_i h2
      rw [if_neg h2] at h
      split
      · rename_i h3; rw [if_pos h3] at h; cases h
      · omega
theorem spanF_in (i : Nat) (b : Bs) (st : Bool) (x y : Int) (h : spanF (fld i) b st = some (x, y, 0)) : (fld i).low ≤ x ∧ y ≤ (fld i).high ∧ x ≤ y := by
  have hf := fld_high i
  unfold spanF at h
  split at h
  · simp at h; omega
  · split at h
    · split at h
      · cases h
      · simp only [Option.some.injEq, Prod.mk.injEq] at h
        obtain ⟨rfl, rfl, h3⟩ := h
        split at h3
        · cases h3
        · rename_i h4
          simp only [inF, not_or, Bool.not_eq_false, Bool.and_eq_true, decide_eq_true_eq] at h4
          omega
    · split at h
      · cases h
      · simp only [Option.some.injEq, Prod.mk.injEq] at h
        obtain ⟨rfl, rfl, h3⟩ := h
        split at h3
        · cases h3
        · rename_i h4
          simp only [inF, Bool.not_eq_false, Bool.and_eq_true, decide_eq_true_eq] at h4
          omega
theorem partF_in (i : Nat) (s : Bs) : ∀ x ∈ (partF (fld i) s).1, (fld i).low ≤ x ∧ x ≤ (fld i).high := by
  intro x hx
  unfold partF at hx
  split at hx
  · simp at hx
  · rename_i a b e hs
    split at hx
    · simp at hx
    · split at hx
      · simp at hx
      · rename_i he
        split at hx
        · simp at hx
        · rename_i hg
          obtain rfl : e = 0 := by simpa using he
          have h1 := spanF_in i _ _ _ _ hs
          have h2 := stepF_pos _ _ (by simpa using hg)
          have := rangeL_mem _ _ _ _ _ (by omega) hx
          omega
theorem partsF_in (i : Nat) : ∀ (l : List Bs), ∀ x ∈ (partsF (fld i) l).1, (fld i).low ≤ x ∧ x ≤ (fld i).high
  | [], x, hx => by simp [partsF] at hx
  | p :: r, x, hx => by
    unfold partsF at hx
    split at hx
    · simp at hx
    · split at hx
      · simp at hx
      · rcases List.mem_append.1 hx with h | h
        · exact partF_in i p x h
        · exact partsF_in i r x h
theorem valuesF_in (i : Nat) (s : Bs) : ∀ x ∈ (valuesF (fld i) s).1, 0 ≤ x ∧ x ≤ 59 := by
  intro x hx
  have h1 := partsF_in i _ x hx
  have h2 := fld_low i
  have h3 := fld_high i
  omega

/-- A whole expression. -/
structure Ex where
  mi : Nat
  ho : Nat
  da : Nat
  mo : Nat
  we : Nat
  ad : Bool
  aw : Bool
def Ex.zero : Ex := ⟨0, 0, 0, 0, 0, false, false⟩
/-- 7 is Sunday, too. -/
def sunday (v : Nat) : Nat := (v &&& 18446744073709551487) ||| (v / 128 &&& 1)
theorem mask7 : ∀ k : Fin 64, (18446744073709551487 : Nat).testBit k.val = decide (k.val ≠ 7) := by decide +kernel
theorem testBit_sunday (v k : Nat) (hk : k < 64) : (sunday v).testBit k = (if k = 7 then false else if k = 0 then v.testBit 0 || v.testBit 7 else v.testBit k) := by
  unfold sunday
  rw [Nat.testBit_or, Nat.testBit_and, mask7 ⟨k, hk⟩, Nat.testBit_and, show v / 128 = v / 2 ^ 7 from rfl, Nat.testBit_div_two_pow]
  have h1 : Nat.testBit 1 k = decide (k = 0) := by
    rw [show (1 : Nat) = 2 ^ 0 from rfl, Nat.testBit_two_pow]
    rw [Bool.eq_iff_iff]; simp; exact ⟨fun h => h.symm, fun h => h.symm⟩
  rw [h1]
  by_cases h7 : k = 7
  · subst h7; simp
  · rw [if_neg h7]
    by_cases h0 : k = 0
    · subst h0; simp
    · simp [h7, h0]
theorem sunday_lt (v : Nat) : sunday v < 18446744073709551616 :=
  Nat.or_lt_two_pow (n := 64) (Nat.and_lt_two_pow _ (by decide)) (Nat.and_lt_two_pow _ (by decide))
def exF (s : Bs) : Ex :=
  ⟨orBits ((parseF s).1.getD 0 []), orBits ((parseF s).1.getD 1 []), orBits ((parseF s).1.getD 2 []), orBits ((parseF s).1.getD 3 []), sunday (orBits ((parseF s).1.getD 4 [])),
   decide ((splitL 32 s).getD 2 [] = [42]), decide ((splitL 32 s).getD 4 [] = [42])⟩
/-- What Parse answers. -/
def cronF (s : Bs) : Ex × Int := if (parseF s).2 = 0 then (exF s, 0) else (Ex.zero, (parseF s).2)

theorem fieldsF_length : ∀ (l : List Bs) (i : Nat), (fieldsF i l).2 = 0 → (fieldsF i l).1.length = l.length
  | [], _, _ => rfl
  | t :: r, i, h => by
    unfold fieldsF at h ⊢
    split
    · rename_i h1; rw [if_pos h1] at h; exact absurd h h1
    · rename_i h1
      rw [if_neg h1] at h
      split
      · rename_i h2; rw [if_pos h2] at h; exact absurd h h2
      · rename_i h2
        simp only [List.length_cons]
        rw [fieldsF_length r (i + 1) (by simpa using h2)]
theorem fieldsF_get : ∀ (l : List Bs) (i k : Nat), (fieldsF i l).2 = 0 → k < l.length → (fieldsF i l).1.getD k [] = (valuesF (fld (i + k)) (l.getD k [])).1 ∧ (valuesF (fld (i + k)) (l.getD k [])).2 = 0
  | [], _, _, _, h => by simp at h
  | t :: r, i, k, h, hk => by
    unfold fieldsF at h ⊢
    split
    · rename_i h1; rw [if_pos h1] at h; exact absurd h h1
    · rename_i h1
      rw [if_neg h1] at h
      split
      · rename_i h2; rw [if_pos h2] at h; exact absurd h h2
      · rename_i h2
        cases k with
        | zero => exact ⟨by simp, by simpa using h1⟩
        | succ k =>
          have := fieldsF_get r (i + 1) k (by simpa using h2) (by simpa using hk)
          rw [show i + (k + 1) = i + 1 + k by omega]
          simpa using this

theorem parseF_ok {s : Bs} (h : (parseF s).2 = 0) : s.length ≤ 128 ∧ (splitL 32 s).length = 5 ∧ (parseF s).1 = (fieldsF 0 (splitL 32 s)).1 ∧ (fieldsF 0 (splitL 32 s)).2 = 0 := by
  unfold parseF at h ⊢
  split
  · rename_i h1; rw [if_pos h1] at h; cases h
  · rename_i h1
    rw [if_neg h1] at h
    split
    · rename_i h2; rw [if_pos h2] at h; cases h
    · rename_i h2
      rw [if_neg h2] at h
      exact ⟨by omega, by omega, rfl, h⟩
theorem parseF_get {s : Bs} (h : (parseF s).2 = 0) {k : Nat} (hk : k < 5) : (parseF s).1.getD k [] = (valuesF (fld k) ((splitL 32 s).getD k [])).1 ∧ (valuesF (fld k) ((splitL 32 s).getD k [])).2 = 0 := by
  obtain ⟨_, h2, h3, h4⟩ := parseF_ok h
  rw [h3]
  have := fieldsF_get (splitL 32 s) 0 k h4 (by omega)
  rwa [Nat.zero_add] at this
theorem parseF_in {s : Bs} (h : (parseF s).2 = 0) {k : Nat} (hk : k < 5) : ∀ x ∈ (parseF s).1.getD k [], (fld k).low ≤ x ∧ x ≤ (fld k).high := by
  rw [(parseF_get h hk).1]
  exact partsF_in k _

/-- A field of * alone has all values. -/
theorem values_star (i : Nat) : (valuesF (fld i) [42]).2 = 0 ∧ ∀ x, x ∈ (valuesF (fld i) [42]).1 ↔ (fld i).low ≤ x ∧ x ≤ (fld i).high := by
  have hf := fld_high i
  have hl := fld_low i
  have h1 : splitL 44 [42] = [[42]] := by decide
  have h2 : cutL 47 [42] = ([42], [], false) := by decide
  have hp : partF (fld i) [42] = (rangeL 64 (fld i).low (fld i).high 1, 0) := by
    unfold partF spanF
    rw [h2]
    simp [stepF]
  unfold valuesF
  rw [h1]
  unfold partsF
  rw [hp]
  simp only [partsF]
  refine ⟨by simp, fun x => ?_⟩
  have := rangeL_one 64 (fld i).low (fld i).high x (by omega)
  simpa using this

theorem atoi_digits (s : Bs) (h : s.all digB = true) (h1 : 1 ≤ s.length) (h2 : s.length ≤ 2) : Lib.atoi s = some (decV s) := by
  match s, h1, h2 with
  | [a], _, _ =>
    simp [digB] at h
    have ha : Lib.digitVal a = some (a.toNat - 48) := by unfold Lib.digitVal; rw [if_pos h]
    have n1 : (a == 45) = false := by simp; rintro rfl; simp at h
    have n2 : (a == 43) = false := by simp; rintro rfl; simp at h
    simp [Lib.atoi, n1, n2, Lib.decNat, Lib.decFrom, ha, decV]
    omega
  | [a, b], _, _ =>
    simp [digB] at h
    have ha : Lib.digitVal a = some (a.toNat - 48) := by unfold Lib.digitVal; rw [if_pos h.1]
    have hb : Lib.digitVal b = some (b.toNat - 48) := by unfold Lib.digitVal; rw [if_pos h.2]
    have n1 : (a == 45) = false := by simp; rintro rfl; simp at h
    have n2 : (a == 43) = false := by simp; rintro rfl; simp at h
    simp [Lib.atoi, n1, n2, Lib.decNat, Lib.decFrom, ha, hb, decV]
    omega

end Go.Proofs.YtldieadbkaphkaaGreatDoor

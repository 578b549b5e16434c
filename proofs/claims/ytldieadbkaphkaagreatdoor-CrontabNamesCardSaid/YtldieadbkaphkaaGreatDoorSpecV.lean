/- A job's spec: what it is, as a value; which may be (plain). -/
import Derived.Test.YtldieadbkaphkaaGreatDoorName
import Derived.Test.YtldieadbkaphkaaGreatDoorApp
import Derived.Test.YtldieadbkaphkaaGreatDoorCronL
namespace Go.Proofs.YtldieadbkaphkaaGreatDoor
open Go.RowKit

def strv (s : ByteArray) : Value := .string s

/-- A spec. -/
structure Sp where
  name : ByteArray
  ten : ByteArray
  pri : Int
  delay : Int
  deps : List ByteArray
  base : Int
  cap : Int
  att : Int
  lease : Int
  cron : ByteArray
  catch_ : Int

def Sp.cells (s : Sp) (dv : Value) : Array Value := #[.string s.name, .string s.ten, .int .i64 s.pri, .int .i64 s.delay, dv, .int .i64 s.base, .int .i64 s.cap, .int .i64 s.att, .int .i64 s.lease, .string s.cron, .int .i64 s.catch_]
def Sp.v (s : Sp) (dv : Value) : Value := .agg (s.cells dv)

def i64B (x : Int) : Prop := -9223372036854775808 ≤ x ∧ x ≤ 9223372036854775807
/-- Its numbers and texts are such as a program can hold. -/
structure Sp.Wf (s : Sp) : Prop where
  name : s.name.size ≤ maxLen
  ten : s.ten.size ≤ maxLen
  cron : s.cron.size ≤ maxLen
  deps : ∀ d ∈ s.deps, d.size ≤ maxLen
  pri : i64B s.pri
  delay : i64B s.delay
  base : i64B s.base
  cap : i64B s.cap
  att : i64B s.att
  lease : i64B s.lease
  catch_ : i64B s.catch_

def lessB (a b : ByteArray) : Bool := Op.bytesLess a.toList b.toList
/-- Each one comes behind the one ahead. -/
def risesB : List ByteArray → Bool
  | a :: b :: l => lessB a b && risesB (b :: l)
  | _ => true
theorem rises_iff : ∀ l : List ByteArray, risesB l = true ↔ ∀ i a b, l[i]? = some a → l[i + 1]? = some b → lessB a b = true
  | [] => by simp [risesB]
  | [_] => by simp [risesB]
  | a :: b :: l => by
    have ih := rises_iff (b :: l)
    rw [risesB, Bool.and_eq_true, ih]
    constructor
    · rintro ⟨h1, h2⟩ i x y hx hy
      cases i with
      | zero => simp at hx hy; subst hx; subst hy; exact h1
      | succ i => exact h2 i x y (by simpa using hx) (by simpa using hy)
    · intro h
      exact ⟨h 0 a b rfl rfl, fun i x y hx hy => h (i + 1) x y (by simpa using hx) (by simpa using hy)⟩

def spanB (x : Int) : Bool := decide (0 ≤ x) && decide (x ≤ 1048576)
def numbersB (s : Sp) : Bool :=
  decide (0 ≤ s.pri) && decide (s.pri < 4) && spanB s.delay && spanB s.base && spanB s.cap && spanB s.lease && decide (0 < s.lease) && decide (1 ≤ s.att) && decide (s.att ≤ 16) && decide (0 ≤ s.catch_) && decide (s.catch_ ≤ 16) && decide (s.deps.length ≤ 8) && risesB s.deps
def spNamesB (s : Sp) : Bool := nameB s.name && nameB s.ten && s.deps.all nameB
/-- A text's bytes. -/
def bsOf (s : ByteArray) : Bs := s.data.toList
/-- What Check answers. -/
def checkF (s : Sp) : Int :=
  if spNamesB s = false then 16
  else if numbersB s = false then 3
  else if s.cron.size = 0 then (if s.catch_ = 0 then 0 else 1)
  else if (cronF (bsOf s.cron)).2 ≠ 0 then (cronF (bsOf s.cron)).2
  else if s.catch_ = 0 then 3
  else if 0 < s.deps.length ∨ 0 < s.delay ∨ 16 < s.name.size then 1
  else 0
/-- May it be a template? -/
def tmplB (s : Sp) : Bool := decide (s.cron.size ≠ 0) && decide (checkF s = 0)

theorem tmpl_is {s : Sp} (h : tmplB s = true) : spNamesB s = true ∧ numbersB s = true ∧ s.cron.size ≠ 0 ∧ (cronF (bsOf s.cron)).2 = 0 ∧ 1 ≤ s.catch_ ∧ s.catch_ ≤ 16 ∧ s.deps = [] ∧ s.delay = 0 ∧ s.name.size ≤ 16 := by
  unfold tmplB at h
  simp only [Bool.and_eq_true, decide_eq_true_eq] at h
  obtain ⟨h1, h2⟩ := h
  by_cases hn : spNamesB s = false
  · unfold checkF at h2; rw [if_pos hn] at h2; omega
  by_cases hm : numbersB s = false
  · unfold checkF at h2; rw [if_neg hn, if_pos hm] at h2; omega
  by_cases hc : (cronF (bsOf s.cron)).2 ≠ 0
  · unfold checkF at h2; rw [if_neg hn, if_neg hm, if_neg h1, if_pos hc] at h2; exact absurd h2 hc
  by_cases hk : s.catch_ = 0
  · unfold checkF at h2; rw [if_neg hn, if_neg hm, if_neg h1, if_neg hc, if_pos hk] at h2; omega
  by_cases hx : 0 < s.deps.length ∨ 0 < s.delay ∨ 16 < s.name.size
  · unfold checkF at h2; rw [if_neg hn, if_neg hm, if_neg h1, if_neg hc, if_neg hk, if_pos hx] at h2; omega
  have hm' : numbersB s = true := by simpa using hm
  have hm'' := hm'
  unfold numbersB spanB at hm''
  simp only [Bool.and_eq_true, decide_eq_true_eq] at hm''
  refine ⟨by simpa using hn, hm', h1, by simpa using hc, by omega, by omega, ?_, by omega, by omega⟩
  exact List.eq_nil_of_length_eq_zero (by omega)

end Go.Proofs.YtldieadbkaphkaaGreatDoor

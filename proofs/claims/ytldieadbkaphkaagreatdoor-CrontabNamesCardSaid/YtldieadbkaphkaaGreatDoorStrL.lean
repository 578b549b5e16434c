/- Texts as lists of bytes: cut at a byte, split at a byte. No program. -/
import Derived.Lib.SplitLaws
import Derived.Lib.IndexBytes
import Derived.Lib.SlTrimSet
namespace Go.Proofs.YtldieadbkaphkaaGreatDoor

abbrev Bs := List UInt8

/-- .. cut at the first c. -/
def cutL (c : UInt8) : Bs → Bs × Bs × Bool
  | [] => ([], [], false)
  | x :: r => if x = c then ([], r, true) else (x :: (cutL c r).1, (cutL c r).2)
/-- .. split at each c. -/
def splitL (c : UInt8) : Bs → List Bs
  | [] => [[]]
  | x :: r => if x = c then [] :: splitL c r else (x :: (splitL c r).headD []) :: (splitL c r).tail

theorem splitL_ne (c : UInt8) : ∀ l, splitL c l ≠ []
  | [] => by simp [splitL]
  | x :: r => by unfold splitL; split <;> simp
theorem splitL_form (c : UInt8) (l : Bs) : splitL c l = (splitL c l).headD [] :: (splitL c l).tail := by
  have := splitL_ne c l
  cases h : splitL c l with
  | nil => exact absurd h this
  | cons a b => rfl
theorem splitL_length_pos (c : UInt8) (l : Bs) : 0 < (splitL c l).length := List.length_pos_iff.2 (splitL_ne c l)
theorem splitL_length (c : UInt8) : ∀ l, (splitL c l).length = l.count c + 1
  | [] => by simp [splitL]
  | x :: r => by
    have ih := splitL_length c r
    unfold splitL
    by_cases h : x = c
    · subst h; simp [ih]
    · have hp := splitL_length_pos c r
      rw [if_neg h]
      simp only [List.length_cons, List.length_tail, List.count_cons]
      have hb : (x == c) = false := by simpa using h
      rw [hb]
      simp
      omega
theorem splitL_le (c : UInt8) (l : Bs) : (splitL c l).length ≤ l.length + 1 := by
  rw [splitL_length]; have := List.count_le_length (a := c) (l := l); omega
/-- One byte more at the end. -/
theorem splitL_snoc (c : UInt8) (x : UInt8) : ∀ l, splitL c (l ++ [x]) = if x = c then splitL c l ++ [[]] else (splitL c l).dropLast ++ [(splitL c l).getLastD [] ++ [x]]
  | [] => by
    by_cases h : x = c
    · simp [splitL, h]
    · simp [splitL, h]
  | y :: r => by
    have ih := splitL_snoc c x r
    have hf := splitL_form c r
    have e1 : splitL c (y :: r ++ [x]) = if y = c then [] :: splitL c (r ++ [x]) else (y :: (splitL c (r ++ [x])).headD []) :: (splitL c (r ++ [x])).tail := rfl
    have e2 : splitL c (y :: r) = if y = c then [] :: splitL c r else (y :: (splitL c r).headD []) :: (splitL c r).tail := rfl
    rw [e1, e2, ih]
    generalize splitL c r = S at *
    cases S with
    | nil => simp at hf
    | cons a b =>
      by_cases h1 : x = c
      · by_cases h2 : y = c
        · simp [h1, h2]
        · simp [h1, h2]
      · by_cases h2 : y = c
        · cases b with
          | nil => simp [h1, h2]
          | cons d e => simp [h1, h2, List.getLastD]
        · cases b with
          | nil => simp [h1, h2]
          | cons d e => simp [h1, h2, List.getLastD]
theorem splitL_mem_len (c : UInt8) : ∀ l, ∀ p ∈ splitL c l, p.length ≤ l.length
  | [], p, h => by simp [splitL] at h; subst h; simp
  | x :: r, p, h => by
    have ih := splitL_mem_len c r
    have hf := splitL_form c r
    unfold splitL at h
    split at h
    · rcases List.mem_cons.1 h with rfl | h
      · simp
      · have := ih p h; simp; omega
    · rcases List.mem_cons.1 h with rfl | h
      · have := ih _ (by rw [hf]; exact List.mem_cons_self ..)
        simp; simpa using this
      · have := ih p (List.mem_of_mem_tail h); simp; omega

theorem indexByte_cons (x c : UInt8) (r : Bs) : Lib.index (x :: r) [c] = if x = c then 0 else if Lib.index r [c] == -1 then -1 else Lib.index r [c] + 1 := by
  show (if [c].isPrefixOf (x :: r) then (0 : Int) else _) = _
  by_cases h : x = c
  · rw [if_pos h, if_pos (by simp [List.isPrefixOf, h])]
  · rw [if_neg h, if_neg (by simp only [List.isPrefixOf]; simp [beq_eq_false_iff_ne.2 (Ne.symm h)])]
theorem index_nil (c : UInt8) : Lib.index [] [c] = -1 := rfl

theorem cut_eq (c : UInt8) : ∀ l : Bs, Lib.cut l [c] = cutL c l
  | [] => by simp [Lib.cut, index_nil, cutL]
  | x :: r => by
    have ih := cut_eq c r
    have hg := Lib.index_ge r [c]
    unfold cutL
    rw [← ih]
    unfold Lib.cut
    rw [indexByte_cons]
    by_cases h : x = c
    · simp [h]
    · rw [if_neg h, if_neg h]
      by_cases h2 : Lib.index r [c] = -1
      · simp [h2]
      · have h3 : (Lib.index r [c] == -1) = false := by simpa using h2
        have e : (Lib.index r [c] + 1).toNat = (Lib.index r [c]).toNat + 1 := by omega
        have e0 : (if (Lib.index r [c] == -1) = true then (-1 : Int) else Lib.index r [c] + 1) = Lib.index r [c] + 1 := by rw [h3]; rfl
        rw [e0, if_pos (by omega), if_pos (by omega), e]
        simp only [List.length_cons, List.length_nil, List.take_succ_cons]
        congr 2

theorem splitK_eq (c : UInt8) : ∀ l : Bs, ∀ k, l.count c ≤ k → Lib.splitK [c] 0 k l = splitL c l := by
  intro l
  induction hn : l.length using Nat.strongRecOn generalizing l with
  | _ n ih =>
    intro k hk
    cases hl : Lib.index l [c] == -1 with
    | true =>
      have hi : Lib.index l [c] = -1 := by simpa using hl
      have hno : splitL c l = [l] := by
        clear ih hk hn hl
        induction l with
        | nil => rfl
        | cons x r ih =>
          rw [indexByte_cons] at hi
          have hg := Lib.index_ge r [c]
          by_cases h : x = c
          · rw [if_pos h] at hi; cases hi
          · rw [if_neg h] at hi
            have hr : Lib.index r [c] = -1 := by
              split at hi
              · rename_i h2; simpa using h2
              · omega
            unfold splitL
            rw [if_neg h, ih hr]
            rfl
      rw [hno]
      cases k with
      | zero => rfl
      | succ k => unfold Lib.splitK; rw [hl, if_pos rfl]
    | false =>
      have hi : Lib.index l [c] ≠ -1 := by simpa using hl
      have hg := Lib.index_ge l [c]
      obtain ⟨i, hii⟩ : ∃ i : Nat, Lib.index l [c] = (i : Int) := ⟨(Lib.index l [c]).toNat, by omega⟩
      have key : ∀ (l : Bs) (i : Nat), Lib.index l [c] = (i : Int) → i < l.length ∧ splitL c l = l.take i :: splitL c (l.drop (i + 1)) ∧ l.count c = (l.drop (i + 1)).count c + 1 := by
        clear ih hk hn hl hi hg hii i l
        intro l
        induction l with
        | nil => intro i h; rw [index_nil] at h; omega
        | cons x r ih =>
          intro i h
          rw [indexByte_cons] at h
          have hg := Lib.index_ge r [c]
          by_cases hx : x = c
          · rw [if_pos hx] at h
            have h0 : i = 0 := by omega
            subst h0 hx
            refine ⟨Nat.succ_pos _, ?_, by simp⟩
            conv => lhs; unfold splitL
            rw [if_pos rfl]
            rfl
          · rw [if_neg hx] at h
            split at h
            · omega
            · rename_i hm
              have hm2 : Lib.index r [c] ≠ -1 := by simpa using hm
              obtain ⟨j, rfl⟩ : ∃ j, i = j + 1 := ⟨i - 1, by omega⟩
              obtain ⟨h1, h2, h3⟩ := ih j (by omega)
              refine ⟨Nat.succ_lt_succ h1, ?_, ?_⟩
              · conv => lhs; unfold splitL
                rw [if_neg hx, h2]
                simp
              · rw [List.count_cons]
                have hb : (x == c) = false := by simpa using hx
                rw [hb]
                simpa using h3
      obtain ⟨h1, h2, h3⟩ := key l i hii
      cases k with
      | zero => omega
      | succ k =>
        unfold Lib.splitK
        rw [hl, if_neg (by simp), h2]
        have e : (Lib.index l [c]).toNat = i := by omega
        rw [e, Nat.add_zero]
        congr 1
        exact ih (l.drop (i + 1)).length (by rw [List.length_drop]; omega) _ rfl k (by omega)

theorem split_eq (c : UInt8) (l : Bs) : Lib.splitB ⟨#[c]⟩ 0 (Lib.countB ⟨l.toArray⟩ ⟨#[c]⟩) ⟨l.toArray⟩ = (splitL c l).map fun p => ⟨p.toArray⟩ := by
  have h := Lib.splitB_data ⟨#[c]⟩ 0 (Lib.countB ⟨l.toArray⟩ ⟨#[c]⟩) ⟨l.toArray⟩
  have hc : Lib.countB ⟨l.toArray⟩ ⟨#[c]⟩ = l.count c := (Lib.count_one c l)
  rw [hc] at h ⊢
  have e : Lib.splitK (⟨#[c]⟩ : ByteArray).data.toList 0 (l.count c) (⟨l.toArray⟩ : ByteArray).data.toList = splitL c l := splitK_eq c l _ (Nat.le_refl _)
  rw [e] at h
  rw [← h, List.map_map]
  generalize Lib.splitB ⟨#[c]⟩ 0 (l.count c) ⟨l.toArray⟩ = L
  induction L with
  | nil => rfl
  | cons a r ih => rw [List.map_cons, ← ih]; rfl
theorem split_len (c : UInt8) (l : Bs) : Lib.countB ⟨l.toArray⟩ ⟨#[c]⟩ + 1 = (splitL c l).length := by
  rw [splitL_length]; exact congrArg (· + 1) (Lib.count_one c l)

/-- Digits. -/
def digB (c : UInt8) : Bool := decide (48 ≤ c.toNat) && decide (c.toNat ≤ 57)
def digits10 : Bs := [48, 49, 50, 51, 52, 53, 54, 55, 56, 57]
theorem dig_mem (c : UInt8) : digits10.contains c = digB c := by
  have h : ∀ c : Fin 256, digits10.contains (UInt8.ofNat c.val) = digB (UInt8.ofNat c.val) := by decide +kernel
  have := h ⟨c.toNat, c.toNat_lt⟩
  simpa using this
theorem dropW_nil (p : UInt8 → Bool) : ∀ l : Bs, l.dropWhile p = [] ↔ ∀ x ∈ l, p x = true
  | [] => by simp
  | x :: r => by
    have ih := dropW_nil p r
    by_cases h : p x = true
    · simp [List.dropWhile_cons, h, ih]
    · simp [List.dropWhile_cons, h]
theorem trim_digits (l : Bs) : (Lib.trimS l digits10 = []) ↔ l.all digB = true := by
  have hd : (fun c => digits10.contains c) = digB := funext dig_mem
  unfold Lib.trimS Lib.trimLeftS Lib.trimRightS
  rw [hd, dropW_nil]
  constructor
  · intro h
    rw [List.all_eq_true]
    intro x hx
    by_cases hall : ∀ y ∈ l, digB y = true
    · exact hall x hx
    · exfalso
      have hne : l.reverse.dropWhile digB ≠ [] := by
        intro e
        rw [dropW_nil] at e
        exact hall fun y hy => e y (List.mem_reverse.2 hy)
      have hh := List.head_dropWhile_not digB hne
      have := h ((l.reverse.dropWhile digB).head hne) (List.mem_reverse.2 (List.head_mem hne))
      rw [hh] at this
      cases this
  · intro h x hx
    rw [List.all_eq_true] at h
    have h1 := List.mem_reverse.1 hx
    have h2 := (List.dropWhile_suffix digB).subset h1
    exact h x (List.mem_reverse.1 h2)
/-- A number's value. -/
def decV (l : Bs) : Int := l.foldl (fun a c => a * 10 + ((c.toNat : Int) - 48)) 0

end Go.Proofs.YtldieadbkaphkaaGreatDoor

/- Due's ticks in plain words. -/
import Derived.Test.YtldieadbkaphkaaGreatDoorNext2
namespace Go.Proofs.YtldieadbkaphkaaGreatDoor

/-- The ticks that a range over Between tells, at most so many. -/
def listF (e : Ex) (to_ : Int) : Nat → Int → List Int
  | 0, _ => []
  | k + 1, a => if (nextF e a).2 = true ∧ (nextF e a).1 ≤ to_ then (nextF e a).1 :: listF e to_ k (nextF e a).1 else []
theorem list_step {e : Ex} {to_ a x : Int} (h : StepB e to_ a x) (k : Nat) : listF e to_ (k + 1) a = x :: listF e to_ k x := by
  obtain ⟨h1, h2⟩ := h
  rw [listF, h1, if_pos ⟨rfl, h2⟩]
theorem list_stop {e : Ex} {to_ a : Int} (h : StopB e to_ a) (k : Nat) : listF e to_ k a = [] := by
  cases k with
  | zero => rfl
  | succ k =>
    rw [listF, if_neg]
    rintro ⟨h1, h2⟩
    exact h (nextF e a).1 ⟨by rw [← h1], h2⟩
theorem list_len (e : Ex) (to_ : Int) : ∀ (k : Nat) (a : Int), (listF e to_ k a).length ≤ k
  | 0, a => by simp [listF]
  | k + 1, a => by
    have ih := list_len e to_ k (nextF e a).1
    unfold listF
    split <;> simp <;> omega

/-- The named ones of n ticks behind one. -/
def namedL (e : Ex) : Int → Nat → List Int
  | _, 0 => []
  | a, n + 1 => (if atB e (a + 1) = true then [a + 1] else []) ++ namedL e (a + 1) n
theorem namedL_add (e : Ex) : ∀ (m n : Nat) (a : Int), namedL e a (m + n) = namedL e a m ++ namedL e (a + m) n
  | 0, n, a => by simp [namedL]
  | m + 1, n, a => by
    have ih := namedL_add e m n (a + 1)
    rw [show m + 1 + n = (m + n) + 1 by omega, namedL, namedL, ih, show a + ((m + 1 : Nat) : Int) = a + 1 + m by omega, List.append_assoc]
theorem namedL_skip (e : Ex) : ∀ (j n : Nat) (a : Int), j ≤ n → (∀ u, a < u → u ≤ a + j → atB e u = false) → namedL e a n = namedL e (a + j) (n - j)
  | 0, n, a, _, _ => by simp
  | j + 1, 0, a, h, _ => by omega
  | j + 1, n + 1, a, h, hu => by
    have ih := namedL_skip e j n (a + 1) (by omega) fun u h1 h2 => hu u (by omega) (by omega)
    rw [namedL, if_neg (by rw [hu (a + 1) (by omega) (by omega)]; decide), ih, show a + 1 + (j : Int) = a + ((j + 1 : Nat) : Int) by omega, show n - j = n + 1 - (j + 1) by omega, List.nil_append]
theorem namedL_none (e : Ex) (n : Nat) (a : Int) (h : ∀ u, a < u → u ≤ a + n → atB e u = false) : namedL e a n = [] := by
  rw [namedL_skip e n n a (Nat.le_refl _) h, Nat.sub_self]; rfl
theorem namedL_len (e : Ex) : ∀ (n : Nat) (a : Int), (namedL e a n).length ≤ n
  | 0, a => by simp [namedL]
  | n + 1, a => by
    have ih := namedL_len e n (a + 1)
    unfold namedL
    split <;> simp <;> omega
theorem list_named (e : Ex) : ∀ (n k : Nat) (a : Int), n ≤ k → 0 ≤ a → a + n ≤ 1099511627776 → n ≤ 200000000 → listF e (a + n) k a = namedL e a n := by
  intro n
  induction n using Nat.strongRecOn with
  | ind n ih =>
    intro k a hk h0 h1 h2
    by_cases hn : n = 0
    · subst hn
      rw [list_stop (fun x hx => ?_)]
      · rfl
      · have h3 := step_up hx
        have h4 := hx.2
        omega
    rcases next_spec2 e a h0 (by omega) with ⟨t, e1, g1, g2, g3, g4⟩ | ⟨e1, g⟩
    · by_cases ht : t ≤ a + n
      · obtain ⟨k, rfl⟩ : ∃ k', k = k' + 1 := ⟨k - 1, by omega⟩
        obtain ⟨j, hj⟩ : ∃ j : Nat, t = a + j + 1 := ⟨(t - a - 1).toNat, by omega⟩
        have hs := namedL_skip e j n a (by omega) fun u h3 h4 => g4 u h3 (by omega)
        obtain ⟨m, hm⟩ : ∃ m, n - j = m + 1 := ⟨n - j - 1, by omega⟩
        have hi := ih m (by omega) k t (by omega) (by omega) (by omega) (by omega)
        rw [list_step ⟨e1, ht⟩ k, hs, hm, namedL, ← hj, if_pos g3, ← hi, show t + (m : Int) = a + n by omega]
        rfl
      · rw [list_stop (fun x hx => by obtain ⟨h3, h4⟩ := hx; rw [e1] at h3; simp at h3; omega), namedL_none e n a fun u h3 h4 => g4 u h3 (by omega)]
    · rw [list_stop (fun x hx => by obtain ⟨h3, _⟩ := hx; rw [e1] at h3; simp at h3), namedL_none e n a fun u h3 h4 => g u h3 (by omega)]

/-- What Due tells: the first ones, and how many more. -/
def dueT (e : Ex) (c : Nat) (a to_ : Int) : List Int := (listF e to_ (c + 1048576) a).take c
def dueM (e : Ex) (c : Nat) (a to_ : Int) : Nat := (listF e to_ (c + 1048576) a).length - c

theorem due_named (e : Ex) (c n : Nat) (a : Int) (h0 : 0 ≤ a) (h1 : a + n ≤ 1099511627776) (h2 : n ≤ 1048576) : dueT e c a (a + n) = (namedL e a n).take c ∧ dueM e c a (a + n) = (namedL e a n).length - c := by
  unfold dueT dueM
  rw [list_named e n (c + 1048576) a (by omega) h0 h1 (by omega)]
  exact ⟨rfl, rfl⟩

end Go.Proofs.YtldieadbkaphkaaGreatDoor

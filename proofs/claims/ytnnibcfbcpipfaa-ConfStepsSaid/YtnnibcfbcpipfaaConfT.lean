/- ConfSteps in plain words: one more, one fewer, and how many nodes are unlike. -/
import Derived.Test.YtnnibcfbcpipfaaConfG
namespace Go.Proofs.Ytnnibcfbcpipfaa
open Go.RowKit Go.Sort

/-- The numbers 1 to k. -/
def upTo (k : Nat) : List Int := (List.range k).map fun i => ((i + 1 : Nat) : Int)
theorem upTo_succ (k : Nat) : upTo (k + 1) = upTo k ++ [((k + 1 : Nat) : Int)] := by
  unfold upTo; rw [List.range_succ, List.map_append]; rfl
theorem upTo_pair (k : Nat) : (upTo k).Pairwise (· < ·) := by
  unfold upTo
  exact List.Pairwise.map _ (fun a b h => by omega) List.pairwise_lt_range
theorem mem_upTo (k : Nat) (x : Int) : x ∈ upTo k ↔ 1 ≤ x ∧ x ≤ k := by
  unfold upTo
  simp only [List.mem_map, List.mem_range]
  constructor
  · rintro ⟨i, hi, rfl⟩; omega
  · rintro ⟨h1, h2⟩; exact ⟨(x - 1).toNat, by omega, by omega⟩

def moreL (a : List Int) (n : Int) (k : Nat) : List Int := (upTo k).filter fun x => decide (x ∈ a) || x == n
def lessL (a : List Int) (n : Int) (k : Nat) : List Int := (upTo k).filter fun x => decide (x ∈ a) && !(x == n)

theorem moreL_yes {a : List Int} {n : Int} {k : Nat} (h : (decide (((k + 1 : Nat) : Int) ∈ a) || ((k + 1 : Nat) : Int) == n) = true) : moreL a n (k + 1) = moreL a n k ++ [((k + 1 : Nat) : Int)] := by
  unfold moreL; rw [upTo_succ, List.filter_append, List.filter_cons, if_pos h]; rfl
theorem moreL_no {a : List Int} {n : Int} {k : Nat} (h : (decide (((k + 1 : Nat) : Int) ∈ a) || ((k + 1 : Nat) : Int) == n) = false) : moreL a n (k + 1) = moreL a n k := by
  unfold moreL; rw [upTo_succ, List.filter_append, List.filter_cons, if_neg (by rw [h]; simp)]; simp
theorem lessL_yes {a : List Int} {n : Int} {k : Nat} (h : (decide (((k + 1 : Nat) : Int) ∈ a) && !(((k + 1 : Nat) : Int) == n)) = true) : lessL a n (k + 1) = lessL a n k ++ [((k + 1 : Nat) : Int)] := by
  unfold lessL; rw [upTo_succ, List.filter_append, List.filter_cons, if_pos h]; rfl
theorem lessL_no {a : List Int} {n : Int} {k : Nat} (h : (decide (((k + 1 : Nat) : Int) ∈ a) && !(((k + 1 : Nat) : Int) == n)) = false) : lessL a n (k + 1) = lessL a n k := by
  unfold lessL; rw [upTo_succ, List.filter_append, List.filter_cons, if_neg (by rw [h]; simp)]; simp
theorem upTo_len (k : Nat) : (upTo k).length = k := by unfold upTo; simp
theorem moreL_len (a : List Int) (n : Int) (k : Nat) : (moreL a n k).length ≤ k := by
  have := List.length_filter_le (fun x : Int => decide (x ∈ a) || x == n) (upTo k)
  rw [upTo_len] at this; exact this
theorem lessL_len (a : List Int) (n : Int) (k : Nat) : (lessL a n k).length ≤ k := by
  have := List.length_filter_le (fun x : Int => decide (x ∈ a) && !(x == n)) (upTo k)
  rw [upTo_len] at this; exact this

theorem moreL_all {a : List Int} {n : Int} (h : membersB a = true) (hn : n ∉ a) (h1 : 1 ≤ n) (h7 : n ≤ 7) : moreL a n 7 = insL a n := by
  obtain ⟨_, h2, h3⟩ := membersB_iff.1 h
  refine sorted_ext ((upTo_pair 7).filter _) (insL_pair h3 hn) fun x => ?_
  unfold moreL
  rw [List.mem_filter, insL_mem, mem_upTo]
  simp only [Bool.or_eq_true, decide_eq_true_eq, beq_iff_eq]
  constructor
  · rintro ⟨_, h⟩; exact h
  · rintro (h | rfl)
    · exact ⟨by have := h2 x h; omega, .inl h⟩
    · exact ⟨by omega, .inr rfl⟩

theorem lessL_all {a : List Int} {n : Int} (h : membersB a = true) : lessL a n 7 = cutL a n := by
  obtain ⟨_, h2, h3⟩ := membersB_iff.1 h
  refine sorted_ext ((upTo_pair 7).filter _) (h3.filter _) fun x => ?_
  unfold lessL
  rw [List.mem_filter, cutL_mem, mem_upTo]
  simp only [Bool.and_eq_true, Bool.not_eq_true', decide_eq_true_eq, beq_eq_false_iff_ne]
  constructor
  · rintro ⟨_, h⟩; exact h
  · rintro ⟨h, g⟩; exact ⟨by have := h2 x h; omega, h, g⟩

/-- How many of the first nodes are unlike. -/
def unl (a b : List Int) : Nat → Nat
  | 0 => 0
  | k + 1 => unl a b k + if (decide (((k + 1 : Nat) : Int) ∈ a) != decide (((k + 1 : Nat) : Int) ∈ b)) = true then 1 else 0
theorem unl_le (a b : List Int) : ∀ k, unl a b k ≤ k
  | 0 => Nat.le_refl _
  | k + 1 => by have := unl_le a b k; simp only [unl]; split <;> omega

theorem unl_stepCnt {a b : List Int} (ha : membersB a = true) (hb : membersB b = true) (k : Nat) : stepCnt a b (k + 1) = unl a b k := by
  have a0 : (0 : Int) ∉ a := fun h => by have := (membersB_iff.1 ha).2.1 _ h; omega
  have b0 : (0 : Int) ∉ b := fun h => by have := (membersB_iff.1 hb).2.1 _ h; omega
  induction k with
  | zero => rw [stepCnt_succ]; simp [a0, b0, stepCnt, unl]
  | succ k ih => rw [stepCnt_succ, ih]; rfl

theorem stepB_unl {a b : List Int} (ha : membersB a = true) (hb : membersB b = true) : stepB a b = ((unl a b 7 : Int) == 1) := by
  unfold stepB
  rw [ha, hb, unl_stepCnt ha hb 7]
  simp only [Bool.true_and]
  rw [Bool.eq_iff_iff, beq_iff_eq, decide_eq_true_iff]
  omega

/-- Two slices of the call's own, in rows of their own. -/
structure Two (T : TypeId) (w wr : World) (v u : Value) (xs ys : List Int) : Prop where
  own1 : wr.ownsRow 0 T 1 v xs.length (xs.map intv)
  own2 : wr.ownsRow 0 T 1 u ys.length (ys.map intv)
  new1 : ∀ j, v.ownBlock = some j → w.heap.size ≤ j
  new2 : ∀ j, u.ownBlock = some j → w.heap.size ≤ j
  ne : ∀ j, v.ownBlock = some j → u.ownBlock ≠ some j
  bel : Below w.heap.size w wr

theorem Two.nil (T : TypeId) (w : World) : Two T w w (.slice none 0 0) (.slice none 0 0) [] [] :=
  ⟨World.ownsRow_nil _ _ _ _, World.ownsRow_nil _ _ _ _, by simp [Value.ownBlock], by simp [Value.ownBlock], by simp [Value.ownBlock], Below.refl _ _⟩

theorem owns_lt {w : World} {e : TypeId} {size : Nat} {v : Value} {n : Nat} {xs : List Value} (h : w.ownsRow 0 e size v n xs) : ∀ k, v.ownBlock = some k → k < w.heap.size := by
  rcases h.2 with ⟨rfl, _⟩ | ⟨g, cap, cur, rfl, _, hg, _⟩
  · simp [Value.ownBlock]
  · intro k hk; cases hk; exact heap_lt hg

theorem Two.swap {T : TypeId} {w wr : World} {v u : Value} {xs ys : List Int} (h : Two T w wr v u xs ys) : Two T w wr u v ys xs :=
  ⟨h.own2, h.own1, h.new2, h.new1, fun j h1 h2 => h.ne j h2 h1, h.bel⟩

theorem Two.push {T : TypeId} {w wr w3 : World} {v u v' : Value} {xs ys : List Int} {x : Int} (h : Two T w wr v u xs ys) {ob : Obj} (ho : w3.ownsRow 0 T 1 v' (xs.length + 1) (xs.map intv ++ [.int .i64 x]))
    (hg : (wr.alloc ob).grownBy w3 v.ownBlock) (hr : v'.ownBlock = v.ownBlock ∨ ∃ k, v'.ownBlock = some k ∧ (wr.alloc ob).heap.size ≤ k ∧ k < w3.heap.size) :
    Two T w w3 v' u (xs ++ [x]) ys := by
  have hsz := h.bel.size
  have hk : Keeps (fun k => some k = v.ownBlock) wr w3 := ((Keeps.refl (fun k => some k = v.ownBlock) wr).alloc ob).trans (grown_keeps hg fun k hk => hk)
  refine ⟨?_, owns_kept h.own2 hk fun k hk e => h.ne k e.symm hk, ?_, h.new2, ?_, ?_⟩
  · rw [List.length_append, List.map_append]; exact ho
  · intro j hj
    rcases hr with h1 | ⟨i, h1, h2, _⟩
    · exact h.new1 j (h1 ▸ hj)
    · rw [h1] at hj; cases hj; simp at h2; omega
  · intro j hj
    rcases hr with h1 | ⟨i, h1, h2, _⟩
    · exact h.ne j (h1 ▸ hj)
    · rw [h1] at hj; cases hj; simp at h2
      intro e
      have := owns_lt h.own2 _ e
      omega
  · exact (((Keeps.of_below h.bel).alloc _).trans (grown_keeps hg fun k hk => h.new1 k hk.symm)).below (Nat.le_refl _) (fun k hk => hk)

end Go.Proofs.Ytnnibcfbcpipfaa

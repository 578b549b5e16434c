/- Rows that grow: behind what leaves them alone; behind 'x = append(x, y)' of a variable in a cell. -/
import Derived.Test.YtckmenongeklpaaApp
import Derived.Test.YtckmenongeklpaaRule
import Derived.RangeFuncBox
namespace Go.Proofs.Ytckmenongeklpaa
open Go.RowKit

/-- Behind 'ticks = append(ticks, t)'. -/
theorem due_app {W w1 : World} {B bT : Nat} {T e : TypeId} {q q' : Value} {k m : Nat} {xs ys : List Value} {tmp : Obj} (hT : W.heap[bT]? = some (.cells #[q] T)) (hTB : bT < B) (hB : B ≤ W.heap.size)
    (hown : W.ownsRow B e 1 q k xs) (hown' : w1.ownsRow B e 1 q' m ys) (hg : (W.alloc tmp).grownBy w1 q.ownBlock) :
    w1.heap[bT]? = some (.cells #[q] T) ∧ (∀ j, j < B → j ≠ bT → (w1.setCell ⟨bT, 0, none⟩ q').heap[j]? = W.heap[j]?) ∧ (w1.setCell ⟨bT, 0, none⟩ q').heap[bT]? = some (.cells #[q'] T) ∧ (w1.setCell ⟨bT, 0, none⟩ q').ownsRow B e 1 q' m ys ∧
    KeepsOthers W (w1.setCell ⟨bT, 0, none⟩ q') ∧ ∀ (S : Nat → Prop) (w0 : World), w0.heap.size = B → S bT → Keeps S w0 W → Keeps S w0 (w1.setCell ⟨bT, 0, none⟩ q') := by
  have hrow : ∀ j, some j = q.ownBlock → B ≤ j ∧ j < W.heap.size := fun j hj => by
    rcases hown.2 with ⟨rfl, _⟩ | ⟨g, cap, cur, rfl, hgB, hgb, _⟩
    · cases hj
    · obtain rfl : j = g := by simpa [Value.ownBlock] using hj
      exact ⟨hgB, heap_lt hgb⟩
  have old : ∀ j, j < B → w1.heap[j]? = W.heap[j]? := fun j hj => by
    have h1 := hg.block j (by simp; omega) fun e => by have := (hrow j e).1; omega
    exact h1.trans (Below.heap_alloc W tmp j (by omega))
  have h1T : w1.heap[bT]? = some (.cells #[q] T) := (old bT hTB).trans hT
  have hot : ∀ j, j < B → j ≠ bT → (w1.setCell ⟨bT, 0, none⟩ q').heap[j]? = W.heap[j]? := fun j hj hne => (Below.heap_setCell _ _ _ _ hne).trans (old j hj)
  refine ⟨h1T, hot, blk_set h1T 0 _, ?_, ?_, ?_⟩
  · refine ⟨hown'.1, ?_⟩
    rcases hown'.2 with h | ⟨g, cap, cur, h1, h2, h3, h4⟩
    · exact .inl h
    · exact .inr ⟨g, cap, cur, h1, h2, (Below.heap_setCell _ _ _ _ (by simp only; omega)).trans h3, h4⟩
  · refine ((KeepsOthers.alloc W tmp).trans (KeepsOthers.of_grownBy hg fun j o hj ho => ?_)).trans (KeepsOthers.setCell _ _ _)
    rcases hown.2 with ⟨rfl, _⟩ | ⟨g, cap, cur, rfl, hgB, hgb, _⟩
    · cases hj
    · obtain rfl : g = j := by simpa [Value.ownBlock] using hj
      rw [aheap hgb] at ho
      cases ho; rfl
  · intro S w0 h0 hS hk
    have hsz := hk.size
    refine ⟨?_, ?_, ?_, ?_, fun j hj hn => ?_⟩
    · exact hg.os.trans hk.os
    · exact hg.tape.trans hk.tape
    · exact hg.output.trans hk.output
    · have := hg.size
      simp at this ⊢
      omega
    · have hne : j ≠ bT := fun e => hn (e ▸ hS)
      exact (hot j (by omega) hne).trans (hk.block j hj hn)

theorem owns_below {A B : World} {base : Nat} {e : TypeId} {size : Nat} {v : Value} {k : Nat} {xs : List Value} (h : A.ownsRow base e size v k xs) (hb : Below A.heap.size A B) : B.ownsRow base e size v k xs := by
  refine ⟨h.1, ?_⟩
  rcases h.2 with h | ⟨g, cap, cur, h1, h2, h3, h4⟩
  · exact .inl h
  · exact .inr ⟨g, cap, cur, h1, h2, bheap hb h3 (heap_lt h3), h4⟩
theorem owns_setCell {A : World} {base : Nat} {e : TypeId} {size : Nat} {v : Value} {k : Nat} {xs : List Value} (h : A.ownsRow base e size v k xs) {a : Addr} (ha : a.block < base) (u : Value) : (A.setCell a u).ownsRow base e size v k xs := by
  refine ⟨h.1, ?_⟩
  rcases h.2 with h | ⟨g, cap, cur, h1, h2, h3, h4⟩
  · exact .inl h
  · exact .inr ⟨g, cap, cur, h1, h2, (Below.heap_setCell _ _ _ _ (by omega)).trans h3, h4⟩

theorem owns_mono {w : World} {base base' : Nat} {e : TypeId} {size : Nat} {v : Value} {n : Nat} {xs : List Value} (h : w.ownsRow base e size v n xs) (hb : base' ≤ base) : w.ownsRow base' e size v n xs := by
  refine ⟨h.1, ?_⟩
  rcases h.2 with h | ⟨g, cap, cur, h1, h2, h3⟩
  · exact .inl h
  · exact .inr ⟨g, cap, cur, h1, by omega, h3⟩
end Go.Proofs.Ytckmenongeklpaa

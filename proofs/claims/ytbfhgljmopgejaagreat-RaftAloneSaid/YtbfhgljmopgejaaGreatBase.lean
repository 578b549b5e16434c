/- Small words and lemmas that all walks of this seat use. -/
import Derived.Test.YtbfhgljmopgejaaGreatRows
import Derived.WalkKit
import Derived.WalkLawsBesides
import Derived.WalkSpells
import Derived.Lib.Hide
import Derived.StillTailTactics
namespace Go.Proofs.YtbfhgljmopgejaaGreat
open Go.RowKit

/-- What a walk is told of a slice of integers that came in: nil, or a row of cap cells, the numbers zs, of which the first len are its elements. -/
def IsRow (k : IntKind) (w : World) (a : Option Addr) (len cap : Nat) (zs : List Int) : Prop :=
  (a = none ∧ len = 0 ∧ cap = 0 ∧ zs = []) ∨
  ∃ x, a = some x ∧ len ≤ cap ∧ cap ≤ maxLen ∧ zs.length = cap ∧ (∀ i, i < zs.length → w.cell? (x.add i) = some (.int k (zs.getD i 0))) ∧ ∀ n ∈ zs, (Lit.int k n).wf = true

theorem bheap {W w1 : World} {B : Nat} (hb : Below B W w1) {k : Nat} {o : Obj} (h : W.heap[k]? = some o) (hk : k < B) : w1.heap[k]? = some o := (hb.block k hk).trans h
theorem aheap {W : World} {k : Nat} {o : Obj} (h : W.heap[k]? = some o) (o' : Obj) : (W.alloc o').heap[k]? = some o := by
  have hk : k < W.heap.size := by
    rcases Nat.lt_or_ge k W.heap.size with h1 | h1
    · exact h1
    · simp [Array.getElem?_eq_none h1] at h
  exact (Below.heap_alloc _ _ _ hk).trans h
theorem bcell {W w1 : World} {B : Nat} (hb : Below B W w1) : ∀ b o, b < B → w1.cell? ⟨b, o, none⟩ = W.cell? ⟨b, o, none⟩ :=
  fun b o h => hb.cell (p := ⟨b, o, none⟩) h

theorem cell_lt {w : World} {a : Addr} {v : Value} (h : w.cell? a = some v) : a.block < w.heap.size := by
  rcases Nat.lt_or_ge a.block w.heap.size with h1 | h1
  · exact h1
  · simp [World.cell?, Array.getElem?_eq_none h1] at h

/-- Such a row, where it has an element: its cells, in the spelling of the walk. -/
theorem IsRow.at {k : IntKind} {w : World} {a : Option Addr} {len cap : Nat} {zs : List Int} (h : IsRow k w a len cap zs) :
    len = 0 ∨ ∃ b off, a = some ⟨b, off, none⟩ ∧ 0 < len ∧ len ≤ cap ∧ cap ≤ 9223372036854775807 ∧ zs.length = cap ∧ (∀ i, i < zs.length → w.cell? ⟨b, off + i, none⟩ = some (.int k (zs.getD i 0))) ∧ (∀ i, i < zs.length → (Lit.int k (zs.getD i 0)).wf = true) ∧ b < w.heap.size := by
  rcases Nat.eq_zero_or_pos len with h0 | h0
  · exact .inl h0
  · right
    rcases h with ⟨_, h, _⟩ | ⟨x, rfl, hl, hm, hz, hc, hw⟩
    · omega
    · obtain ⟨b, off, spot⟩ := x
      have hs := hc 0 (by omega)
      have hspot : spot = none := by simpa [Addr.add] using World.cell?_spot hs
      subst hspot
      have hcell : ∀ i, i < zs.length → w.cell? ⟨b, off + i, none⟩ = some (.int k (zs.getD i 0)) := by
        intro i hi
        have := hc i hi
        unfold Addr.add at this
        split at this
        · rename_i e; subst e; exact this
        · exact this
      refine ⟨b, off, rfl, h0, hl, by unfold maxLen at hm; exact hm, hz, hcell, fun i hi => hw _ ?_, cell_lt (hcell 0 (by omega))⟩
      rw [List.getD_eq_getElem?_getD, List.getElem?_eq_getElem hi]; exact List.getElem_mem hi

/-- The call returned v, and memory is as it was. -/
def Ret (v : Value) (w : World) (e : Ending) (w' : World) : Prop := e = .returned v ∧ w = w'

/-- The call returned v, and nothing that existed in memory has changed. -/
def RetB (v : Value) (w : World) (e : Ending) (w' : World) : Prop := e = .returned v ∧ Below w.heap.size w w'

theorem RetB.mk {v u : Value} {w w' : World} (h : u = v) (b : Below w.heap.size w w') : RetB v w (.returned u) w' := ⟨by rw [h], b⟩

/-- The call returned v, and made one block. -/
def RetN (v : Value) (w : World) (e : Ending) (w' : World) : Prop := e = .returned v ∧ ∃ o, w' = w.alloc o

theorem RetN.mk {v u : Value} {w : World} (o : Obj) (h : u = v) : RetN v w (.returned u) (w.alloc o) := ⟨by rw [h], o, rfl⟩

theorem Ret.mk {v u : Value} {w : World} (h : u = v) : Ret v w (.returned u) w := ⟨by rw [h], rfl⟩

theorem heap_new (w : World) (o : Obj) : (w.alloc o).heap[w.heap.size]? = some o := by
  show (w.heap.push o)[w.heap.size]? = _
  simp

/-- A region that draws its order, whose reads come ahead of one last operation: the world behind the draw under its own name. -/
theorem still_tail {P : Program} {id : Nat} {Q : Exit → Act → World → Prop} {a : Act} {w : World} {l : List Oper} (n : Nat) (hm : P.follows .mixedOrders = true) (hB : Region.lexTailB .any l.toArray n = true)
    (h : ∀ W, W = w.drew → wpStill P l.toArray W (fun a' => wpList P l.toArray Q (l.drop n) a' W) (l.take n) a) : (Code.region id l.toArray true).wp P Q a w :=
  wp_region_still_tail n hm hB (h _ rfl)

theorem int_eq {k : IntKind} {a b : Int} (h : a = b) : Value.int k a = Value.int k b := by rw [h]
theorem bool_eq {a b : Bool} (h : a = b) : Value.bool a = Value.bool b := by rw [h]
theorem tup2_eq {a b x y : Value} (h : a = b) (g : x = y) : Value.tuple #[a, x] = Value.tuple #[b, y] := by rw [h, g]
theorem tup3_eq {a b x y s t : Value} (h : a = b) (g : x = y) (f : s = t) : Value.tuple #[a, x, s] = Value.tuple #[b, y, t] := by rw [h, g, f]

end Go.Proofs.YtbfhgljmopgejaaGreat

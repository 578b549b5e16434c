/- Small words and lemmas that all walks of this seat use. -/
import Derived.Test.YtebkdkoamiefjaaRows
import Derived.WalkKit
import Derived.WalkLawsBesides
import Derived.WalkSpells
import Derived.Lib.Hide
namespace Go.Proofs.Ytebkdkoamiefjaa
open Go.RowKit

/-- The call returned v, and memory is as it was. -/
def Ret (v : Value) (w : World) (e : Ending) (w' : World) : Prop := e = .returned v ∧ w = w'

/-- The call returned v, and nothing that existed in memory has changed. -/
def RetB (v : Value) (w : World) (e : Ending) (w' : World) : Prop := e = .returned v ∧ Below w.heap.size w w'

theorem RetB.mk {v u : Value} {w w' : World} (h : u = v) (b : Below w.heap.size w w') : RetB v w (.returned u) w' := ⟨by rw [h], b⟩

theorem Ret.mk {v u : Value} {w : World} (h : u = v) : Ret v w (.returned u) w := ⟨by rw [h], rfl⟩

theorem int_eq {k : IntKind} {a b : Int} (h : a = b) : Value.int k a = Value.int k b := by rw [h]
theorem bool_eq {a b : Bool} (h : a = b) : Value.bool a = Value.bool b := by rw [h]
theorem tup2_eq {a b x y : Value} (h : a = b) (g : x = y) : Value.tuple #[a, x] = Value.tuple #[b, y] := by rw [h, g]
theorem tup3_eq {a b x y s t : Value} (h : a = b) (g : x = y) (f : s = t) : Value.tuple #[a, x, s] = Value.tuple #[b, y, t] := by rw [h, g, f]

end Go.Proofs.Ytebkdkoamiefjaa

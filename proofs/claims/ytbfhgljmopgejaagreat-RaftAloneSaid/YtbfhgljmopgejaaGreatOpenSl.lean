/- A slice of numbers that came in, as a slice that is read. -/
import Derived.Test.YtbfhgljmopgejaaGreatApp
import Derived.ProofKit
import Derived.OpenShut
import Derived.ChangeSlices
namespace Go.Proofs.YtbfhgljmopgejaaGreat
open Go.ChangeShapes Go.WideShapes Go.ChangeAt Go.RowKit

theorem okWide_row {P : Program} {w : World} {base : Nat} {t e : TypeId} {v : Value} (ht : P.underlying t = some (.slice e)) (h : Value.okWide P w .any base t v) :
    v = .slice none 0 0 ∨ ∃ b o len cap, v = .slice (some ⟨b, o, none⟩) len cap ∧ len ≤ cap ∧ cap ≤ maxLen ∧ b < w.heap.size := by
  simp only [Value.okWide, ht, Cell.okWide] at h
  unfold Cell.ok at h
  rw [ht] at h
  cases v <;> try (simp at h; done)
  rename_i a len cap
  cases a with
  | none =>
    left
    rcases len with _ | len <;> rcases cap with _ | cap <;> first | rfl | (exact False.elim h)
  | some x =>
    right
    obtain ⟨h1, h2, _, h3, row, cells, h4, _⟩ := h
    obtain ⟨b, o, spot⟩ := x
    simp only at h3 h4
    subst h3
    refine ⟨b, o, len, cap, rfl, h1, ?_, ?_⟩
    · simp [IntKind.max, IntKind.bits, IntKind.signed] at h2
      unfold maxLen; omega
    · unfold World.shape? at h4
      rcases Nat.lt_or_ge b w.heap.size with h | h
      · exact h
      · simp [Array.getElem?_eq_none h] at h4

/-- What is known of a slice of numbers that came in. -/
def SlOk (k : IntKind) (w : World) (v : Value) (l : List Int) : Prop := Sl (fun n => .int k n) w v l ∧ ∀ n ∈ l, (Lit.int k n).wf = true

theorem open_sl {H : Type} {enc : TypeId × Value → H} {P : Program} {t e : TypeId} {k : IntKind} {W : World} {base : Nat} {v : Value} {d : DataW H} {p : List MemPlace}
    (ht : P.underlying t = some (.slice e)) (he : P.underlying e = some (.int k)) (hc : P.cellsOf e = 1) (hv : Value.okWide P W .any base t v)
    (h : DataW.Trod enc P W 0 (fun _ => true) true t v d p) : ∃ a len cap l, v = .slice a len cap ∧ SlOk k W (.slice a len cap) l := by
  rcases okWide_row ht hv with rfl | ⟨b, o, len, cap, rfl, h1, h2, h3⟩
  · exact ⟨none, 0, 0, [], rfl, Sl.nil _ _, by simp⟩
  · obtain ⟨fuel, hf⟩ := h
    rcases open_ints ht he hc hf with ⟨hcs, _⟩ | ⟨x, l, c, zs, hcs, _, hl, hm, hz, _, hcell, hwz⟩
    · simp [Value.cells] at hcs
    · simp [Value.cells] at hcs
      obtain ⟨rfl, rfl, rfl⟩ := hcs
      simp only [if_true] at hz
      have hlen : (zs.take len).length = len := by rw [List.length_take]; omega
      refine ⟨_, _, _, zs.take len, rfl, ⟨_, cap, by rw [hlen], by omega, h2, .inr ⟨b, o, rfl, h3, fun i c hi => ?_⟩⟩, fun n hn => hwz n (List.mem_of_mem_take hn)⟩
      rw [List.getElem?_take] at hi
      split at hi
      · have hiz := (List.getElem?_eq_some_iff.1 hi).1
        have := hcell i hiz
        rw [addr_add] at this
        rw [this, List.getD_eq_getElem?_getD, hi]
        rfl
      · cases hi

end Go.Proofs.YtbfhgljmopgejaaGreat

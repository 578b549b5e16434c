/- Rows of bytes that are read: as a text; a part of them. -/
import Derived.Test.YtbfhgljmopgejaaGreatOctW
import Derived.Test.YtbfhgljmopgejaaGreatBlk
import Derived.Laws.IdiomStrings
namespace Go.Proofs.YtbfhgljmopgejaaGreat
open Go.RowKit

/-- 'string(b)' of a slice of bytes that is read. -/
theorem sl_string {w : World} {a : Option Addr} {n cap : Nat} {l : List UInt8} (h : Sl u8v w (.slice a n cap) l) {src : TypeId} (hs : Tryz.prog.underlying src = some (.slice 5)) :
    (convert src 9 (.slice a n cap)).run Tryz.prog w = .ok (.string ⟨l.toArray⟩) w := by
  obtain ⟨a', cap', he, h1, h2, h3⟩ := h
  cases he
  rcases h3 with ⟨rfl, rfl⟩ | ⟨b, o, rfl, hb, hc⟩
  · have hl : l = [] := List.eq_nil_of_length_eq_zero (by omega)
    subst hl
    exact run_convert_bytes_nil w src 5 hs Tryz.underlying5 _ _ 9 Tryz.underlying9
  · refine run_convert_bytes_back w src 9 5 ⟨b, o, none⟩ cap l hs Tryz.underlying5 Tryz.underlying9 fun j hj => ?_
    rw [addr_add]
    exact hc j _ (List.getElem?_eq_getElem hj)

theorem Sl.take {α : Type} {enc : α → Value} {w : World} {a : Option Addr} {n cap : Nat} {l : List α} (h : Sl enc w (.slice a n cap) l) (k : Nat) (hk : k ≤ l.length) : Sl enc w (.slice a k cap) (l.take k) := by
  obtain ⟨a', cap', he, h1, h2, h3⟩ := h
  cases he
  have hl : (l.take k).length = k := by rw [List.length_take]; omega
  refine ⟨a, cap, by rw [hl], by omega, h2, ?_⟩
  rcases h3 with h3 | ⟨b, o, rfl, hb, hc⟩
  · exact .inl h3
  · refine .inr ⟨b, o, rfl, hb, fun i c hi => hc i c ?_⟩
    rw [List.getElem?_take] at hi
    split at hi
    · exact hi
    · cases hi

theorem Sl.drop {α : Type} {enc : α → Value} {w : World} {b o n cap : Nat} {l : List α} (h : Sl enc w (.slice (some ⟨b, o, none⟩) n cap) l) (k : Nat) (hk : k ≤ l.length) : Sl enc w (.slice (some ⟨b, o + k, none⟩) (n - k) (cap - k)) (l.drop k) := by
  obtain ⟨a', cap', he, h1, h2, h3⟩ := h
  cases he
  have hl : (l.drop k).length = l.length - k := List.length_drop
  refine ⟨_, _, by rw [hl], by omega, by omega, ?_⟩
  rcases h3 with h3 | ⟨b', o', he, hb, hc⟩
  · cases h3.1
  · cases he
    refine .inr ⟨b, o + k, rfl, hb, fun i c hi => ?_⟩
    rw [Nat.add_assoc]
    exact hc (k + i) c (by rw [List.getElem?_drop] at hi; exact hi)
theorem Sl.none_nil {α : Type} {enc : α → Value} {w : World} {n cap : Nat} {l : List α} (h : Sl enc w (.slice none n cap) l) : l = [] ∧ n = 0 ∧ cap = 0 := by
  obtain ⟨a', cap', he, h1, h2, h3⟩ := h
  cases he
  rcases h3 with ⟨_, rfl⟩ | ⟨b', o', he, _⟩
  · exact ⟨List.eq_nil_of_length_eq_zero (by omega), by omega, rfl⟩
  · cases he
theorem Sl.empty {α : Type} {enc : α → Value} {w : World} {b o : Nat} (hb : b < w.heap.size) : Sl enc w (.slice (some ⟨b, o, none⟩) 0 0) ([] : List α) :=
  ⟨_, 0, rfl, by simp, Nat.zero_le _, .inr ⟨b, o, rfl, hb, fun i c hi => by simp at hi⟩⟩
theorem Sl.some_row {α : Type} {enc : α → Value} {w : World} {x : Addr} {n cap : Nat} {l : List α} (h : Sl enc w (.slice (some x) n cap) l) : ∃ b o, x = ⟨b, o, none⟩ ∧ b < w.heap.size ∧ n = l.length ∧ n ≤ cap ∧ cap ≤ maxLen := by
  obtain ⟨a', cap', he, h1, h2, h3⟩ := h
  cases he
  rcases h3 with ⟨h, _⟩ | ⟨b', o', he, hb, _⟩
  · cases h
  · cases he; exact ⟨b', o', rfl, hb, rfl, h1, h2⟩

end Go.Proofs.YtbfhgljmopgejaaGreat

/- The statement SessionReads: the walk, of what comes in. -/
import Derived.Test.YtckmenongeklpaaSessR
import Derived.Test.YtckmenongeklpaaOpenSl
namespace Go.Proofs.Ytckmenongeklpaa
open Go.RowKit

theorem sl_u8 {W : World} {v : Value} {l : List Int} (h : SlOk .u8 W v l) : Sl u8v W v (l.map fun x => UInt8.ofNat x.toNat) := by
  obtain ⟨⟨a, cap, he, h1, h2, h3⟩, hw⟩ := h
  refine ⟨a, cap, by rw [List.length_map]; exact he, by rw [List.length_map]; exact h1, h2, ?_⟩
  rcases h3 with h3 | ⟨b, o, e, hb, hc⟩
  · exact .inl h3
  · refine .inr ⟨b, o, e, hb, fun i c hi => ?_⟩
    rw [List.getElem?_map] at hi
    cases hx : l[i]? with
    | none => rw [hx] at hi; cases hi
    | some x =>
      rw [hx] at hi
      cases hi
      have h4 := hc i x hx
      have h5 := hw x (List.mem_of_getElem? hx)
      have h6 : (0 : Int) ≤ x ∧ x ≤ 255 := by simpa [Lit.wf, IntKind.min, IntKind.max, IntKind.signed, IntKind.bits] using h5
      rw [h4]
      unfold u8v
      have h7 : (UInt8.ofNat x.toNat).toNat = x.toNat := by rw [UInt8.toNat_ofNat']; omega
      rw [h7, Int.toNat_of_nonneg h6.1]

theorem reads_card (a : Option Addr) (n cap : Nat) (l : List Int) (W : World) (h : SlOk .u8 W (.slice a n cap) l) :
    Calls Try.prog 3 #[.slice a n cap] W (RetB (.bool true) W) :=
  reads_walk W a n cap _ (sl_u8 h)

end Go.Proofs.Ytckmenongeklpaa

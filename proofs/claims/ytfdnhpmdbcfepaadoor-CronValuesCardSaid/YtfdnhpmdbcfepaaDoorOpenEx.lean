/- An expression that came in, opened. -/
import Derived.Test.YtfdnhpmdbcfepaaDoorCronA
import Derived.ProofKit
import Derived.OpenShut
import Derived.ChangeArms
namespace Go.Proofs.YtfdnhpmdbcfepaaDoor
open Go.ChangeShapes Go.WideShapes Go.ChangeAt Go.RowKit

set_option maxRecDepth 100000 in
theorem open_ex {H : Type} {enc : TypeId × Value → H} {W : World} {base : Nat} {v : Value} {d : DataW H} {p : List MemPlace}
    (hv : Value.okWide Tryd.prog W .any base 25 v) (h : DataW.Trod enc Tryd.prog W 0 (fun _ => true) true 25 v d p) : ∃ e : Ex, v = e.v ∧ e.Ok := by
  obtain ⟨⟨l⟩, rfl, hcs⟩ := okWide_struct Tryd.underlying25 hv
  obtain ⟨fuel, hf⟩ := h
  obtain ⟨xs, n, _, _, hl, hlen, hfld⟩ := DataW.trod_struct Tryd.underlying25 hf
  have hc7 : Tryd.prog.cellsOf 25 = 7 := by kernel_rfl
  have hc1 : Tryd.prog.cellsOf 23 = 1 := by kernel_rfl
  have hcb : Tryd.prog.cellsOf 4 = 1 := by kernel_rfl
  rw [hc7] at hcs
  have hl7 : l.length = 7 := by simpa using hcs
  match l, hl7 with
  | [c0, c1, c2, c3, c4, c5, c6], _ =>
    match xs, hlen with
    | [y0, y1, y2, y3, y4, y5, y6], _ =>
      have g0 := hfld 0 _ rfl
      have g1 := hfld 1 _ rfl
      have g2 := hfld 2 _ rfl
      have g3 := hfld 3 _ rfl
      have g4 := hfld 4 _ rfl
      have g5 := hfld 5 _ rfl
      have g6 := hfld 6 _ rfl
      simp only [hc1, hcb, Value.cells] at g0 g1 g2 g3 g4 g5 g6
      simp at g0 g1 g2 g3 g4 g5 g6
      obtain ⟨z0, e0, _, w0⟩ := DataW.trod_int Tryd.underlying23 g0
      obtain ⟨z1, e1, _, w1⟩ := DataW.trod_int Tryd.underlying23 g1
      obtain ⟨z2, e2, _, w2⟩ := DataW.trod_int Tryd.underlying23 g2
      obtain ⟨z3, e3, _, w3⟩ := DataW.trod_int Tryd.underlying23 g3
      obtain ⟨z4, e4, _, w4⟩ := DataW.trod_int Tryd.underlying23 g4
      obtain ⟨b5, e5, _⟩ := DataW.trod_bool Tryd.underlying4 g5
      obtain ⟨b6, e6, _⟩ := DataW.trod_bool Tryd.underlying4 g6
      have e0 : c0 = .int .u64 z0 := by simpa [hc1] using e0
      have e1 : c1 = .int .u64 z1 := by simpa [hc1] using e1
      have e2 : c2 = .int .u64 z2 := by simpa [hc1] using e2
      have e3 : c3 = .int .u64 z3 := by simpa [hc1] using e3
      have e4 : c4 = .int .u64 z4 := by simpa [hc1] using e4
      have e5 : c5 = .bool b5 := by simpa [hcb] using e5
      have e6 : c6 = .bool b6 := by simpa [hcb] using e6
      have hw : ∀ z : Int, (Lit.int .u64 z).wf = true → 0 ≤ z ∧ z < 18446744073709551616 := fun z hz => by
        simp [Lit.wf, IntKind.min, IntKind.max, IntKind.bits, IntKind.signed] at hz; omega
      have a0 := hw z0 w0
      have a1 := hw z1 w1
      have a2 := hw z2 w2
      have a3 := hw z3 w3
      have a4 := hw z4 w4
      refine ⟨⟨z0.toNat, z1.toNat, z2.toNat, z3.toNat, z4.toNat, b5, b6⟩, ?_, ?_⟩
      · unfold Ex.v Ex.cells
        simp only
        rw [e0, e1, e2, e3, e4, e5, e6, Int.toNat_of_nonneg a0.1, Int.toNat_of_nonneg a1.1, Int.toNat_of_nonneg a2.1, Int.toNat_of_nonneg a3.1, Int.toNat_of_nonneg a4.1]
      · exact ⟨by simp only; omega, by simp only; omega, by simp only; omega, by simp only; omega, by simp only; omega⟩

end Go.Proofs.YtfdnhpmdbcfepaaDoor

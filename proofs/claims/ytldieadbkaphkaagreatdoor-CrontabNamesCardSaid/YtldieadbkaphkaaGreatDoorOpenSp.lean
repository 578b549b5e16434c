/- A spec that came in, opened. -/
import Derived.Test.YtldieadbkaphkaaGreatDoorSpecC
import Derived.Test.YtldieadbkaphkaaGreatDoorOpenSl
import Derived.ChangeArms
import Derived.Deep.Slices
import Derived.ShutString
namespace Go.Proofs.YtldieadbkaphkaaGreatDoor
open Go.ChangeShapes Go.WideShapes Go.ChangeAt Go.RowKit Go.Deep

theorem strs_list {W : World} {b o : Nat} : ∀ {len : Nat}, (∀ i, i < len → ∃ s : ByteArray, W.cell? ⟨b, o + i, none⟩ = some (.string s) ∧ s.size ≤ maxLen) →
    ∃ ls : List ByteArray, ls.length = len ∧ ∀ i s, ls[i]? = some s → W.cell? ⟨b, o + i, none⟩ = some (.string s) ∧ s.size ≤ maxLen
  | 0, _ => ⟨[], rfl, fun i s h => by simp at h⟩
  | k + 1, each => by
    obtain ⟨ls, e1, e2⟩ := strs_list (len := k) (fun i hi => each i (by omega))
    obtain ⟨s, e3, e4⟩ := each k (by omega)
    refine ⟨ls ++ [s], by simp [e1], fun i s' hi => ?_⟩
    rcases Nat.lt_or_ge i ls.length with hlt | hge
    · rw [List.getElem?_append_left hlt] at hi; exact e2 i s' hi
    · have hi0 := (List.getElem?_eq_some_iff.1 hi).1
      simp at hi0
      obtain rfl : i = k := by omega
      rw [List.getElem?_append_right hge, e1, Nat.sub_self] at hi
      simp at hi
      subst hi
      exact ⟨e3, e4⟩

set_option maxRecDepth 100000 in
theorem open_strs {H : Type} {enc : TypeId × Value → H} {W : World} {base n : Nat} {c : Value} {x : DataW H × List MemPlace} (hv : Value.okWide Tryz.prog W .any base 22 c)
    (h : DataW.trod enc Tryz.prog W 0 (fun _ => true) true n 22 [c] = some x) : ∃ a cap l, c = .slice a l.length cap ∧ Sl strv W (.slice a l.length cap) l ∧ ∀ d ∈ l, d.size ≤ maxLen := by
  have hc1 : Tryz.prog.cellsOf 9 = 1 := by kernel_rfl
  rcases okWide_row Tryz.underlying22 hv with rfl | ⟨b, o, len, cap, rfl, h1, h2, h3⟩
  · exact ⟨none, 0, [], rfl, Sl.nil _ _, fun d hd => (by cases hd)⟩
  · rcases open_slice1 Tryz.underlying22 hc1 h with ⟨hcs, _⟩ | ⟨a, l, cp, m, n', V, D, Pl, hcs, _, hl, hm, hmm, _, hx⟩
    · simp at hcs
    · simp at hcs
      obtain ⟨rfl, rfl, rfl⟩ := hcs
      have hlm : len ≤ m := by rw [hmm]; split <;> omega
      have each : ∀ i, i < len → ∃ s : ByteArray, W.cell? ⟨b, o + i, none⟩ = some (.string s) ∧ s.size ≤ maxLen := fun i hi => by
        obtain ⟨g1, g2⟩ := hx i (by omega)
        obtain ⟨s, hs, _, ws⟩ := DataW.trod_string Tryz.underlying9 g2
        simp at hs
        rw [addr_add, hs] at g1
        exact ⟨s, g1, ws⟩
      obtain ⟨ls, e1, e2⟩ := strs_list each
      refine ⟨_, cap, ls, by rw [e1], ⟨_, cap, rfl, by omega, h2, .inr ⟨b, o, rfl, h3, fun i s hi => (e2 i s hi).1⟩⟩, fun d hd => ?_⟩
      obtain ⟨i, hi, rfl⟩ := List.getElem_of_mem hd
      exact (e2 i _ (List.getElem?_eq_getElem hi)).2

theorem spec_types : Tryz.prog.cellTypes Tryz.prog.depth 24 = some [9, 9, 3, 2, 22, 2, 2, 3, 2, 9, 3] := by kernel_rfl

set_option maxRecDepth 100000 in
theorem open_spec {H : Type} {enc : TypeId × Value → H} {W : World} {base : Nat} {v : Value} {d : DataW H} {p : List MemPlace}
    (hv : Value.okWide Tryz.prog W .any base 24 v) (h : DataW.Trod enc Tryz.prog W 0 (fun _ => true) true 24 v d p) : ∃ s a n cap, v = s.v (.slice a n cap) ∧ SpAt W s a n cap := by
  have hv' := hv
  obtain ⟨⟨l⟩, rfl, hcs⟩ := okWide_struct Tryz.underlying24 hv
  obtain ⟨fuel, hf⟩ := h
  obtain ⟨xs, n, _, _, hl, hlen, hfld⟩ := DataW.trod_struct Tryz.underlying24 hf
  have hc11 : Tryz.prog.cellsOf 24 = 11 := by kernel_rfl
  have hcS : Tryz.prog.cellsOf 9 = 1 := by kernel_rfl
  have hcI : Tryz.prog.cellsOf 3 = 1 := by kernel_rfl
  have hcJ : Tryz.prog.cellsOf 2 = 1 := by kernel_rfl
  have hcR : Tryz.prog.cellsOf 22 = 1 := by kernel_rfl
  rw [hc11] at hcs
  have hl11 : l.length = 11 := by simpa using hcs
  match l, hl11 with
  | [c0, c1, c2, c3, c4, c5, c6, c7, c8, c9, c10], _ =>
    match xs, hlen with
    | [y0, y1, y2, y3, y4, y5, y6, y7, y8, y9, y10], _ =>
      have hv4 : Value.okWide Tryz.prog W .any base 22 c4 := by
        simp only [Value.okWide, Tryz.underlying24] at hv'
        obtain ⟨cs, hcs', _, hrow⟩ := hv'
        obtain ⟨ts, hts, _, hall⟩ := hrow
        rw [spec_types] at hts
        cases hts
        cases hcs'
        have h4 := hall 4 c4 rfl
        simp only [Value.okWide, Tryz.underlying22]
        simpa using h4
      have g0 := hfld 0 _ rfl
      have g1 := hfld 1 _ rfl
      have g2 := hfld 2 _ rfl
      have g3 := hfld 3 _ rfl
      have g4 := hfld 4 _ rfl
      have g5 := hfld 5 _ rfl
      have g6 := hfld 6 _ rfl
      have g7 := hfld 7 _ rfl
      have g8 := hfld 8 _ rfl
      have g9 := hfld 9 _ rfl
      have g10 := hfld 10 _ rfl
      simp only [hcS, hcI, hcJ, hcR, Value.cells] at g0 g1 g2 g3 g4 g5 g6 g7 g8 g9 g10
      simp at g0 g1 g2 g3 g4 g5 g6 g7 g8 g9 g10
      obtain ⟨z0, e0, _, w0⟩ := DataW.trod_string Tryz.underlying9 g0
      have e0 : c0 = .string z0 := by simpa [hcS] using e0
      obtain ⟨z1, e1, _, w1⟩ := DataW.trod_string Tryz.underlying9 g1
      have e1 : c1 = .string z1 := by simpa [hcS] using e1
      obtain ⟨z2, e2, _, w2⟩ := DataW.trod_int Tryz.underlying3 g2
      have e2 : c2 = .int .i64 z2 := by simpa [hcI] using e2
      obtain ⟨z3, e3, _, w3⟩ := DataW.trod_int Tryz.underlying2 g3
      have e3 : c3 = .int .i64 z3 := by simpa [hcJ] using e3
      obtain ⟨a4, k4, l4, e4, s4, w4⟩ := open_strs hv4 (by simpa [hcR] using g4)
      obtain ⟨z5, e5, _, w5⟩ := DataW.trod_int Tryz.underlying2 g5
      have e5 : c5 = .int .i64 z5 := by simpa [hcJ] using e5
      obtain ⟨z6, e6, _, w6⟩ := DataW.trod_int Tryz.underlying2 g6
      have e6 : c6 = .int .i64 z6 := by simpa [hcJ] using e6
      obtain ⟨z7, e7, _, w7⟩ := DataW.trod_int Tryz.underlying3 g7
      have e7 : c7 = .int .i64 z7 := by simpa [hcI] using e7
      obtain ⟨z8, e8, _, w8⟩ := DataW.trod_int Tryz.underlying2 g8
      have e8 : c8 = .int .i64 z8 := by simpa [hcJ] using e8
      obtain ⟨z9, e9, _, w9⟩ := DataW.trod_string Tryz.underlying9 g9
      have e9 : c9 = .string z9 := by simpa [hcS] using e9
      obtain ⟨z10, e10, _, w10⟩ := DataW.trod_int Tryz.underlying3 g10
      have e10 : c10 = .int .i64 z10 := by simpa [hcI] using e10
      have hw : ∀ z : Int, (Lit.int .i64 z).wf = true → i64B z := fun z hz => by
        simp [Lit.wf, IntKind.min, IntKind.max, IntKind.bits, IntKind.signed] at hz; unfold i64B; omega
      refine ⟨⟨z0, z1, z2, z3, l4, z5, z6, z7, z8, z9, z10⟩, a4, l4.length, k4, ?_, ⟨⟨w0, w1, w9, w4, hw _ w2, hw _ w3, hw _ w5, hw _ w6, hw _ w7, hw _ w8, hw _ w10⟩, s4⟩⟩
      unfold Sp.v Sp.cells
      simp only
      rw [e0, e1, e2, e3, e4, e5, e6, e7, e8, e9, e10]

end Go.Proofs.YtldieadbkaphkaaGreatDoor

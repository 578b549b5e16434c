/- The library's table of trailing zeros, out of what a row lists. -/
import Derived.Test.YtfdnhpmdbcfepaaDoorTextW
import Derived.Lib.LaidTab
import Derived.MakeChecks
namespace Go.Proofs.YtfdnhpmdbcfepaaDoor

theorem tabL_of {x : String × DataW Unit} {rest : List (String × DataW Unit)} {W : World}
    (h : laidMet Tryd.prog (x :: ("math/bits.deBruijn64tab", Lib.tabData .u8 (Lib.deBruijn64tab.map fun n : Nat => (n : Int))) :: rest) W) : TabL W := by
  obtain ⟨ps, ⟨g0, t0, cs0, f0, p0, q0, _, _, _, _, ⟨g', t', cs, fuel, p, q, hg', ht', hvar, hd, _, _⟩, _⟩, _⟩ := h
  have hg : Tryd.prog.globalNamed "math/bits.deBruijn64tab" = some 0 := by kernel_rfl
  have hty : (Tryd.prog.globals[0]?).map (·.type) = some 109 := by kernel_rfl
  have hce : Tryd.prog.cellsOf 5 = 1 := by kernel_rfl
  have hct : Tryd.prog.cellsOf 109 = 64 := by kernel_rfl
  obtain rfl := Option.some.inj (hg.symm.trans hg')
  obtain rfl := Option.some.inj (hty.symm.trans ht')
  have hcs := Lib.cells_of_tab Tryd.underlying109 Tryd.underlying5 hce hct hd
  intro j hj
  have := World.var?_cell hg hvar j
  rw [this, ← Array.getElem?_toList, hcs]
  simp [hj]

end Go.Proofs.YtfdnhpmdbcfepaaDoor

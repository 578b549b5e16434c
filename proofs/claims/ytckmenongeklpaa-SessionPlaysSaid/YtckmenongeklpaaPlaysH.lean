/- The statement SessionPlays: the walk, whatever the length. -/
import Derived.Test.YtckmenongeklpaaPlaysG
namespace Go.Proofs.Ytckmenongeklpaa
open Go.RowKit Go.Maps Go.ChangeMaps

set_option maxRecDepth 100000 in
theorem plays_long (w : World) (a : Option Addr) (len cap : Nat) (hl80 : ¬ len ≤ 80) :
    Calls Try.prog 4 #[.slice a len cap] w (RetB (.bool true) w) := by
  have hbig : (80 : Int) < (len : Int) := by omega
  clear hl80
  go_enter Try.func4, Try.ntmps4
  go_wp2_with fail
  refine (lives20 _).mono ?_
  rintro e w1 ⟨rfl, hb1⟩
  have HB1 := Lib.hid hb1
  clear hb1
  go_wp2_with fail
  refine (lives20 _).mono ?_
  rintro e w2 ⟨rfl, hb2⟩
  have HB2 := Lib.hid (HB1.out.trans (hb2.mono HB1.out.size))
  clear hb2
  go_wp2_with fail
  go_ret
  exact RetB.mk rfl HB2.out

theorem plays_walk20 (a : Option Addr) (len cap : Nat) (xs : Nat → ActV) (w : World) (hr : ActRow w a len cap xs) :
    Calls Try.prog 4 #[.slice a len cap] w (RetB (.bool true) w) := by
  by_cases h : len ≤ 80
  · exact plays_main w a len cap xs hr h
  · exact plays_long w a len cap h

end Go.Proofs.Ytckmenongeklpaa

/- The statement RaftMatches: the walk, whole. -/
import Derived.Test.YtdjooojpcepleaaGreatRuV
import Derived.Test.YtdjooojpcepleaaGreatRsM48
namespace Go.Proofs.YtdjooojpcepleaaGreat
open Go.RowKit
theorem matches_all (size : Int) (a : Option Addr) (len cap : Nat) (xs : Nat → StpV) (w : World) (h0 : (Lit.int .u8 size).wf = true) (hr : StpRow w a len cap xs) :
  Calls Tryz.prog 3 #[.int .u8 size, .slice a len cap] w (RetB (.bool true) w) :=
 matches_walk begin_ok do_ok size a len cap xs w h0 hr
end Go.Proofs.YtdjooojpcepleaaGreat

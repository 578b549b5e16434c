/- The law's do, whole. -/
import Derived.Test.YtdjooojpcepleaaGreatRsM43
import Derived.Test.YtdjooojpcepleaaGreatRsM44
import Derived.Test.YtdjooojpcepleaaGreatRsM45
import Derived.Test.YtdjooojpcepleaaGreatRsM46
import Derived.Test.YtdjooojpcepleaaGreatRsM47
import Derived.Deep.DeepCutAuto
import Derived.Deep.CutBlock
import Derived.Test.YtdjooojpcepleaaGreatRsM41
import Derived.Test.YtdjooojpcepleaaGreatRsM42

namespace Go.Proofs.YtdjooojpcepleaaGreat
section
open Go.RowKit
theorem do_any (w : World) (M : Nat → Prop) (c : Cl) (h : ClAt w M c) (C0 : List Int) (g : Gh En) (n N : Nat) (hnN : N = n + 1) (ok : ClOk C0 g n c) (hN6 : N ≤ 1000) (hnet : c.net.length ≤ 200) (hout : ∀ i, i < c.s → (c.x i).out = []) (kind node draw : Int) (hd0 : 0 ≤ draw) (hd1 : draw ≤ 18446744073709551615) (hn0 : -9223372036854775808 ≤ node) (hn1 : node ≤ 9223372036854775807) :
  Calls Tryz.prog 9 #[.pointer (some ⟨c.wd, 0, none⟩), .agg #[.int .i64 kind, .int .i64 node, .int .u64 draw]] w (DoR C0 g N w M c) := by
 by_cases hL : c.net.length = 0
 ·exact do_N w M c h C0 g n N hnN ok hN6 hnet hout kind node draw hd0 hd1 hn0 hn1 hL (by omega)
 ·by_cases h4 : kind = 4
  ·exact do_4 w M c h C0 g n N hnN ok hN6 hnet hout kind node draw hd0 hd1 hn0 hn1 hL h4
  ·by_cases h5 : kind = 5
   ·exact do_5 w M c h C0 g n N hnN ok hN6 hnet hout kind node draw hd0 hd1 hn0 hn1 hL h5
   ·by_cases hm : 1 ≤ kind ∧ kind ≤ 3
    ·exact do_m w M c h C0 g n N hnN ok hN6 hnet hout kind node draw hd0 hd1 hn0 hn1 hL hm
    ·exact do_S w M c h C0 g n N hnN ok hN6 hnet hout kind node draw hd0 hd1 hn0 hn1 hL (by omega)
end
section
open Go.RowKit
theorem begin_ok : BeginOk := fun w s h1 h7 => begin_any w s h1 h7
theorem do_ok : DoOk := fun w M c h C0 g n N hnN ok hN6 hnet hout kind node draw hd0 hd1 hn0 hn1 => do_any w M c h C0 g n N hnN ok hN6 hnet hout kind node draw hd0 hd1 hn0 hn1
end
end Go.Proofs.YtdjooojpcepleaaGreat

/- The statement WorkerPlays: its walk, whole. -/
import Derived.Test.YtebkdkoamiefjaaWorkerQ
import Derived.Test.YtebkdkoamiefjaaWorkerP
namespace Go.Proofs.Ytebkdkoamiefjaa
open Go.RowKit

theorem plays_walk (name : ByteArray) (client : Int) (a : Option Addr) (len cap : Nat) (xs : Nat → ActV) (w : World) (h0 : name.size ≤ maxLen) (_ : (Lit.int .u64 client).wf = true) (hrow : ActRow w a len cap xs) :
    Calls Try.prog 8 #[.string name, .int .u64 client, .slice a len cap] w (RetB (.bool true) w) := by
  have hl := hrow.1
  unfold maxLen at hl h0
  by_cases hs : name.size ≤ 60
  · by_cases hz : len ≤ 80
    · cases hn : nameB name
      · exact plays_name name client a len cap w hs hz hn
      · cases hc : (client == 0)
        · exact plays_main name client a len cap xs w hs hz hn hc hrow
        · exact plays_client name client a len cap w hs hz hn hc
    · exact plays_long name client a len cap w (.inr ⟨hs, by omega⟩) (by omega) (by omega)
  · exact plays_long name client a len cap w (.inl (by omega)) (by omega) (by omega)

end Go.Proofs.Ytebkdkoamiefjaa

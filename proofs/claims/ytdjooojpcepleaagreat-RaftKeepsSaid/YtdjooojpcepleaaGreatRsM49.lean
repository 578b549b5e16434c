/- The contracts of a run: safe. -/
import Derived.Test.YtdjooojpcepleaaGreatRsM41
import Derived.Test.YtdjooojpcepleaaGreatRsM36

namespace Go.Proofs.YtdjooojpcepleaaGreat
open Go.RowKit Go.Maps Go.ChangeMaps
section
variable {s b k : Nat} {w0 w w' : World} {M M' : Nat → Prop} {c c' : Cl} {g g' : Gh En} {L : List (Int × Int)} {D : List (Int × Ent)}
theorem run_safe (h : RunAt s w0 b k w M c g L D) (hk : k ≤ 1000) :
  Calls Tryz.prog 12 #[.pointer (some ⟨b, 0, none⟩)] w fun e w' => e = .returned (.bool true) ∧ ∃ L' D', RunAt s w0 b k w' M c g L' D' := by
 have := safe_any w M c h.at_ (memS s) g k h.ok hk L D h.ag h.agok
 rw [h.wd] at this
 exact this.mono fun e w' hd => h.safe_ hd
end
end Go.Proofs.YtdjooojpcepleaaGreat

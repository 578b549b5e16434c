/- Package octet: Read: a Reader over a copy of the bytes. -/
import Derived.Test.YtbfhgljmopgejaaGreatOctV
import Derived.Test.YtbfhgljmopgejaaGreatOctT
namespace Go.Proofs.YtbfhgljmopgejaaGreat
open Go.RowKit

theorem read_any (w : World) (ad : Option Addr) (n cp : Nat) (l : List UInt8) (hu : Sl u8v w (.slice ad n cp) l) (hl : l.length ≤ 70368744177664) :
    Calls Tryz.prog 68 #[.slice ad n cp] w fun e w' => ∃ p, e = .returned (.pointer (some ⟨p, 0, none⟩)) ∧ w.heap.size ≤ p ∧ RdAt w' p ⟨l, 0⟩ ∧ Below w.heap.size w w' := by
  have hcl := clone_any w ad n cp l hu hl
  clear hu hl
  go_enter Tryz.func68, Tryz.ntmps68
  go_wp2_with fail
  refine hcl.mono ?_
  rintro e w1 ⟨u, rfl, hb, hs, hown, hr⟩
  obtain ⟨ad', cp', rfl, _⟩ := id hs
  have HS := Lib.hid hs
  clear hs hown hcl
  go_wp2_with fail
  go_ret
  exact ⟨w1.heap.size, rfl, hb.size, ⟨_, heap_new _ _, fun k hk => HS.out.row_lt k hk, HS.out.alloc _, fun h => absurd rfl h⟩, hb.alloc hb.size _⟩

end Go.Proofs.YtbfhgljmopgejaaGreat

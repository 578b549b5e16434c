/- slices.Sort at []uint64: rows of at most twelve. -/
import Derived.Test.YtbfhgljmopgejaaGreatSortA
namespace Go.Proofs.YtbfhgljmopgejaaGreat
open Go.RowKit Go.Sort

/-- How many bits a small number has. -/
def lenT (n : Nat) : Nat := if n = 0 then 0 else if n < 2 then 1 else if n < 4 then 2 else if n < 8 then 3 else if n < 16 then 4 else 5

set_option maxRecDepth 100000 in
theorem len_small (n : Nat) (hn : n ≤ 16) (w : World) : Calls Tryz.prog 87 #[.int .u64 n] w (Ret (.int .i64 (lenT n)) w) := by
  rcases n with _ | _ | _ | _ | _ | _ | _ | _ | _ | _ | _ | _ | _ | _ | _ | _ | _ | n
  rotate_right
  · omega
  all_goals
    clear hn
    go_enter Tryz.func87, Tryz.ntmps87
    go_wp2_with go_in
    go_ret
    exact Ret.mk (by kernel_rfl)

set_option maxRecDepth 100000 in
theorem sort_few (w : World) (blk cap : Nat) (d : Array Int) (hH : Holds u64v w blk 0 d) (hd : d.size ≤ 12) :
    Calls Tryz.prog 79 #[.slice (some ⟨blk, 0, none⟩) d.size cap] w (Sorted w blk (insertionSort ltInt d 0 d.size)) := by
  have hins := ins_any w blk cap d 0 d.size hH (by omega) (by omega) (by omega)
  have hlen := fun w => len_small d.size (by omega) w
  have hp : Calls Tryz.prog 86 #[.slice (some ⟨blk, 0, none⟩) d.size cap, .int .i64 0, .int .i64 d.size, .int .i64 (lenT d.size)] w (Sorted w blk (insertionSort ltInt d 0 d.size)) := by
    clear hH hlen
    generalize lenT d.size = bl
    go_enter Tryz.func86, Tryz.ntmps86
    go_wp2
    go_loopw [1, 2, 3, 8, 9] (fun a b l x y wr => a = .int .i64 0 ∧ b = .int .i64 d.size ∧ l = .int .i64 bl ∧ x = .bool true ∧ y = .bool true ∧ w = wr) (fun _ _ _ _ _ _ => 0)
    case atStart => exact ⟨rfl, rfl, rfl, rfl, rfl, rfl⟩
    case round =>
      obtain ⟨rfl, rfl, rfl, rfl, rfl, rfl⟩ := hrel
      go_wp2_with (go_at_call 90; refine hins.mono ?_; rintro e w' ⟨rfl, hs⟩)
      go_end0
      exact ⟨rfl, hs⟩
  clear hH hins
  go_enter Tryz.func79, Tryz.ntmps79
  go_wp2_with (first | (go_at_call 87; refine (hlen _).mono ?_; rintro e w' ⟨rfl, rfl⟩) | (go_at_call 86; refine hp.mono ?_; rintro e w' ⟨rfl, hs⟩))
  go_end0
  exact ⟨rfl, hs⟩

end Go.Proofs.YtbfhgljmopgejaaGreat

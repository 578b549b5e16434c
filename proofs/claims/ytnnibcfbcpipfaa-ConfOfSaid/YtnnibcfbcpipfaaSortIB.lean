/- slices.Sort at []int: rows of at most twelve. -/
import Derived.Test.YtnnibcfbcpipfaaSortIA
namespace Go.Proofs.Ytnnibcfbcpipfaa
open Go.RowKit Go.Sort

set_option maxRecDepth 100000 in
theorem sort_fewI (w : World) (blk cap : Nat) (d : Array Int) (hH : Holds intv w blk 0 d) (hd : d.size ≤ 12) :
    Calls Try.prog 53 #[.slice (some ⟨blk, 0, none⟩) d.size cap] w (SortedI w blk (insertionSort ltInt d 0 d.size)) := by
  have hins := ins_anyI w blk cap d 0 d.size hH (by omega) (by omega) (by omega)
  have hlen := fun w => len_small d.size (by omega) w
  have hp : Calls Try.prog 96 #[.slice (some ⟨blk, 0, none⟩) d.size cap, .int .i64 0, .int .i64 d.size, .int .i64 (lenT d.size)] w (SortedI w blk (insertionSort ltInt d 0 d.size)) := by
    clear hH hlen
    generalize lenT d.size = bl
    go_enter Try.func96, Try.ntmps96
    go_wp2
    go_loopw [1, 2, 3, 8, 9] (fun a b l x y wr => a = .int .i64 0 ∧ b = .int .i64 d.size ∧ l = .int .i64 bl ∧ x = .bool true ∧ y = .bool true ∧ w = wr) (fun _ _ _ _ _ _ => 0)
    case atStart => exact ⟨rfl, rfl, rfl, rfl, rfl, rfl⟩
    case round =>
      obtain ⟨rfl, rfl, rfl, rfl, rfl, rfl⟩ := hrel
      go_wp2_with (go_at_call 138; refine hins.mono ?_; rintro e w' ⟨rfl, hs⟩)
      go_end0
      exact ⟨rfl, hs⟩
  clear hH hins
  go_enter Try.func53, Try.ntmps53
  go_wp2_with (first | (go_at_call 91; refine (hlen _).mono ?_; rintro e w' ⟨rfl, rfl⟩) | (go_at_call 96; refine hp.mono ?_; rintro e w' ⟨rfl, hs⟩))
  go_end0
  exact ⟨rfl, hs⟩

end Go.Proofs.Ytnnibcfbcpipfaa

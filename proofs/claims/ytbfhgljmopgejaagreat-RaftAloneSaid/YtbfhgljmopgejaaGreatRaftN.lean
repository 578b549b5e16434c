/- The statement RaftAlone: the chapter's example. -/
import Derived.Test.YtbfhgljmopgejaaGreatRaftM
namespace Go.Proofs.YtbfhgljmopgejaaGreat
open Go.RowKit Go.Sort

theorem sl_single (w : World) (n : Int) : Sl intv (w.alloc (.cells #[.int .i64 n] 3)) (.slice (some ⟨w.heap.size, 0, none⟩) 1 1) [n] := by
  refine ⟨_, 1, rfl, by simp, by decide, .inr ⟨w.heap.size, 0, rfl, by simp, fun i c hi => ?_⟩⟩
  cases i with
  | zero =>
    simp at hi
    subst hi
    exact blk_cell (heap_new _ _) 0 rfl
  | succ i => simp at hi

set_option maxRecDepth 100000 in
set_option maxHeartbeats 1600000 in
theorem lives26 (w : World) : Calls Tryz.prog 4 #[] w (RetB (.bool true) w) := by
  obtain ⟨W, hW⟩ : ∃ W, W = w.alloc (.cells #[.int .i64 1] 3) := ⟨_, rfl⟩
  have HS : Hid (Sl intv W (.slice (some ⟨w.heap.size, 0, none⟩) 1 1) [1]) := Lib.hid (by rw [hW]; exact sl_single w 1)
  have HB : Hid (Below w.heap.size w W) := Lib.hid (by rw [hW]; exact (Below.refl _ _).alloc (Nat.le_refl _) _)
  go_enter Tryz.func4, Tryz.ntmps4
  go_wp2_with fail
  rw [← hW]
  clear hW
  refine (new_lone W 1 2 _ 1 HS.out (by omega) (by omega) (by omega) (by omega)).mono ?_
  rintro e w2 ⟨p, mv, lg, imv, rfl, h2⟩
  have H2 := Lib.hid h2
  clear h2
  go_wp2_with fail
  refine (tick_wait H2.out rfl ⟨by show (0:Int) ≤ 0; omega, by show (0:Int) < _; omega⟩ ⟨by show (1:Int) ≤ 2; omega, by show (2:Int) ≤ _; omega⟩ (by show (0:Int) ≤ 0; omega) 0 (by omega) (by show (0:Int) + 1 < 2 + 0 % 2; omega)).mono ?_
  rintro e w3 ⟨rfl, h3, _⟩
  have H3 := Lib.hid h3
  clear h3
  go_wp2_with fail
  refine (role_lone H3.out).mono ?_
  rintro e w' ⟨rfl, rfl⟩
  go_wp2_with fail
  refine (tick_lead H3.out rfl ⟨by show (0:Int) ≤ 0; omega, by show (0:Int) < _; omega⟩ ⟨by show (1:Int) ≤ 2; omega, by show (2:Int) ≤ _; omega⟩ (by show (0:Int) ≤ 0 + 1; omega) 0 (by omega) (by show (0:Int) + 1 + 1 = 2 + 0 % 2; omega) rfl rfl).mono ?_
  rintro e w4 ⟨rfl, tb, tm, r, v, h4⟩
  have H4 := Lib.hid h4.lone
  clear h4
  go_wp2_with fail
  refine (role_lone H4.out).mono ?_
  rintro e w' ⟨rfl, rfl⟩
  go_wp2_with fail
  refine (commit_lone H4.out).mono ?_
  rintro e w' ⟨rfl, rfl⟩
  go_wp2_with fail
  refine (last_lone H4.out 1 rfl).mono ?_
  rintro e w5 ⟨rfl, hb5⟩
  have HB5 := Lib.hid (HB.out.trans ((H4.out.bel.trans (hb5.mono H4.out.bel.size)).mono HB.out.size))
  clear hb5
  go_wp2_with fail
  go_ret
  exact RetB.mk rfl HB5.out

end Go.Proofs.YtbfhgljmopgejaaGreat

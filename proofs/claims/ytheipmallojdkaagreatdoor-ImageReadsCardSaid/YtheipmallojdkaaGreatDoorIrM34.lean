/- Package sched: right, some of its leaves (printed by wip/tools/gen_right.py). Package sched: right (printed by wip/tools/gen_right.py). Package image: Restore. ImageReads' plain law: jobs with rising names are told as they came in; the image is what was read. A slice of numbers that came in, as a slice that is read. -/
import Derived.Test.YtheipmallojdkaaGreatDoorIrM24
import Derived.Test.YtheipmallojdkaaGreatDoorIrM31
import Derived.Test.YtheipmallojdkaaGreatDoorIrM32
import Derived.Test.YtheipmallojdkaaGreatDoorIrM33
import Derived.Test.YtheipmallojdkaaGreatDoorIrM30
import Derived.Test.YtheipmallojdkaaGreatDoorIrM06
import Derived.ProofKit
import Derived.OpenShut
import Derived.ChangeSlices

namespace Go.Proofs.YtheipmallojdkaaGreatDoor
open Go.RowKit Go.Maps Go.ChangeMaps Go.Lib Go.«Sort»

set_option maxRecDepth 100000 in
set_option maxHeartbeats 8000000 in
theorem right_10 (w : World) (hm : MaxL w) (s mj : Nat) (now each order : Int) (g r u q : Option Addr) (hb : w.heap[s]? = some (.cells #[.int .i64 now, .int .i64 each, .int .u64 order, .map (some mj), .pointer g, .pointer r, .pointer u, .pointer q] 72 (0, 0))) (l : List (ByteArray × Nat)) (hM : SMap ptrV w mj l) (j : Jb) (ad : Option Addr) (n cp : Nat) (hs : SpAt w j.sp ad n cp) (hc : checkF j.sp = 0) (hn : aget j.sp.name l = none) (h0 : 0 ≤ j.state) (h1 : j.state < 8) (h2 : 0 ≤ j.due) (h3 : j.due ≤ 1099511627776) (h4 : 0 ≤ j.failed) (h5 : 0 ≤ j.created) (h6 : 0 ≤ j.runs) (h7 : 0 ≤ j.missed) (h8 : ¬ j.order ≤ order) : Calls Tryz.prog 38 #[.pointer (some ⟨s, 0, none⟩), j.v (.slice ad n cp)] w (RightP w l j.sp.name) := by
  have hk := hs.wf.name
  obtain ⟨W, hW⟩ : ∃ W, W = w.alloc (.cells #[.string j.sp.name, .string j.sp.ten, .int .i64 j.sp.pri, .int .i64 j.sp.delay, .slice ad n cp, .int .i64 j.sp.base, .int .i64 j.sp.cap, .int .i64 j.sp.att, .int .i64 j.sp.lease, .string j.sp.cron, .int .i64 j.sp.catch_, .int .i64 j.state, .int .i64 j.due, .int .u64 j.tok, .int .i64 j.failed, .int .i64 j.res, .string j.worker, .int .u64 j.order, .int .i64 j.created, .int .i64 j.runs, .int .i64 j.missed] 42) := ⟨_, rfl⟩
  have hbw : Below w.heap.size w W := by rw [hW]; exact (Below.refl _ w).alloc (Nat.le_refl _) _
  have hx : W.heap[w.heap.size]? = some (.cells #[.string j.sp.name, .string j.sp.ten, .int .i64 j.sp.pri, .int .i64 j.sp.delay, .slice ad n cp, .int .i64 j.sp.base, .int .i64 j.sp.cap, .int .i64 j.sp.att, .int .i64 j.sp.lease, .string j.sp.cron, .int .i64 j.sp.catch_, .int .i64 j.state, .int .i64 j.due, .int .u64 j.tok, .int .i64 j.failed, .int .i64 j.res, .string j.worker, .int .u64 j.order, .int .i64 j.created, .int .i64 j.runs, .int .i64 j.missed] 42 (0, 0)) := by rw [hW]; exact heap_new w _
  have hsW := bheap hbw hb (heap_lt hb)
  have hq : ∀ d os, Calls Tryz.prog 57 #[.agg #[.string j.sp.name, .string j.sp.ten, .int .i64 j.sp.pri, .int .i64 j.sp.delay, .slice ad n cp, .int .i64 j.sp.base, .int .i64 j.sp.cap, .int .i64 j.sp.att, .int .i64 j.sp.lease, .string j.sp.cron, .int .i64 j.sp.catch_]] (grow (redrawn W d) os) (fun e w'' => e = .returned (.int .i64 (checkF j.sp)) ∧ ∃ p : Regrown, w'' = grow (redrawn W p.d) p.os) := fun d os => Calls.regrown_of ((check_any _ ((hm.step hbw).step (below_regrown W d os)) j.sp ad n cp ⟨hs.wf, (hs.row.kept (Keeps.of_belowS (S := fun _ => False) (hbw.trans ((below_regrown W d os).mono hbw.size))) (fun _ _ h => h))⟩).mono fun e w' h => ⟨h.1, h.2⟩)
  rw [hc] at hq
  have r3 : ∀ d os, (Instr.lookup 66 (.map (some mj)) (.string j.sp.name) false).run Tryz.prog (grow (redrawn W d) os) = .ok (.pointer ((aget j.sp.name l).map fun b => ⟨b, 0, none⟩)) (grow (redrawn W d) os) := fun d os =>
    jget (hM.kept (Keeps.of_belowS (S := fun _ => False) (hbw.trans ((below_regrown W d os).mono hbw.size))) (fun h => h)) hk
  rw [hn] at r3
  simp only [Option.map] at r3
  have hl := heap_lt hb
  have g3 : ∀ d os, (grow (redrawn W d) os).cell? ⟨s, 3, none⟩ = some (.map (some mj)) := cell_regrown (blk_cell hsW 3 rfl)
  have g2 : ∀ d os, (grow (redrawn W d) os).cell? ⟨s, 2, none⟩ = some (.int .u64 order) := cell_regrown (blk_cell hsW 2 rfl)
  have e0 : ∀ d os, (grow (redrawn W d) os).cell? ⟨w.heap.size, 0, none⟩ = some (.string j.sp.name) := cell_regrown (blk_cell hx 0 rfl)
  have e1 : ∀ d os, (grow (redrawn W d) os).cell? ⟨w.heap.size, 1, none⟩ = some (.string j.sp.ten) := cell_regrown (blk_cell hx 1 rfl)
  have e2 : ∀ d os, (grow (redrawn W d) os).cell? ⟨w.heap.size, 2, none⟩ = some (.int .i64 j.sp.pri) := cell_regrown (blk_cell hx 2 rfl)
  have e3 : ∀ d os, (grow (redrawn W d) os).cell? ⟨w.heap.size, 3, none⟩ = some (.int .i64 j.sp.delay) := cell_regrown (blk_cell hx 3 rfl)
  have e4 : ∀ d os, (grow (redrawn W d) os).cell? ⟨w.heap.size, 4, none⟩ = some (.slice ad n cp) := cell_regrown (blk_cell hx 4 rfl)
  have e5 : ∀ d os, (grow (redrawn W d) os).cell? ⟨w.heap.size, 5, none⟩ = some (.int .i64 j.sp.base) := cell_regrown (blk_cell hx 5 rfl)
  have e6 : ∀ d os, (grow (redrawn W d) os).cell? ⟨w.heap.size, 6, none⟩ = some (.int .i64 j.sp.cap) := cell_regrown (blk_cell hx 6 rfl)
  have e7 : ∀ d os, (grow (redrawn W d) os).cell? ⟨w.heap.size, 7, none⟩ = some (.int .i64 j.sp.att) := cell_regrown (blk_cell hx 7 rfl)
  have e8 : ∀ d os, (grow (redrawn W d) os).cell? ⟨w.heap.size, 8, none⟩ = some (.int .i64 j.sp.lease) := cell_regrown (blk_cell hx 8 rfl)
  have e9 : ∀ d os, (grow (redrawn W d) os).cell? ⟨w.heap.size, 9, none⟩ = some (.string j.sp.cron) := cell_regrown (blk_cell hx 9 rfl)
  have e10 : ∀ d os, (grow (redrawn W d) os).cell? ⟨w.heap.size, 10, none⟩ = some (.int .i64 j.sp.catch_) := cell_regrown (blk_cell hx 10 rfl)
  have e11 : ∀ d os, (grow (redrawn W d) os).cell? ⟨w.heap.size, 11, none⟩ = some (.int .i64 j.state) := cell_regrown (blk_cell hx 11 rfl)
  have e12 : ∀ d os, (grow (redrawn W d) os).cell? ⟨w.heap.size, 12, none⟩ = some (.int .i64 j.due) := cell_regrown (blk_cell hx 12 rfl)
  have e14 : ∀ d os, (grow (redrawn W d) os).cell? ⟨w.heap.size, 14, none⟩ = some (.int .i64 j.failed) := cell_regrown (blk_cell hx 14 rfl)
  have e17 : ∀ d os, (grow (redrawn W d) os).cell? ⟨w.heap.size, 17, none⟩ = some (.int .u64 j.order) := cell_regrown (blk_cell hx 17 rfl)
  have e18 : ∀ d os, (grow (redrawn W d) os).cell? ⟨w.heap.size, 18, none⟩ = some (.int .i64 j.created) := cell_regrown (blk_cell hx 18 rfl)
  have e19 : ∀ d os, (grow (redrawn W d) os).cell? ⟨w.heap.size, 19, none⟩ = some (.int .i64 j.runs) := cell_regrown (blk_cell hx 19 rfl)
  have e20 : ∀ d os, (grow (redrawn W d) os).cell? ⟨w.heap.size, 20, none⟩ = some (.int .i64 j.missed) := cell_regrown (blk_cell hx 20 rfl)
  have hlw : w.heap.size < W.heap.size := heap_lt hx
  have HZ := Lib.hid hbw
  have HQ := Lib.hid hq
  have HN := Lib.hid hn
  clear hc hn
  have dneg : decide (j.order ≤ order) = false := decide_eq_false h8
  clear hb hM hs hm hk hsW hx hbw hq
  unfold Jb.v Jb.cells
  go_enter Tryz.func38, Tryz.ntmps38
  go_wp2_with fail
  rw [← hW]
  clear hW
  refine wp_region_quiet_below (by kernel_rfl) (by kernel_rfl) ?_
  repeat (quiet_step (with_reducible exact HQ.out _ _))
  refine wpQuiet_nil ?_
  intro _ hw'
  obtain ⟨⟨dq, osq⟩, hw''⟩ := hw'
  subst hw''
  have HB := Lib.hid (HZ.out.trans ((below_regrown W dq osq).mono HZ.out.size))
  go_wp2_with fail
  go_ret
  exact ⟨HB.out, _, rfl, fun _ => HN.out⟩

set_option maxRecDepth 100000 in
set_option maxHeartbeats 8000000 in
theorem right_11 (w : World) (hm : MaxL w) (s mj : Nat) (now each order : Int) (g r u q : Option Addr) (hb : w.heap[s]? = some (.cells #[.int .i64 now, .int .i64 each, .int .u64 order, .map (some mj), .pointer g, .pointer r, .pointer u, .pointer q] 72 (0, 0))) (l : List (ByteArray × Nat)) (hM : SMap ptrV w mj l) (j : Jb) (ad : Option Addr) (n cp : Nat) (hs : SpAt w j.sp ad n cp) (hc : checkF j.sp = 0) (hn : aget j.sp.name l = none) (h0 : 0 ≤ j.state) (h1 : j.state < 8) (h2 : 0 ≤ j.due) (h3 : j.due ≤ 1099511627776) (h4 : 0 ≤ j.failed) (h5 : 0 ≤ j.created) (h6 : 0 ≤ j.runs) (h7 : 0 ≤ j.missed) (h8 : j.order ≤ order) : Calls Tryz.prog 38 #[.pointer (some ⟨s, 0, none⟩), j.v (.slice ad n cp)] w (RightP w l j.sp.name) := by
  have hk := hs.wf.name
  obtain ⟨W, hW⟩ : ∃ W, W = w.alloc (.cells #[.string j.sp.name, .string j.sp.ten, .int .i64 j.sp.pri, .int .i64 j.sp.delay, .slice ad n cp, .int .i64 j.sp.base, .int .i64 j.sp.cap, .int .i64 j.sp.att, .int .i64 j.sp.lease, .string j.sp.cron, .int .i64 j.sp.catch_, .int .i64 j.state, .int .i64 j.due, .int .u64 j.tok, .int .i64 j.failed, .int .i64 j.res, .string j.worker, .int .u64 j.order, .int .i64 j.created, .int .i64 j.runs, .int .i64 j.missed] 42) := ⟨_, rfl⟩
  have hbw : Below w.heap.size w W := by rw [hW]; exact (Below.refl _ w).alloc (Nat.le_refl _) _
  have hx : W.heap[w.heap.size]? = some (.cells #[.string j.sp.name, .string j.sp.ten, .int .i64 j.sp.pri, .int .i64 j.sp.delay, .slice ad n cp, .int .i64 j.sp.base, .int .i64 j.sp.cap, .int .i64 j.sp.att, .int .i64 j.sp.lease, .string j.sp.cron, .int .i64 j.sp.catch_, .int .i64 j.state, .int .i64 j.due, .int .u64 j.tok, .int .i64 j.failed, .int .i64 j.res, .string j.worker, .int .u64 j.order, .int .i64 j.created, .int .i64 j.runs, .int .i64 j.missed] 42 (0, 0)) := by rw [hW]; exact heap_new w _
  have hsW := bheap hbw hb (heap_lt hb)
  have hq : ∀ d os, Calls Tryz.prog 57 #[.agg #[.string j.sp.name, .string j.sp.ten, .int .i64 j.sp.pri, .int .i64 j.sp.delay, .slice ad n cp, .int .i64 j.sp.base, .int .i64 j.sp.cap, .int .i64 j.sp.att, .int .i64 j.sp.lease, .string j.sp.cron, .int .i64 j.sp.catch_]] (grow (redrawn W d) os) (fun e w'' => e = .returned (.int .i64 (checkF j.sp)) ∧ ∃ p : Regrown, w'' = grow (redrawn W p.d) p.os) := fun d os => Calls.regrown_of ((check_any _ ((hm.step hbw).step (below_regrown W d os)) j.sp ad n cp ⟨hs.wf, (hs.row.kept (Keeps.of_belowS (S := fun _ => False) (hbw.trans ((below_regrown W d os).mono hbw.size))) (fun _ _ h => h))⟩).mono fun e w' h => ⟨h.1, h.2⟩)
  rw [hc] at hq
  have r3 : ∀ d os, (Instr.lookup 66 (.map (some mj)) (.string j.sp.name) false).run Tryz.prog (grow (redrawn W d) os) = .ok (.pointer ((aget j.sp.name l).map fun b => ⟨b, 0, none⟩)) (grow (redrawn W d) os) := fun d os =>
    jget (hM.kept (Keeps.of_belowS (S := fun _ => False) (hbw.trans ((below_regrown W d os).mono hbw.size))) (fun h => h)) hk
  rw [hn] at r3
  simp only [Option.map] at r3
  have hl := heap_lt hb
  have g3 : ∀ d os, (grow (redrawn W d) os).cell? ⟨s, 3, none⟩ = some (.map (some mj)) := cell_regrown (blk_cell hsW 3 rfl)
  have g2 : ∀ d os, (grow (redrawn W d) os).cell? ⟨s, 2, none⟩ = some (.int .u64 order) := cell_regrown (blk_cell hsW 2 rfl)
  have e0 : ∀ d os, (grow (redrawn W d) os).cell? ⟨w.heap.size, 0, none⟩ = some (.string j.sp.name) := cell_regrown (blk_cell hx 0 rfl)
  have e1 : ∀ d os, (grow (redrawn W d) os).cell? ⟨w.heap.size, 1, none⟩ = some (.string j.sp.ten) := cell_regrown (blk_cell hx 1 rfl)
  have e2 : ∀ d os, (grow (redrawn W d) os).cell? ⟨w.heap.size, 2, none⟩ = some (.int .i64 j.sp.pri) := cell_regrown (blk_cell hx 2 rfl)
  have e3 : ∀ d os, (grow (redrawn W d) os).cell? ⟨w.heap.size, 3, none⟩ = some (.int .i64 j.sp.delay) := cell_regrown (blk_cell hx 3 rfl)
  have e4 : ∀ d os, (grow (redrawn W d) os).cell? ⟨w.heap.size, 4, none⟩ = some (.slice ad n cp) := cell_regrown (blk_cell hx 4 rfl)
  have e5 : ∀ d os, (grow (redrawn W d) os).cell? ⟨w.heap.size, 5, none⟩ = some (.int .i64 j.sp.base) := cell_regrown (blk_cell hx 5 rfl)
  have e6 : ∀ d os, (grow (redrawn W d) os).cell? ⟨w.heap.size, 6, none⟩ = some (.int .i64 j.sp.cap) := cell_regrown (blk_cell hx 6 rfl)
  have e7 : ∀ d os, (grow (redrawn W d) os).cell? ⟨w.heap.size, 7, none⟩ = some (.int .i64 j.sp.att) := cell_regrown (blk_cell hx 7 rfl)
  have e8 : ∀ d os, (grow (redrawn W d) os).cell? ⟨w.heap.size, 8, none⟩ = some (.int .i64 j.sp.lease) := cell_regrown (blk_cell hx 8 rfl)
  have e9 : ∀ d os, (grow (redrawn W d) os).cell? ⟨w.heap.size, 9, none⟩ = some (.string j.sp.cron) := cell_regrown (blk_cell hx 9 rfl)
  have e10 : ∀ d os, (grow (redrawn W d) os).cell? ⟨w.heap.size, 10, none⟩ = some (.int .i64 j.sp.catch_) := cell_regrown (blk_cell hx 10 rfl)
  have e11 : ∀ d os, (grow (redrawn W d) os).cell? ⟨w.heap.size, 11, none⟩ = some (.int .i64 j.state) := cell_regrown (blk_cell hx 11 rfl)
  have e12 : ∀ d os, (grow (redrawn W d) os).cell? ⟨w.heap.size, 12, none⟩ = some (.int .i64 j.due) := cell_regrown (blk_cell hx 12 rfl)
  have e14 : ∀ d os, (grow (redrawn W d) os).cell? ⟨w.heap.size, 14, none⟩ = some (.int .i64 j.failed) := cell_regrown (blk_cell hx 14 rfl)
  have e17 : ∀ d os, (grow (redrawn W d) os).cell? ⟨w.heap.size, 17, none⟩ = some (.int .u64 j.order) := cell_regrown (blk_cell hx 17 rfl)
  have e18 : ∀ d os, (grow (redrawn W d) os).cell? ⟨w.heap.size, 18, none⟩ = some (.int .i64 j.created) := cell_regrown (blk_cell hx 18 rfl)
  have e19 : ∀ d os, (grow (redrawn W d) os).cell? ⟨w.heap.size, 19, none⟩ = some (.int .i64 j.runs) := cell_regrown (blk_cell hx 19 rfl)
  have e20 : ∀ d os, (grow (redrawn W d) os).cell? ⟨w.heap.size, 20, none⟩ = some (.int .i64 j.missed) := cell_regrown (blk_cell hx 20 rfl)
  have hlw : w.heap.size < W.heap.size := heap_lt hx
  have HZ := Lib.hid hbw
  have HQ := Lib.hid hq
  have HN := Lib.hid hn
  clear hc hn
  clear hb hM hs hm hk hsW hx hbw hq
  unfold Jb.v Jb.cells
  go_enter Tryz.func38, Tryz.ntmps38
  go_wp2_with fail
  rw [← hW]
  clear hW
  refine wp_region_quiet_below (by kernel_rfl) (by kernel_rfl) ?_
  repeat (quiet_step (with_reducible exact HQ.out _ _))
  refine wpQuiet_nil ?_
  intro _ hw'
  obtain ⟨⟨dq, osq⟩, hw''⟩ := hw'
  subst hw''
  have HB := Lib.hid (HZ.out.trans ((below_regrown W dq osq).mono HZ.out.size))
  go_wp2_with fail
  go_ret
  exact ⟨HB.out, _, rfl, fun _ => HN.out⟩

end Go.Proofs.YtheipmallojdkaaGreatDoor

namespace Go.Proofs.YtheipmallojdkaaGreatDoor
open Go.RowKit Go.Maps Go.ChangeMaps Go.Lib Go.«Sort»

theorem right_any (w : World) (hm : MaxL w) (s mj : Nat) (now each order : Int) (g r u q : Option Addr) (hb : w.heap[s]? = some (.cells #[.int .i64 now, .int .i64 each, .int .u64 order, .map (some mj), .pointer g, .pointer r, .pointer u, .pointer q] 72 (0, 0))) (l : List (ByteArray × Nat)) (hM : SMap ptrV w mj l) (j : Jb) (ad : Option Addr) (n cp : Nat) (hs : SpAt w j.sp ad n cp) : Calls Tryz.prog 38 #[.pointer (some ⟨s, 0, none⟩), j.v (.slice ad n cp)] w (RightP w l j.sp.name) := by
  by_cases hc : checkF j.sp = 0
  rotate_left
  · exact right_0 w hm s mj now each order g r u q hb l hM j ad n cp hs hc
  cases hn : aget j.sp.name l with
  | some b0 => exact right_1 w hm s mj now each order g r u q hb l hM j ad n cp hs hc b0 hn
  | none =>
    by_cases h0 : 0 ≤ j.state
    rotate_left
    · exact right_2 w hm s mj now each order g r u q hb l hM j ad n cp hs hc hn h0
    by_cases h1 : j.state < 8
    rotate_left
    · exact right_3 w hm s mj now each order g r u q hb l hM j ad n cp hs hc hn h0 h1
    by_cases h2 : 0 ≤ j.due
    rotate_left
    · exact right_4 w hm s mj now each order g r u q hb l hM j ad n cp hs hc hn h0 h1 h2
    by_cases h3 : j.due ≤ 1099511627776
    rotate_left
    · exact right_5 w hm s mj now each order g r u q hb l hM j ad n cp hs hc hn h0 h1 h2 h3
    by_cases h4 : 0 ≤ j.failed
    rotate_left
    · exact right_6 w hm s mj now each order g r u q hb l hM j ad n cp hs hc hn h0 h1 h2 h3 h4
    by_cases h5 : 0 ≤ j.created
    rotate_left
    · exact right_7 w hm s mj now each order g r u q hb l hM j ad n cp hs hc hn h0 h1 h2 h3 h4 h5
    by_cases h6 : 0 ≤ j.runs
    rotate_left
    · exact right_8 w hm s mj now each order g r u q hb l hM j ad n cp hs hc hn h0 h1 h2 h3 h4 h5 h6
    by_cases h7 : 0 ≤ j.missed
    rotate_left
    · exact right_9 w hm s mj now each order g r u q hb l hM j ad n cp hs hc hn h0 h1 h2 h3 h4 h5 h6 h7
    by_cases h8 : j.order ≤ order
    rotate_left
    · exact right_10 w hm s mj now each order g r u q hb l hM j ad n cp hs hc hn h0 h1 h2 h3 h4 h5 h6 h7 h8
    exact right_11 w hm s mj now each order g r u q hb l hM j ad n cp hs hc hn h0 h1 h2 h3 h4 h5 h6 h7 h8

end Go.Proofs.YtheipmallojdkaaGreatDoor

namespace Go.Proofs.YtheipmallojdkaaGreatDoor
open Go.RowKit Go.Maps Go.ChangeMaps

theorem right_all : RightAll := fun w hm s mj now each order g r u q hb l hM j ad n cp hs => right_any w hm s mj now each order g r u q hb l hM j ad n cp hs

/-- What Restore leaves: an error, or a scheduler with the jobs that were read. -/
def ImgRP (w : World) (bs : List UInt8) (e : Ending) (w' : World) : Prop :=
  (Below w.heap.size w w' ∧ ∃ er : Int, er ≠ 0 ∧ e = .returned (.tuple #[.pointer none, .int .i64 er])) ∨
    ∃ B s mj g r u q F jes n now each order, e = .returned (.tuple #[.pointer (some ⟨s, 0, none⟩), .int .i64 0]) ∧ Below w.heap.size w w' ∧ SAt w' B s mj g r u q F now each order jes n ∧ beginB now each ∧ (0 ≤ order ∧ order ≤ 18446744073709551615) ∧ (imgT ⟨bs, 0⟩).1 = (now, each, order, jes.map (·.j)) ∧
      endR (imgT ⟨bs, 0⟩).2 = 0 ∧ risesB (jes.map fun x => x.j.sp.name) = true ∧ jes.length ≤ 128

theorem keeps_bel {w a b : World} {p : Nat} (h : Below w.heap.size w a) (hp : w.heap.size ≤ p) (hk : Keeps (fun k => k = p) a b) : Below w.heap.size w b :=
  h.trans (hk.below h.size fun k e => by omega)

set_option maxRecDepth 100000 in
set_option maxHeartbeats 4000000 in
theorem imgRestore_any (w : World) (hm : MaxL w) (ad : Option Addr) (n cp : Nat) (bs : List UInt8) (hs : Sl u8v w (.slice ad n cp) bs) (hl : bs.length ≤ 3000) :
    Calls Tryz.prog 5 #[.slice ad n cp] w (ImgRP w bs) := by
  have h0 := read_any w ad n cp bs hs (by omega)
  have HM := Lib.hid hm
  obtain ⟨s1, hs1⟩ : ∃ s1, s1 = (intR ⟨bs, 0⟩).2 := ⟨_, rfl⟩
  obtain ⟨s2, hs2⟩ : ∃ s2, s2 = (numR s1).2 := ⟨_, rfl⟩
  obtain ⟨s3, hs3⟩ : ∃ s3, s3 = (numR s2).2 := ⟨_, rfl⟩
  obtain ⟨now, hnow⟩ : ∃ now, now = (intR ⟨bs, 0⟩).1 := ⟨_, rfl⟩
  obtain ⟨eachN, heach⟩ : ∃ each, each = (numR s1).1 := ⟨_, rfl⟩
  obtain ⟨orderN, horder⟩ : ∃ order, order = (numR s2).1 := ⟨_, rfl⟩
  have HT : Hid (imgT ⟨bs, 0⟩ = ((now, (eachN : Int), (orderN : Int), (jobsR s3).1), (jobsR s3).2)) := Lib.hid (by
    unfold imgT seqR nuR
    simp only
    rw [← hs1, ← hnow, ← heach, ← hs2, ← horder, ← hs3])
  have he1 := numR_lt s1
  have he2 := numR_lt s2
  rw [← heach] at he1
  rw [← horder] at he2
  have HR1 := Lib.hid fun W p h => rint_any W p ⟨bs, 0⟩ h
  have HR2 := Lib.hid fun W p h => rnum_any W p s1 h
  have HR3 := Lib.hid fun W p h => rnum_any W p s2 h
  have HR4 := Lib.hid fun W p h => getJs_any W p s3 h
  rw [← hs1, ← hnow] at HR1
  rw [← hs2, ← heach] at HR2
  rw [← hs3, ← horder] at HR3
  clear hs hm hl hs1 hs2 hs3 hnow heach horder
  go_enter Tryz.func5, Tryz.ntmps5
  go_wp2_with fail
  refine h0.mono ?_
  rintro e w1 ⟨p, rfl, hp, hr1, hb1⟩
  have HP := Lib.hid hp
  have HB1 := Lib.hid hb1
  have HA1 := Lib.hid hr1
  clear h0 hp hb1 hr1
  go_wp2_with fail
  refine (HR1.out w1 p HA1.out).mono ?_
  rintro e w2 ⟨rfl, hr2, hk2⟩
  have HB2 := Lib.hid (keeps_bel HB1.out HP.out hk2)
  have HA2 := Lib.hid hr2
  clear hr2 hk2 HA1 HB1 HR1
  go_wp2_with fail
  refine (HR2.out w2 p HA2.out).mono ?_
  rintro e w3 ⟨rfl, hr3, hk3⟩
  have HB3 := Lib.hid (keeps_bel HB2.out HP.out hk3)
  have HA3 := Lib.hid hr3
  clear hr3 hk3 HA2 HB2 HR2
  go_wp2_with fail
  refine (HR3.out w3 p HA3.out).mono ?_
  rintro e w4 ⟨rfl, hr4, hk4⟩
  have HB4 := Lib.hid (keeps_bel HB3.out HP.out hk4)
  have HA4 := Lib.hid hr4
  clear hr4 hk4 HA3 HB3 HR3
  go_wp2_with fail
  refine (HR4.out w4 p HA4.out).mono ?_
  rintro e w5 ⟨v, xs, rfl, hr5, hown, hjs, hdep, hvn, hk5⟩
  obtain ⟨va, vn, vc, rfl, hvn'⟩ : ∃ va vn vc, v = .slice va vn vc ∧ vn = xs.length := by
    rcases hown.2 with ⟨e1, e2⟩ | ⟨g, c, cur, e1, _⟩
    · exact ⟨none, 0, 0, e1, e2.symm⟩
    · exact ⟨_, _, _, e1, rfl⟩
  have HB5 := Lib.hid (keeps_bel HB4.out HP.out hk5)
  have HA5 := Lib.hid hr5
  have HX := Lib.hid (show w5.ownsRow 0 42 21 (.slice va vn vc) xs.length (flatJ xs) ∧ xs.map (·.1) = (jobsR s3).1 ∧ DepsOk w5 w4.heap.size xs ∧ vn = xs.length from ⟨hown, hjs, hdep, hvn'⟩)
  clear hr5 hk5 hown hjs hdep hvn hvn' HA4 HB4 HR4
  have hend := end_any w5 p _ HA5.out
  obtain ⟨er, her⟩ : ∃ er, er = endR (jobsR s3).2 := ⟨_, rfl⟩
  rw [← her] at hend
  go_wp2_with fail
  refine hend.mono ?_
  rintro e w6 ⟨rfl, rfl⟩
  clear hend HA5
  by_cases h6 : er = 0
  rotate_left
  · have e1 : (er == 0) = false := by simpa using h6
    have HE := Lib.hid h6
    clear h6 her
    go_wp2_with fail
    go_ret2
    exact .inl ⟨HB5.out, er, HE.out, rfl⟩
  subst h6
  have HER := Lib.hid her.symm
  have hback := imgT_back (b := bs) (by rw [HT.out]; exact her.symm)
  rw [HT.out] at hback
  simp only at hback
  obtain ⟨_, hsmall, hlen⟩ := hback
  rw [← HX.out.2.1] at hsmall hlen
  have hxl : xs.length ≤ 128 := by simpa using hlen
  have hxsm : ∀ x ∈ xs, x.1.small := fun x hx => hsmall _ (List.mem_map.2 ⟨x, hx, rfl⟩)
  obtain ⟨mn, hmn⟩ : ∃ mn : Nat, mn = min eachN 129 := ⟨_, rfl⟩
  have hm1 : min (eachN : Int) 129 = (mn : Int) := by omega
  have hm2 : IntKind.i64.wrap (mn : Int) = (mn : Int) := by rw [IntKind.wrap_i64]; omega
  have hrest := srestore_any right_all w5 (HM.out.step HB5.out) now (mn : Int) (orderN : Int) (.slice va vn vc) xs HX.out.1 (fun x hx => ⟨(HX.out.2.2.1 x hx).1, hxsm x hx⟩) hxl
  have HXL := Lib.hid hxl
  have HMN := Lib.hid hmn
  clear hsmall hlen hxsm her hmn hxl
  go_wp2_with fail
  refine hrest.mono ?_
  rintro e w7 (⟨hb7, er, her, rfl⟩ | ⟨s, mj, g, r, u, q, rfl, ⟨hb7, F, jes, m, hS, hjes, _⟩, hjl, hbeg⟩)
  · have e1 : (er == 0) = false := by simpa using her
    have HE := Lib.hid her
    have HB7 := Lib.hid (HB5.out.trans (hb7.mono HB5.out.size))
    clear hrest her hb7
    go_wp2_with fail
    go_ret2
    exact .inl ⟨HB7.out, er, HE.out, rfl⟩
  have HB7 := Lib.hid (HB5.out.trans (hb7.mono HB5.out.size))
  have hri := irises_any w7 va vn vc xs (owns_below HX.out.1 hb7) HX.out.2.2.2 (by have := HXL.out; have := HX.out.2.2.2; omega)
  have hnm : namesJ xs = jes.map fun x => x.j.sp.name := by
    have := congrArg (List.map fun j : Jb => j.sp.name) hjes
    simp only [List.map_map] at this
    exact this.symm
  obtain ⟨rb, hrb⟩ : ∃ rb, rb = risesB (namesJ xs) := ⟨_, rfl⟩
  rw [← hrb] at hri
  have HRB := Lib.hid hrb
  have HNM := Lib.hid hnm
  have HJES := Lib.hid (show jes.map (·.j) = (jobsR s3).1 from hjes.trans HX.out.2.1)
  have HJL : Hid (jes.length ≤ 128) := Lib.hid (by
    have := congrArg List.length hjes
    simp at this
    have := HXL.out
    omega)
  have HS := Lib.hid hS
  have HBEG := Lib.hid hbeg
  clear hrest hb7 hS hjes hjl hbeg hrb hnm
  go_wp2_with fail
  refine hri.mono ?_
  rintro e w8 ⟨rfl, hb8⟩
  have HB8 := Lib.hid (HB7.out.trans (hb8.mono HB7.out.size))
  have HS8 := Lib.hid (HS.out.below hb8)
  clear hri hb8 HS HB7
  cases rb
  · go_wp2_with fail
    go_ret2
    exact .inl ⟨HB8.out, 2, by decide, rfl⟩
  · go_wp2_with fail
    go_ret2
    have hme : (mn : Int) = (eachN : Int) := by
      have h1 := HBEG.out.2.2
      have := HMN.out
      omega
    refine .inr ⟨_, s, mj, g, r, u, q, F, jes, m, now, mn, orderN, rfl, HB8.out, HS8.out, HBEG.out, ⟨by omega, by omega⟩, ?_, by rw [HT.out]; exact HER.out, by rw [← HNM.out]; exact HRB.out.symm, HJL.out⟩
    rw [HT.out, HJES.out, hme]

end Go.Proofs.YtheipmallojdkaaGreatDoor

namespace Go.Proofs.YtheipmallojdkaaGreatDoor
open Go.RowKit

theorem lessB_trans {a b c : ByteArray} (h1 : lessB a b = true) (h2 : lessB b c = true) : lessB a c = true := by
  rw [lessB_lt, decide_eq_true_eq] at *
  exact List.lt_trans h1 h2
theorem lessB_irrefl (a : ByteArray) : lessB a a = false := by
  rw [lessB_lt, decide_eq_false_iff_not]
  exact List.lt_irrefl _

theorem rise_of : ∀ l : List ByteArray, risesB l = true → RiseS l
  | [], _ => List.Pairwise.nil
  | [a], _ => List.pairwise_singleton _ _
  | a :: b :: l, h => by
    rw [risesB, Bool.and_eq_true] at h
    have ih := rise_of (b :: l) h.2
    refine List.Pairwise.cons (fun x hx => ?_) ih
    rcases List.mem_cons.1 hx with rfl | hx
    · exact h.1
    · exact lessB_trans h.1 ((List.pairwise_cons.1 ih).1 x hx)

theorem rise_inj {α : Type} {f : α → ByteArray} : ∀ {l : List α}, RiseS (l.map f) → ∀ x ∈ l, ∀ y ∈ l, f x = f y → x = y
  | [], _, x, hx, _, _, _ => by cases hx
  | a :: l, h, x, hx, y, hy, e => by
    obtain ⟨h1, h2⟩ := List.pairwise_cons.1 h
    have qx := List.mem_cons.1 hx
    have qy := List.mem_cons.1 hy
    clear hx hy
    rcases qx with ex | qx <;> rcases qy with ey | qy
    · rw [ex, ey]
    · have := h1 _ (List.mem_map.2 ⟨y, qy, rfl⟩)
      rw [← ex, e, lessB_irrefl] at this
      cases this
    · have := h1 _ (List.mem_map.2 ⟨x, qx, rfl⟩)
      rw [← ey, ← e, lessB_irrefl] at this
      cases this
    · exact rise_inj h2 x qx y qy e

theorem jobs_same {jes : List JE} {xs : List JD} (h : JobsDone jes xs) (hr : risesB (jes.map fun x => x.j.sp.name) = true) : xs.map (·.1) = jes.map (·.j) := by
  obtain ⟨ys, hp, hrise, hn, hin⟩ := h
  have hj := rise_of _ hr
  have he := riseS_unique hp hrise hj
  rw [he] at hn
  have hlen : xs.length = jes.length := by simpa using congrArg List.length hn
  apply List.ext_getElem
  · simpa using hlen
  · intro i h1 h2
    simp only [List.length_map] at h1 h2
    simp only [List.getElem_map]
    obtain ⟨e, hem, hej⟩ := hin xs[i] (List.getElem_mem h1)
    have hni : xs[i].1.sp.name = jes[i].j.sp.name := by
      have := congrArg (fun l : List ByteArray => l[i]?) hn
      simpa [h1, h2] using this
    have : e = jes[i] := rise_inj (f := fun x : JE => x.j.sp.name) hj e hem jes[i] (List.getElem_mem h2) (by rw [hej, hni])
    rw [← hej, this]

theorem img_same {bs : List UInt8} {now each order : Int} {jes : List JE} {xs : List JD} (h1 : (imgT ⟨bs, 0⟩).1 = (now, each, order, jes.map (·.j))) (h2 : endR (imgT ⟨bs, 0⟩).2 = 0) (hr : risesB (jes.map fun x => x.j.sp.name) = true) (h : JobsDone jes xs) : imgB now each order (xs.map (·.1)) = bs := by
  have hb := (imgT_back h2).1
  rw [h1] at hb
  rw [jobs_same h hr]
  exact hb.symm

theorem img_small {bs : List UInt8} {now each order : Int} {jes : List JE} (h1 : (imgT ⟨bs, 0⟩).1 = (now, each, order, jes.map (·.j))) (h2 : endR (imgT ⟨bs, 0⟩).2 = 0) : ∀ x ∈ jes, x.j.small := by
  have hb := (imgT_back h2).2.1
  rw [h1] at hb
  exact fun x hx => hb _ (List.mem_map.2 ⟨x, hx, rfl⟩)

end Go.Proofs.YtheipmallojdkaaGreatDoor

namespace Go.Proofs.YtheipmallojdkaaGreatDoor
open Go.ChangeShapes Go.WideShapes Go.ChangeAt Go.RowKit

theorem okWide_row {P : Program} {w : World} {base : Nat} {t e : TypeId} {v : Value} (ht : P.underlying t = some (.slice e)) (h : Value.okWide P w .any base t v) :
    v = .slice none 0 0 ∨ ∃ b o len cap, v = .slice (some ⟨b, o, none⟩) len cap ∧ len ≤ cap ∧ cap ≤ maxLen ∧ b < w.heap.size := by
  simp only [Value.okWide, ht, Cell.okWide] at h
  unfold Cell.ok at h
  rw [ht] at h
  cases v <;> try (simp at h; done)
  rename_i a len cap
  cases a with
  | none =>
    left
    rcases len with _ | len <;> rcases cap with _ | cap <;> first | rfl | (exact False.elim h)
  | some x =>
    right
    obtain ⟨h1, h2, _, h3, row, cells, h4, _⟩ := h
    obtain ⟨b, o, spot⟩ := x
    simp only at h3 h4
    subst h3
    refine ⟨b, o, len, cap, rfl, h1, ?_, ?_⟩
    · simp [IntKind.max, IntKind.bits, IntKind.signed] at h2
      unfold maxLen; omega
    · unfold World.shape? at h4
      rcases Nat.lt_or_ge b w.heap.size with h | h
      · exact h
      · simp [Array.getElem?_eq_none h] at h4

/-- What is known of a slice of numbers that came in. -/
def SlOk (k : IntKind) (w : World) (v : Value) (l : List Int) : Prop := Sl (fun n => .int k n) w v l ∧ ∀ n ∈ l, (Lit.int k n).wf = true

theorem open_sl {H : Type} {enc : TypeId × Value → H} {P : Program} {t e : TypeId} {k : IntKind} {W : World} {base : Nat} {v : Value} {d : DataW H} {p : List MemPlace}
    (ht : P.underlying t = some (.slice e)) (he : P.underlying e = some (.int k)) (hc : P.cellsOf e = 1) (hv : Value.okWide P W .any base t v)
    (h : DataW.Trod enc P W 0 (fun _ => true) true t v d p) : ∃ a len cap l, v = .slice a len cap ∧ SlOk k W (.slice a len cap) l := by
  rcases okWide_row ht hv with rfl | ⟨b, o, len, cap, rfl, h1, h2, h3⟩
  · exact ⟨none, 0, 0, [], rfl, Sl.nil _ _, by simp⟩
  · obtain ⟨fuel, hf⟩ := h
    rcases open_ints ht he hc hf with ⟨hcs, _⟩ | ⟨x, l, c, zs, hcs, _, hl, hm, hz, _, hcell, hwz⟩
    · simp [Value.cells] at hcs
    · simp [Value.cells] at hcs
      obtain ⟨rfl, rfl, rfl⟩ := hcs
      simp only [if_true] at hz
      have hlen : (zs.take len).length = len := by rw [List.length_take]; omega
      refine ⟨_, _, _, zs.take len, rfl, ⟨_, cap, by rw [hlen], by omega, h2, .inr ⟨b, o, rfl, h3, fun i c hi => ?_⟩⟩, fun n hn => hwz n (List.mem_of_mem_take hn)⟩
      rw [List.getElem?_take] at hi
      split at hi
      · have hiz := (List.getElem?_eq_some_iff.1 hi).1
        have := hcell i hiz
        rw [addr_add] at this
        rw [this, List.getD_eq_getElem?_getD, hi]
        rfl
      · cases hi

end Go.Proofs.YtheipmallojdkaaGreatDoor

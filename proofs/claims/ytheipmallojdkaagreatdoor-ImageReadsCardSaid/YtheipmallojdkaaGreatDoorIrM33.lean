/- Package sched: right, some of its leaves (printed by wip/tools/gen_right.py). -/
import Derived.Test.YtheipmallojdkaaGreatDoorIrM24

namespace Go.Proofs.YtheipmallojdkaaGreatDoor
open Go.RowKit Go.Maps Go.ChangeMaps Go.Lib Go.«Sort»

set_option maxRecDepth 100000 in
set_option maxHeartbeats 8000000 in
theorem right_7 (w : World) (hm : MaxL w) (s mj : Nat) (now each order : Int) (g r u q : Option Addr) (hb : w.heap[s]? = some (.cells #[.int .i64 now, .int .i64 each, .int .u64 order, .map (some mj), .pointer g, .pointer r, .pointer u, .pointer q] 72 (0, 0))) (l : List (ByteArray × Nat)) (hM : SMap ptrV w mj l) (j : Jb) (ad : Option Addr) (n cp : Nat) (hs : SpAt w j.sp ad n cp) (hc : checkF j.sp = 0) (hn : aget j.sp.name l = none) (h0 : 0 ≤ j.state) (h1 : j.state < 8) (h2 : 0 ≤ j.due) (h3 : j.due ≤ 1099511627776) (h4 : 0 ≤ j.failed) (h5 : ¬ 0 ≤ j.created) : Calls Tryz.prog 38 #[.pointer (some ⟨s, 0, none⟩), j.v (.slice ad n cp)] w (RightP w l j.sp.name) := by
  have hk := hs.wf.name
  obtain ⟨W, hW⟩ : ∃ W, W = w.alloc (.cells #[.string j.sp.name, .string j.sp.ten, .int .i64 j.sp.pri, .int .i64 j.sp.delay, .slice ad n cp, .int .i64 j.sp.base, .int .i64 j.sp.cap, .int .i64 j.sp.att, .int .i64 j.sp.lease, .string j.sp.cron, .int .i64 j.sp.catch_, .int .i64 j.state, .int .i64 j.due, .int .u64 j.tok, .int .i64 j.failed, .int .i64 j.res, .string j.worker, .int .u64 j.order, .int .i64 j.created, .int .i64 j.runs, .int .i64 j.missed] 42) := ⟨_, rfl⟩
  have hbw : Below w.heap.size w W := by rw [hW]; exact (Below.refl _ w).alloc (Nat.le_refl _) _
  have hx : W.heap[w.heap.size]? = some (.cells #[.string j.sp.name, .string j.sp.ten, .int .i64 j.sp.pri, .int .i64 j.sp.delay, .slice ad n cp, .int .i64 j.sp.base, .int .i64 j.sp.cap, .int .i64 j.sp.att, .int .i64 j.sp.lease, .string j.sp.cron, .int .i64 j.sp.catch_, .int .i64 j.state, .int .i64 j.due, .int .u64 j.tok, .int .i64 j.failed, .int .i64 j.res, .string j.worker, .int .u64 j.order, .int .i64 j.created, .int .i64 j.runs, .int .i64 j.missed] 42 (0, 0)) := by rw [hW]; exact heap_new w _
  have hsW := bheap hbw hb (heap_lt hb)
  have hq : ∀ d os, Calls Tryz.prog 57 #[.agg #[.string j.sp.name, .string j.sp.ten, .int .i64 j.sp.pri, .int .i64 j.sp.delay, .slice ad n cp, .int .i64 j.sp.base, .int .i64 j.sp.cap, .int .i64 j.sp.att, .int .i64 j.sp.lease, .string j.sp.cron, .int .i64 j.sp.catch_]] (grow (redrawn W d) os) (fun e w'' => e = .returned (.int .i64 (checkF j.sp)) ∧ ∃ p : Regrown, w'' = grow (redrawn W p.d) p.os) := fun d os => Calls.regrown_of ((check_any _ ((hm.step hbw).step (below_regrown W d os)) j.sp ad n cp ⟨hs.wf, (hs.row.kept (Keeps.of_belowS (S := fun _ => False) (hbw.trans ((below_regrown W d os).mono hbw.size))) (fun _ _ h => h))⟩).mono fun e w' h => ⟨h.1, h.2⟩)
  rw [hc] at hq
  have r3 : ∀ d os, (Instr.lookup 66 (.map (some mj)) (.string j.sp.name) false).run Tryz.prog (grow (redrawn W d) os) = .ok (.pointer ((aget j.sp.name l).map fun b => ⟨b, 0, none⟩)) (grow (redrawn W d) os) := fun d os =>
    jget (hM.kept (Keeps.of_belowS (S := fun _ => False) (hbw.trans ((below_regrown W d os).mono hbw.size))) (fun h => h)) hk
  rw [hn] at r3
  simp only [Option.map] at r3
  have hl := heap_lt hb
  have g3 : ∀ d os, (grow (redrawn W d) os).cell? ⟨s, 3, none⟩ = some (.map (some mj)) := cell_regrown (blk_cell hsW 3 rfl)
  have e0 : ∀ d os, (grow (redrawn W d) os).cell? ⟨w.heap.size, 0, none⟩ = some (.string j.sp.name) := cell_regrown (blk_cell hx 0 rfl)
  have e1 : ∀ d os, (grow (redrawn W d) os).cell? ⟨w.heap.size, 1, none⟩ = some (.string j.sp.ten) := cell_regrown (blk_cell hx 1 rfl)
  have e2 : ∀ d os, (grow (redrawn W d) os).cell? ⟨w.heap.size, 2, none⟩ = some (.int .i64 j.sp.pri) := cell_regrown (blk_cell hx 2 rfl)
  have e3 : ∀ d os, (grow (redrawn W d) os).cell? ⟨w.heap.size, 3, none⟩ = some (.int .i64 j.sp.delay) := cell_regrown (blk_cell hx 3 rfl)
  have e4 : ∀ d os, (grow (redrawn W d) os).cell? ⟨w.heap.size, 4, none⟩ = some (.slice ad n cp) := cell_regrown (blk_cell hx 4 rfl)
  have e5 : ∀ d os, (grow (redrawn W d) os).cell? ⟨w.heap.size, 5, none⟩ = some (.int .i64 j.sp.base) := cell_regrown (blk_cell hx 5 rfl)
  have e6 : ∀ d os, (grow (redrawn W d) os).cell? ⟨w.heap.size, 6, none⟩ = some (.int .i64 j.sp.cap) := cell_regrown (blk_cell hx 6 rfl)
  have e7 : ∀ d os, (grow (redrawn W d) os).cell? ⟨w.heap.size, 7, none⟩ = some (.int .i64 j.sp.att) := cell_regrown (blk_cell hx 7 rfl)
  have e8 : ∀ d os, (grow (redrawn W d) os).cell? ⟨w.heap.size, 8, none⟩ = some (.int .i64 j.sp.lease) := cell_regrown (blk_cell hx 8 rfl)
  have e9 : ∀ d os, (grow (redrawn W d) os).cell? ⟨w.heap.size, 9, none⟩ = some (.string j.sp.cron) := cell_regrown (blk_cell hx 9 rfl)
  have e10 : ∀ d os, (grow (redrawn W d) os).cell? ⟨w.heap.size, 10, none⟩ = some (.int .i64 j.sp.catch_) := cell_regrown (blk_cell hx 10 rfl)
  have e11 : ∀ d os, (grow (redrawn W d) os).cell? ⟨w.heap.size, 11, none⟩ = some (.int .i64 j.state) := cell_regrown (blk_cell hx 11 rfl)
  have e12 : ∀ d os, (grow (redrawn W d) os).cell? ⟨w.heap.size, 12, none⟩ = some (.int .i64 j.due) := cell_regrown (blk_cell hx 12 rfl)
  have e14 : ∀ d os, (grow (redrawn W d) os).cell? ⟨w.heap.size, 14, none⟩ = some (.int .i64 j.failed) := cell_regrown (blk_cell hx 14 rfl)
  have e18 : ∀ d os, (grow (redrawn W d) os).cell? ⟨w.heap.size, 18, none⟩ = some (.int .i64 j.created) := cell_regrown (blk_cell hx 18 rfl)
  have hlw : w.heap.size < W.heap.size := heap_lt hx
  have HZ := Lib.hid hbw
  have HQ := Lib.hid hq
  have HN := Lib.hid hn
  clear hc hn
  have dneg : decide (0 ≤ j.created) = false := decide_eq_false h5
  clear hb hM hs hm hk hsW hx hbw hq
  unfold Jb.v Jb.cells
  go_enter Tryz.func38, Tryz.ntmps38
  go_wp2_with fail
  rw [← hW]
  clear hW
  refine wp_region_quiet_below (by kernel_rfl) (by kernel_rfl) ?_
  repeat (quiet_step (with_reducible exact HQ.out _ _))
  refine wpQuiet_nil ?_
  intro _ hw'
  obtain ⟨⟨dq, osq⟩, hw''⟩ := hw'
  subst hw''
  have HB := Lib.hid (HZ.out.trans ((below_regrown W dq osq).mono HZ.out.size))
  go_wp2_with fail
  go_ret
  exact ⟨HB.out, _, rfl, fun _ => HN.out⟩

set_option maxRecDepth 100000 in
set_option maxHeartbeats 8000000 in
theorem right_8 (w : World) (hm : MaxL w) (s mj : Nat) (now each order : Int) (g r u q : Option Addr) (hb : w.heap[s]? = some (.cells #[.int .i64 now, .int .i64 each, .int .u64 order, .map (some mj), .pointer g, .pointer r, .pointer u, .pointer q] 72 (0, 0))) (l : List (ByteArray × Nat)) (hM : SMap ptrV w mj l) (j : Jb) (ad : Option Addr) (n cp : Nat) (hs : SpAt w j.sp ad n cp) (hc : checkF j.sp = 0) (hn : aget j.sp.name l = none) (h0 : 0 ≤ j.state) (h1 : j.state < 8) (h2 : 0 ≤ j.due) (h3 : j.due ≤ 1099511627776) (h4 : 0 ≤ j.failed) (h5 : 0 ≤ j.created) (h6 : ¬ 0 ≤ j.runs) : Calls Tryz.prog 38 #[.pointer (some ⟨s, 0, none⟩), j.v (.slice ad n cp)] w (RightP w l j.sp.name) := by
  have hk := hs.wf.name
  obtain ⟨W, hW⟩ : ∃ W, W = w.alloc (.cells #[.string j.sp.name, .string j.sp.ten, .int .i64 j.sp.pri, .int .i64 j.sp.delay, .slice ad n cp, .int .i64 j.sp.base, .int .i64 j.sp.cap, .int .i64 j.sp.att, .int .i64 j.sp.lease, .string j.sp.cron, .int .i64 j.sp.catch_, .int .i64 j.state, .int .i64 j.due, .int .u64 j.tok, .int .i64 j.failed, .int .i64 j.res, .string j.worker, .int .u64 j.order, .int .i64 j.created, .int .i64 j.runs, .int .i64 j.missed] 42) := ⟨_, rfl⟩
  have hbw : Below w.heap.size w W := by rw [hW]; exact (Below.refl _ w).alloc (Nat.le_refl _) _
  have hx : W.heap[w.heap.size]? = some (.cells #[.string j.sp.name, .string j.sp.ten, .int .i64 j.sp.pri, .int .i64 j.sp.delay, .slice ad n cp, .int .i64 j.sp.base, .int .i64 j.sp.cap, .int .i64 j.sp.att, .int .i64 j.sp.lease, .string j.sp.cron, .int .i64 j.sp.catch_, .int .i64 j.state, .int .i64 j.due, .int .u64 j.tok, .int .i64 j.failed, .int .i64 j.res, .string j.worker, .int .u64 j.order, .int .i64 j.created, .int .i64 j.runs, .int .i64 j.missed] 42 (0, 0)) := by rw [hW]; exact heap_new w _
  have hsW := bheap hbw hb (heap_lt hb)
  have hq : ∀ d os, Calls Tryz.prog 57 #[.agg #[.string j.sp.name, .string j.sp.ten, .int .i64 j.sp.pri, .int .i64 j.sp.delay, .slice ad n cp, .int .i64 j.sp.base, .int .i64 j.sp.cap, .int .i64 j.sp.att, .int .i64 j.sp.lease, .string j.sp.cron, .int .i64 j.sp.catch_]] (grow (redrawn W d) os) (fun e w'' => e = .returned (.int .i64 (checkF j.sp)) ∧ ∃ p : Regrown, w'' = grow (redrawn W p.d) p.os) := fun d os => Calls.regrown_of ((check_any _ ((hm.step hbw).step (below_regrown W d os)) j.sp ad n cp ⟨hs.wf, (hs.row.kept (Keeps.of_belowS (S := fun _ => False) (hbw.trans ((below_regrown W d os).mono hbw.size))) (fun _ _ h => h))⟩).mono fun e w' h => ⟨h.1, h.2⟩)
  rw [hc] at hq
  have r3 : ∀ d os, (Instr.lookup 66 (.map (some mj)) (.string j.sp.name) false).run Tryz.prog (grow (redrawn W d) os) = .ok (.pointer ((aget j.sp.name l).map fun b => ⟨b, 0, none⟩)) (grow (redrawn W d) os) := fun d os =>
    jget (hM.kept (Keeps.of_belowS (S := fun _ => False) (hbw.trans ((below_regrown W d os).mono hbw.size))) (fun h => h)) hk
  rw [hn] at r3
  simp only [Option.map] at r3
  have hl := heap_lt hb
  have g3 : ∀ d os, (grow (redrawn W d) os).cell? ⟨s, 3, none⟩ = some (.map (some mj)) := cell_regrown (blk_cell hsW 3 rfl)
  have e0 : ∀ d os, (grow (redrawn W d) os).cell? ⟨w.heap.size, 0, none⟩ = some (.string j.sp.name) := cell_regrown (blk_cell hx 0 rfl)
  have e1 : ∀ d os, (grow (redrawn W d) os).cell? ⟨w.heap.size, 1, none⟩ = some (.string j.sp.ten) := cell_regrown (blk_cell hx 1 rfl)
  have e2 : ∀ d os, (grow (redrawn W d) os).cell? ⟨w.heap.size, 2, none⟩ = some (.int .i64 j.sp.pri) := cell_regrown (blk_cell hx 2 rfl)
  have e3 : ∀ d os, (grow (redrawn W d) os).cell? ⟨w.heap.size, 3, none⟩ = some (.int .i64 j.sp.delay) := cell_regrown (blk_cell hx 3 rfl)
  have e4 : ∀ d os, (grow (redrawn W d) os).cell? ⟨w.heap.size, 4, none⟩ = some (.slice ad n cp) := cell_regrown (blk_cell hx 4 rfl)
  have e5 : ∀ d os, (grow (redrawn W d) os).cell? ⟨w.heap.size, 5, none⟩ = some (.int .i64 j.sp.base) := cell_regrown (blk_cell hx 5 rfl)
  have e6 : ∀ d os, (grow (redrawn W d) os).cell? ⟨w.heap.size, 6, none⟩ = some (.int .i64 j.sp.cap) := cell_regrown (blk_cell hx 6 rfl)
  have e7 : ∀ d os, (grow (redrawn W d) os).cell? ⟨w.heap.size, 7, none⟩ = some (.int .i64 j.sp.att) := cell_regrown (blk_cell hx 7 rfl)
  have e8 : ∀ d os, (grow (redrawn W d) os).cell? ⟨w.heap.size, 8, none⟩ = some (.int .i64 j.sp.lease) := cell_regrown (blk_cell hx 8 rfl)
  have e9 : ∀ d os, (grow (redrawn W d) os).cell? ⟨w.heap.size, 9, none⟩ = some (.string j.sp.cron) := cell_regrown (blk_cell hx 9 rfl)
  have e10 : ∀ d os, (grow (redrawn W d) os).cell? ⟨w.heap.size, 10, none⟩ = some (.int .i64 j.sp.catch_) := cell_regrown (blk_cell hx 10 rfl)
  have e11 : ∀ d os, (grow (redrawn W d) os).cell? ⟨w.heap.size, 11, none⟩ = some (.int .i64 j.state) := cell_regrown (blk_cell hx 11 rfl)
  have e12 : ∀ d os, (grow (redrawn W d) os).cell? ⟨w.heap.size, 12, none⟩ = some (.int .i64 j.due) := cell_regrown (blk_cell hx 12 rfl)
  have e14 : ∀ d os, (grow (redrawn W d) os).cell? ⟨w.heap.size, 14, none⟩ = some (.int .i64 j.failed) := cell_regrown (blk_cell hx 14 rfl)
  have e18 : ∀ d os, (grow (redrawn W d) os).cell? ⟨w.heap.size, 18, none⟩ = some (.int .i64 j.created) := cell_regrown (blk_cell hx 18 rfl)
  have e19 : ∀ d os, (grow (redrawn W d) os).cell? ⟨w.heap.size, 19, none⟩ = some (.int .i64 j.runs) := cell_regrown (blk_cell hx 19 rfl)
  have hlw : w.heap.size < W.heap.size := heap_lt hx
  have HZ := Lib.hid hbw
  have HQ := Lib.hid hq
  have HN := Lib.hid hn
  clear hc hn
  have dneg : decide (0 ≤ j.runs) = false := decide_eq_false h6
  clear hb hM hs hm hk hsW hx hbw hq
  unfold Jb.v Jb.cells
  go_enter Tryz.func38, Tryz.ntmps38
  go_wp2_with fail
  rw [← hW]
  clear hW
  refine wp_region_quiet_below (by kernel_rfl) (by kernel_rfl) ?_
  repeat (quiet_step (with_reducible exact HQ.out _ _))
  refine wpQuiet_nil ?_
  intro _ hw'
  obtain ⟨⟨dq, osq⟩, hw''⟩ := hw'
  subst hw''
  have HB := Lib.hid (HZ.out.trans ((below_regrown W dq osq).mono HZ.out.size))
  go_wp2_with fail
  go_ret
  exact ⟨HB.out, _, rfl, fun _ => HN.out⟩

set_option maxRecDepth 100000 in
set_option maxHeartbeats 8000000 in
theorem right_9 (w : World) (hm : MaxL w) (s mj : Nat) (now each order : Int) (g r u q : Option Addr) (hb : w.heap[s]? = some (.cells #[.int .i64 now, .int .i64 each, .int .u64 order, .map (some mj), .pointer g, .pointer r, .pointer u, .pointer q] 72 (0, 0))) (l : List (ByteArray × Nat)) (hM : SMap ptrV w mj l) (j : Jb) (ad : Option Addr) (n cp : Nat) (hs : SpAt w j.sp ad n cp) (hc : checkF j.sp = 0) (hn : aget j.sp.name l = none) (h0 : 0 ≤ j.state) (h1 : j.state < 8) (h2 : 0 ≤ j.due) (h3 : j.due ≤ 1099511627776) (h4 : 0 ≤ j.failed) (h5 : 0 ≤ j.created) (h6 : 0 ≤ j.runs) (h7 : ¬ 0 ≤ j.missed) : Calls Tryz.prog 38 #[.pointer (some ⟨s, 0, none⟩), j.v (.slice ad n cp)] w (RightP w l j.sp.name) := by
  have hk := hs.wf.name
  obtain ⟨W, hW⟩ : ∃ W, W = w.alloc (.cells #[.string j.sp.name, .string j.sp.ten, .int .i64 j.sp.pri, .int .i64 j.sp.delay, .slice ad n cp, .int .i64 j.sp.base, .int .i64 j.sp.cap, .int .i64 j.sp.att, .int .i64 j.sp.lease, .string j.sp.cron, .int .i64 j.sp.catch_, .int .i64 j.state, .int .i64 j.due, .int .u64 j.tok, .int .i64 j.failed, .int .i64 j.res, .string j.worker, .int .u64 j.order, .int .i64 j.created, .int .i64 j.runs, .int .i64 j.missed] 42) := ⟨_, rfl⟩
  have hbw : Below w.heap.size w W := by rw [hW]; exact (Below.refl _ w).alloc (Nat.le_refl _) _
  have hx : W.heap[w.heap.size]? = some (.cells #[.string j.sp.name, .string j.sp.ten, .int .i64 j.sp.pri, .int .i64 j.sp.delay, .slice ad n cp, .int .i64 j.sp.base, .int .i64 j.sp.cap, .int .i64 j.sp.att, .int .i64 j.sp.lease, .string j.sp.cron, .int .i64 j.sp.catch_, .int .i64 j.state, .int .i64 j.due, .int .u64 j.tok, .int .i64 j.failed, .int .i64 j.res, .string j.worker, .int .u64 j.order, .int .i64 j.created, .int .i64 j.runs, .int .i64 j.missed] 42 (0, 0)) := by rw [hW]; exact heap_new w _
  have hsW := bheap hbw hb (heap_lt hb)
  have hq : ∀ d os, Calls Tryz.prog 57 #[.agg #[.string j.sp.name, .string j.sp.ten, .int .i64 j.sp.pri, .int .i64 j.sp.delay, .slice ad n cp, .int .i64 j.sp.base, .int .i64 j.sp.cap, .int .i64 j.sp.att, .int .i64 j.sp.lease, .string j.sp.cron, .int .i64 j.sp.catch_]] (grow (redrawn W d) os) (fun e w'' => e = .returned (.int .i64 (checkF j.sp)) ∧ ∃ p : Regrown, w'' = grow (redrawn W p.d) p.os) := fun d os => Calls.regrown_of ((check_any _ ((hm.step hbw).step (below_regrown W d os)) j.sp ad n cp ⟨hs.wf, (hs.row.kept (Keeps.of_belowS (S := fun _ => False) (hbw.trans ((below_regrown W d os).mono hbw.size))) (fun _ _ h => h))⟩).mono fun e w' h => ⟨h.1, h.2⟩)
  rw [hc] at hq
  have r3 : ∀ d os, (Instr.lookup 66 (.map (some mj)) (.string j.sp.name) false).run Tryz.prog (grow (redrawn W d) os) = .ok (.pointer ((aget j.sp.name l).map fun b => ⟨b, 0, none⟩)) (grow (redrawn W d) os) := fun d os =>
    jget (hM.kept (Keeps.of_belowS (S := fun _ => False) (hbw.trans ((below_regrown W d os).mono hbw.size))) (fun h => h)) hk
  rw [hn] at r3
  simp only [Option.map] at r3
  have hl := heap_lt hb
  have g3 : ∀ d os, (grow (redrawn W d) os).cell? ⟨s, 3, none⟩ = some (.map (some mj)) := cell_regrown (blk_cell hsW 3 rfl)
  have e0 : ∀ d os, (grow (redrawn W d) os).cell? ⟨w.heap.size, 0, none⟩ = some (.string j.sp.name) := cell_regrown (blk_cell hx 0 rfl)
  have e1 : ∀ d os, (grow (redrawn W d) os).cell? ⟨w.heap.size, 1, none⟩ = some (.string j.sp.ten) := cell_regrown (blk_cell hx 1 rfl)
  have e2 : ∀ d os, (grow (redrawn W d) os).cell? ⟨w.heap.size, 2, none⟩ = some (.int .i64 j.sp.pri) := cell_regrown (blk_cell hx 2 rfl)
  have e3 : ∀ d os, (grow (redrawn W d) os).cell? ⟨w.heap.size, 3, none⟩ = some (.int .i64 j.sp.delay) := cell_regrown (blk_cell hx 3 rfl)
  have e4 : ∀ d os, (grow (redrawn W d) os).cell? ⟨w.heap.size, 4, none⟩ = some (.slice ad n cp) := cell_regrown (blk_cell hx 4 rfl)
  have e5 : ∀ d os, (grow (redrawn W d) os).cell? ⟨w.heap.size, 5, none⟩ = some (.int .i64 j.sp.base) := cell_regrown (blk_cell hx 5 rfl)
  have e6 : ∀ d os, (grow (redrawn W d) os).cell? ⟨w.heap.size, 6, none⟩ = some (.int .i64 j.sp.cap) := cell_regrown (blk_cell hx 6 rfl)
  have e7 : ∀ d os, (grow (redrawn W d) os).cell? ⟨w.heap.size, 7, none⟩ = some (.int .i64 j.sp.att) := cell_regrown (blk_cell hx 7 rfl)
  have e8 : ∀ d os, (grow (redrawn W d) os).cell? ⟨w.heap.size, 8, none⟩ = some (.int .i64 j.sp.lease) := cell_regrown (blk_cell hx 8 rfl)
  have e9 : ∀ d os, (grow (redrawn W d) os).cell? ⟨w.heap.size, 9, none⟩ = some (.string j.sp.cron) := cell_regrown (blk_cell hx 9 rfl)
  have e10 : ∀ d os, (grow (redrawn W d) os).cell? ⟨w.heap.size, 10, none⟩ = some (.int .i64 j.sp.catch_) := cell_regrown (blk_cell hx 10 rfl)
  have e11 : ∀ d os, (grow (redrawn W d) os).cell? ⟨w.heap.size, 11, none⟩ = some (.int .i64 j.state) := cell_regrown (blk_cell hx 11 rfl)
  have e12 : ∀ d os, (grow (redrawn W d) os).cell? ⟨w.heap.size, 12, none⟩ = some (.int .i64 j.due) := cell_regrown (blk_cell hx 12 rfl)
  have e14 : ∀ d os, (grow (redrawn W d) os).cell? ⟨w.heap.size, 14, none⟩ = some (.int .i64 j.failed) := cell_regrown (blk_cell hx 14 rfl)
  have e18 : ∀ d os, (grow (redrawn W d) os).cell? ⟨w.heap.size, 18, none⟩ = some (.int .i64 j.created) := cell_regrown (blk_cell hx 18 rfl)
  have e19 : ∀ d os, (grow (redrawn W d) os).cell? ⟨w.heap.size, 19, none⟩ = some (.int .i64 j.runs) := cell_regrown (blk_cell hx 19 rfl)
  have e20 : ∀ d os, (grow (redrawn W d) os).cell? ⟨w.heap.size, 20, none⟩ = some (.int .i64 j.missed) := cell_regrown (blk_cell hx 20 rfl)
  have hlw : w.heap.size < W.heap.size := heap_lt hx
  have HZ := Lib.hid hbw
  have HQ := Lib.hid hq
  have HN := Lib.hid hn
  clear hc hn
  have dneg : decide (0 ≤ j.missed) = false := decide_eq_false h7
  clear hb hM hs hm hk hsW hx hbw hq
  unfold Jb.v Jb.cells
  go_enter Tryz.func38, Tryz.ntmps38
  go_wp2_with fail
  rw [← hW]
  clear hW
  refine wp_region_quiet_below (by kernel_rfl) (by kernel_rfl) ?_
  repeat (quiet_step (with_reducible exact HQ.out _ _))
  refine wpQuiet_nil ?_
  intro _ hw'
  obtain ⟨⟨dq, osq⟩, hw''⟩ := hw'
  subst hw''
  have HB := Lib.hid (HZ.out.trans ((below_regrown W dq osq).mono HZ.out.size))
  go_wp2_with fail
  go_ret
  exact ⟨HB.out, _, rfl, fun _ => HN.out⟩

end Go.Proofs.YtheipmallojdkaaGreatDoor

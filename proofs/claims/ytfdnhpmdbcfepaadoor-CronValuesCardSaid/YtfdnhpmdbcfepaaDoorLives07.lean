/- The statements' own first check of package cron (lives). -/
import Derived.Test.YtfdnhpmdbcfepaaDoorCronA
namespace Go.Proofs.YtfdnhpmdbcfepaaDoor
open Go.RowKit Go.ChangeMaps

def liveB : Bs := [48, 32, 49, 50, 32, 49, 32, 42, 32, 109, 111, 110]
def liveE : Ex := ⟨1, 4096, 2, 8190, 2, false, false⟩
theorem live_parse : cronF liveB = (liveE, 0) := by kernel_rfl
theorem live_1 : atB liveE 720 = true := by kernel_rfl
theorem live_2 : atB liveE 721 = false := by kernel_rfl
theorem live_3 : atB liveE 2160 = false := by kernel_rfl
theorem live_4 : atB liveE 3600 = true := by kernel_rfl

set_option maxRecDepth 100000 in
set_option maxHeartbeats 4000000 in
theorem lives07 (w : World) (hm : MaxL w) : Calls Tryd.prog 11 #[] w (RetB (.bool true) w) := by
  have hp := cronParse_any w liveB hm (by decide)
  rw [live_parse] at hp
  change Calls Tryd.prog 12 #[.string ⟨#[48, 32, 49, 50, 32, 49, 32, 42, 32, 109, 111, 110]⟩] w (RetB (.tuple #[.agg #[.int .u64 1, .int .u64 4096, .int .u64 2, .int .u64 8190, .int .u64 2, .bool false, .bool false], .int .i64 0]) w) at hp
  have ok : liveE.Ok := ⟨by decide, by decide, by decide, by decide, by decide⟩
  have h1 : ∀ W, Calls Tryd.prog 13 #[.agg #[.int .u64 1, .int .u64 4096, .int .u64 2, .int .u64 8190, .int .u64 2, .bool false, .bool false], .int .i64 720] W (RetB (.bool true) W) := fun W => by
    have h := cronAt_any W liveE ok 720
    rw [live_1] at h
    exact h
  have h2 : ∀ W, Calls Tryd.prog 13 #[.agg #[.int .u64 1, .int .u64 4096, .int .u64 2, .int .u64 8190, .int .u64 2, .bool false, .bool false], .int .i64 721] W (RetB (.bool false) W) := fun W => by
    have h := cronAt_any W liveE ok 721
    rw [live_2] at h
    exact h
  have h3 : ∀ W, Calls Tryd.prog 13 #[.agg #[.int .u64 1, .int .u64 4096, .int .u64 2, .int .u64 8190, .int .u64 2, .bool false, .bool false], .int .i64 2160] W (RetB (.bool false) W) := fun W => by
    have h := cronAt_any W liveE ok 2160
    rw [live_3] at h
    exact h
  have h4 : ∀ W, Calls Tryd.prog 13 #[.agg #[.int .u64 1, .int .u64 4096, .int .u64 2, .int .u64 8190, .int .u64 2, .bool false, .bool false], .int .i64 3600] W (RetB (.bool true) W) := fun W => by
    have h := cronAt_any W liveE ok 3600
    rw [live_4] at h
    exact h
  have HM := Lib.hid hm
  clear hm ok
  go_enter Tryd.func11, Tryd.ntmps11
  go_wp2_with fail
  refine hp.mono ?_
  rintro en w1 ⟨rfl, hb1⟩
  have HB1 := Lib.hid (hb1.alloc hb1.size (.cells #[.int .u64 1, .int .u64 4096, .int .u64 2, .int .u64 8190, .int .u64 2, .bool false, .bool false] 25))
  have HX1 := Lib.hid (heap_new w1 (.cells #[.int .u64 1, .int .u64 4096, .int .u64 2, .int .u64 8190, .int .u64 2, .bool false, .bool false] 25))
  clear hb1 hp
  go_wp2_with fail
  refine (h1 _).mono ?_
  rintro en w2 ⟨rfl, hb2⟩
  have hx := bheap hb2 HX1.out (heap_lt HX1.out)
  have HX2 := Lib.hid hx
  have HB2 := Lib.hid (HB1.out.trans (hb2.mono HB1.out.size))
  have c0 : w2.cell? ⟨w1.heap.size, 0, none⟩ = some (.int .u64 1) := blk_cell hx 0 rfl
  have c1 : w2.cell? ⟨w1.heap.size, 1, none⟩ = some (.int .u64 4096) := blk_cell hx 1 rfl
  have c2 : w2.cell? ⟨w1.heap.size, 2, none⟩ = some (.int .u64 2) := blk_cell hx 2 rfl
  have c3 : w2.cell? ⟨w1.heap.size, 3, none⟩ = some (.int .u64 8190) := blk_cell hx 3 rfl
  have c4 : w2.cell? ⟨w1.heap.size, 4, none⟩ = some (.int .u64 2) := blk_cell hx 4 rfl
  have c5 : w2.cell? ⟨w1.heap.size, 5, none⟩ = some (.bool false) := blk_cell hx 5 rfl
  have c6 : w2.cell? ⟨w1.heap.size, 6, none⟩ = some (.bool false) := blk_cell hx 6 rfl
  clear hx hb2
  go_wp2_with fail
  refine (h2 _).mono ?_
  rintro en w3 ⟨rfl, hb3⟩
  have hx := bheap hb3 HX2.out (heap_lt HX2.out)
  have HX3 := Lib.hid hx
  have HB3 := Lib.hid (HB2.out.trans (hb3.mono HB2.out.size))
  have c0 : w3.cell? ⟨w1.heap.size, 0, none⟩ = some (.int .u64 1) := blk_cell hx 0 rfl
  have c1 : w3.cell? ⟨w1.heap.size, 1, none⟩ = some (.int .u64 4096) := blk_cell hx 1 rfl
  have c2 : w3.cell? ⟨w1.heap.size, 2, none⟩ = some (.int .u64 2) := blk_cell hx 2 rfl
  have c3 : w3.cell? ⟨w1.heap.size, 3, none⟩ = some (.int .u64 8190) := blk_cell hx 3 rfl
  have c4 : w3.cell? ⟨w1.heap.size, 4, none⟩ = some (.int .u64 2) := blk_cell hx 4 rfl
  have c5 : w3.cell? ⟨w1.heap.size, 5, none⟩ = some (.bool false) := blk_cell hx 5 rfl
  have c6 : w3.cell? ⟨w1.heap.size, 6, none⟩ = some (.bool false) := blk_cell hx 6 rfl
  clear hx hb3
  go_wp2_with fail
  refine (h3 _).mono ?_
  rintro en w4 ⟨rfl, hb4⟩
  have hx := bheap hb4 HX3.out (heap_lt HX3.out)
  have HX4 := Lib.hid hx
  have HB4 := Lib.hid (HB3.out.trans (hb4.mono HB3.out.size))
  have c0 : w4.cell? ⟨w1.heap.size, 0, none⟩ = some (.int .u64 1) := blk_cell hx 0 rfl
  have c1 : w4.cell? ⟨w1.heap.size, 1, none⟩ = some (.int .u64 4096) := blk_cell hx 1 rfl
  have c2 : w4.cell? ⟨w1.heap.size, 2, none⟩ = some (.int .u64 2) := blk_cell hx 2 rfl
  have c3 : w4.cell? ⟨w1.heap.size, 3, none⟩ = some (.int .u64 8190) := blk_cell hx 3 rfl
  have c4 : w4.cell? ⟨w1.heap.size, 4, none⟩ = some (.int .u64 2) := blk_cell hx 4 rfl
  have c5 : w4.cell? ⟨w1.heap.size, 5, none⟩ = some (.bool false) := blk_cell hx 5 rfl
  have c6 : w4.cell? ⟨w1.heap.size, 6, none⟩ = some (.bool false) := blk_cell hx 6 rfl
  clear hx hb4
  go_wp2_with fail
  refine (h4 _).mono ?_
  rintro en w5 ⟨rfl, hb5⟩
  go_wp2_with fail
  go_ret
  exact RetB.mk rfl (HB4.out.trans (hb5.mono HB4.out.size))

end Go.Proofs.YtfdnhpmdbcfepaaDoor

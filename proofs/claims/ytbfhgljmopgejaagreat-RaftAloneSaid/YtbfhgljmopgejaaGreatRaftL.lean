/- Package raft: New, of a node alone. -/
import Derived.Test.YtbfhgljmopgejaaGreatRaftK
namespace Go.Proofs.YtbfhgljmopgejaaGreat
open Go.RowKit Go.Sort

theorem follow_nil (w : World) (ix tm : Int) : Calls Tryz.prog 31 #[.int .u64 ix, .int .u64 tm, .slice none 0 0] w (Ret (.int .i64 0) w) := by
  go_enter Tryz.func31, Tryz.ntmps31
  go_wp2
  go_loop [7, 12] (fun b i => b = .bool false ∧ i = .int .i64 0) (fun _ _ => 0)
  case atStart => exact ⟨rfl, rfl⟩
  case round =>
    obtain ⟨rfl, rfl⟩ := hrel
    go_wp2
    go_ret
    exact Ret.mk rfl

theorem known_nil (w : World) (t : Value) : Calls Tryz.prog 33 #[t, .slice none 0 0] w (Ret (.int .i64 0) w) := by
  go_enter Tryz.func33, Tryz.ntmps33
  go_wp2
  go_loop [5, 12] (fun b i => b = .int .i64 0 ∧ i = .int .i64 0) (fun _ _ => 0)
  case atStart => exact ⟨rfl, rfl⟩
  case round =>
    obtain ⟨rfl, rfl⟩ := hrel
    go_wp2
    go_ret
    exact Ret.mk rfl

theorem put_nil (w : World) (t : Nat) (r : Option Nat) (es : List Ent) (h : LogAt w t r 0 0 es) (ok : LogOk 0 0 es) : Calls Tryz.prog 20 #[.pointer (some ⟨t, 0, none⟩), .int .u64 0, .int .u64 0, .slice none 0 0] w (RetB (.tuple #[.int .u64 0, .int .i64 0]) w) := by
  have HT := Lib.hid (term_base w t r 0 0 es h ok)
  clear h ok
  go_enter Tryz.func20, Tryz.ntmps20
  go_wp2_with fail
  refine (follow_nil w 0 0).mono ?_
  rintro en w' ⟨rfl, rfl⟩
  go_wp2_with fail
  refine HT.out.mono ?_
  rintro en w1 ⟨rfl, hb1⟩
  have HB1 := Lib.hid hb1
  clear hb1
  go_wp2_with fail
  refine (known_nil w1 _).mono ?_
  rintro en w' ⟨rfl, rfl⟩
  go_wp2_with fail
  go_ret2
  exact RetB.mk rfl HB1.out

theorem cloneI_nil (w : World) : Calls Tryz.prog 17 #[.slice none 0 0] w (Ret (.slice none 0 0) w) := by
  have hnil := fun w => Lib.run_eql_slice_nil (P := Tryz.prog) w 30 3 none 0 0 0 0 Tryz.underlying30
  go_enter Tryz.func17, Tryz.ntmps17
  go_wp2
  go_ret
  exact Ret.mk rfl
theorem cloneB_nil (w : World) : Calls Tryz.prog 30 #[.slice none 0 0] w (Ret (.slice none 0 0) w) := by
  have hnil := fun w => Lib.run_eql_slice_nil (P := Tryz.prog) w 33 5 none 0 0 0 0 Tryz.underlying33
  go_enter Tryz.func30, Tryz.ntmps30
  go_wp2
  go_ret
  exact Ret.mk rfl

theorem keep_same {W : World} {a b : Addr} {v u : Value} (h : W.cell? a = some v) (hb : W.cell? b = some u) : (W.setCell a v).cell? b = some u := by
  by_cases e : a = b
  · subst e
    rw [World.cell?_setCell_same _ _ _ h, ← hb, h]
  · rw [World.cell?_setCell_other _ _ _ _ e]
    exact hb
theorem keep_sameD {W : World} {a b : Addr} {v u : Value} (h : W.cell? a = some v) (hb : W.cell? b = some u) : (W.setCell a v).drew.cell? b = some u := keep_same h hb

theorem clone_img (w : World) : Calls Tryz.prog 18 #[.agg #[.int .u64 0, .int .u64 0, .slice none 0 0, .slice none 0 0]] w (RetB (.agg #[.int .u64 0, .int .u64 0, .slice none 0 0, .slice none 0 0]) w) := by
  go_enter Tryz.func18, Tryz.ntmps18
  go_wp2_with fail
  obtain ⟨W, hW⟩ : ∃ W, W = (w.alloc (.cells #[.int .u64 0, .int .u64 0, .slice none 0 0, .slice none 0 0] 35)).alloc (.cells #[.int .u64 0, .int .u64 0, .slice none 0 0, .slice none 0 0] 35) := ⟨_, rfl⟩
  have hx : W.heap[w.heap.size]? = some (.cells #[.int .u64 0, .int .u64 0, .slice none 0 0, .slice none 0 0] 35 (0, 0)) := by rw [hW]; exact aheap (heap_new _ _) _
  have hy : W.heap[w.heap.size + 1]? = some (.cells #[.int .u64 0, .int .u64 0, .slice none 0 0, .slice none 0 0] 35 (0, 0)) := by
    rw [hW]
    have : (w.alloc (.cells #[.int .u64 0, .int .u64 0, .slice none 0 0, .slice none 0 0] 35)).heap.size = w.heap.size + 1 := by simp
    rw [← this]
    exact heap_new _ _
  have HB : Hid (Below w.heap.size w W) := Lib.hid (by rw [hW]; exact ((Below.refl _ _).alloc (Nat.le_refl _) _).alloc (by simp) _)
  rw [← hW]
  clear hW
  have c0 := blk_cell hx 0 rfl
  have c1 := blk_cell hx 1 rfl
  have c2 : W.cell? ⟨w.heap.size, 2, none⟩ = some (.slice none 0 0) := blk_cell hx 2 rfl
  have c3 : W.cell? ⟨w.heap.size, 3, none⟩ = some (.slice none 0 0) := blk_cell hx 3 rfl
  have f2 := blk_free hx 2
  have f3 := blk_free hx 3
  have y0 := blk_cell hy 0 rfl
  have y1 := blk_cell hy 1 rfl
  have y2 := blk_cell hy 2 rfl
  have y3 := blk_cell hy 3 rfl
  have g0 := blk_free hy 0
  have g1 := blk_free hy 1
  have g2 := blk_free hy 2
  have g3 := blk_free hy 3
  go_region_held3 (fun w' => w'.cell? ⟨w.heap.size, 2, none⟩ = some (.slice none 0 0) ∧ w'.cell? ⟨w.heap.size, 3, none⟩ = some (.slice none 0 0)) (first | with_reducible exact ⟨c2, c3⟩ | exact (show W.cell? _ = _ ∧ W.cell? _ = _ from ⟨c2, c3⟩) | with_reducible exact ⟨keep_sameD c2 c2, keep_sameD c2 c3⟩ | with_reducible exact ⟨keep_same c2 c2, keep_same c2 c3⟩ | with_reducible exact ⟨keep_sameD (keep_same c2 c3) (keep_same c2 c2), keep_sameD (keep_same c2 c3) (keep_same c2 c3)⟩ | with_reducible exact ⟨keep_same (keep_same c2 c3) (keep_same c2 c2), keep_same (keep_same c2 c3) (keep_same c2 c3)⟩)
    (first
      | (go_at_call 17; refine (cloneI_nil _).mono ?_; rintro en w3 ⟨rfl, rfl⟩)
      | (go_at_call 30; refine (cloneB_nil _).mono ?_; rintro en w3 ⟨rfl, rfl⟩))
  have k0 : ((W.setCell ⟨w.heap.size, 2, none⟩ (.slice none 0 0)).setCell ⟨w.heap.size, 3, none⟩ (.slice none 0 0)).drew.cell? ⟨w.heap.size, 0, none⟩ = some (.int .u64 0) := keep_sameD (keep_same c2 c3) (keep_same c2 c0)
  have k1 : ((W.setCell ⟨w.heap.size, 2, none⟩ (.slice none 0 0)).setCell ⟨w.heap.size, 3, none⟩ (.slice none 0 0)).drew.cell? ⟨w.heap.size, 1, none⟩ = some (.int .u64 0) := keep_sameD (keep_same c2 c3) (keep_same c2 c1)
  have k2 : ((W.setCell ⟨w.heap.size, 2, none⟩ (.slice none 0 0)).setCell ⟨w.heap.size, 3, none⟩ (.slice none 0 0)).drew.cell? ⟨w.heap.size, 2, none⟩ = some (.slice none 0 0) := keep_sameD (keep_same c2 c3) (keep_same c2 c2)
  have k3 : ((W.setCell ⟨w.heap.size, 2, none⟩ (.slice none 0 0)).setCell ⟨w.heap.size, 3, none⟩ (.slice none 0 0)).drew.cell? ⟨w.heap.size, 3, none⟩ = some (.slice none 0 0) := keep_sameD (keep_same c2 c3) (keep_same c2 c3)
  have hy3 : ((W.setCell ⟨w.heap.size, 2, none⟩ (.slice none 0 0)).setCell ⟨w.heap.size, 3, none⟩ (.slice none 0 0)).drew.heap[w.heap.size + 1]? = some (.cells #[.int .u64 0, .int .u64 0, .slice none 0 0, .slice none 0 0] 35 (0, 0)) := blk_set_other (blk_set_other hy (by simp) _) (by simp) _
  have HB3 : Hid (Below w.heap.size w ((W.setCell ⟨w.heap.size, 2, none⟩ (.slice none 0 0)).setCell ⟨w.heap.size, 3, none⟩ (.slice none 0 0)).drew) := Lib.hid (belowD ((HB.out.setCell (by simp) _).setCell (by simp) _))
  generalize ((W.setCell ⟨w.heap.size, 2, none⟩ (.slice none 0 0)).setCell ⟨w.heap.size, 3, none⟩ (.slice none 0 0)).drew = W3 at *
  clear y0 y1 y2 y3 g0 g1 g2 g3 c0 c1 c2 c3 f2 f3 hx hy
  have y0 := blk_cell hy3 0 rfl
  have y1 := blk_cell hy3 1 rfl
  have y2 := blk_cell hy3 2 rfl
  have y3 := blk_cell hy3 3 rfl
  have g0 := blk_free hy3 0
  have g1 := blk_free hy3 1
  have g2 := blk_free hy3 2
  have g3 := blk_free hy3 3
  clear hy3
  go_wp2_with fail
  refine bodyPost_ret (v := .agg #[.int .u64 0, .int .u64 0, .slice none 0 0, .slice none 0 0]) (by simp [results, Tryz.results18, go_sem, y0, y1, y2, y3]) rfl ?_
  exact RetB.mk rfl ((((HB3.out.setCell (by simp) _).setCell (by simp) _).setCell (by simp) _).setCell (by simp) _)

end Go.Proofs.YtbfhgljmopgejaaGreat

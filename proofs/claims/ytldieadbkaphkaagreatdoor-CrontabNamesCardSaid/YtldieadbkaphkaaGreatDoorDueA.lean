/- Package crontab: Due of what is no template, or of ticks that may not be (printed by wip/tools/gen_duea.py). -/
import Derived.Test.YtldieadbkaphkaaGreatDoorTmpl
import Derived.Test.YtldieadbkaphkaaGreatDoorDueL
namespace Go.Proofs.YtldieadbkaphkaaGreatDoor
open Go.RowKit Go.ChangeMaps

set_option maxRecDepth 100000 in
set_option maxHeartbeats 4000000 in
theorem due_arg (w : World) (hm : MaxL w) (s : Sp) (a : Option Addr) (n cap : Nat) (h : SpAt w s a n cap) (x y : Int) (ht : tmplB s = false) :
    Calls Tryz.prog 8 #[s.v (.slice a n cap), .int .i64 x, .int .i64 y] w (RetB (.tuple #[.slice none 0 0, .int .i64 0, .int .i64 1]) w) := by
  have hc := template_at w hm s a n cap h
  rw [ht] at hc
  have HC := Lib.hid hc
  have HB0 : Hid (Below w.heap.size w ((((w.alloc (.cells #[.string s.name, .string s.ten, .int .i64 s.pri, .int .i64 s.delay, .slice a n cap, .int .i64 s.base, .int .i64 s.cap, .int .i64 s.att, .int .i64 s.lease, .string s.cron, .int .i64 s.catch_] 24)).alloc (.cells #[.slice none 0 0] 27)).alloc (.cells #[.int .i64 0] 3)).alloc (.cells #[.int .i64 0] 28))) := Lib.hid (((((Below.refl _ _).alloc (Nat.le_refl _) _).alloc (by simp) _).alloc (by simp; omega) _).alloc (by simp; omega) _)
  have h1 : ((((w.alloc (.cells #[.string s.name, .string s.ten, .int .i64 s.pri, .int .i64 s.delay, .slice a n cap, .int .i64 s.base, .int .i64 s.cap, .int .i64 s.att, .int .i64 s.lease, .string s.cron, .int .i64 s.catch_] 24)).alloc (.cells #[.slice none 0 0] 27)).alloc (.cells #[.int .i64 0] 3)).alloc (.cells #[.int .i64 0] 28)).heap[w.heap.size + 1]? = some (.cells #[.slice none 0 0] 27) := aheap (aheap (heap_newAt (by simp)) _) _
  have h2 : ((((w.alloc (.cells #[.string s.name, .string s.ten, .int .i64 s.pri, .int .i64 s.delay, .slice a n cap, .int .i64 s.base, .int .i64 s.cap, .int .i64 s.att, .int .i64 s.lease, .string s.cron, .int .i64 s.catch_] 24)).alloc (.cells #[.slice none 0 0] 27)).alloc (.cells #[.int .i64 0] 3)).alloc (.cells #[.int .i64 0] 28)).heap[w.heap.size + 1 + 1]? = some (.cells #[.int .i64 0] 3) := aheap (heap_newAt (by simp)) _
  have h3 : ((((w.alloc (.cells #[.string s.name, .string s.ten, .int .i64 s.pri, .int .i64 s.delay, .slice a n cap, .int .i64 s.base, .int .i64 s.cap, .int .i64 s.att, .int .i64 s.lease, .string s.cron, .int .i64 s.catch_] 24)).alloc (.cells #[.slice none 0 0] 27)).alloc (.cells #[.int .i64 0] 3)).alloc (.cells #[.int .i64 0] 28)).heap[w.heap.size + 1 + 1 + 1]? = some (.cells #[.int .i64 0] 28) := heap_newAt (by simp)
  have H1 := Lib.hid h1
  have H2 := Lib.hid h2
  have H3 := Lib.hid h3
  have hsz : ((((w.alloc (.cells #[.string s.name, .string s.ten, .int .i64 s.pri, .int .i64 s.delay, .slice a n cap, .int .i64 s.base, .int .i64 s.cap, .int .i64 s.att, .int .i64 s.lease, .string s.cron, .int .i64 s.catch_] 24)).alloc (.cells #[.slice none 0 0] 27)).alloc (.cells #[.int .i64 0] 3)).alloc (.cells #[.int .i64 0] 28)).heap.size = w.heap.size + 4 := by simp
  have HSZ := Lib.hid hsz
  clear hc h hm ht h1 h2 h3 hsz
  unfold Sp.v Sp.cells
  go_enter Tryz.func8, Tryz.ntmps8
  go_wp2_with (first | (refine wpList_load_all _ rfl _ _ rfl _ rfl _ _ _ _ (aheap (aheap (aheap (heap_new _ _) _) _) _) rfl _ Tryz.underlying24 rfl info_spec ?_) | fail)
  refine (HC.out _ HB0.out).mono ?_
  rintro en w1 ⟨rfl, hb1⟩
  have g1 := bheap hb1 H1.out (heap_lt H1.out)
  have g2 := bheap hb1 H2.out (heap_lt H2.out)
  have g3 := bheap hb1 H3.out (heap_lt H3.out)
  have HB1 := Lib.hid (HB0.out.trans (hb1.mono HB0.out.size))
  clear hb1
  have c1 : w1.cell? ⟨w.heap.size + 1, 0, none⟩ = some (.slice none 0 0) := blk_cell g1 0 rfl
  have c2 : w1.cell? ⟨w.heap.size + 1 + 1, 0, none⟩ = some (.int .i64 0) := blk_cell g2 0 rfl
  have c3 : w1.cell? ⟨w.heap.size + 1 + 1 + 1, 0, none⟩ = some (.int .i64 0) := blk_cell g3 0 rfl
  have f1 := blk_free g1 0
  have f2 := blk_free g2 0
  have f3 := blk_free g3 0
  have HG1 := Lib.hid g1
  have HG2 := Lib.hid g2
  have HG3 := Lib.hid g3
  clear g1 g2 g3
  obtain ⟨W, hW⟩ : ∃ W, W = ((w1.setCell ⟨w.heap.size + 1, 0, none⟩ (.slice none 0 0)).setCell ⟨w.heap.size + 1 + 1, 0, none⟩ (.int .i64 0)).setCell ⟨w.heap.size + 1 + 1 + 1, 0, none⟩ (.int .i64 1) := ⟨_, rfl⟩
  have r1 : W.heap[w.heap.size + 1]? = some (.cells #[.slice none 0 0] 27) := by rw [hW]; exact blk_set_other (blk_set_other (blk_set HG1.out 0 _) (by simp only; omega) _) (by simp only; omega) _
  have r2 : W.heap[w.heap.size + 1 + 1]? = some (.cells #[.int .i64 0] 3) := by rw [hW]; exact blk_set_other (blk_set (blk_set_other HG2.out (by simp only; omega) _) 0 _) (by simp only; omega) _
  have r3 : W.heap[w.heap.size + 1 + 1 + 1]? = some (.cells #[.int .i64 1] 28) := by rw [hW]; exact blk_set (blk_set_other (blk_set_other HG3.out (by simp only; omega) _) (by simp only; omega) _) 0 _
  have d1 : W.cell? ⟨w.heap.size + 1, 0, none⟩ = some (.slice none 0 0) := blk_cell r1 0 rfl
  have d2 : W.cell? ⟨w.heap.size + 1 + 1, 0, none⟩ = some (.int .i64 0) := blk_cell r2 0 rfl
  have d3 : W.cell? ⟨w.heap.size + 1 + 1 + 1, 0, none⟩ = some (.int .i64 1) := blk_cell r3 0 rfl
  have HBW : Hid (Below w.heap.size w W) := Lib.hid (by
    rw [hW]
    have hk : Keeps (fun k => k = w.heap.size + 1 ∨ k = w.heap.size + 1 + 1 ∨ k = w.heap.size + 1 + 1 + 1) w1 W := by rw [hW]; exact (((Keeps.refl _ w1).setCell (.inl (.inl rfl)) _).setCell (.inl (.inr (.inl rfl))) _).setCell (.inl (.inr (.inr rfl))) _
    rw [hW] at hk
    exact HB1.out.trans (hk.below HB1.out.size (fun k hk => by omega)))
  have D1 := Lib.hid d1
  have D2 := Lib.hid d2
  have D3 := Lib.hid d3
  have HW := Lib.hid hW
  clear r1 r2 r3 d1 d2 d3 hW
  go_wp2_with (fail)
  rw [← HW.out]
  have d1 := D1.out
  have d2 := D2.out
  have d3 := D3.out
  refine bodyPost_ret (v := .tuple #[.slice none 0 0, .int .i64 0, .int .i64 1]) (by simp [results, Tryz.results8, go_sem, d1, d2, d3]) rfl ?_
  exact RetB.mk rfl HBW.out

set_option maxRecDepth 100000 in
set_option maxHeartbeats 4000000 in
theorem due_r1 (w : World) (hm : MaxL w) (s : Sp) (a : Option Addr) (n cap : Nat) (h : SpAt w s a n cap) (x y : Int) (ht : tmplB s = true) (hx : rightB x = false) :
    Calls Tryz.prog 8 #[s.v (.slice a n cap), .int .i64 x, .int .i64 y] w (RetB (.tuple #[.slice none 0 0, .int .i64 0, .int .i64 3]) w) := by
  have hc := template_at w hm s a n cap h
  rw [ht] at hc
  have HC := Lib.hid hc
  have HB0 : Hid (Below w.heap.size w ((((w.alloc (.cells #[.string s.name, .string s.ten, .int .i64 s.pri, .int .i64 s.delay, .slice a n cap, .int .i64 s.base, .int .i64 s.cap, .int .i64 s.att, .int .i64 s.lease, .string s.cron, .int .i64 s.catch_] 24)).alloc (.cells #[.slice none 0 0] 27)).alloc (.cells #[.int .i64 0] 3)).alloc (.cells #[.int .i64 0] 28))) := Lib.hid (((((Below.refl _ _).alloc (Nat.le_refl _) _).alloc (by simp) _).alloc (by simp; omega) _).alloc (by simp; omega) _)
  have h1 : ((((w.alloc (.cells #[.string s.name, .string s.ten, .int .i64 s.pri, .int .i64 s.delay, .slice a n cap, .int .i64 s.base, .int .i64 s.cap, .int .i64 s.att, .int .i64 s.lease, .string s.cron, .int .i64 s.catch_] 24)).alloc (.cells #[.slice none 0 0] 27)).alloc (.cells #[.int .i64 0] 3)).alloc (.cells #[.int .i64 0] 28)).heap[w.heap.size + 1]? = some (.cells #[.slice none 0 0] 27) := aheap (aheap (heap_newAt (by simp)) _) _
  have h2 : ((((w.alloc (.cells #[.string s.name, .string s.ten, .int .i64 s.pri, .int .i64 s.delay, .slice a n cap, .int .i64 s.base, .int .i64 s.cap, .int .i64 s.att, .int .i64 s.lease, .string s.cron, .int .i64 s.catch_] 24)).alloc (.cells #[.slice none 0 0] 27)).alloc (.cells #[.int .i64 0] 3)).alloc (.cells #[.int .i64 0] 28)).heap[w.heap.size + 1 + 1]? = some (.cells #[.int .i64 0] 3) := aheap (heap_newAt (by simp)) _
  have h3 : ((((w.alloc (.cells #[.string s.name, .string s.ten, .int .i64 s.pri, .int .i64 s.delay, .slice a n cap, .int .i64 s.base, .int .i64 s.cap, .int .i64 s.att, .int .i64 s.lease, .string s.cron, .int .i64 s.catch_] 24)).alloc (.cells #[.slice none 0 0] 27)).alloc (.cells #[.int .i64 0] 3)).alloc (.cells #[.int .i64 0] 28)).heap[w.heap.size + 1 + 1 + 1]? = some (.cells #[.int .i64 0] 28) := heap_newAt (by simp)
  have H1 := Lib.hid h1
  have H2 := Lib.hid h2
  have H3 := Lib.hid h3
  have hsz : ((((w.alloc (.cells #[.string s.name, .string s.ten, .int .i64 s.pri, .int .i64 s.delay, .slice a n cap, .int .i64 s.base, .int .i64 s.cap, .int .i64 s.att, .int .i64 s.lease, .string s.cron, .int .i64 s.catch_] 24)).alloc (.cells #[.slice none 0 0] 27)).alloc (.cells #[.int .i64 0] 3)).alloc (.cells #[.int .i64 0] 28)).heap.size = w.heap.size + 4 := by simp
  have HSZ := Lib.hid hsz
  clear hc h hm ht h1 h2 h3 hsz
  unfold Sp.v Sp.cells
  go_enter Tryz.func8, Tryz.ntmps8
  go_wp2_with (first | (refine wpList_load_all _ rfl _ _ rfl _ rfl _ _ _ _ (aheap (aheap (aheap (heap_new _ _) _) _) _) rfl _ Tryz.underlying24 rfl info_spec ?_) | fail)
  refine (HC.out _ HB0.out).mono ?_
  rintro en w1 ⟨rfl, hb1⟩
  have g1 := bheap hb1 H1.out (heap_lt H1.out)
  have g2 := bheap hb1 H2.out (heap_lt H2.out)
  have g3 := bheap hb1 H3.out (heap_lt H3.out)
  have HB1 := Lib.hid (HB0.out.trans (hb1.mono HB0.out.size))
  clear hb1
  have c1 : w1.cell? ⟨w.heap.size + 1, 0, none⟩ = some (.slice none 0 0) := blk_cell g1 0 rfl
  have c2 : w1.cell? ⟨w.heap.size + 1 + 1, 0, none⟩ = some (.int .i64 0) := blk_cell g2 0 rfl
  have c3 : w1.cell? ⟨w.heap.size + 1 + 1 + 1, 0, none⟩ = some (.int .i64 0) := blk_cell g3 0 rfl
  have f1 := blk_free g1 0
  have f2 := blk_free g2 0
  have f3 := blk_free g3 0
  have HG1 := Lib.hid g1
  have HG2 := Lib.hid g2
  have HG3 := Lib.hid g3
  clear g1 g2 g3
  obtain ⟨W, hW⟩ : ∃ W, W = ((w1.setCell ⟨w.heap.size + 1, 0, none⟩ (.slice none 0 0)).setCell ⟨w.heap.size + 1 + 1, 0, none⟩ (.int .i64 0)).setCell ⟨w.heap.size + 1 + 1 + 1, 0, none⟩ (.int .i64 3) := ⟨_, rfl⟩
  have r1 : W.heap[w.heap.size + 1]? = some (.cells #[.slice none 0 0] 27) := by rw [hW]; exact blk_set_other (blk_set_other (blk_set HG1.out 0 _) (by simp only; omega) _) (by simp only; omega) _
  have r2 : W.heap[w.heap.size + 1 + 1]? = some (.cells #[.int .i64 0] 3) := by rw [hW]; exact blk_set_other (blk_set (blk_set_other HG2.out (by simp only; omega) _) 0 _) (by simp only; omega) _
  have r3 : W.heap[w.heap.size + 1 + 1 + 1]? = some (.cells #[.int .i64 3] 28) := by rw [hW]; exact blk_set (blk_set_other (blk_set_other HG3.out (by simp only; omega) _) (by simp only; omega) _) 0 _
  have d1 : W.cell? ⟨w.heap.size + 1, 0, none⟩ = some (.slice none 0 0) := blk_cell r1 0 rfl
  have d2 : W.cell? ⟨w.heap.size + 1 + 1, 0, none⟩ = some (.int .i64 0) := blk_cell r2 0 rfl
  have d3 : W.cell? ⟨w.heap.size + 1 + 1 + 1, 0, none⟩ = some (.int .i64 3) := blk_cell r3 0 rfl
  have HBW : Hid (Below w.heap.size w W) := Lib.hid (by
    rw [hW]
    have hk : Keeps (fun k => k = w.heap.size + 1 ∨ k = w.heap.size + 1 + 1 ∨ k = w.heap.size + 1 + 1 + 1) w1 W := by rw [hW]; exact (((Keeps.refl _ w1).setCell (.inl (.inl rfl)) _).setCell (.inl (.inr (.inl rfl))) _).setCell (.inl (.inr (.inr rfl))) _
    rw [hW] at hk
    exact HB1.out.trans (hk.below HB1.out.size (fun k hk => by omega)))
  have D1 := Lib.hid d1
  have D2 := Lib.hid d2
  have D3 := Lib.hid d3
  have HW := Lib.hid hW
  clear r1 r2 r3 d1 d2 d3 hW
  go_wp2_with (first | (go_at_call 19; refine (right_any _ _).mono ?_; rintro e w' ⟨rfl, rfl⟩) | fail)
  rw [← HW.out]
  have d1 := D1.out
  have d2 := D2.out
  have d3 := D3.out
  refine bodyPost_ret (v := .tuple #[.slice none 0 0, .int .i64 0, .int .i64 3]) (by simp [results, Tryz.results8, go_sem, d1, d2, d3]) rfl ?_
  exact RetB.mk rfl HBW.out

set_option maxRecDepth 100000 in
set_option maxHeartbeats 4000000 in
theorem due_r2 (w : World) (hm : MaxL w) (s : Sp) (a : Option Addr) (n cap : Nat) (h : SpAt w s a n cap) (x y : Int) (ht : tmplB s = true) (hx : rightB x = true) (hy : rightB y = false) :
    Calls Tryz.prog 8 #[s.v (.slice a n cap), .int .i64 x, .int .i64 y] w (RetB (.tuple #[.slice none 0 0, .int .i64 0, .int .i64 3]) w) := by
  have hc := template_at w hm s a n cap h
  rw [ht] at hc
  have HC := Lib.hid hc
  have HB0 : Hid (Below w.heap.size w ((((w.alloc (.cells #[.string s.name, .string s.ten, .int .i64 s.pri, .int .i64 s.delay, .slice a n cap, .int .i64 s.base, .int .i64 s.cap, .int .i64 s.att, .int .i64 s.lease, .string s.cron, .int .i64 s.catch_] 24)).alloc (.cells #[.slice none 0 0] 27)).alloc (.cells #[.int .i64 0] 3)).alloc (.cells #[.int .i64 0] 28))) := Lib.hid (((((Below.refl _ _).alloc (Nat.le_refl _) _).alloc (by simp) _).alloc (by simp; omega) _).alloc (by simp; omega) _)
  have h1 : ((((w.alloc (.cells #[.string s.name, .string s.ten, .int .i64 s.pri, .int .i64 s.delay, .slice a n cap, .int .i64 s.base, .int .i64 s.cap, .int .i64 s.att, .int .i64 s.lease, .string s.cron, .int .i64 s.catch_] 24)).alloc (.cells #[.slice none 0 0] 27)).alloc (.cells #[.int .i64 0] 3)).alloc (.cells #[.int .i64 0] 28)).heap[w.heap.size + 1]? = some (.cells #[.slice none 0 0] 27) := aheap (aheap (heap_newAt (by simp)) _) _
  have h2 : ((((w.alloc (.cells #[.string s.name, .string s.ten, .int .i64 s.pri, .int .i64 s.delay, .slice a n cap, .int .i64 s.base, .int .i64 s.cap, .int .i64 s.att, .int .i64 s.lease, .string s.cron, .int .i64 s.catch_] 24)).alloc (.cells #[.slice none 0 0] 27)).alloc (.cells #[.int .i64 0] 3)).alloc (.cells #[.int .i64 0] 28)).heap[w.heap.size + 1 + 1]? = some (.cells #[.int .i64 0] 3) := aheap (heap_newAt (by simp)) _
  have h3 : ((((w.alloc (.cells #[.string s.name, .string s.ten, .int .i64 s.pri, .int .i64 s.delay, .slice a n cap, .int .i64 s.base, .int .i64 s.cap, .int .i64 s.att, .int .i64 s.lease, .string s.cron, .int .i64 s.catch_] 24)).alloc (.cells #[.slice none 0 0] 27)).alloc (.cells #[.int .i64 0] 3)).alloc (.cells #[.int .i64 0] 28)).heap[w.heap.size + 1 + 1 + 1]? = some (.cells #[.int .i64 0] 28) := heap_newAt (by simp)
  have H1 := Lib.hid h1
  have H2 := Lib.hid h2
  have H3 := Lib.hid h3
  have hsz : ((((w.alloc (.cells #[.string s.name, .string s.ten, .int .i64 s.pri, .int .i64 s.delay, .slice a n cap, .int .i64 s.base, .int .i64 s.cap, .int .i64 s.att, .int .i64 s.lease, .string s.cron, .int .i64 s.catch_] 24)).alloc (.cells #[.slice none 0 0] 27)).alloc (.cells #[.int .i64 0] 3)).alloc (.cells #[.int .i64 0] 28)).heap.size = w.heap.size + 4 := by simp
  have HSZ := Lib.hid hsz
  clear hc h hm ht h1 h2 h3 hsz
  unfold Sp.v Sp.cells
  go_enter Tryz.func8, Tryz.ntmps8
  go_wp2_with (first | (refine wpList_load_all _ rfl _ _ rfl _ rfl _ _ _ _ (aheap (aheap (aheap (heap_new _ _) _) _) _) rfl _ Tryz.underlying24 rfl info_spec ?_) | fail)
  refine (HC.out _ HB0.out).mono ?_
  rintro en w1 ⟨rfl, hb1⟩
  have g1 := bheap hb1 H1.out (heap_lt H1.out)
  have g2 := bheap hb1 H2.out (heap_lt H2.out)
  have g3 := bheap hb1 H3.out (heap_lt H3.out)
  have HB1 := Lib.hid (HB0.out.trans (hb1.mono HB0.out.size))
  clear hb1
  have c1 : w1.cell? ⟨w.heap.size + 1, 0, none⟩ = some (.slice none 0 0) := blk_cell g1 0 rfl
  have c2 : w1.cell? ⟨w.heap.size + 1 + 1, 0, none⟩ = some (.int .i64 0) := blk_cell g2 0 rfl
  have c3 : w1.cell? ⟨w.heap.size + 1 + 1 + 1, 0, none⟩ = some (.int .i64 0) := blk_cell g3 0 rfl
  have f1 := blk_free g1 0
  have f2 := blk_free g2 0
  have f3 := blk_free g3 0
  have HG1 := Lib.hid g1
  have HG2 := Lib.hid g2
  have HG3 := Lib.hid g3
  clear g1 g2 g3
  obtain ⟨W, hW⟩ : ∃ W, W = ((w1.setCell ⟨w.heap.size + 1, 0, none⟩ (.slice none 0 0)).setCell ⟨w.heap.size + 1 + 1, 0, none⟩ (.int .i64 0)).setCell ⟨w.heap.size + 1 + 1 + 1, 0, none⟩ (.int .i64 3) := ⟨_, rfl⟩
  have r1 : W.heap[w.heap.size + 1]? = some (.cells #[.slice none 0 0] 27) := by rw [hW]; exact blk_set_other (blk_set_other (blk_set HG1.out 0 _) (by simp only; omega) _) (by simp only; omega) _
  have r2 : W.heap[w.heap.size + 1 + 1]? = some (.cells #[.int .i64 0] 3) := by rw [hW]; exact blk_set_other (blk_set (blk_set_other HG2.out (by simp only; omega) _) 0 _) (by simp only; omega) _
  have r3 : W.heap[w.heap.size + 1 + 1 + 1]? = some (.cells #[.int .i64 3] 28) := by rw [hW]; exact blk_set (blk_set_other (blk_set_other HG3.out (by simp only; omega) _) (by simp only; omega) _) 0 _
  have d1 : W.cell? ⟨w.heap.size + 1, 0, none⟩ = some (.slice none 0 0) := blk_cell r1 0 rfl
  have d2 : W.cell? ⟨w.heap.size + 1 + 1, 0, none⟩ = some (.int .i64 0) := blk_cell r2 0 rfl
  have d3 : W.cell? ⟨w.heap.size + 1 + 1 + 1, 0, none⟩ = some (.int .i64 3) := blk_cell r3 0 rfl
  have HBW : Hid (Below w.heap.size w W) := Lib.hid (by
    rw [hW]
    have hk : Keeps (fun k => k = w.heap.size + 1 ∨ k = w.heap.size + 1 + 1 ∨ k = w.heap.size + 1 + 1 + 1) w1 W := by rw [hW]; exact (((Keeps.refl _ w1).setCell (.inl (.inl rfl)) _).setCell (.inl (.inr (.inl rfl))) _).setCell (.inl (.inr (.inr rfl))) _
    rw [hW] at hk
    exact HB1.out.trans (hk.below HB1.out.size (fun k hk => by omega)))
  have D1 := Lib.hid d1
  have D2 := Lib.hid d2
  have D3 := Lib.hid d3
  have HW := Lib.hid hW
  clear r1 r2 r3 d1 d2 d3 hW
  go_wp2_with (first | (go_at_call 19; refine (right_any _ _).mono ?_; rintro e w' ⟨rfl, rfl⟩) | fail)
  rw [← HW.out]
  have d1 := D1.out
  have d2 := D2.out
  have d3 := D3.out
  refine bodyPost_ret (v := .tuple #[.slice none 0 0, .int .i64 0, .int .i64 3]) (by simp [results, Tryz.results8, go_sem, d1, d2, d3]) rfl ?_
  exact RetB.mk rfl HBW.out

set_option maxRecDepth 100000 in
set_option maxHeartbeats 4000000 in
theorem due_r3 (w : World) (hm : MaxL w) (s : Sp) (a : Option Addr) (n cap : Nat) (h : SpAt w s a n cap) (x y : Int) (ht : tmplB s = true) (hx : rightB x = true) (hy : rightB y = true) (hxy : y < x) :
    Calls Tryz.prog 8 #[s.v (.slice a n cap), .int .i64 x, .int .i64 y] w (RetB (.tuple #[.slice none 0 0, .int .i64 0, .int .i64 3]) w) := by
  have hc := template_at w hm s a n cap h
  rw [ht] at hc
  have HC := Lib.hid hc
  have HB0 : Hid (Below w.heap.size w ((((w.alloc (.cells #[.string s.name, .string s.ten, .int .i64 s.pri, .int .i64 s.delay, .slice a n cap, .int .i64 s.base, .int .i64 s.cap, .int .i64 s.att, .int .i64 s.lease, .string s.cron, .int .i64 s.catch_] 24)).alloc (.cells #[.slice none 0 0] 27)).alloc (.cells #[.int .i64 0] 3)).alloc (.cells #[.int .i64 0] 28))) := Lib.hid (((((Below.refl _ _).alloc (Nat.le_refl _) _).alloc (by simp) _).alloc (by simp; omega) _).alloc (by simp; omega) _)
  have h1 : ((((w.alloc (.cells #[.string s.name, .string s.ten, .int .i64 s.pri, .int .i64 s.delay, .slice a n cap, .int .i64 s.base, .int .i64 s.cap, .int .i64 s.att, .int .i64 s.lease, .string s.cron, .int .i64 s.catch_] 24)).alloc (.cells #[.slice none 0 0] 27)).alloc (.cells #[.int .i64 0] 3)).alloc (.cells #[.int .i64 0] 28)).heap[w.heap.size + 1]? = some (.cells #[.slice none 0 0] 27) := aheap (aheap (heap_newAt (by simp)) _) _
  have h2 : ((((w.alloc (.cells #[.string s.name, .string s.ten, .int .i64 s.pri, .int .i64 s.delay, .slice a n cap, .int .i64 s.base, .int .i64 s.cap, .int .i64 s.att, .int .i64 s.lease, .string s.cron, .int .i64 s.catch_] 24)).alloc (.cells #[.slice none 0 0] 27)).alloc (.cells #[.int .i64 0] 3)).alloc (.cells #[.int .i64 0] 28)).heap[w.heap.size + 1 + 1]? = some (.cells #[.int .i64 0] 3) := aheap (heap_newAt (by simp)) _
  have h3 : ((((w.alloc (.cells #[.string s.name, .string s.ten, .int .i64 s.pri, .int .i64 s.delay, .slice a n cap, .int .i64 s.base, .int .i64 s.cap, .int .i64 s.att, .int .i64 s.lease, .string s.cron, .int .i64 s.catch_] 24)).alloc (.cells #[.slice none 0 0] 27)).alloc (.cells #[.int .i64 0] 3)).alloc (.cells #[.int .i64 0] 28)).heap[w.heap.size + 1 + 1 + 1]? = some (.cells #[.int .i64 0] 28) := heap_newAt (by simp)
  have H1 := Lib.hid h1
  have H2 := Lib.hid h2
  have H3 := Lib.hid h3
  have hsz : ((((w.alloc (.cells #[.string s.name, .string s.ten, .int .i64 s.pri, .int .i64 s.delay, .slice a n cap, .int .i64 s.base, .int .i64 s.cap, .int .i64 s.att, .int .i64 s.lease, .string s.cron, .int .i64 s.catch_] 24)).alloc (.cells #[.slice none 0 0] 27)).alloc (.cells #[.int .i64 0] 3)).alloc (.cells #[.int .i64 0] 28)).heap.size = w.heap.size + 4 := by simp
  have HSZ := Lib.hid hsz
  clear hc h hm ht h1 h2 h3 hsz
  unfold Sp.v Sp.cells
  go_enter Tryz.func8, Tryz.ntmps8
  go_wp2_with (first | (refine wpList_load_all _ rfl _ _ rfl _ rfl _ _ _ _ (aheap (aheap (aheap (heap_new _ _) _) _) _) rfl _ Tryz.underlying24 rfl info_spec ?_) | fail)
  refine (HC.out _ HB0.out).mono ?_
  rintro en w1 ⟨rfl, hb1⟩
  have g1 := bheap hb1 H1.out (heap_lt H1.out)
  have g2 := bheap hb1 H2.out (heap_lt H2.out)
  have g3 := bheap hb1 H3.out (heap_lt H3.out)
  have HB1 := Lib.hid (HB0.out.trans (hb1.mono HB0.out.size))
  clear hb1
  have c1 : w1.cell? ⟨w.heap.size + 1, 0, none⟩ = some (.slice none 0 0) := blk_cell g1 0 rfl
  have c2 : w1.cell? ⟨w.heap.size + 1 + 1, 0, none⟩ = some (.int .i64 0) := blk_cell g2 0 rfl
  have c3 : w1.cell? ⟨w.heap.size + 1 + 1 + 1, 0, none⟩ = some (.int .i64 0) := blk_cell g3 0 rfl
  have f1 := blk_free g1 0
  have f2 := blk_free g2 0
  have f3 := blk_free g3 0
  have HG1 := Lib.hid g1
  have HG2 := Lib.hid g2
  have HG3 := Lib.hid g3
  clear g1 g2 g3
  obtain ⟨W, hW⟩ : ∃ W, W = ((w1.setCell ⟨w.heap.size + 1, 0, none⟩ (.slice none 0 0)).setCell ⟨w.heap.size + 1 + 1, 0, none⟩ (.int .i64 0)).setCell ⟨w.heap.size + 1 + 1 + 1, 0, none⟩ (.int .i64 3) := ⟨_, rfl⟩
  have r1 : W.heap[w.heap.size + 1]? = some (.cells #[.slice none 0 0] 27) := by rw [hW]; exact blk_set_other (blk_set_other (blk_set HG1.out 0 _) (by simp only; omega) _) (by simp only; omega) _
  have r2 : W.heap[w.heap.size + 1 + 1]? = some (.cells #[.int .i64 0] 3) := by rw [hW]; exact blk_set_other (blk_set (blk_set_other HG2.out (by simp only; omega) _) 0 _) (by simp only; omega) _
  have r3 : W.heap[w.heap.size + 1 + 1 + 1]? = some (.cells #[.int .i64 3] 28) := by rw [hW]; exact blk_set (blk_set_other (blk_set_other HG3.out (by simp only; omega) _) (by simp only; omega) _) 0 _
  have d1 : W.cell? ⟨w.heap.size + 1, 0, none⟩ = some (.slice none 0 0) := blk_cell r1 0 rfl
  have d2 : W.cell? ⟨w.heap.size + 1 + 1, 0, none⟩ = some (.int .i64 0) := blk_cell r2 0 rfl
  have d3 : W.cell? ⟨w.heap.size + 1 + 1 + 1, 0, none⟩ = some (.int .i64 3) := blk_cell r3 0 rfl
  have HBW : Hid (Below w.heap.size w W) := Lib.hid (by
    rw [hW]
    have hk : Keeps (fun k => k = w.heap.size + 1 ∨ k = w.heap.size + 1 + 1 ∨ k = w.heap.size + 1 + 1 + 1) w1 W := by rw [hW]; exact (((Keeps.refl _ w1).setCell (.inl (.inl rfl)) _).setCell (.inl (.inr (.inl rfl))) _).setCell (.inl (.inr (.inr rfl))) _
    rw [hW] at hk
    exact HB1.out.trans (hk.below HB1.out.size (fun k hk => by omega)))
  have D1 := Lib.hid d1
  have D2 := Lib.hid d2
  have D3 := Lib.hid d3
  have HW := Lib.hid hW
  clear r1 r2 r3 d1 d2 d3 hW
  go_wp2_with (first | (go_at_call 19; refine (right_any _ _).mono ?_; rintro e w' ⟨rfl, rfl⟩) | fail)
  rw [← HW.out]
  have d1 := D1.out
  have d2 := D2.out
  have d3 := D3.out
  refine bodyPost_ret (v := .tuple #[.slice none 0 0, .int .i64 0, .int .i64 3]) (by simp [results, Tryz.results8, go_sem, d1, d2, d3]) rfl ?_
  exact RetB.mk rfl HBW.out

theorem due_range (w : World) (hm : MaxL w) (s : Sp) (a : Option Addr) (n cap : Nat) (h : SpAt w s a n cap) (x y : Int) (ht : tmplB s = true) (hr : spansB x y = false) :
    Calls Tryz.prog 8 #[s.v (.slice a n cap), .int .i64 x, .int .i64 y] w (RetB (.tuple #[.slice none 0 0, .int .i64 0, .int .i64 3]) w) := by
  cases hx : rightB x
  · exact due_r1 w hm s a n cap h x y ht hx
  cases hy : rightB y
  · exact due_r2 w hm s a n cap h x y ht hx hy
  · refine due_r3 w hm s a n cap h x y ht hx hy ?_
    unfold spansB at hr
    rw [hx, hy] at hr
    simp at hr
    exact hr

end Go.Proofs.YtldieadbkaphkaaGreatDoor

/- Package spec: Check (printed by wip/tools/gen_check.py). Package sched: Now, Each, Order, right; spec.Final (printed by wip/tools/gen_right.py). -/
import Derived.Test.YtheipmallojdkaaGreatDoorIrM23
import Derived.Test.YtheipmallojdkaaGreatDoorIrM02
import Derived.Test.YtheipmallojdkaaGreatDoorIrM15
import Derived.Lib.QuietBelow

namespace Go.Proofs.YtheipmallojdkaaGreatDoor
open Go.RowKit Go.ChangeMaps

theorem info_spec : (Tryz.prog.info? 40).map (·.size) = some 11 := by kernel_rfl

theorem empty_yes {s : ByteArray} (h : s.size = 0) : s.toList = [] := List.isEmpty_iff.1 (isEmpty_true s h)
theorem empty_no {s : ByteArray} (h : ¬ s.size = 0) : ¬ s.toList = [] := fun e => by
  have := isEmpty_false s (by omega)
  rw [e] at this
  cases this
theorem bs_back (s : ByteArray) : (⟨(bsOf s).toArray⟩ : ByteArray) = s := ByteArray.ext (by rw [bsOf])
theorem bs_len (s : ByteArray) : (bsOf s).length = s.size := rfl

/-- The arguments: a spec, its row as it came. -/
structure SpAt (w : World) (s : Sp) (a : Option Addr) (n cap : Nat) : Prop where
  wf : s.Wf
  row : Sl strv w (.slice a n cap) s.deps

theorem SpAt.len {w : World} {s : Sp} {a : Option Addr} {n cap : Nat} (h : SpAt w s a n cap) : n = s.deps.length ∧ s.deps.length ≤ 9223372036854775807 := by
  obtain ⟨a', cap', he, h1, h2, _⟩ := h.row
  cases he
  unfold maxLen at h2
  exact ⟨rfl, by omega⟩

set_option maxRecDepth 100000 in
set_option maxHeartbeats 8000000 in
theorem check_any (w : World) (hm : MaxL w) (s : Sp) (a : Option Addr) (n cap : Nat) (h : SpAt w s a n cap) : Calls Tryz.prog 57 #[s.v (.slice a n cap)] w (RetB (.int .i64 (checkF s)) w) := by
  have H := Lib.hid h
  have HM := Lib.hid hm
  have hN1 := fun W => check1_any W s.name h.wf.name
  have hN2 := fun W => check1_any W s.ten h.wf.ten
  have HN3 : Hid (∀ W, Sl strv W (.slice a n cap) s.deps → Calls Tryz.prog 60 #[.slice a n cap, .func (Fn.func 72) #[] #[]] W (RetB (.bool !(s.deps.all nameB)) W)) := Lib.hid fun W hs => containsS_any W a n cap s.deps hs h.wf.deps
  have HN4 : Hid (∀ W, Sl strv W (.slice a n cap) s.deps → Calls Tryz.prog 74 #[.agg #[.string s.name, .string s.ten, .int .i64 s.pri, .int .i64 s.delay, .slice a n cap, .int .i64 s.base, .int .i64 s.cap, .int .i64 s.att, .int .i64 s.lease, .string s.cron, .int .i64 s.catch_]] W (RetB (.bool (numbersB s)) W)) := Lib.hid fun W hs => numbers_any W s a n cap hs
  have HN5 : Hid (∀ W, MaxL W → Calls Tryz.prog 75 #[.string s.cron] W (RetB (cronV (cronF (bsOf s.cron))) W)) := Lib.hid fun W hW => by
    have := cronParse_any W (bsOf s.cron) hW (by rw [bs_len]; exact h.wf.cron)
    rwa [bs_back] at this
  clear h hm
  unfold Sp.v Sp.cells
  go_enter Tryz.func57, Tryz.ntmps57
  cases hn1 : nameB s.name
  · rw [hn1] at hN1
    have HF : Hid (checkF s = 16) := Lib.hid (by unfold checkF; rw [if_pos (by simp [spNamesB, hn1])])
    clear hn1 hN2
    go_wp2_with fail
    refine (hN1 _).mono ?_
    rintro en w1 ⟨rfl, hb1⟩
    have HB1 := Lib.hid (((Below.refl _ w).alloc (Nat.le_refl _) (.cells #[.string s.name, .string s.ten, .int .i64 s.pri, .int .i64 s.delay, .slice a n cap, .int .i64 s.base, .int .i64 s.cap, .int .i64 s.att, .int .i64 s.lease, .string s.cron, .int .i64 s.catch_] 40)).trans (hb1.mono (by simp)))
    clear hb1
    go_wp2_with fail
    go_ret
    exact RetB.mk (by rw [HF.out]; rfl) HB1.out
  rw [hn1] at hN1
  go_wp2_with fail
  refine (hN1 _).mono ?_
  rintro en w1 ⟨rfl, hb1⟩
  have hx1 := bheap hb1 (heap_new w (.cells #[.string s.name, .string s.ten, .int .i64 s.pri, .int .i64 s.delay, .slice a n cap, .int .i64 s.base, .int .i64 s.cap, .int .i64 s.att, .int .i64 s.lease, .string s.cron, .int .i64 s.catch_] 40)) (by simp)
  have HB1 := Lib.hid (((Below.refl _ w).alloc (Nat.le_refl _) (.cells #[.string s.name, .string s.ten, .int .i64 s.pri, .int .i64 s.delay, .slice a n cap, .int .i64 s.base, .int .i64 s.cap, .int .i64 s.att, .int .i64 s.lease, .string s.cron, .int .i64 s.catch_] 40)).trans (hb1.mono (by simp)))
  have HX1 := Lib.hid hx1
  have c1 : w1.cell? ⟨w.heap.size, 1, none⟩ = some (.string s.ten) := blk_cell hx1 1 rfl
  clear hb1 hx1 hN1
  cases hn2 : nameB s.ten
  · rw [hn2] at hN2
    have HF : Hid (checkF s = 16) := Lib.hid (by unfold checkF; rw [if_pos (by simp [spNamesB, hn2])])
    clear hn2 hn1
    go_wp2_with fail
    refine (hN2 _).mono ?_
    rintro en w2 ⟨rfl, hb2⟩
    have HB2 := Lib.hid (HB1.out.trans (hb2.mono HB1.out.size))
    clear hb2
    go_wp2_with fail
    go_ret
    exact RetB.mk (by rw [HF.out]; rfl) HB2.out
  rw [hn2] at hN2
  go_wp2_with fail
  refine (hN2 _).mono ?_
  rintro en w2 ⟨rfl, hb2⟩
  have hx2 := bheap hb2 HX1.out (heap_lt HX1.out)
  have HB2 := Lib.hid (HB1.out.trans (hb2.mono HB1.out.size))
  have HX2 := Lib.hid hx2
  have c4 : w2.cell? ⟨w.heap.size, 4, none⟩ = some (.slice a n cap) := blk_cell hx2 4 rfl
  have hN3 := HN3.out w2 (H.out.row.below HB2.out H.out.row.row_lt)
  clear hb2 hx2 c1 HX1 HB1 hN2
  cases hn3 : s.deps.all nameB
  · rw [hn3] at hN3
    have HF : Hid (checkF s = 16) := Lib.hid (by unfold checkF; rw [if_pos (by simp [spNamesB, hn3])])
    clear hn1 hn2 hn3
    go_wp2_with fail
    refine hN3.mono ?_
    rintro en w3 ⟨rfl, hb3⟩
    have HB3 := Lib.hid (HB2.out.trans (hb3.mono HB2.out.size))
    clear hb3 hN3
    go_wp2_with fail
    go_ret
    exact RetB.mk (by rw [HF.out]; rfl) HB3.out
  rw [hn3] at hN3
  have HNM : Hid (spNamesB s = true) := Lib.hid (by simp [spNamesB, hn1, hn2, hn3])
  clear hn1 hn2 hn3
  go_wp2_with fail
  refine hN3.mono ?_
  rintro en w3 ⟨rfl, hb3⟩
  have hx3 := bheap hb3 HX2.out (heap_lt HX2.out)
  have HB3 := Lib.hid (HB2.out.trans (hb3.mono HB2.out.size))
  have HX3 := Lib.hid hx3
  have hN4 := HN4.out w3 (H.out.row.below HB3.out H.out.row.row_lt)
  clear hb3 hx3 c4 HX2 HB2 hN3 HN3 HN4
  cases hn4 : numbersB s
  · rw [hn4] at hN4
    have HF : Hid (checkF s = 3) := Lib.hid (by unfold checkF; rw [if_neg (by simp [HNM.out]), if_pos hn4])
    clear hn4
    go_wp2_with (first | (refine wpList_load_all _ rfl _ _ rfl _ rfl _ _ _ _ HX3.out rfl _ Tryz.underlying40 rfl info_spec ?_) | fail)
    refine hN4.mono ?_
    rintro en w4 ⟨rfl, hb4⟩
    have HB4 := Lib.hid (HB3.out.trans (hb4.mono HB3.out.size))
    clear hb4 hN4
    go_wp2_with fail
    go_ret
    exact RetB.mk (by rw [HF.out]; rfl) HB4.out
  rw [hn4] at hN4
  have HNU := Lib.hid hn4
  clear hn4
  go_wp2_with (first | (refine wpList_load_all _ rfl _ _ rfl _ rfl _ _ _ _ HX3.out rfl _ Tryz.underlying40 rfl info_spec ?_) | fail)
  refine hN4.mono ?_
  rintro en w4 ⟨rfl, hb4⟩
  have hx4 := bheap hb4 HX3.out (heap_lt HX3.out)
  have HB4 := Lib.hid (HB3.out.trans (hb4.mono HB3.out.size))
  have HX4 := Lib.hid hx4
  have c9 : w4.cell? ⟨w.heap.size, 9, none⟩ = some (.string s.cron) := blk_cell hx4 9 rfl
  have c10 : w4.cell? ⟨w.heap.size, 10, none⟩ = some (.int .i64 s.catch_) := blk_cell hx4 10 rfl
  have hN5 := HN5.out w4 (HM.out.step HB4.out)
  clear hb4 hx4 HX3 HB3 hN4 HN5
  by_cases h0 : s.cron.size = 0
  · have e9 := empty_yes h0
    have e9' : s.cron.toList.isEmpty = true := by rw [e9]; rfl
    clear hN5
    by_cases hk : s.catch_ = 0
    · have HF : Hid (checkF s = 0) := Lib.hid (by unfold checkF; rw [if_neg (by simp [HNM.out]), if_neg (by simp [HNU.out]), if_pos h0, if_pos hk])
      have e10 : (s.catch_ == 0) = true := by simp [hk]
      clear h0 hk
      go_wp2_with fail
      go_ret
      exact RetB.mk (by rw [HF.out]; rfl) HB4.out
    · have HF : Hid (checkF s = 1) := Lib.hid (by unfold checkF; rw [if_neg (by simp [HNM.out]), if_neg (by simp [HNU.out]), if_pos h0, if_neg hk])
      have e10 : (s.catch_ == 0) = false := by simp [hk]
      clear h0 hk
      go_wp2_with fail
      go_ret
      exact RetB.mk (by rw [HF.out]; rfl) HB4.out
  have e9 := empty_no h0
  have e9' : s.cron.toList.isEmpty = false := by simpa using e9
  have HFX : Hid (checkF s = if (cronF (bsOf s.cron)).2 ≠ 0 then (cronF (bsOf s.cron)).2 else if s.catch_ = 0 then 3 else if 0 < s.deps.length ∨ 0 < s.delay ∨ 16 < s.name.size then 1 else 0) := Lib.hid (by unfold checkF; rw [if_neg (by simp [HNM.out]), if_neg (by simp [HNU.out]), if_neg h0])
  clear h0
  generalize cronF (bsOf s.cron) = R at *
  obtain ⟨⟨em, eh, ed, eo, ew, ad, aw⟩, er⟩ := R
  unfold cronV Ex.v Ex.cells at hN5
  simp only at hN5 HFX
  by_cases he : er ≠ 0
  · have HF : Hid (checkF s = er) := Lib.hid (by rw [HFX.out, if_pos he])
    have ee : (er == 0) = false := by simpa using he
    clear he HFX
    go_wp2_with fail
    refine hN5.mono ?_
    rintro en w5 ⟨rfl, hb5⟩
    have HB5 := Lib.hid (HB4.out.trans (hb5.mono HB4.out.size))
    clear hb5 hN5
    go_wp2_with fail
    go_ret
    exact RetB.mk (by rw [HF.out]; rfl) (HB5.out.alloc HB5.out.size _)
  obtain rfl : er = 0 := by omega
  obtain ⟨hl1, hl2⟩ := H.out.len
  subst hl1
  rw [if_neg (by omega)] at HFX
  have HL2 := Lib.hid hl2
  clear he hl2
  have tail : ∀ (v : Int), Hid (checkF s = v) → ∀ (w5 : World), Below w4.heap.size w4 w5 → Hid (w5.heap[w.heap.size]? = some (.cells #[.string s.name, .string s.ten, .int .i64 s.pri, .int .i64 s.delay, .slice a s.deps.length cap, .int .i64 s.base, .int .i64 s.cap, .int .i64 s.att, .int .i64 s.lease, .string s.cron, .int .i64 s.catch_] 40) ∧ Below w.heap.size w w5) := fun v _ w5 hb5 => Lib.hid ⟨bheap hb5 HX4.out (heap_lt HX4.out), HB4.out.trans (hb5.mono HB4.out.size)⟩
  by_cases k1 : s.catch_ = 0
  · have k1' : (s.catch_ == 0) = true := by simp [k1]
    have HF : Hid (checkF s = 3) := Lib.hid (by rw [HFX.out]; simp [k1])
    clear HFX k1
    go_wp2_with fail
    refine hN5.mono ?_
    rintro en w5 ⟨rfl, hb5⟩
    obtain ⟨hx5, HB5⟩ := (tail _ HF w5 hb5).out
    have d0 : (w5.alloc (.cells #[.int .u64 em, .int .u64 eh, .int .u64 ed, .int .u64 eo, .int .u64 ew, .bool ad, .bool aw] 140)).cell? ⟨w.heap.size, 0, none⟩ = some (.string s.name) := blk_cell (aheap hx5 _) 0 rfl
    have d3 : (w5.alloc (.cells #[.int .u64 em, .int .u64 eh, .int .u64 ed, .int .u64 eo, .int .u64 ew, .bool ad, .bool aw] 140)).cell? ⟨w.heap.size, 3, none⟩ = some (.int .i64 s.delay) := blk_cell (aheap hx5 _) 3 rfl
    have d4 : (w5.alloc (.cells #[.int .u64 em, .int .u64 eh, .int .u64 ed, .int .u64 eo, .int .u64 ew, .bool ad, .bool aw] 140)).cell? ⟨w.heap.size, 4, none⟩ = some (.slice a s.deps.length cap) := blk_cell (aheap hx5 _) 4 rfl
    have d10 : (w5.alloc (.cells #[.int .u64 em, .int .u64 eh, .int .u64 ed, .int .u64 eo, .int .u64 ew, .bool ad, .bool aw] 140)).cell? ⟨w.heap.size, 10, none⟩ = some (.int .i64 s.catch_) := blk_cell (aheap hx5 _) 10 rfl
    clear hb5 hx5 hN5 tail
    go_wp2_with fail
    go_ret
    exact RetB.mk (by rw [HF.out]; rfl) (HB5.alloc HB5.size _)
  have k1' : (s.catch_ == 0) = false := by simp [k1]
  by_cases k2 : 0 < s.deps.length
  · have k2' : (0 : Int) < (s.deps.length : Int) := by omega
    have HF : Hid (checkF s = 1) := Lib.hid (by rw [HFX.out]; simp [k1, k2])
    clear HFX k1
    go_wp2_with fail
    refine hN5.mono ?_
    rintro en w5 ⟨rfl, hb5⟩
    obtain ⟨hx5, HB5⟩ := (tail _ HF w5 hb5).out
    have d0 : (w5.alloc (.cells #[.int .u64 em, .int .u64 eh, .int .u64 ed, .int .u64 eo, .int .u64 ew, .bool ad, .bool aw] 140)).cell? ⟨w.heap.size, 0, none⟩ = some (.string s.name) := blk_cell (aheap hx5 _) 0 rfl
    have d3 : (w5.alloc (.cells #[.int .u64 em, .int .u64 eh, .int .u64 ed, .int .u64 eo, .int .u64 ew, .bool ad, .bool aw] 140)).cell? ⟨w.heap.size, 3, none⟩ = some (.int .i64 s.delay) := blk_cell (aheap hx5 _) 3 rfl
    have d4 : (w5.alloc (.cells #[.int .u64 em, .int .u64 eh, .int .u64 ed, .int .u64 eo, .int .u64 ew, .bool ad, .bool aw] 140)).cell? ⟨w.heap.size, 4, none⟩ = some (.slice a s.deps.length cap) := blk_cell (aheap hx5 _) 4 rfl
    have d10 : (w5.alloc (.cells #[.int .u64 em, .int .u64 eh, .int .u64 ed, .int .u64 eo, .int .u64 ew, .bool ad, .bool aw] 140)).cell? ⟨w.heap.size, 10, none⟩ = some (.int .i64 s.catch_) := blk_cell (aheap hx5 _) 10 rfl
    clear hb5 hx5 hN5 tail
    go_wp2_with fail
    go_ret
    exact RetB.mk (by rw [HF.out]; rfl) (HB5.alloc HB5.size _)
  have k2' : ¬ (0 : Int) < (s.deps.length : Int) := by omega
  by_cases k3 : 0 < s.delay
  · have HF : Hid (checkF s = 1) := Lib.hid (by rw [HFX.out]; simp [k1, k3])
    clear HFX k1
    go_wp2_with fail
    refine hN5.mono ?_
    rintro en w5 ⟨rfl, hb5⟩
    obtain ⟨hx5, HB5⟩ := (tail _ HF w5 hb5).out
    have d0 : (w5.alloc (.cells #[.int .u64 em, .int .u64 eh, .int .u64 ed, .int .u64 eo, .int .u64 ew, .bool ad, .bool aw] 140)).cell? ⟨w.heap.size, 0, none⟩ = some (.string s.name) := blk_cell (aheap hx5 _) 0 rfl
    have d3 : (w5.alloc (.cells #[.int .u64 em, .int .u64 eh, .int .u64 ed, .int .u64 eo, .int .u64 ew, .bool ad, .bool aw] 140)).cell? ⟨w.heap.size, 3, none⟩ = some (.int .i64 s.delay) := blk_cell (aheap hx5 _) 3 rfl
    have d4 : (w5.alloc (.cells #[.int .u64 em, .int .u64 eh, .int .u64 ed, .int .u64 eo, .int .u64 ew, .bool ad, .bool aw] 140)).cell? ⟨w.heap.size, 4, none⟩ = some (.slice a s.deps.length cap) := blk_cell (aheap hx5 _) 4 rfl
    have d10 : (w5.alloc (.cells #[.int .u64 em, .int .u64 eh, .int .u64 ed, .int .u64 eo, .int .u64 ew, .bool ad, .bool aw] 140)).cell? ⟨w.heap.size, 10, none⟩ = some (.int .i64 s.catch_) := blk_cell (aheap hx5 _) 10 rfl
    clear hb5 hx5 hN5 tail
    go_wp2_with fail
    go_ret
    exact RetB.mk (by rw [HF.out]; rfl) (HB5.alloc HB5.size _)
  by_cases k4 : 16 < s.name.size
  · have k4' : (16 : Int) < (s.name.size : Int) := by omega
    have HF : Hid (checkF s = 1) := Lib.hid (by rw [HFX.out]; simp [k1, k4])
    clear HFX k1
    go_wp2_with fail
    refine hN5.mono ?_
    rintro en w5 ⟨rfl, hb5⟩
    obtain ⟨hx5, HB5⟩ := (tail _ HF w5 hb5).out
    have d0 : (w5.alloc (.cells #[.int .u64 em, .int .u64 eh, .int .u64 ed, .int .u64 eo, .int .u64 ew, .bool ad, .bool aw] 140)).cell? ⟨w.heap.size, 0, none⟩ = some (.string s.name) := blk_cell (aheap hx5 _) 0 rfl
    have d3 : (w5.alloc (.cells #[.int .u64 em, .int .u64 eh, .int .u64 ed, .int .u64 eo, .int .u64 ew, .bool ad, .bool aw] 140)).cell? ⟨w.heap.size, 3, none⟩ = some (.int .i64 s.delay) := blk_cell (aheap hx5 _) 3 rfl
    have d4 : (w5.alloc (.cells #[.int .u64 em, .int .u64 eh, .int .u64 ed, .int .u64 eo, .int .u64 ew, .bool ad, .bool aw] 140)).cell? ⟨w.heap.size, 4, none⟩ = some (.slice a s.deps.length cap) := blk_cell (aheap hx5 _) 4 rfl
    have d10 : (w5.alloc (.cells #[.int .u64 em, .int .u64 eh, .int .u64 ed, .int .u64 eo, .int .u64 ew, .bool ad, .bool aw] 140)).cell? ⟨w.heap.size, 10, none⟩ = some (.int .i64 s.catch_) := blk_cell (aheap hx5 _) 10 rfl
    clear hb5 hx5 hN5 tail
    go_wp2_with fail
    go_ret
    exact RetB.mk (by rw [HF.out]; rfl) (HB5.alloc HB5.size _)
  have k4' : ¬ (16 : Int) < (s.name.size : Int) := by omega
  have HF : Hid (checkF s = 0) := Lib.hid (by rw [HFX.out]; simp [k1, k2, k3, k4])
  clear HFX k1
  go_wp2_with fail
  refine hN5.mono ?_
  rintro en w5 ⟨rfl, hb5⟩
  obtain ⟨hx5, HB5⟩ := (tail _ HF w5 hb5).out
  have d0 : (w5.alloc (.cells #[.int .u64 em, .int .u64 eh, .int .u64 ed, .int .u64 eo, .int .u64 ew, .bool ad, .bool aw] 140)).cell? ⟨w.heap.size, 0, none⟩ = some (.string s.name) := blk_cell (aheap hx5 _) 0 rfl
  have d3 : (w5.alloc (.cells #[.int .u64 em, .int .u64 eh, .int .u64 ed, .int .u64 eo, .int .u64 ew, .bool ad, .bool aw] 140)).cell? ⟨w.heap.size, 3, none⟩ = some (.int .i64 s.delay) := blk_cell (aheap hx5 _) 3 rfl
  have d4 : (w5.alloc (.cells #[.int .u64 em, .int .u64 eh, .int .u64 ed, .int .u64 eo, .int .u64 ew, .bool ad, .bool aw] 140)).cell? ⟨w.heap.size, 4, none⟩ = some (.slice a s.deps.length cap) := blk_cell (aheap hx5 _) 4 rfl
  have d10 : (w5.alloc (.cells #[.int .u64 em, .int .u64 eh, .int .u64 ed, .int .u64 eo, .int .u64 ew, .bool ad, .bool aw] 140)).cell? ⟨w.heap.size, 10, none⟩ = some (.int .i64 s.catch_) := blk_cell (aheap hx5 _) 10 rfl
  clear hb5 hx5 hN5 tail
  go_wp2_with fail
  go_ret
  exact RetB.mk (by rw [HF.out]; rfl) (HB5.alloc HB5.size _)

end Go.Proofs.YtheipmallojdkaaGreatDoor

namespace Go.Proofs.YtheipmallojdkaaGreatDoor
open Go.RowKit Go.Maps Go.ChangeMaps Go.Lib Go.«Sort»

theorem zero_job (w : World) : (zeroValue 84).run Tryz.prog w = .ok (.pointer none) w := by kernel_rfl

section
variable {w : World} {s mj : Nat} {now each order : Int} {g r u q : Option Addr} (hb : w.heap[s]? = some (.cells #[.int .i64 now, .int .i64 each, .int .u64 order, .map (some mj), .pointer g, .pointer r, .pointer u, .pointer q] 72 (0, 0)))
include hb

set_option maxRecDepth 100000 in
theorem snow_any : Calls Tryz.prog 17 #[.pointer (some ⟨s, 0, none⟩)] w (Ret (.int .i64 now) w) := by
  have c0 := blk_cell hb 0 rfl
  clear hb
  go_enter Tryz.func17, Tryz.ntmps17
  go_wp2
  go_ret
  exact Ret.mk rfl

set_option maxRecDepth 100000 in
theorem seach_any : Calls Tryz.prog 19 #[.pointer (some ⟨s, 0, none⟩)] w (Ret (.int .i64 each) w) := by
  have c1 := blk_cell hb 1 rfl
  clear hb
  go_enter Tryz.func19, Tryz.ntmps19
  go_wp2
  go_ret
  exact Ret.mk rfl

set_option maxRecDepth 100000 in
theorem sorder_any : Calls Tryz.prog 20 #[.pointer (some ⟨s, 0, none⟩)] w (Ret (.int .u64 order) w) := by
  have c2 := blk_cell hb 2 rfl
  clear hb
  go_enter Tryz.func20, Tryz.ntmps20
  go_wp2
  go_ret
  exact Ret.mk rfl
end

set_option maxRecDepth 100000 in
theorem final_any (w : World) (x : Int) : Calls Tryz.prog 41 #[.int .i64 x] w (Ret (.bool (decide (x = 4) || decide (x = 5) || decide (x = 6))) w) := by
  by_cases h1 : x = 4
  · subst h1
    go_enter Tryz.func41, Tryz.ntmps41
    go_wp2
    go_ret
    exact Ret.mk rfl
  by_cases h2 : x = 5
  · subst h2
    go_enter Tryz.func41, Tryz.ntmps41
    go_wp2
    go_ret
    exact Ret.mk rfl
  by_cases h3 : x = 6
  · subst h3
    go_enter Tryz.func41, Tryz.ntmps41
    go_wp2
    go_ret
    exact Ret.mk rfl
  go_enter Tryz.func41, Tryz.ntmps41
  go_wp2
  go_ret
  exact Ret.mk (by simp [h1, h2, h3])

/-- The jobs' map, asked. -/
theorem jget {w : World} {mj : Nat} {l : List (ByteArray × Nat)} (h : SMap ptrV w mj l) {key : ByteArray} (hkey : key.size ≤ maxLen) :
    (Instr.lookup 66 (.map (some mj)) (.string key) false).run Tryz.prog w = .ok (.pointer ((aget key l).map fun b => ⟨b, 0, none⟩)) w := by
  have := h.run_lookup skeyed keyS_inj Tryz.underlying66 (zero_job w) (skey hkey) false
  cases e : aget key l <;> rw [e] at this <;> exact this

/-- A bool; and if it is true, the name is new. -/
def RightP (w : World) (l : List (ByteArray × Nat)) (name : ByteArray) (e : Ending) (w' : World) : Prop := Below w.heap.size w w' ∧ ∃ b, e = .returned (.bool b) ∧ (b = true → aget name l = none)
theorem RightP.no {w w' : World} {l : List (ByteArray × Nat)} {name : ByteArray} (h : Below w.heap.size w w') : RightP w l name (.returned (.bool false)) w' := ⟨h, false, rfl, fun h => by simp at h⟩

end Go.Proofs.YtheipmallojdkaaGreatDoor

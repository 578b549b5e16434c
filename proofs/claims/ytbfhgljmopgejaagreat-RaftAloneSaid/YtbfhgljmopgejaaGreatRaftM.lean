/- Package raft: New, of a node alone. -/
import Derived.Test.YtbfhgljmopgejaaGreatRaftL
namespace Go.Proofs.YtbfhgljmopgejaaGreat
open Go.RowKit Go.Sort

theorem node_yes (w : World) (x : Int) (h1 : 1 ≤ x) (h7 : x ≤ 7) : Calls Tryz.prog 15 #[.int .i64 x] w (Ret (.bool true) w) := by
  go_enter Tryz.func15, Tryz.ntmps15
  go_wp2
  go_ret
  exact Ret.mk rfl

set_option maxRecDepth 100000 in
set_option maxHeartbeats 3200000 in
theorem new_lone (w : World) (id el : Int) (a : Option Addr) (cap : Nat) (hs : Sl intv w (.slice a 1 cap) [id]) (i1 : 1 ≤ id) (i7 : id ≤ 7) (e1 : 1 ≤ el) (e2 : el ≤ 1000) :
    Calls Tryz.prog 5 #[.agg #[.int .i64 id, .slice a 1 cap, .int .i64 el, .int .i64 1], .agg #[.int .u64 0, .int .i64 0, .int .u64 0, .int .u64 0, .slice none 0 0, .slice none 0 0, .slice none 0 0]] w
      fun e w' => ∃ p mv lg imv, e = .returned (.tuple #[.pointer (some ⟨p, 0, none⟩), .int .i64 0]) ∧ Lone w w' p ⟨id, mv, el, 1, 0, 0, 0, 0, 0, lg, none, [], imv, 0, .pointer none, .pointer none, false⟩ := by
  have HS := Lib.hid hs
  have hmb : membersB [id] = true := by
    have e1 : (0 : Int) < id := by omega
    simp [membersB, memFrom, e1, i7]
  have HMB := Lib.hid hmb
  clear hs hmb
  obtain ⟨W, hW⟩ : ∃ W, W = (w.alloc (.cells #[.int .i64 id, .slice a 1 cap, .int .i64 el, .int .i64 1] 32)).alloc (.cells #[.int .u64 0, .int .i64 0, .int .u64 0, .int .u64 0, .slice none 0 0, .slice none 0 0, .slice none 0 0] 38) := ⟨_, rfl⟩
  have hx : W.heap[w.heap.size]? = some (.cells #[.int .i64 id, .slice a 1 cap, .int .i64 el, .int .i64 1] 32 (0, 0)) := by rw [hW]; exact aheap (heap_new _ _) _
  have hy : W.heap[w.heap.size + 1]? = some (.cells #[.int .u64 0, .int .i64 0, .int .u64 0, .int .u64 0, .slice none 0 0, .slice none 0 0, .slice none 0 0] 38 (0, 0)) := by
    rw [hW]
    have : (w.alloc (.cells #[.int .i64 id, .slice a 1 cap, .int .i64 el, .int .i64 1] 32)).heap.size = w.heap.size + 1 := by simp
    rw [← this]
    exact heap_new _ _
  have HB : Hid (Below w.heap.size w W) := Lib.hid (by rw [hW]; exact ((Below.refl _ _).alloc (Nat.le_refl _) _).alloc (by simp) _)
  have HX := Lib.hid hx
  have HY := Lib.hid hy
  clear hx hy
  have q1 : decide (el < 1) = false := by simp; omega
  have q2 : decide (1000 < el) = false := by simp; omega
  have q3 : decide (el < 1) = false := by simp; omega
  go_enter Tryz.func5, Tryz.ntmps5
  go_wp2_with fail
  rw [← hW]
  clear hW
  refine (node_yes W id i1 i7).mono ?_
  rintro en w' ⟨rfl, rfl⟩
  have x1 : W.cell? ⟨w.heap.size, 1, none⟩ = some (.slice a 1 cap) := blk_cell HX.out 1 rfl
  go_wp2_with fail
  have hr := right_any W a 1 cap [id] (HS.out.below HB.out HS.out.row_lt)
  rw [HMB.out] at hr
  refine hr.mono ?_
  rintro en w2 ⟨rfl, hb2⟩
  have HX2 := Lib.hid (bheap hb2 HX.out (heap_lt HX.out))
  have HY2 := Lib.hid (bheap hb2 HY.out (heap_lt HY.out))
  have HB2 := Lib.hid (HB.out.trans (hb2.mono HB.out.size))
  have k0 : w2.cell? ⟨w.heap.size, 0, none⟩ = some (.int .i64 id) := blk_cell HX2.out 0 rfl
  have k1 : w2.cell? ⟨w.heap.size, 1, none⟩ = some (.slice a 1 cap) := blk_cell HX2.out 1 rfl
  have k2 : w2.cell? ⟨w.heap.size, 2, none⟩ = some (.int .i64 el) := blk_cell HX2.out 2 rfl
  have k3 : w2.cell? ⟨w.heap.size, 3, none⟩ = some (.int .i64 1) := blk_cell HX2.out 3 rfl
  clear hb2 hr x1
  go_wp2_with fail
  refine (clone_anyI w2 a 1 cap [id] (HS.out.below HB2.out HS.out.row_lt) (by simp)).mono ?_
  rintro en w3 ⟨v, rfl, hb3, hs3, ho3, hn3⟩
  obtain ⟨va, vc, rfl, _⟩ := _root_.id hs3
  have hx3 := bheap hb3 HX2.out (heap_lt HX2.out)
  have hy3 := bheap hb3 HY2.out (heap_lt HY2.out)
  have k1' : w3.cell? ⟨w.heap.size, 1, none⟩ = some (.slice a 1 cap) := blk_cell hx3 1 rfl
  have f1 := blk_free hx3 1
  have hz3 := HB2.out.size
  have hne : ∀ k, (Value.slice va [id].length vc).ownBlock = some k → w.heap.size + 2 ≤ k := fun k hk => by
    have := hn3 k hk
    have := heap_lt HY2.out
    omega
  have HNE := Lib.hid hne
  obtain ⟨W4, hW4⟩ : ∃ W4, W4 = w3.setCell ⟨w.heap.size, 1, none⟩ (.slice va 1 vc) := ⟨_, rfl⟩
  have HX4 : Hid (W4.heap[w.heap.size]? = some (.cells #[.int .i64 id, .slice va 1 vc, .int .i64 el, .int .i64 1] 32 (0, 0))) := Lib.hid (by rw [hW4]; exact blk_set hx3 1 _)
  have HY4 : Hid (W4.heap[w.heap.size + 1]? = some (.cells #[.int .u64 0, .int .i64 0, .int .u64 0, .int .u64 0, .slice none 0 0, .slice none 0 0, .slice none 0 0] 38 (0, 0))) := Lib.hid (by rw [hW4]; exact blk_set_other hy3 (by simp) _)
  have HS4 : Hid (Sl intv W4 (.slice va 1 vc) [id]) := Lib.hid (by rw [hW4]; exact hs3.setCell (fun e => by have : w.heap.size + 2 ≤ w.heap.size := hne _ e; omega) _)
  have HB4 : Hid (Below w.heap.size w W4) := Lib.hid (by rw [hW4]; exact (HB2.out.trans (hb3.mono hz3)).setCell (by simp) _)
  have HC4 : Hid (∀ W', Below W4.heap.size W4 W' → W'.cell? ⟨w.heap.size, 0, none⟩ = some (.int .i64 id) ∧ W'.cell? ⟨w.heap.size, 1, none⟩ = some (.slice va 1 vc) ∧ W'.cell? ⟨w.heap.size, 2, none⟩ = some (.int .i64 el) ∧ W'.cell? ⟨w.heap.size, 3, none⟩ = some (.int .i64 1) ∧ W'.cell? ⟨w.heap.size + 1, 0, none⟩ = some (.int .u64 0) ∧ W'.cell? ⟨w.heap.size + 1, 1, none⟩ = some (.int .i64 0) ∧ W'.cell? ⟨w.heap.size + 1, 2, none⟩ = some (.int .u64 0) ∧ W'.cell? ⟨w.heap.size + 1, 3, none⟩ = some (.int .u64 0) ∧ W'.cell? ⟨w.heap.size + 1, 4, none⟩ = some (.slice none 0 0) ∧ W'.cell? ⟨w.heap.size + 1, 5, none⟩ = some (.slice none 0 0)) := Lib.hid (fun W' hb' => by
    have h1 := bheap hb' HX4.out (heap_lt HX4.out)
    have h2 := bheap hb' HY4.out (heap_lt HY4.out)
    exact ⟨blk_cell h1 0 rfl, blk_cell h1 1 rfl, blk_cell h1 2 rfl, blk_cell h1 3 rfl, blk_cell h2 0 rfl, blk_cell h2 1 rfl, blk_cell h2 2 rfl, blk_cell h2 3 rfl, blk_cell h2 4 rfl, blk_cell h2 5 rfl⟩)
  clear hb3 hs3 ho3 hn3 hx3 hy3 hne k0 k1 k2 k3 hz3
  go_wp2_with fail
  rw [← hW4]
  clear hW4 k1' f1
  have hB0 : Below W4.heap.size W4 W4.drew := belowD (Below.refl _ _)
  have hS0 := HC4.out _ hB0
  go_region_held3 (fun w' => w'.cell? ⟨w.heap.size, 0, none⟩ = some (.int .i64 id) ∧ w'.cell? ⟨w.heap.size, 1, none⟩ = some (.slice va 1 vc) ∧ w'.cell? ⟨w.heap.size, 2, none⟩ = some (.int .i64 el) ∧ w'.cell? ⟨w.heap.size, 3, none⟩ = some (.int .i64 1) ∧ w'.cell? ⟨w.heap.size + 1, 0, none⟩ = some (.int .u64 0) ∧ w'.cell? ⟨w.heap.size + 1, 1, none⟩ = some (.int .i64 0) ∧ w'.cell? ⟨w.heap.size + 1, 2, none⟩ = some (.int .u64 0) ∧ w'.cell? ⟨w.heap.size + 1, 3, none⟩ = some (.int .u64 0) ∧ w'.cell? ⟨w.heap.size + 1, 4, none⟩ = some (.slice none 0 0) ∧ w'.cell? ⟨w.heap.size + 1, 5, none⟩ = some (.slice none 0 0)) (first | exact hS0 | exact hS5 | exact hS6 | exact HC4.out _ (hB6.alloc hB6.size _))
    (first
      | (go_at_call 18; refine (clone_img _).mono ?_; rintro en w5 ⟨rfl, hb5⟩; have hB5 := hB0.trans (hb5.mono hB0.size); have hS5 := HC4.out _ hB5)
      | (go_at_call 19; refine (newlog_any _ 0 0).mono ?_; rintro en w6 ⟨rfl, hl6, hb6⟩; have hB6 := hB5.trans (hb6.mono hB5.size); have hS6 := HC4.out _ hB6))
  obtain ⟨W7, hW7⟩ : ∃ W7, W7 = w6.alloc (.cells #[.int .i64 id, .slice va 1 vc, .int .i64 el, .int .i64 1, .int .u64 0, .int .i64 0, .int .i64 0, .int .i64 0, .int .i64 0, .pointer (some ⟨w5.heap.size, 0, none⟩), .int .u64 0, .int .u64 0, .slice none 0 0, .slice none 0 0, .int .u64 0, .pointer none, .pointer none, .slice none 0 0, .bool false, .bool false, .int .u64 0] 60) := ⟨_, rfl⟩
  rw [← hW7]
  have hB7 : Below W4.heap.size W4 W7 := by rw [hW7]; exact hB6.alloc hB6.size _
  have HN7 : Hid (W7.heap[w6.heap.size]? = some (.cells #[.int .i64 id, .slice va 1 vc, .int .i64 el, .int .i64 1, .int .u64 0, .int .i64 0, .int .i64 0, .int .i64 0, .int .i64 0, .pointer (some ⟨w5.heap.size, 0, none⟩), .int .u64 0, .int .u64 0, .slice none 0 0, .slice none 0 0, .int .u64 0, .pointer none, .pointer none, .slice none 0 0, .bool false, .bool false, .int .u64 0] 60 (0, 0))) := Lib.hid (by rw [hW7]; exact heap_new _ _)
  have HL7 : Hid (LogAt W7 w5.heap.size none 0 0 []) := Lib.hid (by rw [hW7]; exact hl6.below ((Below.refl _ _).alloc (Nat.le_refl _) _))
  have HLT : Hid (w5.heap.size < w6.heap.size) := Lib.hid hl6.lt
  have HX7 := Lib.hid (bheap hB7 HX4.out (heap_lt HX4.out))
  have HY7 := Lib.hid (bheap hB7 HY4.out (heap_lt HY4.out))
  have HS7 := Lib.hid (HS4.out.below hB7 HS4.out.row_lt)
  have HB7 := Lib.hid (HB4.out.trans (hB7.mono HB4.out.size))
  have HZ5 : Hid (W4.heap.size ≤ w5.heap.size ∧ w5.heap.size ≤ w6.heap.size) := Lib.hid ⟨hB5.size, Nat.le_of_lt hl6.lt⟩
  have HSR := Lib.hid HS4.out.row_lt
  have k1 : W7.cell? ⟨w.heap.size, 1, none⟩ = some (.slice va 1 vc) := blk_cell HX7.out 1 rfl
  have n12 : W7.cell? ⟨w6.heap.size, 12, none⟩ = some (.slice none 0 0) := blk_cell HN7.out 12 rfl
  clear hW7 hB0 hS0 hB5 hS5 hB6 hS6 hl6 hb5 hb6 hB7
  go_wp2_with fail
  refine (clone_anyI W7 va 1 vc [id] HS7.out (by simp)).mono ?_
  rintro en w8 ⟨v, rfl, hb8, hs8, ho8, hn8⟩
  obtain ⟨ia, ic, rfl, _⟩ := _root_.id hs8
  have HN8 := Lib.hid (bheap hb8 HN7.out (heap_lt HN7.out))
  have HY8 := Lib.hid (bheap hb8 HY7.out (heap_lt HY7.out))
  have m12 : w8.cell? ⟨w6.heap.size, 12, none⟩ = some (.slice none 0 0) := blk_cell HN8.out 12 rfl
  have f12 := blk_free HN8.out 12
  have hz7 := heap_lt HN7.out
  obtain ⟨W9, hW9⟩ : ∃ W9, W9 = w8.setCell ⟨w6.heap.size, 12, none⟩ (.slice ia 1 ic) := ⟨_, rfl⟩
  have hk9 : Keeps (fun k => k = w6.heap.size) w8 W9 := by rw [hW9]; exact (Keeps.refl (fun k => k = w6.heap.size) w8).setCell (p := ⟨w6.heap.size, 12, none⟩) (.inl rfl) _
  have HN9 : Hid (W9.heap[w6.heap.size]? = some (.cells (LoneS.cells ⟨id, .slice va 1 vc, el, 1, 0, 0, 0, 0, 0, w5.heap.size, none, [], .slice ia 1 ic, 0, .pointer none, .pointer none, false⟩) 60 (0, 0))) := Lib.hid (by rw [hW9]; exact blk_set HN8.out 12 _)
  have h67 := heap_lt HY4.out
  have h5 := HZ5.out
  have hwz := HB4.out.size
  have HB8 := Lib.hid (HB7.out.trans (hb8.mono HB7.out.size))
  have HL9 : Hid (Lone w W9 w6.heap.size ⟨id, .slice va 1 vc, el, 1, 0, 0, 0, 0, 0, w5.heap.size, none, [], .slice ia 1 ic, 0, .pointer none, .pointer none, false⟩) := Lib.hid (by
    have hlt := HLT.out
    have hin : ∀ k, (Value.slice ia 1 ic).ownBlock = some k → W7.heap.size ≤ k := fun k hk => hn8 k hk
    refine ⟨HN9.out, (HL7.out.below hb8).kept hk9 (fun e => by omega) (fun k hk => nomatch hk) (fun e he => nomatch he), ⟨(fun k e he => nomatch he), by omega, by simp, by omega, (fun e he => nomatch he), by omega⟩, (fun e he => nomatch he), (fun e he => nomatch he), ⟨ia, ic, rfl, hs8.kept hk9 (fun k hk e => by have := hin k hk; omega)⟩, i1, i7, HB8.out.trans (hk9.below HB8.out.size (fun k hk => by omega)), by show w.heap.size ≤ w6.heap.size; omega, by show w.heap.size ≤ w5.heap.size; omega, (fun k hk => nomatch hk), by show w6.heap.size ≠ w5.heap.size; omega, (fun h => nomatch h), fun h => ?_, fun h => ?_, (fun k hk h => nomatch h), (fun e he => nomatch he), by simp⟩
    · have : W7.heap.size ≤ w6.heap.size := hin _ h; omega
    · have : W7.heap.size ≤ w5.heap.size := hin _ h; omega)
  have HY9 := Lib.hid (hk9.heap (show ¬ w.heap.size + 1 = w6.heap.size by omega) HY8.out)
  clear hk9 hb8 hs8 ho8 hn8 h5 h67 hwz k1 n12
  go_wp2_with fail
  rw [← hW9]
  clear hW9 m12 f12
  have s0 : W9.cell? ⟨w.heap.size + 1, 0, none⟩ = some (.int .u64 0) := blk_cell HY9.out 0 rfl
  have s1 : W9.cell? ⟨w.heap.size + 1, 1, none⟩ = some (.int .i64 0) := blk_cell HY9.out 1 rfl
  have s2 : W9.cell? ⟨w.heap.size + 1, 2, none⟩ = some (.int .u64 0) := blk_cell HY9.out 2 rfl
  have s3 : W9.cell? ⟨w.heap.size + 1, 3, none⟩ = some (.int .u64 0) := blk_cell HY9.out 3 rfl
  have s6 : W9.cell? ⟨w.heap.size + 1, 6, none⟩ = some (.slice none 0 0) := blk_cell HY9.out 6 rfl
  have n9 : W9.cell? ⟨w6.heap.size, 9, none⟩ = some (.pointer (some ⟨w5.heap.size, 0, none⟩)) := HL9.out.cell 9 rfl
  have hput := put_nil W9.drew w5.heap.size none [] HL9.out.drew.log HL9.out.ok
  have HPUT := Lib.hid hput
  clear hput
  go_region_held3 (fun w' => w'.cell? ⟨w6.heap.size, 9, none⟩ = some (.pointer (some ⟨w5.heap.size, 0, none⟩)) ∧ w'.cell? ⟨w.heap.size + 1, 2, none⟩ = some (.int .u64 0) ∧ w'.cell? ⟨w.heap.size + 1, 3, none⟩ = some (.int .u64 0) ∧ w'.cell? ⟨w.heap.size + 1, 6, none⟩ = some (.slice none 0 0)) (first | exact ⟨n9, s2, s3, s6⟩ | exact ⟨m9, r2, r3, r6⟩)
    (first
      | (go_at_call 20; refine HPUT.out.mono ?_; rintro en w10 ⟨rfl, hb10⟩; have HL10 := Lib.hid (HL9.out.drew.below hb10); have HY10 := Lib.hid (bheap hb10 (show W9.drew.heap[w.heap.size + 1]? = _ from HY9.out) (heap_lt HY9.out)); have m9 : w10.cell? ⟨w6.heap.size, 9, none⟩ = some (.pointer (some ⟨w5.heap.size, 0, none⟩)) := HL10.out.cell 9 rfl; have r2 : w10.cell? ⟨w.heap.size + 1, 2, none⟩ = some (.int .u64 0) := blk_cell HY10.out 2 rfl; have r3 : w10.cell? ⟨w.heap.size + 1, 3, none⟩ = some (.int .u64 0) := blk_cell HY10.out 3 rfl; have r6 : w10.cell? ⟨w.heap.size + 1, 6, none⟩ = some (.slice none 0 0) := blk_cell HY10.out 6 rfl; clear hb10))
  have hls := last_any w10 w5.heap.size none 0 0 [] HL10.out.log HL10.out.ok
  rw [show lastTm 0 [] = 0 from rfl] at hls
  have HLS := Lib.hid hls
  clear hls s0 s1 s2 s3 s6 n9 r2 r3 r6
  go_wp2_with fail
  refine HLS.out.mono ?_
  rintro en w11 ⟨rfl, hb11⟩
  have HL11 := Lib.hid (HL10.out.below hb11)
  have HY11 := Lib.hid (bheap hb11 HY10.out (heap_lt HY10.out))
  have s0 : w11.cell? ⟨w.heap.size + 1, 0, none⟩ = some (.int .u64 0) := blk_cell HY11.out 0 rfl
  have s1 : w11.cell? ⟨w.heap.size + 1, 1, none⟩ = some (.int .i64 0) := blk_cell HY11.out 1 rfl
  have s2 : w11.cell? ⟨w.heap.size + 1, 2, none⟩ = some (.int .u64 0) := blk_cell HY11.out 2 rfl
  have s3 : w11.cell? ⟨w.heap.size + 1, 3, none⟩ = some (.int .u64 0) := blk_cell HY11.out 3 rfl
  have s6 : w11.cell? ⟨w.heap.size + 1, 6, none⟩ = some (.slice none 0 0) := blk_cell HY11.out 6 rfl
  have n12 : w11.cell? ⟨w6.heap.size, 12, none⟩ = some (.slice ia 1 ic) := HL11.out.cell 12 rfl
  obtain ⟨ja, jc, hj, hsj⟩ := HL11.out.img
  have hsj' : Sl intv w11 (.slice ia 1 ic) [id] := by
    injection hj with j1 j2 j3
    subst j1 j3
    exact hsj
  have hrt := right_any w11 ia 1 ic [id] hsj'
  rw [HMB.out] at hrt
  have HRT := Lib.hid hrt
  clear hb11 hj hsj hsj' hrt m9
  go_wp2_with fail
  refine HRT.out.mono ?_
  rintro en w12 ⟨rfl, hb12⟩
  have HL12 := Lib.hid (HL11.out.below hb12)
  have c20 : w12.cell? ⟨w6.heap.size, 20, none⟩ = some (.int .u64 0) := HL12.out.cell 20 rfl
  have f20 := HL12.out.free 20
  have HF := Lib.hid (HL12.out.set ⟨id, .slice va 1 vc, el, 1, 0, 0, 0, 0, 0, w5.heap.size, none, [], .slice ia 1 ic, 0, .pointer none, .pointer none, false⟩ 20 (.int .u64 0) rfl rfl rfl rfl rfl rfl)
  clear hb12 s0 s1 s2 s3 s6 n12
  go_wp2_with fail
  go_ret2
  exact ⟨_, _, _, _, rfl, HF.out⟩

end Go.Proofs.YtbfhgljmopgejaaGreat

/- Package raft: New, of a node alone. -/
import Derived.Test.YtdjooojpcepleaaGreatRsM40
import Derived.Test.YtdjooojpcepleaaGreatRsM35
import Derived.Test.YtdjooojpcepleaaGreatRsM37
import Derived.Deep.RegionHeld3

namespace Go.Proofs.YtdjooojpcepleaaGreat.L8
open Go.RowKit Go.Sort
theorem node_yes (w : World) (x : Int) (h1 : 1 ≤ x) (h7 : x ≤ 7) : Calls Tryz.prog 45 #[.int .i64 x] w (Ret (.bool true) w) := by
 go_enter Tryz.func45, Tryz.ntmps45
 go_wp2
 go_ret
 exact Ret.mk rfl
set_option maxRecDepth 100000 in
set_option maxHeartbeats 3200000 in
theorem new_lone (w : World) (id el : Int) (a : Option Addr) (cap : Nat) (hs : Sl intv w (.slice a 1 cap) [id]) (i1 : 1 ≤ id) (i7 : id ≤ 7) (e1 : 1 ≤ el) (e2 : el ≤ 1000) :
  Calls Tryz.prog 22 #[.agg #[.int .i64 id, .slice a 1 cap, .int .i64 el, .int .i64 1], .agg #[.int .u64 0, .int .i64 0, .int .u64 0, .int .u64 0, .slice none 0 0, .slice none 0 0, .slice none 0 0]] w
   fun e w' => ∃ p mv lg imv, e = .returned (.tuple #[.pointer (some ⟨p, 0, none⟩), .int .i64 0]) ∧ Lone w w' p ⟨id, mv, el, 1, 0, 0, 0, 0, 0, lg, none, [], imv, 0, .pointer none, .pointer none, false⟩ := by
 have HS := hI hs
 have hmb : mB [id] = true := by
  have e1 : (0 : Int) < id := by omega
  simp [mB, memFrom, e1, i7]
 have HMB := hI hmb
 clear hs hmb
 obtain ⟨W, hW⟩ : ∃ W, W = (w.alloc (.cells #[.int .i64 id, .slice a 1 cap, .int .i64 el, .int .i64 1] 64)).alloc (.cells #[.int .u64 0, .int .i64 0, .int .u64 0, .int .u64 0, .slice none 0 0, .slice none 0 0, .slice none 0 0] 43) := ⟨_, rfl⟩
 have hx : W.heap[w.heap.size]? = some (.cells #[.int .i64 id, .slice a 1 cap, .int .i64 el, .int .i64 1] 64 (0, 0)) := by rw [hW]; exact aheap (bW _ _) _
 have hy : W.heap[w.heap.size + 1]? = some (.cells #[.int .u64 0, .int .i64 0, .int .u64 0, .int .u64 0, .slice none 0 0, .slice none 0 0, .slice none 0 0] 43 (0, 0)) := by
  rw [hW]
  have : (w.alloc (.cells #[.int .i64 id, .slice a 1 cap, .int .i64 el, .int .i64 1] 64)).heap.size = w.heap.size + 1 := by simp
  rw [← this]
  exact bW _ _
 have HB : Hid (Below w.heap.size w W) := hI (by rw [hW]; exact (bR.alloc nL _).alloc (by simp) _)
 have HX := hI hx
 have HY := hI hy
 clear hx hy
 have q1 : decide (el < 1) = false := by simp; omega
 have q2 : decide (1000 < el) = false := by simp; omega
 have q3 : decide (el < 1) = false := by simp; omega
 go_enter Tryz.func22, Tryz.ntmps22
 go_wp2_with fail
 rw [← hW]
 clear hW
 refine (node_yes W id i1 i7).mono ?_
 rintro en w' ⟨rfl, rfl⟩
 have x1 : W.cell? ⟨w.heap.size, 1, none⟩ = some (.slice a 1 cap) := bC HX.out 1 rfl
 go_wp2_with fail
 have hr := right_any W a 1 cap [id] (HS.out.below HB.out HS.out.row_lt)
 rw [HMB.out] at hr
 refine hr.mono ?_
 rintro en w2 ⟨rfl, hb2⟩
 have HX2 := hI (bH hb2 HX.out (heap_lt HX.out))
 have HY2 := hI (bH hb2 HY.out (heap_lt HY.out))
 have HB2 := hI (HB.out.trans (hb2.mono HB.out.size))
 have k0 : w2.cell? ⟨w.heap.size, 0, none⟩ = some (.int .i64 id) := bC HX2.out 0 rfl
 have k1 : w2.cell? ⟨w.heap.size, 1, none⟩ = some (.slice a 1 cap) := bC HX2.out 1 rfl
 have k2 : w2.cell? ⟨w.heap.size, 2, none⟩ = some (.int .i64 el) := bC HX2.out 2 rfl
 have k3 : w2.cell? ⟨w.heap.size, 3, none⟩ = some (.int .i64 1) := bC HX2.out 3 rfl
 clear hb2 hr x1
 go_wp2_with fail
 refine (clone_anyI w2 a 1 cap [id] (HS.out.below HB2.out HS.out.row_lt) (by simp)).mono ?_
 rintro en w3 ⟨v, rfl, hb3, hs3, ho3, hn3⟩
 obtain ⟨va, vc, rfl, _⟩ := _root_.id hs3
 have hx3 := bH hb3 HX2.out (heap_lt HX2.out)
 have hy3 := bH hb3 HY2.out (heap_lt HY2.out)
 have k1' : w3.cell? ⟨w.heap.size, 1, none⟩ = some (.slice a 1 cap) := bC hx3 1 rfl
 have f1 := bF hx3 1
 have hz3 := HB2.out.size
 have hne : ∀ k, (Value.slice va [id].length vc).ownBlock = some k → w.heap.size + 2 ≤ k := fun k hk => by
  have := hn3 k hk
  have := heap_lt HY2.out
  omega
 have HNE := hI hne
 obtain ⟨W4, hW4⟩ : ∃ W4, W4 = w3.setCell ⟨w.heap.size, 1, none⟩ (.slice va 1 vc) := ⟨_, rfl⟩
 have HX4 : Hid (W4.heap[w.heap.size]? = some (.cells #[.int .i64 id, .slice va 1 vc, .int .i64 el, .int .i64 1] 64 (0, 0))) := hI (by rw [hW4]; exact blk_set hx3 1 _)
 have HY4 : Hid (W4.heap[w.heap.size + 1]? = some (.cells #[.int .u64 0, .int .i64 0, .int .u64 0, .int .u64 0, .slice none 0 0, .slice none 0 0, .slice none 0 0] 43 (0, 0))) := hI (by rw [hW4]; exact bO hy3 (by simp) _)
 have HS4 : Hid (Sl intv W4 (.slice va 1 vc) [id]) := hI (by rw [hW4]; exact hs3.setCell (fun e => by have : w.heap.size + 2 ≤ w.heap.size := hne _ e; omega) _)
 have HB4 : Hid (Below w.heap.size w W4) := hI (by rw [hW4]; exact (HB2.out.trans (hb3.mono hz3)).setCell (by simp) _)
 have HC4 : Hid (∀ W', Below W4.heap.size W4 W' → W'.cell? ⟨w.heap.size, 0, none⟩ = some (.int .i64 id) ∧ W'.cell? ⟨w.heap.size, 1, none⟩ = some (.slice va 1 vc) ∧ W'.cell? ⟨w.heap.size, 2, none⟩ = some (.int .i64 el) ∧ W'.cell? ⟨w.heap.size, 3, none⟩ = some (.int .i64 1) ∧ W'.cell? ⟨w.heap.size + 1, 0, none⟩ = some (.int .u64 0) ∧ W'.cell? ⟨w.heap.size + 1, 1, none⟩ = some (.int .i64 0) ∧ W'.cell? ⟨w.heap.size + 1, 2, none⟩ = some (.int .u64 0) ∧ W'.cell? ⟨w.heap.size + 1, 3, none⟩ = some (.int .u64 0) ∧ W'.cell? ⟨w.heap.size + 1, 4, none⟩ = some (.slice none 0 0) ∧ W'.cell? ⟨w.heap.size + 1, 5, none⟩ = some (.slice none 0 0)) := hI (fun W' hb' => by
   have h1 := bH hb' HX4.out (heap_lt HX4.out)
   have h2 := bH hb' HY4.out (heap_lt HY4.out)
   exact ⟨bC h1 0 rfl, bC h1 1 rfl, bC h1 2 rfl, bC h1 3 rfl, bC h2 0 rfl, bC h2 1 rfl, bC h2 2 rfl, bC h2 3 rfl, bC h2 4 rfl, bC h2 5 rfl⟩)
 clear hb3 hs3 ho3 hn3 hx3 hy3 hne k0 k1 k2 k3 hz3
 go_wp2_with fail
 rw [← hW4]
 clear hW4 k1' f1
 have hB0 : Below W4.heap.size W4 W4.drew := bD bR
 have hS0 := HC4.out _ hB0
 go_region_held3 (fun w' => w'.cell? ⟨w.heap.size, 0, none⟩ = some (.int .i64 id) ∧ w'.cell? ⟨w.heap.size, 1, none⟩ = some (.slice va 1 vc) ∧ w'.cell? ⟨w.heap.size, 2, none⟩ = some (.int .i64 el) ∧ w'.cell? ⟨w.heap.size, 3, none⟩ = some (.int .i64 1) ∧ w'.cell? ⟨w.heap.size + 1, 0, none⟩ = some (.int .u64 0) ∧ w'.cell? ⟨w.heap.size + 1, 1, none⟩ = some (.int .i64 0) ∧ w'.cell? ⟨w.heap.size + 1, 2, none⟩ = some (.int .u64 0) ∧ w'.cell? ⟨w.heap.size + 1, 3, none⟩ = some (.int .u64 0) ∧ w'.cell? ⟨w.heap.size + 1, 4, none⟩ = some (.slice none 0 0) ∧ w'.cell? ⟨w.heap.size + 1, 5, none⟩ = some (.slice none 0 0)) (first | exact hS0 | exact hS5 | exact hS6 | exact HC4.out _ (hB6.alloc hB6.size _))
  (first
    | (go_at_call 28; refine (clone_img _).mono ?_; rintro en w5 ⟨rfl, hb5⟩; have hB5 := hB0.trans (hb5.mono hB0.size); have hS5 := HC4.out _ hB5)
    | (go_at_call 48; refine (newlog_any _ 0 0).mono ?_; rintro en w6 ⟨rfl, hl6, hb6⟩; have hB6 := hB5.trans (hb6.mono hB5.size); have hS6 := HC4.out _ hB6))
 obtain ⟨W7, hW7⟩ : ∃ W7, W7 = w6.alloc (.cells #[.int .i64 id, .slice va 1 vc, .int .i64 el, .int .i64 1, .int .u64 0, .int .i64 0, .int .i64 0, .int .i64 0, .int .i64 0, .pointer (some ⟨w5.heap.size, 0, none⟩), .int .u64 0, .int .u64 0, .slice none 0 0, .slice none 0 0, .int .u64 0, .pointer none, .pointer none, .slice none 0 0, .bool false, .bool false, .int .u64 0] 74) := ⟨_, rfl⟩
 rw [← hW7]
 have hB7 : Below W4.heap.size W4 W7 := by rw [hW7]; exact hB6.alloc hB6.size _
 have HN7 : Hid (W7.heap[w6.heap.size]? = some (.cells #[.int .i64 id, .slice va 1 vc, .int .i64 el, .int .i64 1, .int .u64 0, .int .i64 0, .int .i64 0, .int .i64 0, .int .i64 0, .pointer (some ⟨w5.heap.size, 0, none⟩), .int .u64 0, .int .u64 0, .slice none 0 0, .slice none 0 0, .int .u64 0, .pointer none, .pointer none, .slice none 0 0, .bool false, .bool false, .int .u64 0] 74 (0, 0))) := hI (by rw [hW7]; exact bW _ _)
 have HL7 : Hid (LogAt W7 w5.heap.size none 0 0 []) := hI (by rw [hW7]; exact hl6.below (bR.alloc nL _))
 have HLT : Hid (w5.heap.size < w6.heap.size) := hI hl6.lt
 have HX7 := hI (bH hB7 HX4.out (heap_lt HX4.out))
 have HY7 := hI (bH hB7 HY4.out (heap_lt HY4.out))
 have HS7 := hI (HS4.out.below hB7 HS4.out.row_lt)
 have HB7 := hI (HB4.out.trans (hB7.mono HB4.out.size))
 have HZ5 : Hid (W4.heap.size ≤ w5.heap.size ∧ w5.heap.size ≤ w6.heap.size) := hI ⟨hB5.size, Nat.le_of_lt hl6.lt⟩
 have HSR := hI HS4.out.row_lt
 have k1 : W7.cell? ⟨w.heap.size, 1, none⟩ = some (.slice va 1 vc) := bC HX7.out 1 rfl
 have n12 : W7.cell? ⟨w6.heap.size, 12, none⟩ = some (.slice none 0 0) := bC HN7.out 12 rfl
 clear hW7 hB0 hS0 hB5 hS5 hB6 hS6 hl6 hb5 hb6 hB7
 go_wp2_with fail
 refine (clone_anyI W7 va 1 vc [id] HS7.out (by simp)).mono ?_
 rintro en w8 ⟨v, rfl, hb8, hs8, ho8, hn8⟩
 obtain ⟨ia, ic, rfl, _⟩ := _root_.id hs8
 have HN8 := hI (bH hb8 HN7.out (heap_lt HN7.out))
 have HY8 := hI (bH hb8 HY7.out (heap_lt HY7.out))
 have m12 : w8.cell? ⟨w6.heap.size, 12, none⟩ = some (.slice none 0 0) := bC HN8.out 12 rfl
 have f12 := bF HN8.out 12
 have hz7 := heap_lt HN7.out
 obtain ⟨W9, hW9⟩ : ∃ W9, W9 = w8.setCell ⟨w6.heap.size, 12, none⟩ (.slice ia 1 ic) := ⟨_, rfl⟩
 have hk9 : Keeps (fun k => k = w6.heap.size) w8 W9 := by rw [hW9]; exact (Keeps.refl (fun k => k = w6.heap.size) w8).setCell (p := ⟨w6.heap.size, 12, none⟩) (.inl rfl) _
 have HN9 : Hid (W9.heap[w6.heap.size]? = some (.cells (LoneS.cells ⟨id, .slice va 1 vc, el, 1, 0, 0, 0, 0, 0, w5.heap.size, none, [], .slice ia 1 ic, 0, .pointer none, .pointer none, false⟩) 74 (0, 0))) := hI (by rw [hW9]; exact blk_set HN8.out 12 _)
 have h67 := heap_lt HY4.out
 have h5 := HZ5.out
 have hwz := HB4.out.size
 have HB8 := hI (HB7.out.trans (hb8.mono HB7.out.size))
 have HL9 : Hid (Lone w W9 w6.heap.size ⟨id, .slice va 1 vc, el, 1, 0, 0, 0, 0, 0, w5.heap.size, none, [], .slice ia 1 ic, 0, .pointer none, .pointer none, false⟩) := hI (by
   have hlt := HLT.out
   have hin : ∀ k, (Value.slice ia 1 ic).ownBlock = some k → W7.heap.size ≤ k := fun k hk => hn8 k hk
   refine ⟨HN9.out, (HL7.out.below hb8).kept hk9 (fun e => by omega) (fun k hk => nomatch hk) (fun e he => nomatch he), ⟨(fun k e he => nomatch he), by omega, by simp, by omega, (fun e he => nomatch he), by omega⟩, (fun e he => nomatch he), (fun e he => nomatch he), ⟨ia, ic, rfl, hs8.kept hk9 (fun k hk e => by have := hin k hk; omega)⟩, i1, i7, HB8.out.trans (hk9.below HB8.out.size (fun k hk => by omega)), by show w.heap.size ≤ w6.heap.size; omega, by show w.heap.size ≤ w5.heap.size; omega, (fun k hk => nomatch hk), by show w6.heap.size ≠ w5.heap.size; omega, (fun h => nomatch h), fun h => ?_, fun h => ?_, (fun k hk h => nomatch h), (fun e he => nomatch he), by simp⟩
   · have : W7.heap.size ≤ w6.heap.size := hin _ h; omega
   · have : W7.heap.size ≤ w5.heap.size := hin _ h; omega)
 have HY9 := hI (hk9.heap (show ¬ w.heap.size + 1 = w6.heap.size by omega) HY8.out)
 clear hk9 hb8 hs8 ho8 hn8 h5 h67 hwz k1 n12
 go_wp2_with fail
 rw [← hW9]
 clear hW9 m12 f12
 have s0 : W9.cell? ⟨w.heap.size + 1, 0, none⟩ = some (.int .u64 0) := bC HY9.out 0 rfl
 have s1 : W9.cell? ⟨w.heap.size + 1, 1, none⟩ = some (.int .i64 0) := bC HY9.out 1 rfl
 have s2 : W9.cell? ⟨w.heap.size + 1, 2, none⟩ = some (.int .u64 0) := bC HY9.out 2 rfl
 have s3 : W9.cell? ⟨w.heap.size + 1, 3, none⟩ = some (.int .u64 0) := bC HY9.out 3 rfl
 have s6 : W9.cell? ⟨w.heap.size + 1, 6, none⟩ = some (.slice none 0 0) := bC HY9.out 6 rfl
 have n9 : W9.cell? ⟨w6.heap.size, 9, none⟩ = some (.pointer (some ⟨w5.heap.size, 0, none⟩)) := HL9.out.cell 9 rfl
 have hput := put_nil W9.drew w5.heap.size none [] HL9.out.drew.log HL9.out.ok
 have HPUT := hI hput
 clear hput
 go_region_held3 (fun w' => w'.cell? ⟨w6.heap.size, 9, none⟩ = some (.pointer (some ⟨w5.heap.size, 0, none⟩)) ∧ w'.cell? ⟨w.heap.size + 1, 2, none⟩ = some (.int .u64 0) ∧ w'.cell? ⟨w.heap.size + 1, 3, none⟩ = some (.int .u64 0) ∧ w'.cell? ⟨w.heap.size + 1, 6, none⟩ = some (.slice none 0 0)) (first | exact ⟨n9, s2, s3, s6⟩ | exact ⟨m9, r2, r3, r6⟩)
  (first
    | (go_at_call 49; refine HPUT.out.mono ?_; rintro en w10 ⟨rfl, hb10⟩; have HL10 := hI (HL9.out.drew.below hb10); have HY10 := hI (bH hb10 (show W9.drew.heap[w.heap.size + 1]? = _ from HY9.out) (heap_lt HY9.out)); have m9 : w10.cell? ⟨w6.heap.size, 9, none⟩ = some (.pointer (some ⟨w5.heap.size, 0, none⟩)) := HL10.out.cell 9 rfl; have r2 : w10.cell? ⟨w.heap.size + 1, 2, none⟩ = some (.int .u64 0) := bC HY10.out 2 rfl; have r3 : w10.cell? ⟨w.heap.size + 1, 3, none⟩ = some (.int .u64 0) := bC HY10.out 3 rfl; have r6 : w10.cell? ⟨w.heap.size + 1, 6, none⟩ = some (.slice none 0 0) := bC HY10.out 6 rfl; clear hb10))
 have hls := last_any w10 w5.heap.size none 0 0 [] HL10.out.log HL10.out.ok
 rw [show lT 0 [] = 0 from rfl] at hls
 have HLS := hI hls
 clear hls s0 s1 s2 s3 s6 n9 r2 r3 r6
 go_wp2_with fail
 refine HLS.out.mono ?_
 rintro en w11 ⟨rfl, hb11⟩
 have HL11 := hI (HL10.out.below hb11)
 have HY11 := hI (bH hb11 HY10.out (heap_lt HY10.out))
 have s0 : w11.cell? ⟨w.heap.size + 1, 0, none⟩ = some (.int .u64 0) := bC HY11.out 0 rfl
 have s1 : w11.cell? ⟨w.heap.size + 1, 1, none⟩ = some (.int .i64 0) := bC HY11.out 1 rfl
 have s2 : w11.cell? ⟨w.heap.size + 1, 2, none⟩ = some (.int .u64 0) := bC HY11.out 2 rfl
 have s3 : w11.cell? ⟨w.heap.size + 1, 3, none⟩ = some (.int .u64 0) := bC HY11.out 3 rfl
 have s6 : w11.cell? ⟨w.heap.size + 1, 6, none⟩ = some (.slice none 0 0) := bC HY11.out 6 rfl
 have n12 : w11.cell? ⟨w6.heap.size, 12, none⟩ = some (.slice ia 1 ic) := HL11.out.cell 12 rfl
 obtain ⟨ja, jc, hj, hsj⟩ := HL11.out.img
 have hsj' : Sl intv w11 (.slice ia 1 ic) [id] := by
  injection hj with j1 j2 j3
  subst j1 j3
  exact hsj
 have hrt := right_any w11 ia 1 ic [id] hsj'
 rw [HMB.out] at hrt
 have HRT := hI hrt
 clear hb11 hj hsj hsj' hrt m9
 go_wp2_with fail
 refine HRT.out.mono ?_
 rintro en w12 ⟨rfl, hb12⟩
 have HL12 := hI (HL11.out.below hb12)
 have c20 : w12.cell? ⟨w6.heap.size, 20, none⟩ = some (.int .u64 0) := HL12.out.cell 20 rfl
 have f20 := HL12.out.free 20
 have HF := hI (HL12.out.set ⟨id, .slice va 1 vc, el, 1, 0, 0, 0, 0, 0, w5.heap.size, none, [], .slice ia 1 ic, 0, .pointer none, .pointer none, false⟩ 20 (.int .u64 0) rfl rfl rfl rfl rfl rfl)
 clear hb12 s0 s1 s2 s3 s6 n12
 go_wp2_with fail
 go_ret2
 exact ⟨_, _, _, _, rfl, HF.out⟩
end Go.Proofs.YtdjooojpcepleaaGreat.L8

namespace Go.Proofs.YtdjooojpcepleaaGreat.L8
open Go.RowKit Go.Sort
theorem sl_single (w : World) (n : Int) : Sl intv (w.alloc (.cells #[.int .i64 n] 3)) (.slice (some ⟨w.heap.size, 0, none⟩) 1 1) [n] := by
 refine ⟨_, 1, rfl, by simp, by decide, .inr ⟨w.heap.size, 0, rfl, by simp, fun i c hi => ?_⟩⟩
 cases i with
 | zero =>
  simp at hi
  subst hi
  exact bC (bW _ _) 0 rfl
 | succ i => simp at hi
set_option maxRecDepth 100000 in
set_option maxHeartbeats 1600000 in
theorem lives26 (w : World) : Calls Tryz.prog 7 #[] w (RetB (.bool true) w) := by
 obtain ⟨W, hW⟩ : ∃ W, W = w.alloc (.cells #[.int .i64 1] 3) := ⟨_, rfl⟩
 have HS : Hid (Sl intv W (.slice (some ⟨w.heap.size, 0, none⟩) 1 1) [1]) := hI (by rw [hW]; exact sl_single w 1)
 have HB : Hid (Below w.heap.size w W) := hI (by rw [hW]; exact bR.alloc nL _)
 go_enter Tryz.func7, Tryz.ntmps7
 go_wp2_with fail
 rw [← hW]
 clear hW
 refine (new_lone W 1 2 _ 1 HS.out (by omega) (by omega) (by omega) (by omega)).mono ?_
 rintro e w2 ⟨p, mv, lg, imv, rfl, h2⟩
 have H2 := hI h2
 clear h2
 go_wp2_with fail
 refine (tick_wait H2.out rfl ⟨by show (0:Int) ≤ 0; omega, by show (0:Int) < _; omega⟩ ⟨by show (1:Int) ≤ 2; omega, by show (2:Int) ≤ _; omega⟩ (by show (0:Int) ≤ 0; omega) 0 (by omega) (by show (0:Int) + 1 < 2 + 0 % 2; omega)).mono ?_
 rintro e w3 ⟨rfl, h3, _⟩
 have H3 := hI h3
 clear h3
 go_wp2_with fail
 refine (role_lone H3.out).mono ?_
 rintro e w' ⟨rfl, rfl⟩
 go_wp2_with fail
 refine (tick_lead H3.out rfl ⟨by show (0:Int) ≤ 0; omega, by show (0:Int) < _; omega⟩ ⟨by show (1:Int) ≤ 2; omega, by show (2:Int) ≤ _; omega⟩ (by show (0:Int) ≤ 0 + 1; omega) 0 (by omega) (by show (0:Int) + 1 + 1 = 2 + 0 % 2; omega) rfl rfl).mono ?_
 rintro e w4 ⟨rfl, tb, tm, r, v, h4⟩
 have H4 := hI h4.lone
 clear h4
 go_wp2_with fail
 refine (role_lone H4.out).mono ?_
 rintro e w' ⟨rfl, rfl⟩
 go_wp2_with fail
 refine (commit_lone H4.out).mono ?_
 rintro e w' ⟨rfl, rfl⟩
 go_wp2_with fail
 refine (last_lone H4.out 1 rfl).mono ?_
 rintro e w5 ⟨rfl, hb5⟩
 have HB5 := hI (HB.out.trans ((H4.out.bel.trans (hb5.mono H4.out.bel.size)).mono HB.out.size))
 clear hb5
 go_wp2_with fail
 go_ret
 exact RetB.mk rfl HB5.out
end Go.Proofs.YtdjooojpcepleaaGreat.L8

namespace Go.Proofs.YtdjooojpcepleaaGreat
section
open Go.RowKit Go.Maps Go.ChangeMaps
def DoOk : Prop := ∀ (w : World) (M : Nat → Prop) (c : Cl) (_ : ClAt w M c) (C0 : List Int) (g : Gh En) (n N : Nat) (_ : N = n + 1) (_ : ClOk C0 g n c) (_ : N ≤ 1000) (_ : c.net.length ≤ 200) (_ : ∀ i, i < c.s → (c.x i).out = []) (kind node draw : Int) (_ : 0 ≤ draw) (_ : draw ≤ 18446744073709551615) (_ : -9223372036854775808 ≤ node) (_ : node ≤ 9223372036854775807),
  Calls Tryz.prog 9 #[.pointer (some ⟨c.wd, 0, none⟩), .agg #[.int .i64 kind, .int .i64 node, .int .u64 draw]] w (DoR C0 g N w M c)
section
variable {s b k : Nat} {w0 w w' : World} {M M' : Nat → Prop} {c c' : Cl} {g g' : Gh En} {L : List (Int × Int)} {D : List (Int × Ent)}
theorem run_do (hdo : DoOk) (h : RunAt s w0 b k w M c g L D) (hk : k + 1 ≤ 1000) (kind node draw : Int) (hd0 : 0 ≤ draw) (hd1 : draw ≤ 18446744073709551615) (hn0 : -9223372036854775808 ≤ node) (hn1 : node ≤ 9223372036854775807) :
  Calls Tryz.prog 9 #[.pointer (some ⟨b, 0, none⟩), .agg #[.int .i64 kind, .int .i64 node, .int .u64 draw]] w fun e w' => e = .returned (.tuple #[]) ∧ ∃ M' c' g', RunAt s w0 b (k + 1) w' M' c' g' L D ∧ (∃ v, Grow v g g') := by
 have := hdo w M c h.at_ (memS s) g k (k + 1) rfl h.ok hk h.net h.outs kind node draw hd0 hd1 hn0 hn1
 rw [h.wd] at this
 exact this.mono fun e w' hd => h.do_ hd
def BeginOk : Prop := ∀ (w : World) (s : Nat), 1 ≤ s → s ≤ 7 → Calls Tryz.prog 8 #[.int .i64 s] w (BeginR s w)
theorem run_begin (hbg : BeginOk) {w1 : World} (h0 : Below w0.heap.size w0 w1) (s : Nat) (h1 : 1 ≤ s) (h7 : s ≤ 7) :
  Calls Tryz.prog 8 #[.int .i64 s] w1 fun e w' => ∃ b M c, e = .returned (.pointer (some ⟨b, 0, none⟩)) ∧ RunAt s w0 b 0 w' M c Gh.none_ [] [] := by
 refine (hbg w1 s h1 h7).mono fun e w' hd => ?_
 obtain ⟨M, c, he, h⟩ := run_start h0 hd
 exact ⟨c.wd, M, c, he, h⟩
end
end
section
open Go
section
variable {P : Program} {ops : Array Oper} {Q : Exit → Act → World → Prop} {md : Region.Mode} {E T U : World → Prop} {sts : List Nat}
def openG (sts : List Nat) (listed : Array Bool) : Prop := ∀ k ∈ sts, listed.getD k true = false
def heldG (E T : World → Prop) (sts : List Nat) (listed : Array Bool) (w : World) : Prop := E w ∧ (openG sts listed → T w)
theorem openG_set {i : Nat} (h : i ∉ sts) {listed : Array Bool} : openG sts (listed.setIfInBounds i true) ↔ openG sts listed := by
 refine ⟨fun hk k hm => ?_, fun hk k hm => ?_⟩
 ·have := hk k hm
  rwa [getD_set_ne true (show i ≠ k from fun e => h (by rw [e]; exact hm))] at this
 ·rw [getD_set_ne true (show i ≠ k from fun e => h (by rw [e]; exact hm))]
  exact hk k hm
def wpAnyG (P : Program) (md : Region.Mode) (ops : Array Oper) (Q : Exit → Act → World → Prop) (E T : World → Prop) (sts : List Nat) : Nat → Array Bool → Act → World → Prop
 | 0, listed, a, w => Region.ready md ops listed = [] ∧ Q .normal a w
 | fuel + 1, listed, a, w =>
  (Region.ready md ops listed = [] → Q .normal a w) ∧
  ∀ i ∈ Region.ready md ops listed, wpOp P ops Q i (fun a' w' => heldG E T sts (listed.setIfInBounds i true) w' ∧ wpAnyG P md ops Q E T sts fuel (listed.setIfInBounds i true) a' w') a w
theorem wpAny_of_G : ∀ (fuel : Nat) (listed : Array Bool) (a : Act) (w : World), wpAnyG P md ops Q E T sts fuel listed a w → wpAny P md ops Q fuel listed a w
 | 0, _, _, _, h => h
 | fuel + 1, _, _, _, h => ⟨h.1, fun i hi => wpOp_mono (fun a' w' h' => wpAny_of_G fuel _ a' w' h'.2) (h.2 i hi)⟩
theorem wpAnyG_first {i : Nat} {oi : Oper} {v : Value} (hi : ops[i]? = some oi) (hns : i ∉ sts) (hsel : ∀ (j : Nat) (o : Oper) cs b, ops[j]? = some o → o.op ≠ .select cs b)
  (hQ : ∀ c a w, Q (.panic c) (a.put oi.dst v) w → Q (.panic c) a w)
  (hU : (∀ w, E w → U w) ∨ ((∀ w, E w → T w → U w) ∧ ∀ k ∈ sts, ∀ ok, ops[k]? = some ok → ∃ e ∈ ok.after, Region.binds md e = true ∧ e.on = i)) :
  ∀ (fuel : Nat) (listed : Array Bool) (a : Act) (w : World),
   (∀ j oj, ops[j]? = some oj → j ≠ i → listed.getD j true = false → (∀ e ∈ oj.after, Region.binds md e = true → e.on ≠ i) → oi.apart ops oj = true) →
   i ∈ Region.ready md ops listed → YieldsIf P ops U oi v a → heldG E T sts listed w → ((∀ w, E w → U w) ∨ openG sts listed) →
   wpAnyG P md ops Q E T sts fuel (listed.setIfInBounds i true) (a.put oi.dst v) w → wpAnyG P md ops Q E T sts (fuel + 1) listed a w := by
 intro fuel
 have hu : ∀ (listed : Array Bool) (w : World), heldG E T sts listed w → ((∀ w, E w → U w) ∨ openG sts listed) → U w := fun listed w hS ho => by
  rcases ho with ho | ho
  ·exact ho w hS.1
  ·rcases hU with hU | hU
   ·exact hU w hS.1
   ·exact hU.1 w hS.1 (hS.2 ho)
 induction fuel with
 | zero =>
  intro listed a w _ hr hy hS ho H
  refine ⟨fun h => (by rw [h] at hr; cases hr), fun j hj => ?_⟩
  by_cases hji : j = i
  ·subst hji; exact hy.wpOp hi (hu listed w hS ho) ⟨⟨hS.1, fun h => hS.2 ((openG_set hns).1 h)⟩, H⟩
  ·have := ready_mono hj hji
   rw [H.1] at this
   cases this
 | succ fuel ih =>
  intro listed a w hfree hr hy hS ho H
  refine ⟨fun h => (by rw [h] at hr; cases hr), fun j hj => ?_⟩
  by_cases hji : j = i
  ·subst hji; exact hy.wpOp hi (hu listed w hS ho) ⟨⟨hS.1, fun h => hS.2 ((openG_set hns).1 h)⟩, H⟩
  ·have h1 := H.2 j (ready_mono hj hji)
   obtain ⟨hjun, oj, hoj, hall⟩ := mem_ready.1 hj
   have hnot : ∀ e ∈ oj.after, Region.binds md e = true → e.on ≠ i := fun e he hb heq => by
    have h1 := hall e he hb
    have h0 := (mem_ready.1 hr).1
    rw [heq] at h1
    rcases Nat.lt_or_ge i listed.size with h' | h'
    ·simp [h'] at h0 h1; rw [h0] at h1; cases h1
    ·simp [Array.getElem?_eq_none h'] at h1
   have h2 := wpOp_putIf hoj (hfree j oj hoj hji hjun hnot) (fun cs b => hsel i oi cs b hi) (fun cs b => hsel j oj cs b hoj) hQ hy h1
   have hfree' : ∀ k ok, ops[k]? = some ok → k ≠ i → (listed.setIfInBounds j true).getD k true = false →
     (∀ e ∈ ok.after, Region.binds md e = true → e.on ≠ i) → oi.apart ops ok = true := fun k ok hk hki hun hno => by
    refine hfree k ok hk hki ?_ hno
    by_cases hjk : j = k
    ·subst hjk; exact hjun
    ·rw [getD_set_ne true hjk] at hun; exact hun
   have ho' : (∀ w, E w → U w) ∨ openG sts (listed.setIfInBounds j true) := by
    rcases ho with ho | ho
    ·exact .inl ho
    ·rcases hU with hU | hU
     ·exact .inl hU
     ·refine .inr ((openG_set fun hm => ?_).2 ho)
      obtain ⟨e, he, hb, hei⟩ := hU.2 j hm oj hoj
      exact hnot e he hb hei
   refine wpOp_mono (fun a' w' h3 => ?_) h2
   obtain ⟨h4, h5, h6⟩ := h3
   have h5' : heldG E T sts (listed.setIfInBounds j true) w' := by
    refine ⟨h5.1, fun h => h5.2 ?_⟩
    rw [Array.setIfInBounds_comm _ _ (Ne.symm hji)]
    exact (openG_set hns).2 h
   refine ⟨h5', ih (listed.setIfInBounds j true) a' w' hfree' (ready_mono hr (Ne.symm hji)) h4 h5' ho' ?_⟩
   rw [Array.setIfInBounds_comm _ _ hji]
   exact h6
theorem wpAnyG_take {i : Nat} {oi : Oper} {v : Value} {fuel : Nat} {listed : Array Bool} {a : Act} {w : World} (hi : ops[i]? = some oi) (hns : sts.contains i = false)
  (hs : Region.noSelect ops = true) (hf : Region.free md ops listed i = true) (hr : (Region.ready md ops listed).contains i = true)
  (hQ : ∀ c a w, Q (.panic c) (a.put oi.dst v) w → Q (.panic c) a w) (hy : YieldsIf P ops E oi v a) (hE : E w) (hT : T w)
  (h : wpAnyG P md ops Q E T sts fuel (listed.setIfInBounds i true) (a.put oi.dst v) w) : wpAnyG P md ops Q E T sts (fuel + 1) listed a w :=
 wpAnyG_first hi (by simpa using hns) (Region.noSelect_spec hs) hQ (.inl fun _ h => h) fuel listed a w (Region.free_spec hi hf) (by simpa using hr) hy ⟨hE, fun _ => hT⟩ (.inl fun _ h => h) h
theorem wpAnyG_takeT {i : Nat} {oi : Oper} {v : Value} {fuel : Nat} {listed : Array Bool} {a : Act} {w : World} (hi : ops[i]? = some oi) (hns : sts.contains i = false)
  (hs : Region.noSelect ops = true) (hf : Region.free md ops listed i = true) (hr : (Region.ready md ops listed).contains i = true)
  (hd : (sts.all fun k => match ops[k]? with | some ok => ok.after.any fun e => Region.binds md e && e.on == i | none => true) = true) (hop : (sts.all fun k => !listed.getD k true) = true)
  (hQ : ∀ c a w, Q (.panic c) (a.put oi.dst v) w → Q (.panic c) a w) (hy : YieldsIf P ops (fun w => E w ∧ T w) oi v a) (hE : E w) (hT : T w)
  (h : wpAnyG P md ops Q E T sts fuel (listed.setIfInBounds i true) (a.put oi.dst v) w) : wpAnyG P md ops Q E T sts (fuel + 1) listed a w := by
 refine wpAnyG_first (U := fun w => E w ∧ T w) hi (by simpa using hns) (Region.noSelect_spec hs) hQ (.inr ⟨fun _ h k => ⟨h, k⟩, fun k hk ok hok => ?_⟩) fuel listed a w (Region.free_spec hi hf) (by simpa using hr) hy ⟨hE, fun _ => hT⟩ (.inr fun k hk => ?_) h
 ·have := List.all_eq_true.1 hd k hk
  rw [hok] at this
  obtain ⟨n, hn, h1⟩ := Array.any_eq_true.1 this
  simp only [Bool.and_eq_true, beq_iff_eq] at h1
  exact ⟨_, Array.getElem_mem hn, h1.1, h1.2⟩
 ·have := List.all_eq_true.1 hop k hk
  simpa using this
def AllReadyG (P : Program) (md : Region.Mode) (ops : Array Oper) (Q : Exit → Act → World → Prop) (E T : World → Prop) (sts : List Nat) (fuel : Nat) (listed : Array Bool) (a : Act) (w : World) (rs : List Nat) : Prop :=
 ∀ i ∈ rs, wpOp P ops Q i (fun a' w' => heldG E T sts (listed.setIfInBounds i true) w' ∧ wpAnyG P md ops Q E T sts fuel (listed.setIfInBounds i true) a' w') a w
theorem AllReadyG.nil {fuel : Nat} {listed : Array Bool} {a : Act} {w : World} : AllReadyG P md ops Q E T sts fuel listed a w [] := fun _ h => by cases h
theorem AllReadyG.cons {fuel : Nat} {listed : Array Bool} {a : Act} {w : World} {i : Nat} {o : Oper} {rs : List Nat} (ho : ops[i]? = some o)
  (h : ∀ K' : Act → World → Prop, Shut (∀ a w, heldG E T sts (listed.setIfInBounds i true) w → wpAnyG P md ops Q E T sts fuel (listed.setIfInBounds i true) a w → K' a w) → if Region.wanted o (yielded ops a.tmps) = true then Oper.wp P o a w K' Q else K' (a.put o.dst undef) w)
  (hs : AllReadyG P md ops Q E T sts fuel listed a w rs) : AllReadyG P md ops Q E T sts fuel listed a w (i :: rs) := fun j hj => by
 rcases List.mem_cons.1 hj with rfl | hj
 ·exact wpOp_step ho (fun K' hK => h K' (fun a w hS hW => hK a w ⟨hS, hW⟩))
 ·exact hs j hj
theorem wA {rs : List Nat} {fuel : Nat} {listed : Array Bool} {a : Act} {w : World} (hr : Region.ready md ops listed = rs) (hne : rs ≠ [])
  (h : AllReadyG P md ops Q E T sts fuel listed a w rs) : wpAnyG P md ops Q E T sts (fuel + 1) listed a w :=
 ⟨fun h0 => absurd (hr ▸ h0) hne, hr ▸ h⟩
theorem wpAnyG_done {listed : Array Bool} {a : Act} {w : World} (hr : Region.ready md ops listed = []) (h : Q .normal a w) :
  ∀ fuel, wpAnyG P md ops Q E T sts fuel listed a w
 | 0 => ⟨hr, h⟩
 | _ + 1 => ⟨fun _ => h, by rw [hr]; simp⟩
theorem wp_region_G {id : Nat} {a : Act} {w : World} (hm : P.follows .mixedOrders = true)
  (h : wpAnyG P .any ops Q E T sts ops.size (Array.replicate ops.size false) a w.drew) : (Code.region id ops true).wp P Q a w :=
 wp_region_any hm (wpAny_of_G _ _ _ _ h)
theorem heldG.open {w : World} (hE : E w) (hT : T w) {listed : Array Bool} : heldG E T sts listed w := ⟨hE, fun _ => hT⟩
theorem heldG.shut {w : World} (hE : E w) {listed : Array Bool} (h : (sts.all fun k => !listed.getD k true) = false) : heldG E T sts listed w := ⟨hE, fun ho => by
  have : (sts.all fun k => !listed.getD k true) = true := List.all_eq_true.2 fun k hk => by rw [ho k hk]; rfl
  rw [this] at h; cases h⟩
end
end
end Go.Proofs.YtdjooojpcepleaaGreat

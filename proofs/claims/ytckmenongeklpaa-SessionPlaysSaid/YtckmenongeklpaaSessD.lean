/- An answer of bytes (package command): the walk. -/
import Derived.Test.YtckmenongeklpaaSessC
namespace Go.Proofs.Ytckmenongeklpaa
open Go.RowKit Go.Maps Go.ChangeMaps

theorem keeps_belowR {p : Nat} {w w' : World} (h : Keeps (fun k => k = p) w w') {B : Nat} (hB : B ≤ w.heap.size) (hp : B ≤ p) : Below B w w' := h.below hB (fun k hk => hk ▸ hp)

theorem info_ans : (Try.prog.info? 36).map (·.size) = some 4 := by kernel_rfl

set_option maxRecDepth 100000 in
theorem ansOf_any (w : World) (ad : Option Addr) (n cp : Nat) (l : List UInt8) (hs : Sl u8v w (.slice ad n cp) l) (hl : l.length ≤ 100000) :
    Calls Try.prog 38 #[.slice ad n cp] w (RetB (.tuple #[(ansF l).1.v, .int .i64 (ansF l).2]) w) := by
  have HS := Lib.hid hs
  have HF := Lib.hid (show ansF l = _ from rfl)
  unfold ansF at HF
  obtain ⟨n1, hn1⟩ : ∃ n1, numR ⟨l, 0⟩ = n1 := ⟨_, rfl⟩
  obtain ⟨t, ht⟩ : ∃ t, textR 255 n1.2 = t := ⟨_, rfl⟩
  obtain ⟨k, hk⟩ : ∃ k, numR t.2 = k := ⟨_, rfl⟩
  obtain ⟨v, hv⟩ : ∃ v, intR k.2 = v := ⟨_, rfl⟩
  have hF : ansF l = if endR v.2 ≠ 0 then (Ans.zero, endR v.2) else if 2147483647 < n1.1 then (Ans.zero, 2) else (⟨(n1.1 : Nat), ⟨t.1.toArray⟩, (k.1 : Nat), v.1⟩, 0) := by
    unfold ansF; rw [hn1, ht, hk, hv]
  have hlt : n1.1 < 18446744073709551616 := by rw [← hn1]; exact numR_lt _
  have N1 := Lib.hid hn1
  have N2 := Lib.hid ht
  have N3 := Lib.hid hk
  have N4 := Lib.hid hv
  obtain ⟨ev, hev⟩ : ∃ ev, ev = endR v.2 := ⟨_, rfl⟩
  rw [← hev] at hF
  have HEV := Lib.hid hev
  have HFF := Lib.hid hF
  clear HF hF hs hn1 ht hk hv hev
  go_enter Try.func38, Try.ntmps38
  go_wp2_with fail
  obtain ⟨W0, hW0⟩ : ∃ W0, W0 = w.alloc (.cells #[.int .i64 0, .string ⟨#[]⟩, .int .u64 0, .int .i64 0] 36) := ⟨_, rfl⟩
  have hA0 : W0.heap[w.heap.size]? = some (.cells #[.int .i64 0, .string ⟨#[]⟩, .int .u64 0, .int .i64 0] 36 (0, 0)) := by rw [hW0]; exact heap_new _ _
  have hB0 : Below w.heap.size w W0 := by rw [hW0]; exact (Below.refl _ _).alloc (Nat.le_refl _) _
  have hs0 : w.heap.size + 1 ≤ W0.heap.size := by rw [hW0]; simp
  rw [← hW0]
  have HA0 := Lib.hid hA0
  have HB0 := Lib.hid hB0
  clear hA0 hB0 hW0
  refine (read_any W0 ad n cp l (HS.out.below HB0.out HS.out.row_lt) (by omega)).mono ?_
  rintro e w1 ⟨p, rfl, hp, hR1, hb1⟩
  have hA1 := bheap hb1 HA0.out (heap_lt HA0.out)
  have HR1 := Lib.hid hR1
  have HA1 := Lib.hid hA1
  have HB1 := Lib.hid (HB0.out.trans (hb1.mono HB0.out.size))
  have hpp : w.heap.size + 1 ≤ p := by omega
  have hz1 : w.heap.size + 1 ≤ w1.heap.size := Nat.le_trans hs0 hb1.size
  clear hR1 hb1 hA1 hp
  go_wp2_with fail
  refine (rnum_any w1 p _ HR1.out).mono ?_
  rintro e w2 ⟨rfl, hR2, hk2⟩
  rw [N1.out] at hR2
  have hb2 := keeps_belowR hk2 hz1 hpp
  have HR2 := Lib.hid hR2
  have HA2 := Lib.hid (bheap hb2 HA1.out (Nat.lt_succ_self _))
  have HB2 := Lib.hid (HB1.out.trans (hb2.mono (Nat.le_succ _)))
  have hz2 : w.heap.size + 1 ≤ w2.heap.size := Nat.le_trans hz1 hb2.size
  clear hR2 hk2 hb2
  rw [N1.out]
  go_wp2_with fail
  refine (rtext_any w2 p _ HR2.out 255 (by omega)).mono ?_
  rintro e w3 ⟨rfl, hR3, hk3⟩
  rw [N2.out] at hR3
  have hb3 := keeps_belowR hk3 hz2 hpp
  have HR3 := Lib.hid hR3
  have HA3 := Lib.hid (bheap hb3 HA2.out (Nat.lt_succ_self _))
  have HB3 := Lib.hid (HB2.out.trans (hb3.mono (Nat.le_succ _)))
  have hz3 : w.heap.size + 1 ≤ w3.heap.size := Nat.le_trans hz2 hb3.size
  clear hR3 hk3 hb3
  rw [N2.out]
  go_wp2_with fail
  refine (rnum_any w3 p _ HR3.out).mono ?_
  rintro e w4 ⟨rfl, hR4, hk4⟩
  rw [N3.out] at hR4
  have hb4 := keeps_belowR hk4 hz3 hpp
  have HR4 := Lib.hid hR4
  have HA4 := Lib.hid (bheap hb4 HA3.out (Nat.lt_succ_self _))
  have HB4 := Lib.hid (HB3.out.trans (hb4.mono (Nat.le_succ _)))
  have hz4 : w.heap.size + 1 ≤ w4.heap.size := Nat.le_trans hz3 hb4.size
  clear hR4 hk4 hb4
  rw [N3.out]
  go_wp2_with fail
  refine (rint_any w4 p _ HR4.out).mono ?_
  rintro e w5 ⟨rfl, hR5, hk5⟩
  rw [N4.out] at hR5
  have hb5 := keeps_belowR hk5 hz4 hpp
  have HR5 := Lib.hid hR5
  have HA5 := Lib.hid (bheap hb5 HA4.out (Nat.lt_succ_self _))
  have HB5 := Lib.hid (HB4.out.trans (hb5.mono (Nat.le_succ _)))
  have hz5 : w.heap.size + 1 ≤ w5.heap.size := Nat.le_trans hz4 hb5.size
  clear hR5 hk5 hb5
  rw [N4.out]
  go_wp2_with fail
  obtain ⟨W6, hW6⟩ : ∃ W6, W6 = w5.alloc (.cells #[.int .i64 (wrap64 n1.1), .string ⟨t.1.toArray⟩, .int .u64 k.1, .int .i64 v.1] 36) := ⟨_, rfl⟩
  rw [← hW6]
  have hX6 : W6.heap[w5.heap.size]? = some (.cells #[.int .i64 (wrap64 n1.1), .string ⟨t.1.toArray⟩, .int .u64 k.1, .int .i64 v.1] 36 (0, 0)) := by rw [hW6]; exact heap_new _ _
  have HX6 := Lib.hid hX6
  have HA6 : Hid (W6.heap[w.heap.size]? = some (.cells #[.int .i64 0, .string ⟨#[]⟩, .int .u64 0, .int .i64 0] 36 (0, 0))) := Lib.hid (by rw [hW6]; exact aheap HA5.out _)
  have HB6 := Lib.hid (show Below w.heap.size w W6 by rw [hW6]; exact HB5.out.alloc HB5.out.size _)
  have hR6 : RdAt W6 p v.2 := by rw [hW6]; exact HR5.out.alloc _
  clear hX6 hW6
  refine (end_any _ p _ hR6).mono ?_
  rintro e w' ⟨rfl, rfl⟩
  rw [← HEV.out]
  clear hR6
  have hx := HX6.out
  by_cases h0 : ev = 0
  case neg =>
    have HF := Lib.hid (show ansF l = (Ans.zero, ev) by rw [HFF.out, if_pos h0])
    have h1 : (ev == 0) = false := by simpa using h0
    have h2 : (ev != 0) = true := by simpa using h0
    clear h0 hx
    go_wp2_with (first | (refine wpList_store_all _ rfl _ _ _ rfl _ rfl _ rfl _ _ HA6.out ?_ ?_ info_ans ?_ ?_; (focus (simp; done)); (focus (simp; done)); (focus (simp [OneCells, Value.oneCell']; done)); rintro W7 hz7 hk7 hs7) | fail)
    refine bodyPost_ret (results_blk2 rfl _ _ _ _ _ _ rfl hz7 _ Try.underlying36 rfl info_ans) rfl ?_
    rw [HF.out]
    exact RetB.mk rfl (((Keeps.of_below HB6.out).trans (hk7.mono fun j _ hj => by show w.heap.size ≤ j; omega)).below (Nat.le_refl _) fun j hj => hj)
  have h1 : (ev == 0) = true := by simpa using h0
  have h2 : (ev != 0) = false := by simpa using h0
  have HE0 := Lib.hid h0
  clear h0
  by_cases h3 : 2147483647 < n1.1
  · have HF := Lib.hid (show ansF l = (Ans.zero, 2) by rw [HFF.out, if_neg (by simp [HE0.out]), if_pos h3])
    have h4 : (2147483647 : Int) < (n1.1 : Int) := by omega
    clear hx
    go_wp2_with (first | (refine wpList_store_all _ rfl _ _ _ rfl _ rfl _ rfl _ _ HA6.out ?_ ?_ info_ans ?_ ?_; (focus (simp; done)); (focus (simp; done)); (focus (simp [OneCells, Value.oneCell']; done)); rintro W7 hz7 hk7 hs7) | fail)
    refine bodyPost_ret (results_blk2 rfl _ _ _ _ _ _ rfl hz7 _ Try.underlying36 rfl info_ans) rfl ?_
    rw [HF.out]
    exact RetB.mk rfl (((Keeps.of_below HB6.out).trans (hk7.mono fun j _ hj => by show w.heap.size ≤ j; omega)).below (Nat.le_refl _) fun j hj => hj)
  · have HF := Lib.hid (show ansF l = (⟨(n1.1 : Nat), ⟨t.1.toArray⟩, (k.1 : Nat), v.1⟩, 0) by rw [HFF.out, if_neg (by simp [HE0.out]), if_neg h3])
    have h4 : ¬ (2147483647 : Int) < (n1.1 : Int) := by omega
    have hw : wrap64 (n1.1 : Int) = (n1.1 : Int) := by unfold wrap64; omega
    rw [hw] at HX6
    clear hx h3 hw
    go_wp2_with (first | (refine wpList_load_all _ rfl _ _ rfl _ rfl _ _ _ _ HX6.out rfl _ Try.underlying36 rfl info_ans ?_) | (refine wpList_store_all _ rfl _ _ _ rfl _ rfl _ rfl _ _ HA6.out ?_ ?_ info_ans ?_ ?_; (focus (simp; done)); (focus (simp; done)); (focus (simp [OneCells, Value.oneCell']; done)); rintro W7 hz7 hk7 hs7) | fail)
    refine bodyPost_ret (results_blk2 rfl _ _ _ _ _ _ rfl hz7 _ Try.underlying36 rfl info_ans) rfl ?_
    rw [HF.out]
    exact RetB.mk rfl (((Keeps.of_below HB6.out).trans (hk7.mono fun j _ hj => by show w.heap.size ≤ j; omega)).below (Nat.le_refl _) fun j hj => hj)

end Go.Proofs.Ytckmenongeklpaa

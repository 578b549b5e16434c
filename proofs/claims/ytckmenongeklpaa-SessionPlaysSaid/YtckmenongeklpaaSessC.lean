/- An answer as bytes, and of bytes (package command): the walks. -/
import Derived.Test.YtckmenongeklpaaSessB
namespace Go.Proofs.Ytckmenongeklpaa
open Go.RowKit Go.Maps Go.ChangeMaps

theorem wr_new {w : World} : Wr (w.alloc (.cells #[.slice none 0 0] 64)) w.heap.size none [] :=
  ⟨_, heap_new _ _, rfl, by simp, World.ownsRow_nil _ _ _ _⟩

/-- A Writer of the call's own: what it wrote on lay in new blocks. -/
theorem Wrote.below {p : Nat} {w w' : World} {r r' : Option Nat} (h : Wrote p w r w' r') {B : Nat} (hB : B ≤ w.heap.size) (hp : B ≤ p) (hr : ∀ k, r = some k → B ≤ k) : Below B w w' ∧ (∀ k, r' = some k → B ≤ k) := by
  refine ⟨h.keeps.below hB (fun k hk => ?_), fun k hk => ?_⟩
  · rcases hk with rfl | hk
    · exact hp
    · exact hr k hk.symm
  · rcases h.row with e | ⟨j, e, hj⟩
    · exact hr k (e ▸ hk)
    · rw [e] at hk; cases hk; omega

theorem ansB_len {a : Ans} (hn : a.name.size ≤ 100000) (ht : a.tok ≤ 18446744073709551615) (he : a.err ≤ 9223372036854775807) (hv0 : -9223372036854775808 ≤ a.val) (hv1 : a.val ≤ 9223372036854775807) : (ansB a).length ≤ 100040 := by
  have h1 := numB_len10 (x := a.err.toNat) (by omega)
  have h2 := numB_len10 (x := a.tok.toNat) (by omega)
  have h3 := numB_len10 (x := zig a.val) (zig_lt hv0 hv1)
  have hl : a.name.data.toList.length = a.name.size := by rw [Array.length_toList]; rfl
  have h4 := numB_len10 (x := a.name.data.toList.length) (by omega)
  unfold ansB textB intB
  simp only [List.length_append]
  omega

set_option maxRecDepth 100000 in
theorem answer_any (w : World) (a : Ans) (e0 : 0 ≤ a.err) (e1 : a.err ≤ 9223372036854775807) (hn : a.name.size ≤ 100000) (t0 : 0 ≤ a.tok) (t1 : a.tok ≤ 18446744073709551615) (v0 : -9223372036854775808 ≤ a.val) (v1 : a.val ≤ 9223372036854775807) :
    Calls Try.prog 27 #[a.v] w (Cloned w (ansB a)) := by
  obtain ⟨ae, an, atk, av⟩ := a
  have HLEN := Lib.hid (ansB_len (a := ⟨ae, an, atk, av⟩) hn t1 e1 v0 v1)
  unfold Ans.v
  simp only at *
  have hw : ae % 18446744073709551616 = ae := by omega
  obtain ⟨W0, hW0⟩ : ∃ W0, W0 = (w.alloc (.cells #[.int .i64 ae, .string an, .int .u64 atk, .int .i64 av] 36)).alloc (.cells #[.slice none 0 0] 64) := ⟨_, rfl⟩
  have hA0 : W0.heap[w.heap.size]? = some (.cells #[.int .i64 ae, .string an, .int .u64 atk, .int .i64 av] 36 (0, 0)) := by rw [hW0]; exact aheap (heap_new _ _) _
  have hP0 : Wr W0 (w.heap.size + 1) none [] := by
    have h := wr_new (w := w.alloc (.cells #[.int .i64 ae, .string an, .int .u64 atk, .int .i64 av] 36))
    rw [World.size_alloc] at h
    rw [hW0]; exact h
  have hB0 : Below w.heap.size w W0 := by rw [hW0]; exact ((Below.refl _ _).alloc (Nat.le_refl _) _).alloc (by simp) _
  have hs0 : w.heap.size + 1 ≤ W0.heap.size := by rw [hW0]; simp
  have HP0 := Lib.hid hP0
  have HA0 := Lib.hid hA0
  have HB0 := Lib.hid hB0
  have HW0 := Lib.hid hW0
  have hln := ansB_len (a := ⟨ae, an, atk, av⟩) hn t1 e1 v0 v1
  have hlen : (numB ae.toNat).length ≤ 10 ∧ (textB an.data.toList).length ≤ 100010 ∧ (numB atk.toNat).length ≤ 10 := by
    have hl : an.data.toList.length = an.size := by rw [Array.length_toList]; rfl
    have h4 := numB_len10 (x := an.data.toList.length) (by omega)
    refine ⟨numB_len10 (by omega), by unfold textB; simp only [List.length_append]; omega, numB_len10 (by omega)⟩
  obtain ⟨q1, q2, q3⟩ := hlen
  clear hA0 hP0 hB0 hW0 hln
  go_enter Try.func27, Try.ntmps27
  go_wp2_with fail
  rw [← HW0.out]
  refine (num_any W0 (w.heap.size + 1) none [] HP0.out ae e0 (by omega) (by simp)).mono ?_
  rintro e w1 ⟨rfl, r1, hP1, hk1⟩
  obtain ⟨hb1, hr1⟩ := hk1.below (B := w.heap.size + 1) hs0 (Nat.le_refl _) (by simp)
  have hA1 := bheap hb1 HA0.out (Nat.lt_succ_self _)
  have c1 := blk_cell hA1 1 rfl
  have HP1 := Lib.hid hP1
  have HA1 := Lib.hid hA1
  have HB1 := Lib.hid (HB0.out.trans (hb1.mono (Nat.le_succ _)))
  have HR1 := Lib.hid hr1
  have hs1 : w.heap.size + 1 ≤ w1.heap.size := Nat.le_trans hs0 hb1.size
  clear hP1 hk1 hb1 hr1 hA1
  rw [List.nil_append] at HP1
  go_wp2_with fail
  refine (wtext_any w1 (w.heap.size + 1) r1 _ HP1.out an (by omega)).mono ?_
  rintro e w2 ⟨rfl, r2, hP2, hk2⟩
  obtain ⟨hb2, hr2⟩ := hk2.below (B := w.heap.size + 1) hs1 (Nat.le_refl _) HR1.out
  have hA2 := bheap hb2 HA1.out (Nat.lt_succ_self _)
  clear c1
  have c2 := blk_cell hA2 2 rfl
  have HP2 := Lib.hid hP2
  have HA2 := Lib.hid hA2
  have HB2 := Lib.hid (HB1.out.trans (hb2.mono (Nat.le_succ _)))
  have HR2 := Lib.hid hr2
  have hs2 : w.heap.size + 1 ≤ w2.heap.size := Nat.le_trans hs1 hb2.size
  clear hP2 hk2 hb2 hr2 hA2
  go_wp2_with fail
  refine (num_any w2 (w.heap.size + 1) r2 _ HP2.out atk t0 t1 (by simp only [List.length_append]; omega)).mono ?_
  rintro e w3 ⟨rfl, r3, hP3, hk3⟩
  obtain ⟨hb3, hr3⟩ := hk3.below (B := w.heap.size + 1) hs2 (Nat.le_refl _) HR2.out
  have hA3 := bheap hb3 HA2.out (Nat.lt_succ_self _)
  clear c2
  have c3 := blk_cell hA3 3 rfl
  have HP3 := Lib.hid hP3
  have HB3 := Lib.hid (HB2.out.trans (hb3.mono (Nat.le_succ _)))
  have HR3 := Lib.hid hr3
  have hs3 : w.heap.size + 1 ≤ w3.heap.size := Nat.le_trans hs2 hb3.size
  clear hP3 hk3 hb3 hr3 hA3
  go_wp2_with fail
  refine (wint_any w3 (w.heap.size + 1) r3 _ HP3.out av v0 v1 (by simp only [List.length_append]; omega)).mono ?_
  rintro e w4 ⟨rfl, r4, hP4, hk4⟩
  obtain ⟨hb4, hr4⟩ := hk4.below (B := w.heap.size + 1) hs3 (Nat.le_refl _) HR3.out
  clear c3
  have HP4 : Hid (Wr w4 (w.heap.size + 1) r4 (ansB ⟨ae, an, atk, av⟩)) := Lib.hid (by unfold ansB; simpa using hP4)
  have HB4 := Lib.hid (HB3.out.trans (hb4.mono (Nat.le_succ _)))
  clear hP4 hk4 hb4 hr4
  go_wp2_with fail
  refine (wbytes_any w4 (w.heap.size + 1) r4 _ HP4.out (by have := HLEN.out; omega)).mono ?_
  rintro e w5 ⟨v, rfl, hb5, hs5, ho5, hn5⟩
  have HF := Lib.hid (show Below w.heap.size w w5 ∧ Sl u8v w5 v (ansB ⟨ae, an, atk, av⟩) ∧ w5.ownsRow 0 5 1 v (ansB ⟨ae, an, atk, av⟩).length ((ansB ⟨ae, an, atk, av⟩).map u8v) ∧ ∀ k, v.ownBlock = some k → w.heap.size ≤ k from
    ⟨HB4.out.trans (hb5.mono HB4.out.size), hs5, ho5, fun k hk => Nat.le_trans HB4.out.size (hn5 k hk)⟩)
  clear hb5 hs5 ho5 hn5
  go_wp2_with fail
  go_ret
  exact ⟨v, rfl, HF.out⟩

end Go.Proofs.Ytckmenongeklpaa

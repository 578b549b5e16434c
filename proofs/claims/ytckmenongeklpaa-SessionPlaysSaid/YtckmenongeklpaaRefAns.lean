/- The reference's bytes of an answer. -/
import Derived.Test.YtckmenongeklpaaRefN1
import Derived.Test.YtckmenongeklpaaSessI
import Derived.Lib.QuietBelow
namespace Go.Proofs.Ytckmenongeklpaa
open Go.RowKit Go.Sort

theorem cell_regrownA {W : World} {a : Addr} {v : Value} (h : W.cell? a = some v) : ∀ d os, (grow (redrawn W d) os).cell? a = some v := fun d os => by
  have hlt := cell_lt h
  have hb := below_regrown W d os
  rw [← h]
  exact hb.cell hlt

set_option maxRecDepth 100000 in
theorem refans_any (w : World) (a : Ans) (ha : a.fit) :
    Calls Try.prog 16 #[a.v] w (RetB (.string ⟨(ansB a).toArray⟩) w) := by
  obtain ⟨ae, an, at_, av⟩ := a
  have e0 := ha.e0
  have e1 := ha.e1
  have t0 := ha.t0
  have t1 := ha.t1
  have v0 := ha.v0
  have v1 := ha.v1
  have hn := ha.n
  simp only at e0 e1 t0 t1 v0 v1 hn
  have hlen : an.data.toList.length = an.size := by rw [Array.length_toList]; rfl
  have l1 := numB_len10 (x := ae.toNat) (by omega)
  have l2 := numB_len10 (x := at_.toNat) (by omega)
  have l3 := numB_len10 (x := zig av) (zig_lt v0 v1)
  have l4 : (textB an.data.toList).length ≤ 100010 := by
    have h4 := numB_len10 (x := an.data.toList.length) (by omega)
    unfold textB; simp only [List.length_append]; omega
  unfold Ans.v
  simp only
  have hw : IntKind.u64.wrap ae = ae := IntWalk.u64_in _ (by omega)
  obtain ⟨W0, hW0⟩ : ∃ W0, W0 = w.alloc (.cells #[.int .i64 ae, .string an, .int .u64 at_, .int .i64 av] 36) := ⟨_, rfl⟩
  have hz : W0.heap[w.heap.size]? = some (.cells #[.int .i64 ae, .string an, .int .u64 at_, .int .i64 av] 36 (0, 0)) := by rw [hW0]; exact heap_new _ _
  have HB0 : Hid (Below w.heap.size w W0) := Lib.hid (by rw [hW0]; exact (Below.refl _ _).alloc (Nat.le_refl _) _)
  have HW0 := Lib.hid hW0
  have g0 := cell_regrownA (blk_cell hz 0 rfl)
  have g1 := cell_regrownA (blk_cell hz 1 rfl)
  have g2 := cell_regrownA (blk_cell hz 2 rfl)
  have g3 := cell_regrownA (blk_cell hz 3 rfl)
  have en : ((ae.toNat : Nat) : Int) = ae := by omega
  have et : ((at_.toNat : Nat) : Int) = at_ := by omega
  have Q1 := Lib.hid fun d os => Calls.regrown_of ((show Calls Try.prog 31 #[.int .u64 ae] (grow (redrawn W0 d) os) (RetB (.string ⟨(numB ae.toNat).toArray⟩) _) by
    have := refnum_any ae.toNat (grow (redrawn W0 d) os) (by omega); rwa [en] at this).mono fun e w' h => ⟨h.1, h.2⟩)
  have Q2 := Lib.hid fun d os => Calls.regrown_of ((reftext_any an (grow (redrawn W0 d) os) (by omega)).mono fun e w' h => ⟨h.1, h.2⟩)
  have Q3 := Lib.hid fun d os => Calls.regrown_of ((show Calls Try.prog 31 #[.int .u64 at_] (grow (redrawn W0 d) os) (RetB (.string ⟨(numB at_.toNat).toArray⟩) _) by
    have := refnum_any at_.toNat (grow (redrawn W0 d) os) (by omega); rwa [et] at this).mono fun e w' h => ⟨h.1, h.2⟩)
  have Q4 := Lib.hid fun d os => Calls.regrown_of ((refint_any av (grow (redrawn W0 d) os) v0 v1).mono fun e w' h => ⟨h.1, h.2⟩)
  have HF : Hid (ansB ⟨ae, an, at_, av⟩ = numB ae.toNat ++ textB an.data.toList ++ numB at_.toNat ++ intB av) := Lib.hid (by unfold ansB; simp)
  obtain ⟨B1, hB1⟩ : ∃ B1, B1 = numB ae.toNat := ⟨_, rfl⟩
  obtain ⟨B2, hB2⟩ : ∃ B2, B2 = textB an.data.toList := ⟨_, rfl⟩
  obtain ⟨B3, hB3⟩ : ∃ B3, B3 = numB at_.toNat := ⟨_, rfl⟩
  obtain ⟨B4, hB4⟩ : ∃ B4, B4 = intB av := ⟨_, rfl⟩
  rw [← hB1, ← hB2, ← hB3, ← hB4] at HF
  rw [← hB1] at Q1 l1
  rw [← hB2] at Q2 l4
  rw [← hB3] at Q3 l2
  rw [← hB4] at Q4
  have l5 : B4.length ≤ 10 := by rw [hB4]; exact l3
  clear hB1 hB2 hB3 hB4 l3 hW0 hz en et ha hlen
  have k1 : ¬ (9223372036854775807 < B1.length + B2.length) := by omega
  have k2 : ¬ (9223372036854775807 < B1.length + B2.length + B3.length) := by omega
  have k3 : ¬ (9223372036854775807 < B1.length + B2.length + B3.length + B4.length) := by omega
  go_enter Try.func16, Try.ntmps16
  go_wp2
  rw [← HW0.out]
  refine wp_region_quiet_below (by kernel_rfl) (by kernel_rfl) ?_
  repeat (quiet_step (first | (with_reducible exact Q1.out _ _) | (with_reducible exact Q2.out _ _) | (with_reducible exact Q3.out _ _) | (with_reducible exact Q4.out _ _)))
  refine wpQuiet_nil ?_
  intro w3 hw'
  have HB3 : Hid (Below W0.heap.size W0 w3) := Lib.hid (by
    obtain ⟨⟨dq, osq⟩, hw''⟩ := hw'
    subst hw''
    exact below_regrown W0 dq osq)
  clear hw' g0 g1 g2 g3
  go_wp2
  go_ret
  refine RetB.mk ?_ (HB0.out.trans (HB3.out.mono HB0.out.size))
  rw [HF.out]
  show Value.string _ = Value.string _
  simp
  apply ByteArray.ext
  simp

end Go.Proofs.Ytckmenongeklpaa

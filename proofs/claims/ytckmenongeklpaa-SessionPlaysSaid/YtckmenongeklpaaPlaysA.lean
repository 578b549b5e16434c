/- A table's copy; a client among clients (package session, its law). -/
import Derived.Test.YtckmenongeklpaaSessK
import Derived.Shelf.SlMaps.Clone
namespace Go.Proofs.Ytckmenongeklpaa
open Go.RowKit Go.Maps Go.ChangeMaps

set_option maxRecDepth 100000 in
theorem mclone_any (w : World) (m : Nat) (l : List (Int × (Int × Ans))) (h : TMap w m l) :
    Calls Try.prog 30 #[.map (some m)] w (fun e w' => e = .returned (.map (some w.heap.size)) ∧ ∃ o, w' = w.alloc o ∧ TMap w' w.heap.size l) := by
  obtain ⟨es, clock, hb, h2, h3, h4, h5⟩ := h
  have HF : Hid (∃ o, w.alloc (.map es clock) = w.alloc o ∧ TMap (w.alloc (.map es clock)) w.heap.size l) := Lib.hid ⟨_, rfl, es, clock, heap_new _ _, h2, h3, h4, h5⟩
  clear h2 h3 h4 h5
  have hq := fun w => run_eql_map_nil_sl (P := Try.prog) w 59 _ _ (some m) Try.underlying59
  go_enter Try.func30, Try.ntmps30
  go_wp2
  rw [run_callFunc_extern Try.func46 (by kernel_rfl) (by kernel_rfl) (by kernel_rfl) (e := Extern.MapsClone.clone) (by kernel_rfl), run_maps_clone_sl w 59 hb]
  simp only [Result.andThen]
  rw [Oper.upon_value]
  go_wp2
  rw [run_typeAssert_map_sl _ 59 _ _ _ _ Try.underlying59]
  simp only [Result.andThen]
  rw [Oper.upon_value]
  go_wp2
  go_ret
  exact ⟨rfl, HF.out⟩

theorem tcopy_any (w : World) (t m : Nat) (l : List (Int × (Int × Ans))) (h : TableAt w t m l) :
    Calls Try.prog 13 #[.pointer (some ⟨t, 0, none⟩)] w (fun e w' => ∃ t' m', e = .returned (.pointer (some ⟨t', 0, none⟩)) ∧ TableAt w' t' m' l ∧ Below w.heap.size w w' ∧ w.heap.size ≤ t' ∧ w.heap.size ≤ m') := by
  have hcell := cell_of_one h.box
  have hlt := lt_of_block h.box
  have hcl := Lib.hid (mclone_any w m l h.map)
  clear h
  go_enter Try.func13, Try.ntmps13
  go_wp2_with fail
  refine hcl.out.mono ?_
  rintro e w1 ⟨rfl, o, hw1, hM⟩
  have HM := Lib.hid hM
  have HB : Hid (Below w.heap.size w w1) := Lib.hid (by rw [hw1]; exact (Below.refl _ _).alloc (Nat.le_refl _) _)
  have hz : w.heap.size < w1.heap.size := by rw [hw1]; simp
  clear hw1 hM hcl
  go_wp2_with fail
  go_ret
  exact ⟨w1.heap.size, w.heap.size, rfl, ⟨heap_new _ _, HM.out.alloc _⟩, HB.out.alloc HB.out.size _, HB.out.size, Nat.le_refl _⟩

end Go.Proofs.Ytckmenongeklpaa

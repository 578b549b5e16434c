/- The chapter's example of package session lives. -/
import Derived.Test.YtckmenongeklpaaSession
namespace Go.Proofs.Ytckmenongeklpaa
open Go.RowKit Go.Maps Go.ChangeMaps

theorem lives20 (w : World) : Calls Try.prog 5 #[] w (RetB (.bool true) w) := by
  have L0 : aset 1 (5, (⟨0, ⟨#[97]⟩, 3, 0⟩ : Ans)) ([] : List (Int × (Int × Ans))) = [(1, (5, ⟨0, ⟨#[97]⟩, 3, 0⟩))] := rfl
  go_enter Try.func5, Try.ntmps5
  go_wp2_with fail
  refine (new_any _).mono ?_
  rintro e w1 ⟨rfl, hT, hb⟩
  go_wp2_with fail
  refine (keep_yes _ _ _ _ 1 (by decide) (hT.alloc _) 5 ⟨0, ⟨#[97]⟩, 3, 0⟩ (by decide) (by decide) (by simp) (by decide) (by decide) (by decide)).mono ?_
  rintro e w2 ⟨rfl, hT2, hk⟩
  rw [L0] at hT2
  have s1 := hT.map.lt
  have s0 := heap_lt hT.box
  have hx2 := hk.heap (by omega) (heap_new w1 _)
  have hb2 : Below w.heap.size w w2 := hb.trans ((((Below.refl _ _).alloc hb.size _)).trans (hk.below (by simp; omega) (by omega)))
  go_wp2_with fail
  have HL : Calls Try.prog 11 #[.pointer (some ⟨w.heap.size + 1, 0, none⟩), .int .u64 1, .int .u64 5] _ (RetB (.tuple #[.agg #[.int .i64 0, .string ⟨#[97]⟩, .int .u64 3, .int .i64 0], .bool true]) _) := look_some _ _ _ _ 1 (by decide) hT2 5 (by decide) (by simp) _ rfl
  refine HL.mono ?_
  clear HL
  rintro e w3 ⟨rfl, hb3⟩
  have s2 := heap_lt hx2
  have hT3 := hT2.below hb3 (heap_lt hT2.box) hT2.map.lt
  have hx3 := bheap hb3 hx2 s2
  have s3 := hb3.size
  go_wp2_with fail
  have hy3 := heap_new w3 (.cells #[.int .i64 0, .string ⟨#[97]⟩, .int .u64 3, .int .i64 0] 36)
  have HL : Calls Try.prog 11 #[.pointer (some ⟨w.heap.size + 1, 0, none⟩), .int .u64 1, .int .u64 4] _ (RetB (.tuple #[.agg #[.int .i64 21, .string ⟨#[]⟩, .int .u64 0, .int .i64 0], .bool true]) _) := look_some _ _ _ _ 1 (by decide) (hT3.alloc (.cells #[.int .i64 0, .string ⟨#[97]⟩, .int .u64 3, .int .i64 0] 36)) 4 (by decide) (by simp) _ rfl
  refine HL.mono ?_
  clear HL
  rintro e w4 ⟨rfl, hb4⟩
  have hT4 := (hT3.alloc _).below hb4 (heap_lt (hT3.alloc _).box) (hT3.alloc _).map.lt
  have hx4 := bheap hb4 (aheap hx3 _) (by simp; omega)
  have hy4 := bheap hb4 hy3 (by simp)
  have s4 := hb4.size
  go_wp2_with fail
  have hz4 := heap_new w4 (.cells #[.int .i64 21, .string ⟨#[]⟩, .int .u64 0, .int .i64 0] 36)
  have HL : Calls Try.prog 11 #[.pointer (some ⟨w.heap.size + 1, 0, none⟩), .int .u64 1, .int .u64 6] _ (RetB (.tuple #[.agg #[.int .i64 0, .string ⟨#[]⟩, .int .u64 0, .int .i64 0], .bool false]) _) := look_some _ _ _ _ 1 (by decide) (hT4.alloc (.cells #[.int .i64 21, .string ⟨#[]⟩, .int .u64 0, .int .i64 0] 36)) 6 (by decide) (by simp) _ rfl
  refine HL.mono ?_
  clear HL
  rintro e w5 ⟨rfl, hb5⟩
  simp only [World.size_alloc] at hb5 hb4 s4
  have hx5 := cells_of (bheap hb5 (aheap hx4 _) (by omega))
  have hy5 := cells_of (bheap hb5 (aheap hy4 _) (by omega))
  have hz5 := cells_of (bheap hb5 hz4 (by omega))
  have s5 := hb5.size
  simp only [World.size_alloc] at s5
  have q1 : w1.heap.size < w5.heap.size := by omega
  have q3 : w3.heap.size < w5.heap.size := by omega
  have q4 : w4.heap.size < w5.heap.size := by omega
  have hbel : Below w.heap.size w w5 := ((((((hb2.trans (hb3.mono (by omega))).alloc (by omega) _).trans (hb4.mono (by omega))).alloc (by omega) _)).trans (hb5.mono (by omega)))
  clear hx4 hy4 hz4 hx3 hy3 hx2 hT4 hT3 hT2 hT hb hb2 hb3 hb4 hb5 hk L0
  go_wp2
  go_ret
  exact RetB.mk rfl (hbel.alloc (by omega) _)

end Go.Proofs.Ytckmenongeklpaa

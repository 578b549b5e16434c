/- Package raft: the data of a leader's first entry. -/
import Derived.Test.YtbfhgljmopgejaaGreatRaftD
namespace Go.Proofs.YtbfhgljmopgejaaGreat
open Go.RowKit

/-- A request that is none. -/
def reqZ : Array Value := #[.int .u64 0, .int .u64 0, .int .i64 0, .string ⟨#[]⟩, .string ⟨#[]⟩, .int .u64 0, .int .i64 0, .string ⟨#[]⟩, .string ⟨#[]⟩, .int .i64 0, .int .i64 0, .slice none 0 0, .int .i64 0, .int .i64 0, .int .i64 0, .int .i64 0, .string ⟨#[]⟩, .int .i64 0]

theorem fields_none (w : World) (b q : Nat) (h : w.cell? ⟨b, 2, none⟩ = some (.int .i64 0)) :
    Calls Tryz.prog 89 #[.agg #[.pointer (some ⟨q, 0, none⟩), .pointer none], .pointer (some ⟨b, 2, none⟩)] w (RetB (.tuple #[]) w) := by
  have hlt := cell_lt h
  simp at hlt
  go_enter Tryz.func89, Tryz.ntmps89
  go_wp2
  refine bodyPost_end (results_none rfl _ _ _) rfl ?_
  exact RetB.mk rfl ((Below.refl _ _).alloc (Nat.le_refl _) _)

theorem known_zero (w : World) : Calls Tryz.prog 88 #[.int .i64 0] w (Ret (.bool true) w) := by
  go_enter Tryz.func88, Tryz.ntmps88
  go_wp2
  go_ret
  exact Ret.mk rfl

def nothB : List UInt8 := numB 0 ++ numB 0 ++ numB 0

set_option maxRecDepth 100000 in
theorem bytes_none (w : World) : Calls Tryz.prog 85 #[.agg reqZ] w fun e w' => ∃ a cap, e = .returned (.tuple #[.slice a nothB.length cap, .int .i64 0]) ∧ Below w.heap.size w w' ∧ Sl u8v w' (.slice a nothB.length cap) nothB := by
  have hn0 : (numB 0).length ≤ 10 := numB_len10 (by omega)
  unfold reqZ
  go_enter Tryz.func85, Tryz.ntmps85
  go_wp2_with fail
  refine (known_zero _).mono ?_
  rintro e w' ⟨rfl, rfl⟩
  go_wp2_with fail
  have hW0 : Wr ((w.alloc (.cells reqZ 140)).alloc (.cells #[.slice none 0 0] 86)) (w.heap.size + 1) none [] := by
    refine ⟨.slice none 0 0, ?_, rfl, by simp, World.ownsRow_nil _ _ _ _⟩
    have : (w.alloc (.cells reqZ 140)).heap.size = w.heap.size + 1 := by simp
    rw [← this]
    exact heap_new _ _
  have hX0 : ((w.alloc (.cells reqZ 140)).alloc (.cells #[.slice none 0 0] 86)).heap[w.heap.size]? = some (.cells reqZ 140 (0, 0)) := aheap (heap_new _ _) _
  have hK0 : Keeps (fun k => w.heap.size ≤ k) w ((w.alloc (.cells reqZ 140)).alloc (.cells #[.slice none 0 0] 86)) := ((Keeps.refl _ w).alloc _).alloc _
  unfold reqZ at hW0 hX0 hK0
  have hs0 : ((w.alloc (.cells #[.int .u64 0, .int .u64 0, .int .i64 0, .string ⟨#[]⟩, .string ⟨#[]⟩, .int .u64 0, .int .i64 0, .string ⟨#[]⟩, .string ⟨#[]⟩, .int .i64 0, .int .i64 0, .slice none 0 0, .int .i64 0, .int .i64 0, .int .i64 0, .int .i64 0, .string ⟨#[]⟩, .int .i64 0] 140)).alloc (.cells #[.slice none 0 0] 86)).heap.size = w.heap.size + 2 := by simp
  generalize (w.alloc (.cells #[.int .u64 0, .int .u64 0, .int .i64 0, .string ⟨#[]⟩, .string ⟨#[]⟩, .int .u64 0, .int .i64 0, .string ⟨#[]⟩, .string ⟨#[]⟩, .int .i64 0, .int .i64 0, .slice none 0 0, .int .i64 0, .int .i64 0, .int .i64 0, .int .i64 0, .string ⟨#[]⟩, .int .i64 0] 140)).alloc (.cells #[.slice none 0 0] 86) = W0 at *
  have step : ∀ (W W' : World) (r r' : Option Nat), Keeps (fun k => w.heap.size ≤ k) w W → W.heap[w.heap.size]? = some (.cells reqZ 140 (0, 0)) → (∀ k, r = some k → w.heap.size + 1 ≤ k) → w.heap.size + 2 ≤ W.heap.size → Wrote (w.heap.size + 1) W r W' r' →
      Keeps (fun k => w.heap.size ≤ k) w W' ∧ W'.heap[w.heap.size]? = some (.cells reqZ 140 (0, 0)) ∧ (∀ k, r' = some k → w.heap.size + 1 ≤ k) ∧ w.heap.size + 2 ≤ W'.heap.size := by
    intro W W' r r' h1 h2 h3 h4 h5
    refine ⟨h1.trans (h5.keeps.mono fun k _ hk => ?_), h5.keeps.heap (fun hk => ?_) h2, fun k hk => ?_, Nat.le_trans h4 h5.keeps.size⟩
    · rcases hk with rfl | hk
      · omega
      · have := h3 k hk.symm; omega
    · rcases hk with hk | hk
      · omega
      · have := h3 _ hk.symm; omega
    · rcases h5.row with e | ⟨j, e, hj⟩
      · exact h3 k (by rw [← e]; exact hk)
      · rw [e] at hk; cases hk; omega
  have HST := Lib.hid step
  have HK0 := Lib.hid (show Keeps (fun k => w.heap.size ≤ k) w W0 ∧ W0.heap[w.heap.size]? = some (.cells reqZ 140 (0, 0)) ∧ (∀ k, (none : Option Nat) = some k → w.heap.size + 1 ≤ k) ∧ w.heap.size + 2 ≤ W0.heap.size from ⟨hK0, hX0, (fun k hk => by cases hk), by omega⟩)
  have HW0 := Lib.hid hW0
  have x0 : W0.cell? ⟨w.heap.size, 0, none⟩ = some (.int .u64 0) := blk_cell hX0 0 rfl
  clear step hK0 hX0 hs0 hW0
  refine (num_any _ _ _ _ HW0.out 0 (by omega) (by omega) (by simp)).mono ?_
  rintro e w1 ⟨rfl, r1, hW1, hk1⟩
  have HK1 := Lib.hid (HST.out _ _ _ _ HK0.out.1 HK0.out.2.1 HK0.out.2.2.1 HK0.out.2.2.2 hk1)
  have HW1 := Lib.hid hW1
  have x1 : w1.cell? ⟨w.heap.size, 1, none⟩ = some (.int .u64 0) := blk_cell HK1.out.2.1 1 rfl
  clear hW1 hk1 x0
  go_wp2_with fail
  refine (num_any _ _ _ _ HW1.out 0 (by omega) (by omega) (by have := hn0; show (numB 0).length + 10 ≤ _; omega)).mono ?_
  rintro e w2 ⟨rfl, r2, hW2, hk2⟩
  have HK2 := Lib.hid (HST.out _ _ _ _ HK1.out.1 HK1.out.2.1 HK1.out.2.2.1 HK1.out.2.2.2 hk2)
  have HW2 := Lib.hid hW2
  have x2 : w2.cell? ⟨w.heap.size, 2, none⟩ = some (.int .i64 0) := blk_cell HK2.out.2.1 2 rfl
  clear hW2 hk2 x1
  go_wp2_with fail
  refine (num_any _ _ _ _ HW2.out 0 (by omega) (by omega) (by have := hn0; show ([] ++ numB 0 ++ numB 0).length + 10 ≤ _; simp only [List.nil_append, List.length_append]; omega)).mono ?_
  rintro e w3 ⟨rfl, r3, hW3, hk3⟩
  have HK3 := Lib.hid (HST.out _ _ _ _ HK2.out.1 HK2.out.2.1 HK2.out.2.2.1 HK2.out.2.2.2 hk3)
  have HW3 := Lib.hid hW3
  have x3 : w3.cell? ⟨w.heap.size, 2, none⟩ = some (.int .i64 0) := blk_cell HK3.out.2.1 2 rfl
  clear hW3 hk3 x2
  go_wp2_with fail
  refine (fields_none w3 w.heap.size (w.heap.size + 1) x3).mono ?_
  rintro e w4 ⟨rfl, hb4⟩
  have HK4 := Lib.hid (HK3.out.1.trans (Keeps.of_belowS (S := fun k => w.heap.size ≤ k) hb4))
  have HW4 := Lib.hid (HW3.out.kept (Keeps.of_belowS (S := fun _ => False) hb4) (fun h => h) (fun _ _ h => h))
  clear hb4 x3
  go_wp2_with fail
  refine (wbytes_any w4 _ r3 nothB HW4.out (by have := hn0; unfold nothB; simp only [List.length_append]; omega)).mono ?_
  rintro e w5 ⟨v, rfl, hb5, hs5, _, hn5⟩
  obtain ⟨a, cap, rfl, _⟩ := id hs5
  have HS5 := Lib.hid hs5
  have HB5 := Lib.hid ((HK4.out.below (Nat.le_refl _) (fun k hk => hk)).trans (hb5.mono HK4.out.size))
  have hlen : nothB.length ≤ 30 := by have := hn0; unfold nothB; simp only [List.length_append]; omega
  obtain ⟨nl, hnl⟩ : ∃ nl, nl = nothB.length := ⟨_, rfl⟩
  rw [← hnl] at HS5 hlen ⊢
  have hd0 : decide ((900 : Int) < (nl : Int)) = false := by simp; omega
  have HNL := Lib.hid hnl
  clear hb5 hs5 hn5 hnl
  go_wp2_with fail
  go_ret2
  have hnl := HNL.out
  subst hnl
  exact ⟨a, cap, rfl, HB5.out, HS5.out⟩

theorem nothing_any (w : World) : Calls Tryz.prog 78 #[] w fun e w' => ∃ a cap, e = .returned (.slice a nothB.length cap) ∧ Below w.heap.size w w' ∧ Sl u8v w' (.slice a nothB.length cap) nothB := by
  go_enter Tryz.func78, Tryz.ntmps78
  go_wp2_with fail
  refine (bytes_none w).mono ?_
  rintro e w1 ⟨a, cap, rfl, hb, hs⟩
  have HS := Lib.hid hs
  have HB := Lib.hid hb
  clear hs hb
  go_wp2_with fail
  go_ret
  exact ⟨a, cap, rfl, HB.out, HS.out⟩

end Go.Proofs.YtbfhgljmopgejaaGreat

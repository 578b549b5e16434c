/- Package raft, a node alone: there are no others. -/
import Derived.Test.YtbfhgljmopgejaaGreatRaftB
namespace Go.Proofs.YtbfhgljmopgejaaGreat
open Go.RowKit Go.Sort

theorem setCells_keepsC (b : Nat) : ∀ (vs : List Value) (o : Nat) (w : World), Keeps (fun k => k = b) w (w.setCells b o vs)
  | [], _, w => Keeps.refl _ w
  | v :: r, o, w => ((Keeps.refl (fun k => k = b) w).setCell (.inl rfl) v).trans (setCells_keepsC b r (o + 1) _)
theorem zero_i64C (w : World) : (zeroValue 3).run Tryz.prog w = .ok (.int .i64 0) w := by kernel_rfl

theorem others1_any (w : World) (bx p : Nat) (id y : Int) (h1 : w.cell? ⟨bx, 0, none⟩ = some (.pointer (some ⟨p, 0, none⟩))) (h2 : w.cell? ⟨p, 0, none⟩ = some (.int .i64 id)) :
    Calls Tryz.prog 51 #[.int .i64 y, .pointer (some ⟨bx, 0, none⟩)] w (Ret (.bool (y == id)) w) := by
  go_enter Tryz.func51, Tryz.ntmps51
  go_wp2
  go_ret
  exact Ret.mk rfl

section
variable (w : World) (bx p g cap : Nat) (id : Int) (h1 : w.cell? ⟨bx, 0, none⟩ = some (.pointer (some ⟨p, 0, none⟩))) (h2 : w.cell? ⟨p, 0, none⟩ = some (.int .i64 id)) (hg : w.cell? ⟨g, 0, none⟩ = some (.int .i64 id))
include h1 h2 hg

theorem index_lone : Calls Tryz.prog 67 #[.slice (some ⟨g, 0, none⟩) 1 cap, .func (Fn.func 51) #[] #[.pointer (some ⟨bx, 0, none⟩)]] w (Ret (.int .i64 0) w) := by
  have ho := others1_any w bx p id id h1 h2
  have he : (id == id) = true := by simp
  rw [he] at ho
  clear h1 h2 he
  go_enter Tryz.func67, Tryz.ntmps67
  go_wp2
  go_loop [8] (fun i => i = .int .i64 0) (fun _ => 0)
  case atStart => rfl
  case round =>
    obtain rfl := hrel
    go_wp2_with (go_at_call 51; refine ho.mono ?_; rintro e w' ⟨rfl, rfl⟩)
    go_ret
    exact Ret.mk rfl

set_option maxHeartbeats 800000 in
theorem delete_lone (hf : w.frozen? ⟨g, 0, none⟩ = false) (hcap : 1 ≤ cap) (hcm : cap ≤ 9223372036854775807) : Calls Tryz.prog 50 #[.slice (some ⟨g, 0, none⟩) 1 cap, .func (Fn.func 51) #[] #[.pointer (some ⟨bx, 0, none⟩)]] w
    fun e w' => e = .returned (.slice (some ⟨g, 0, none⟩) 0 cap) ∧ Keeps (fun k => k = g) w w' := by
  have hix := index_lone w bx p g cap id h1 h2 hg
  have q1 : ∀ j, j < 1 → (w.cell? ⟨g, 0 + j, none⟩).isSome = true := fun j hj => by
    obtain rfl : j = 0 := by omega
    rw [hg]; rfl
  have q2 : ∀ j, j < 1 → w.frozen? ⟨g, 0 + j, none⟩ = false := fun j hj => by
    obtain rfl : j = 0 := by omega
    exact hf
  have hclr := fun ty => Lib.run_clear_slice (P := Tryz.prog) w 30 3 ty (.int .i64 0) Tryz.underlying30 zero_i64C rfl rfl g 0 1 cap (by omega) q1 q2
  have HK := Lib.hid (setCells_keepsC g (List.replicate 1 (.int .i64 0)) 0 w)
  have hcne : ¬ cap = 0 := by omega
  clear h1 h2 q1 q2
  go_enter Tryz.func50, Tryz.ntmps50
  go_wp2_with fail
  refine hix.mono ?_
  rintro e w' ⟨rfl, rfl⟩
  clear hix
  go_wp2_with fail
  go_loop [5, 6] (fun i j => i = .int .i64 0 ∧ j = .int .i64 1) (fun _ _ => 0)
  case atStart => exact ⟨rfl, rfl⟩
  case round =>
    obtain ⟨rfl, rfl⟩ := hrel
    go_wp2_with fail
    go_ret
    exact ⟨rfl, HK.out⟩
end

theorem others_lone {w0 w : World} {p : Nat} {x : LoneS} (h : Lone w0 w p x) : Calls Tryz.prog 35 #[.pointer (some ⟨p, 0, none⟩)] w fun e w' => ∃ a cap, e = .returned (.slice a 0 cap) ∧ Below w.heap.size w w' := by
  have HM := Lib.hid (members_lone (h.alloc (.cells #[.pointer (some ⟨p, 0, none⟩)] 26)))
  have H := Lib.hid h
  clear h
  go_enter Tryz.func35, Tryz.ntmps35
  go_wp2_with fail
  refine HM.out.mono ?_
  rintro e w2 ⟨a, cap, rfl, hn⟩
  obtain ⟨g, rfl, hgb, hcap, hcm, hgz⟩ : ∃ g, a = some ⟨g, 0, none⟩ ∧ (∃ cur, w2.heap[g]? = some (.cells cur 3 (0, 0))) ∧ 1 ≤ cap ∧ cap ≤ maxLen ∧ w.heap.size ≤ g := by
    rcases hn.own.2 with ⟨_, h0⟩ | ⟨g, cap', cur, e, _, hg, hcn, hm, hc, ht⟩
    · simp at h0
    · injection e with e1 e2 e3
      subst e1 e3
      have hz := hn.new g rfl
      exact ⟨g, rfl, ⟨_, hg⟩, by simpa using hcn, hm, by simp at hz; omega⟩
  obtain ⟨cur, hgc⟩ := hgb
  have c0 : w2.cell? ⟨g, 0, none⟩ = some (.int .i64 x.id) := by
    have := hn.own.cells (g := g) rfl 0 (.int .i64 x.id) rfl
    rwa [addr_add, Nat.zero_add] at this
  have b0 : w2.cell? ⟨w.heap.size, 0, none⟩ = some (.pointer (some ⟨p, 0, none⟩)) := blk_cell (bheap hn.bel (heap_new _ _) (by simp)) 0 rfl
  have p0 : w2.cell? ⟨p, 0, none⟩ = some (.int .i64 x.id) := ((H.out.alloc _).below hn.bel).cell 0 rfl
  unfold maxLen at hcm
  have HD := Lib.hid (delete_lone w2 w.heap.size p g cap x.id b0 p0 c0 (blk_free hgc 0) hcap hcm)
  have HB2 : Hid (Below w.heap.size w w2) := Lib.hid (((Below.refl _ _).alloc (Nat.le_refl _) _).trans (hn.bel.mono (by simp)))
  clear hn hgc c0 b0 p0
  go_wp2_with fail
  refine HD.out.mono ?_
  rintro e w3 ⟨rfl, hk3⟩
  have HB3 := Lib.hid (HB2.out.trans (hk3.below HB2.out.size (fun k hk => hk ▸ hgz)))
  clear hk3
  go_wp2_with fail
  go_ret
  exact ⟨_, _, rfl, HB3.out⟩

end Go.Proofs.YtbfhgljmopgejaaGreat

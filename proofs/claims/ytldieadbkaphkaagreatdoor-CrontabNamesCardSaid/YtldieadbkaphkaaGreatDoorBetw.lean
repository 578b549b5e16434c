/- Package fires: Between: its iterator's contract. -/
import Derived.Test.YtldieadbkaphkaaGreatDoorRange
import Derived.Shelf.Abstract
import Derived.Shelf.RegionOpen
import Derived.WalkKit
import Derived.OwnWalkIn
import Derived.TacticsInMore
import Derived.LoopNIn
import Derived.LoopIn
namespace Go.Proofs.YtldieadbkaphkaaGreatDoor
open Go.RowKit Go.Shelf

attribute [local go_sem] Oper.semAt_some

/-- The number in a cell. -/
def numAt (b : Nat) (W : World) : Int := match W.cell? ⟨b, 0, none⟩ with | some (.int _ z) => z | _ => 0
theorem numAt_of {b : Nat} {W : World} {k : IntKind} {z : Int} (h : W.cell? ⟨b, 0, none⟩ = some (.int k z)) : numAt b W = z := by unfold numAt; rw [h]

def StepB (e : Ex) (to_ a x : Int) : Prop := nextF e a = (x, true) ∧ x ≤ to_
def StopB (e : Ex) (to_ a : Int) : Prop := ∀ x, ¬ StepB e to_ a x

theorem step_up {e : Ex} {to_ a x : Int} (h : StepB e to_ a x) : max a (-1) < x ∧ x ≤ 1099511627776 := by
  obtain ⟨h1, h2⟩ := h
  unfold nextF at h1
  split at h1
  · simp at h1
  · rename_i hn
    have hp : perEra = 210379680 := rfl
    rcases nxt_cases e (min (max a (-1) + 1 + perEra) 1099511627776 + 1 - (max a (-1) + 1)).toNat (max a (-1) + 1) with ⟨t, e1, g1, g2, _⟩ | ⟨e1, _⟩
    · rw [e1] at h1
      simp at h1
      subst h1
      omega
    · rw [e1] at h1; simp at h1

theorem between_any (w : World) (e : Ex) (a to_ : Int) : Calls Tryz.prog 21 #[e.v, .int .i64 a, .int .i64 to_] w fun en w' => en = .returned (.func (.func 37) #[] #[.pointer (some ⟨w.heap.size, 0, none⟩), .pointer (some ⟨w.heap.size + 1, 0, none⟩), .pointer (some ⟨w.heap.size + 2, 0, none⟩)]) ∧
    w' = ((w.alloc (.cells e.cells 53)).alloc (.cells #[.int .i64 a] 2)).alloc (.cells #[.int .i64 to_] 2) := by
  obtain ⟨em, eh, ed, eo, ew, ad, aw⟩ := e
  unfold Ex.v Ex.cells
  simp only
  go_enter Tryz.func21, Tryz.ntmps21
  go_wp2_with fail
  go_ret
  exact ⟨rfl, rfl⟩

set_option maxRecDepth 100000 in
set_option maxHeartbeats 4000000 in
theorem between_iter (S : Nat → Prop) (n : Nat) (w : World) (be ba bt : Nat) (e : Ex) (ok : e.Ok) (a0 to_ : Int) (he : w.heap[be]? = some (.cells e.cells 53)) (ht : w.heap[bt]? = some (.cells #[.int .i64 to_] 2))
    (n1 : ¬ S be) (n2 : ¬ S bt) :
    IterC S n 37 #[.pointer (some ⟨be, 0, none⟩), .pointer (some ⟨ba, 0, none⟩), .pointer (some ⟨bt, 0, none⟩)] ba (StepB e to_) (StopB e to_) a0 w := by
  intro l J J1 Jx W hW hJb hJs hJc hY h0
  have HJB := Lib.hid hJb
  have HJS := Lib.hid hJs
  have HJC := Lib.hid hJc
  have HY := Lib.hid hY
  clear hJb hJs hJc hY hW
  have HE := Lib.hid he
  have HT := Lib.hid ht
  have HNX : Hid (∀ W a, -9223372036854775808 ≤ a → a ≤ 9223372036854775807 → Calls Tryz.prog 38 #[e.v, .int .i64 a] W (RetB (nextV (nextF e a)) W)) := Lib.hid fun W a h1 h2 => next_any W e ok a h1 h2
  clear he ht ok
  obtain ⟨em, eh, ed, eo, ew, ad, aw⟩ := e
  unfold Ex.cells at HE
  unfold Ex.v Ex.cells at HNX
  simp only at HE HNX
  refine callsIn_of_wp Tryz.func37 rfl trivial ?_ rfl
  simp only [Tryz.ntmps37, List.size_toArray, List.length_cons, List.length_nil, Nat.reduceAdd, Nat.reduceSub, Array.replicate_succ, Array.replicate_zero, List.push_toArray, List.append_toArray, List.nil_append, List.cons_append]
  gi_wp2
  gi_loopw [5] (fun _ wr => ∃ (p : List Int) (a : Int), J (p, a) wr) (fun _ wr => (1099511627777 - max (numAt ba wr) (-1)).toNat)
  case atStart => exact ⟨[], a0, h0⟩
  case round =>
    obtain ⟨p, a, hJ⟩ := hrel
    obtain ⟨hk, hab, r1, r2⟩ := HJC.out _ _ hJ
    have HJ := Lib.hid hJ
    have hbe := hk.heap n1 HE.out
    have hbt := hk.heap n2 HT.out
    have ca : wr.cell? ⟨ba, 0, none⟩ = some (.int .i64 a) := blk_cell hab 0 rfl
    have c0 : wr.cell? ⟨be, 0, none⟩ = some (.int .u64 em) := blk_cell hbe 0 rfl
    have c1 : wr.cell? ⟨be, 1, none⟩ = some (.int .u64 eh) := blk_cell hbe 1 rfl
    have c2 : wr.cell? ⟨be, 2, none⟩ = some (.int .u64 ed) := blk_cell hbe 2 rfl
    have c3 : wr.cell? ⟨be, 3, none⟩ = some (.int .u64 eo) := blk_cell hbe 3 rfl
    have c4 : wr.cell? ⟨be, 4, none⟩ = some (.int .u64 ew) := blk_cell hbe 4 rfl
    have c5 : wr.cell? ⟨be, 5, none⟩ = some (.bool ad) := blk_cell hbe 5 rfl
    have c6 : wr.cell? ⟨be, 6, none⟩ = some (.bool aw) := blk_cell hbe 6 rfl
    have hn := HNX.out wr a r1 r2
    have HBT := Lib.hid hbt
    have HNUM := Lib.hid (numAt_of ca)
    clear hk hab hbe hbt hJ
    obtain ⟨x, okx, hN⟩ : ∃ x okx, nextF ⟨em, eh, ed, eo, ew, ad, aw⟩ a = (x, okx) := ⟨_, _, rfl⟩
    have HN := Lib.hid hN
    rw [hN] at hn
    unfold nextV at hn
    simp only at hn
    clear hN
    by_cases hst : okx = true ∧ x ≤ to_
    · obtain ⟨rfl, hle⟩ := hst
      have hstep : StepB ⟨em, eh, ed, eo, ew, ad, aw⟩ to_ a x := ⟨HN.out, hle⟩
      have HST := Lib.hid hstep
      have hgt : ¬ to_ < x := by omega
      clear hstep
      gi_wp2
      refine ⟨trivial, fun h => by simp [Fence.wide] at h, ?_⟩
      refine (callsIn_wide.2 hn).mono ?_
      rintro en w1 ⟨rfl, hb1⟩
      have hJ1 := HJB.out _ _ _ HJ.out hb1
      obtain ⟨fn, tmps, assign, body, hy, hR⟩ := HY.out _ _ _ _ hJ1 HST.out
      have ct : w1.cell? ⟨bt, 0, none⟩ = some (.int .i64 to_) := blk_cell (bheap hb1 HBT.out (heap_lt HBT.out)) 0 rfl
      have HJ1 := Lib.hid hJ1
      clear hn c0 c1 c2 c3 c4 c5 c6 ca hJ1 hb1
      gi_wp2
      refine ⟨fun h => by simp [Fence.wide] at h, hR.mono ?_⟩
      rintro en W3 (⟨rfl, hJ3⟩ | ⟨rfl, hx3⟩)
      · obtain ⟨hJ4, hcb⟩ := HJS.out _ _ _ _ hJ3
        have HJ4 := Lib.hid hJ4
        have ca3 : W3.cell? ⟨ba, 0, none⟩ = some (.int .i64 a) := blk_cell hcb 0 rfl
        have fa3 := blk_free hcb 0
        have HUP := Lib.hid (step_up HST.out)
        have HN2 : Hid (numAt ba (W3.setCell ⟨ba, 0, none⟩ (.int .i64 x)) = x) := Lib.hid (numAt_of (World.cell?_setCell_same' _ _ _ (by rw [ca3]; rfl)))
        clear hJ3 hcb hJ4 hR hy
        gi_wp2
        go_roundw
        case rel => exact ⟨_, _, HJ4.out⟩
        case measure =>
          rw [HN2.out, HNUM.out]
          have := HUP.out
          omega
      · clear hR hy
        gi_wp2
        refine bodyPost_ret (results_none rfl _ _ _) rfl ?_
        exact ⟨⟨_, rfl⟩, .inr ⟨_, hx3⟩⟩
    · have hstop : StopB ⟨em, eh, ed, eo, ew, ad, aw⟩ to_ a := fun y hy => by
        obtain ⟨h1, h2⟩ := hy
        rw [HN.out] at h1
        simp at h1
        obtain ⟨rfl, rfl⟩ := h1
        exact hst ⟨rfl, h2⟩
      have HSTOP := Lib.hid hstop
      clear hstop
      by_cases hok : okx = true
      · subst hok
        have hgt : to_ < x := by
          by_cases h : x ≤ to_
          · exact absurd ⟨rfl, h⟩ hst
          · omega
        clear hst
        gi_wp2
        refine ⟨trivial, fun h => by simp [Fence.wide] at h, ?_⟩
        refine (callsIn_wide.2 hn).mono ?_
        rintro en w1 ⟨rfl, hb1⟩
        have hJ1 := HJB.out _ _ _ HJ.out hb1
        have ct : w1.cell? ⟨bt, 0, none⟩ = some (.int .i64 to_) := blk_cell (bheap hb1 HBT.out (heap_lt HBT.out)) 0 rfl
        have HJ1 := Lib.hid hJ1
        clear hn c0 c1 c2 c3 c4 c5 c6 ca hJ1 hb1
        gi_wp2
        refine ⟨fun _ h => (by cases h), ?_⟩
        gi_wp2
        refine bodyPost_ret (results_none rfl _ _ _) rfl ?_
        exact ⟨⟨_, rfl⟩, .inl ⟨_, _, HSTOP.out, HJ1.out⟩⟩
      · obtain rfl : okx = false := by simpa using hok
        clear hst hok
        gi_wp2
        refine ⟨trivial, fun h => by simp [Fence.wide] at h, ?_⟩
        refine (callsIn_wide.2 hn).mono ?_
        rintro en w1 ⟨rfl, hb1⟩
        have hJ1 := HJB.out _ _ _ HJ.out hb1
        have HJ1 := Lib.hid hJ1
        clear hn c0 c1 c2 c3 c4 c5 c6 ca hJ1 hb1
        gi_wp2
        refine ⟨fun _ h => (by cases h), ?_⟩
        gi_wp2
        refine bodyPost_ret (results_none rfl _ _ _) rfl ?_
        exact ⟨⟨_, rfl⟩, .inl ⟨_, _, HSTOP.out, HJ1.out⟩⟩

end Go.Proofs.YtldieadbkaphkaaGreatDoor

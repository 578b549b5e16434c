/- slices.Sort at []uint64: the insertion sort, and rows of at most twelve. -/
import Derived.Test.YtbfhgljmopgejaaGreatApp
import Derived.Sort.LotA
import Derived.Sort.Row
import Derived.BigQuiet
import Derived.Deep.QuietTactic
import Derived.RegionTactic
namespace Go.Proofs.YtbfhgljmopgejaaGreat
open Go.RowKit Go.Sort

/-- A uint64, as a cell holds it. -/
def u64v (n : Int) : Value := .int .u64 n

theorem drewN_ahead (w : World) (n : Nat) : w.drewN n = Sort.ahead w n := by
  rfl

theorem isNaN_u64 (x : Int) (w : World) : Calls Tryz.prog 111 #[.int .u64 x] w (Ret (.bool false) w) := by
  go_enter Tryz.func111, Tryz.ntmps111
  go_wp2
  go_ret
  exact Ret.mk (bool_eq (by simp))

theorem less_u64 (x y : Int) (w : World) : Calls Tryz.prog 96 #[.int .u64 x, .int .u64 y] w (Ret (.bool (ltInt x y)) w) := by
  have h1 := fun w => isNaN_u64 x w
  have h2 := fun w => isNaN_u64 y w
  go_enter Tryz.func96, Tryz.ntmps96
  go_wp2_with (go_at_call 111; refine (isNaN_u64 _ _).mono ?_; rintro e w' ⟨rfl, rfl⟩)
  go_ret
  exact Ret.mk rfl

/-- What a sort leaves: the row in another order; all else is as it was, but for the count of draws. -/
def Sorted (w : World) (blk : Nat) (d' : Array Int) (e : Ending) (w' : World) : Prop := e = .returned (.tuple #[]) ∧ ∃ n, w' = Sort.ahead (putRow u64v w blk 0 d') n

theorem less_same (x y : Int) (w : World) : Calls Tryz.prog 96 #[.int .u64 x, .int .u64 y] w fun e w' => e = .returned (.bool (ltInt x y)) ∧ w' = w :=
  (less_u64 x y w).mono fun _ _ h => ⟨h.1, h.2.symm⟩

theorem ins_any (w : World) (blk cap : Nat) (d : Array Int) (a b : Nat) (hH : Holds u64v w blk 0 d) (hab : a ≤ b) (hb : b ≤ d.size) (hd : d.size ≤ 1000) :
    Calls Tryz.prog 90 #[.slice (some ⟨blk, 0, none⟩) d.size cap, .int .i64 a, .int .i64 b] w (Sorted w blk (insertionSort ltInt d a b)) := by
  have H := Lib.hid hH
  clear hH
  go_enter Tryz.func90, Tryz.ntmps90
  go_wp2
  go_loopw [6, 7] (fun i _ wr => ∃ (k n : Nat) (dk : Array Int), i = .int .i64 k ∧ k ≤ b + 1 ∧ dk.size = d.size ∧ a + 1 ≤ k ∧ wr = Sort.ahead (putRow u64v w blk 0 dk) n ∧ insOuter ltInt a b k dk = insertionSort ltInt d a b) (fun i _ _ => b - (intOf i).toNat)
  case atStart => exact ⟨a + 1, 0, d, by go_num, by omega, rfl, by omega, by rw [putRow_self u64v w blk 0 d H.out]; rfl, rfl⟩
  case round =>
    obtain ⟨k, n, dk, rfl, hk, hdk, hak, rfl, hins⟩ := hrel
    have HI := Lib.hid hins
    have HDK := Lib.hid hdk
    clear hins hdk
    by_cases hlt : k < b
    · go_wp2
      generalize hwo : Sort.ahead (putRow u64v w blk 0 dk) n = wo
      have HWO := Lib.hid hwo
      clear hwo
      go_loopw [7] (fun jv wr => ∃ (j m : Nat) (dj : Array Int), jv = .int .i64 j ∧ j ≤ k ∧ dj.size = d.size ∧ wr = Sort.ahead (putRow u64v w blk 0 dj) m ∧ insInner ltInt a j dj = insInner ltInt a k dk) (fun jv _ => (intOf jv).toNat)
      case atStart => exact ⟨k, n, dk, rfl, Nat.le_refl _, HDK.out, HWO.out.symm, rfl⟩
      case round =>
        obtain ⟨j, m, dj, rfl, hj, hdj, rfl, hin⟩ := hrel
        have HIN := Lib.hid hin
        have HDJ := Lib.hid hdj
        clear hin
        by_cases haj : a < j
        · obtain ⟨i, rfl⟩ : ∃ i, j = i + 1 := ⟨j - 1, by omega⟩
          have hh := holds_ahead u64v _ m blk 0 dj (holds_putRow u64v w blk 0 d dj H.out hdj)
          have h1 := hh (i + 1) (by omega)
          have h0 := hh i (by omega)
          rw [Nat.zero_add] at h1 h0
          generalize hW : Sort.ahead (putRow u64v w blk 0 dj) m = W at *
          have HW := Lib.hid hW
          clear hW hh
          generalize hx : dj[i + 1]! = x at *
          generalize hy : dj[i]! = y at *
          have HX := Lib.hid hx
          have HY := Lib.hid hy
          clear hx hy
          obtain ⟨c1, f1⟩ := h1
          obtain ⟨c0, f0⟩ := h0
          unfold u64v at c1 c0
          have hdec : decide ((a : Int) < (i : Int) + 1) = true := by simp; omega
          have hi1 : i ≤ 1000 := by omega
          have hw1 : IntKind.i64.wrap ((i : Int) + 1 - 1) = (i : Int) := by rw [IntKind.wrap_i64]; omega
          cases hl : ltInt x y
          · go_wp2
            go_quiet ((go_at_call 96; exact Calls.quiet_of_same (less_same _ _ _)))
            go_wp2
            go_roundw
            case rel =>
              have e1 : insInner ltInt a (i + 1) dj = dj := by
                unfold insInner
                rw [HX.out, HY.out, hl]
                simp
              refine ⟨k + 1, m + nq, dj, by go_num, by omega, hdj, by omega, ?_, ?_⟩
              · rw [drewN_ahead, ← HW.out, ahead_ahead]
              · rw [← HI.out, insOuter.eq_def ltInt a b k, if_pos hlt, ← HIN.out, e1]
            case measure => simp [intOf]; omega
          · go_wp2
            go_quiet ((go_at_call 96; exact Calls.quiet_of_same (less_same _ _ _)))
            go_wp2
            go_region
            go_wp2
            all_goals
              go_roundw
              case rel =>
                have e1 : insInner ltInt a (i + 1) dj = insInner ltInt a i (swp dj (i + 1) i) := by
                  rw [insInner, HX.out, HY.out, hl, if_pos (by simp; omega)]
                refine ⟨i, m + (nq + 1), swp dj (i + 1) i, by go_num, by omega, by rw [swp_size]; exact hdj, ?_, by rw [← HIN.out, e1]⟩
                have hsw := putRow_swp u64v w blk 0 dj (i + 1) i (by omega) (by omega)
                rw [Nat.zero_add, Nat.zero_add, HX.out, HY.out] at hsw
                rw [drewN_ahead, ← HW.out, ahead_ahead, setCell_ahead, setCell_ahead, ← hsw]
                rfl
              case measure => simp [intOf]
        · have hdec : decide ((a : Int) < (j : Int)) = false := by simp; omega
          have e1 : insInner ltInt a j dj = dj := by
            cases j with
            | zero => rfl
            | succ i => rw [insInner, if_neg (by simp; omega)]
          generalize hW : Sort.ahead (putRow u64v w blk 0 dj) m = W at *
          have HW := Lib.hid hW
          have E1 := Lib.hid e1
          clear hW e1
          go_wp2
          go_quiet ((go_at_call 96; exact Calls.quiet_of_same (less_same _ _ _)))
          go_wp2
          go_roundw
          case rel =>
            refine ⟨k + 1, m + nq, dj, by go_num, by omega, hdj, by omega, ?_, ?_⟩
            · rw [drewN_ahead, ← HW.out, ahead_ahead]
            · rw [← HI.out, insOuter.eq_def ltInt a b k, if_pos hlt, ← HIN.out, E1.out]
          case measure => simp [intOf]; omega
    · have e1 : insOuter ltInt a b k dk = dk := by rw [insOuter.eq_def, if_neg hlt]
      have E1 := Lib.hid e1
      clear e1
      go_wp2
      go_end0
      exact ⟨rfl, n, by rw [← HI.out, E1.out]⟩

end Go.Proofs.YtbfhgljmopgejaaGreat

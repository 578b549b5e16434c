/- Package sched: New, and what it makes: without a job. -/
import Derived.Test.YtjijekbbjegghaaBlk
import Derived.Test.YtjijekbbjegghaaRule
import Derived.Test.YtjijekbbjegghaaQuietT
import Derived.Carry
import Derived.Deep.DeepCutAuto
import Derived.Deep.RegionHeld3
namespace Go.Proofs.Ytjijekbbjegghaa
open Go.RowKit Go.ChangeMaps Go.Sort

theorem heap_newAt' {W : World} {o : Obj} {k : Nat} (h : k = W.heap.size) : (W.alloc o).heap[k]? = some o := by subst h; exact heap_new W o

/-- A new thing and no fault. -/
def NewP (w : World) (e : Ending) (w' : World) : Prop := ∃ b : Nat, e = .returned (.tuple #[.pointer (some ⟨b, 0, none⟩), .int .i64 0]) ∧ Below w.heap.size w w'
/-- A new thing. -/
def NewQ (w : World) (e : Ending) (w' : World) : Prop := ∃ b : Nat, e = .returned (.pointer (some ⟨b, 0, none⟩)) ∧ Below w.heap.size w w'

theorem right_any (w : World) (n : Int) (h0 : 0 ≤ n) (h1 : n ≤ 128) : Calls Try.prog 39 #[.int .i64 n] w (Ret (.bool true) w) := by
  go_enter Try.func39, Try.ntmps39
  go_wp2
  go_ret
  exact Ret.mk (bool_eq (by simp [h0, h1]))

set_option maxRecDepth 100000 in
theorem quotaNew_any (w : World) (n : Int) (h0 : 0 ≤ n) (h1 : n ≤ 128) : Calls Try.prog 24 #[.int .i64 n] w (NewP w) := by
  have hr := right_any w n h0 h1
  have hmm := @run_makeMap Try.prog
  go_enter Try.func24, Try.ntmps24
  go_wp2_with (go_at_call 39; refine hr.mono ?_; rintro e w' ⟨rfl, rfl⟩)
  go_ret2
  exact ⟨_, rfl, (((Below.refl _ _).alloc (Nat.le_refl _) _).alloc (by simp) _).alloc (by simp; omega) _⟩

set_option maxRecDepth 100000 in
theorem dagNew_any (w : World) : Calls Try.prog 26 #[] w (NewQ w) := by
  have hmm := @run_makeMap Try.prog
  go_enter Try.func26, Try.ntmps26
  go_wp2
  go_ret
  exact ⟨_, rfl, (((Below.refl _ _).alloc (Nat.le_refl _) _).alloc (by simp) _).alloc (by simp; omega) _⟩

set_option maxRecDepth 100000 in
theorem heapNew_any (w : World) : Calls Try.prog 40 #[] w (NewQ w) := by
  have hmm := @run_makeMap Try.prog
  go_enter Try.func40, Try.ntmps40
  go_wp2
  go_ret
  exact ⟨_, rfl, ((Below.refl _ _).alloc (Nat.le_refl _) _).alloc (by simp) _⟩

set_option maxRecDepth 100000 in
set_option maxHeartbeats 4000000 in
theorem readyNew_any (w : World) : Calls Try.prog 27 #[] w (NewQ w) := by
  go_enter Try.func27, Try.ntmps27
  go_wp2
  go_loopw [5] (fun i wr => ∃ (k : Nat) (C : Array Value) , k ≤ 4 ∧ i = .int .i64 k ∧ C.size = 4 ∧ wr.heap[w.heap.size]? = some (.cells C 111 (0, 0)) ∧ Below w.heap.size w wr) (fun i _ => 4 - (intOf i).toNat)
  case atStart => exact ⟨0, _, by omega, rfl, rfl, heap_new _ _, (Below.refl _ _).alloc (Nat.le_refl _) _⟩
  case round =>
    obtain ⟨k, C, hk, rfl, hC, hbk, hb⟩ := hrel
    have HBK := Lib.hid hbk
    have HB := Lib.hid hb
    have HC := Lib.hid hC
    clear hbk hb hC
    by_cases hlt : k < 4
    · have hsz : w.heap.size < wr.heap.size := heap_lt HBK.out
      have HN := Lib.hid heapNew_any
      go_upto_region 5 with (fail)
      go_region_held3 (fun _ => True) (trivial)
        (first
          | (go_at_call 40; refine (HN.out _).mono ?_; rintro e w5 ⟨bh, rfl, hb5⟩; have q5 := bheap hb5 HBK.out hsz; have a5 : w5.cell? ⟨w.heap.size, k, none⟩ = some (C[k]'(by have := HC.out; omega)) := blk_cell q5 k (Array.getElem?_eq_getElem _); have f5 : w5.frozen? ⟨w.heap.size, k, none⟩ = false := blk_free q5 k))
      all_goals
        have HB5 : Hid (Below w.heap.size w w5) := Lib.hid ((⟨HB.out.os, HB.out.tape, HB.out.output, HB.out.size, HB.out.block⟩ : Below w.heap.size w wr.drew).trans (hb5.mono HB.out.size))
        have HQ := Lib.hid (blk_set q5 k (.pointer (some ⟨bh, 0, none⟩)))
        clear hb5 q5
        go_wp2
        go_roundw
        case rel => exact ⟨k + 1, _, by omega, by go_num, by simp [HC.out], HQ.out, HB5.out.setCell (p := ⟨w.heap.size, k, none⟩) (Nat.le_refl _) _⟩
        case measure => simp [intOf] <;> omega
    · go_wp2
      go_ret
      exact ⟨_, rfl, HB.out⟩

set_option maxRecDepth 100000 in
set_option maxHeartbeats 4000000 in
theorem wheelNew_any (w : World) (now n : Int) (h0 : 0 ≤ now) (h1 : now ≤ 1099511627776) (h2 : 1 ≤ n) (h3 : n ≤ 65536) : Calls Try.prog 25 #[.int .i64 now, .int .i64 n] w (NewP w) := by
  have hmm := @run_makeMap Try.prog
  go_enter Try.func25, Try.ntmps25
  go_upto_region 4 with (fail)
  generalize hW1 : ((((w.alloc _).alloc _).alloc _).alloc _) = W1
  obtain ⟨C0, HC0, HX0⟩ : ∃ C0 : Array Value, Hid (C0.size = 261) ∧ Hid (W1.heap[w.heap.size + 1 + 1 + 1]? = some (.cells C0 104 (0, 0))) := by
    subst hW1
    exact ⟨_, Lib.hid (by rfl), Lib.hid (heap_newAt' (by simp))⟩
  have HB0 : Hid (Below w.heap.size w W1) := Lib.hid (by
    subst hW1
    exact ((((Below.refl _ _).alloc (Nat.le_refl _) _).alloc (by simp) _).alloc (by simp; omega) _).alloc (by simp; omega) _)
  clear hW1
  obtain ⟨b, hb⟩ : ∃ b, b = w.heap.size + 1 + 1 + 1 := ⟨_, rfl⟩
  rw [← hb] at HX0 ⊢
  have HBG : Hid (w.heap.size ≤ b) := Lib.hid (by omega)
  clear hb
  go_wp2
  go_loopw [30] (fun s30 wr => ∃ (i : Nat) (C : Array Value), i ≤ 4 ∧ s30 = .int .i64 i ∧ C.size = 261 ∧ wr.heap[b]? = some (.cells C 104 (0, 0)) ∧ Below w.heap.size w wr) (fun s30 _ => 4 - (intOf s30).toNat)
  case atStart => exact ⟨0, _, by omega, rfl, HC0.out, HX0.out, HB0.out⟩
  case round =>
    obtain ⟨i, C, hi, rfl, hC, hbk, hb⟩ := hrel
    have HBK := Lib.hid hbk
    have HB := Lib.hid hb
    have HC := Lib.hid hC
    clear hbk hb hC HC0 HX0 HB0
    by_cases hlt : i < 4
    · go_wp2
      go_loopw [33] (fun s33 wr => ∃ (k : Nat) (C : Array Value), k ≤ 64 ∧ s33 = .int .i64 k ∧ C.size = 261 ∧ wr.heap[b]? = some (.cells C 104 (0, 0)) ∧ Below w.heap.size w wr) (fun s33 _ => 64 - (intOf s33).toNat)
      case atStart => exact ⟨0, _, by omega, rfl, HC.out, HBK.out, HB.out⟩
      case round =>
        obtain ⟨k, C, hk, rfl, hC, hbk, hb⟩ := hrel
        have HBK := Lib.hid hbk
        have HB := Lib.hid hb
        have HC := Lib.hid hC
        clear hbk hb hC
        by_cases hlk : k < 64
        · have q5 : (wr.alloc (.map #[] 0)).heap[b]? = some (.cells C 104 (0, 0)) := aheap HBK.out _
          have a5 : (wr.alloc (.map #[] 0)).cell? ⟨b, 2 + i * 64 + k, none⟩ = some (C[2 + i * 64 + k]'(by have := HC.out; omega)) := blk_cell q5 (2 + i * 64 + k) (Array.getElem?_eq_getElem _)
          have f5 : (wr.alloc (.map #[] 0)).frozen? ⟨b, 2 + i * 64 + k, none⟩ = false := blk_free q5 (2 + i * 64 + k)
          have HQ := Lib.hid (blk_set q5 (2 + i * 64 + k) (.map (some wr.heap.size)))
          have HB5 := Lib.hid (HB.out.alloc HB.out.size (.map #[] 0))
          clear q5
          go_wp2
          go_roundw
          case rel => exact ⟨k + 1, _, by omega, by go_num, by simp [HC.out], HQ.out, HB5.out.setCell (p := ⟨b, 2 + i * 64 + k, none⟩) HBG.out _⟩
          case measure => simp [intOf] <;> omega
        · go_wp2
          go_roundw
          case rel => exact ⟨i + 1, _, by omega, by go_num, HC.out, HBK.out, HB.out⟩
          case measure => simp [intOf] <;> omega
    · go_wp2
      go_ret2
      exact ⟨_, rfl, HB.out⟩

/-- A scheduler without a job, at a tick; all else of it is some pointers. -/
def EmptyAt (w : World) (b : Nat) (now each : Int) : Prop := ∃ (m : Nat) (p1 p2 p3 p4 : Value), w.heap[b]? = some (.cells #[.int .i64 now, .int .i64 each, .int .u64 0, .map (some m), p1, p2, p3, p4] 76 (0, 0)) ∧ w.heap[m]? = some (.map #[] 0)

set_option maxRecDepth 100000 in
set_option maxHeartbeats 4000000 in
theorem schedNew_any (w : World) (now n : Int) (h0 : 0 ≤ now) (h1 : now ≤ 1099511627776) (h2 : 0 ≤ n) (h3 : n ≤ 128) :
    Calls Try.prog 9 #[.int .i64 now, .int .i64 n] w (fun e w' => ∃ b : Nat, e = .returned (.tuple #[.pointer (some ⟨b, 0, none⟩), .int .i64 0]) ∧ EmptyAt w' b now n ∧ Below w.heap.size w w') := by
  have HQ := Lib.hid fun W => quotaNew_any W n h2 h3
  have HW := Lib.hid fun W => wheelNew_any W now 128 h0 h1 (by omega) (by omega)
  have HD := Lib.hid dagNew_any
  have HR := Lib.hid readyNew_any
  have hmm := @run_makeMap Try.prog
  go_enter Try.func9, Try.ntmps9
  go_wp2_with fail
  refine (HQ.out _).mono ?_
  rintro e w1 ⟨b1, rfl, hb1⟩
  have HB1 := Lib.hid hb1
  clear hb1
  go_wp2_with fail
  refine (HW.out _).mono ?_
  rintro e w2 ⟨b2, rfl, hb2⟩
  have HB2 := Lib.hid (HB1.out.trans (hb2.mono HB1.out.size))
  clear hb2
  go_wp2_with fail
  refine (HD.out _).mono ?_
  rintro e w3 ⟨b3, rfl, hb3⟩
  have HM3 := Lib.hid (bheap hb3 (heap_new w2 (.map #[] 0)) (by simp))
  have HB3 := Lib.hid ((HB2.out.alloc HB2.out.size (.map #[] 0)).trans (hb3.mono (Nat.le_trans HB2.out.size (by simp))))
  clear hb3
  go_wp2_with fail
  refine (HR.out _).mono ?_
  rintro e w4 ⟨b4, rfl, hb4⟩
  have HM4 := Lib.hid (bheap hb4 HM3.out (heap_lt HM3.out))
  have HB4 := Lib.hid (HB3.out.trans (hb4.mono HB3.out.size))
  clear hb4
  go_wp2_with fail
  go_ret2
  exact ⟨w4.heap.size, rfl, ⟨_, _, _, _, _, heap_new _ _, aheap HM4.out _⟩, HB4.out.alloc HB4.out.size _⟩

end Go.Proofs.Ytjijekbbjegghaa

/- Which specs are little: complinelaw14.Few. -/
import Derived.Test.YtldieadbkaphkaaGreatDoorSpecC
namespace Go.Proofs.YtldieadbkaphkaaGreatDoor
open Go.RowKit Go.ChangeMaps

def fewB (s : Sp) : Bool := s.deps.all (fun d => decide (d.size ≤ 60)) && decide (s.name.size ≤ 60) && decide (s.ten.size ≤ 60) && decide (s.deps.length ≤ 20) && decide (s.cron.size ≤ 200)

set_option maxRecDepth 100000 in
set_option maxHeartbeats 4000000 in
theorem few_any (w : World) (s : Sp) (a : Option Addr) (n cap : Nat) (h : SpAt w s a n cap) : Calls Tryz.prog 7 #[s.v (.slice a n cap)] w (RetB (.bool (fewB s)) w) := by
  obtain ⟨nm, te, pri, de, dp, ba, ca, att, le, cr, ct⟩ := s
  obtain ⟨wf, row⟩ := h
  obtain ⟨w1, w2, w3, w4, _, _, _, _, _, _, _⟩ := wf
  simp only at w1 w2 w3 w4 row
  obtain ⟨a', cap', he, h1, h2, h3⟩ := row
  cases he
  unfold maxLen at *
  have HLC := Lib.hid h1
  have hlm : dp.length ≤ 9223372036854775807 := by omega
  have hn1 : nm.size ≤ 9223372036854775807 := by omega
  have hn2 : te.size ≤ 9223372036854775807 := by omega
  have hn3 : cr.size ≤ 9223372036854775807 := by omega
  have HW4 := Lib.hid w4
  obtain ⟨C, hC⟩ : ∃ C : Array Value, C = #[.string nm, .string te, .int .i64 pri, .int .i64 de, .slice a dp.length cap, .int .i64 ba, .int .i64 ca, .int .i64 att, .int .i64 le, .string cr, .int .i64 ct] := ⟨_, rfl⟩
  have HF : Hid (fewB ⟨nm, te, pri, de, dp, ba, ca, att, le, cr, ct⟩ = (dp.all (fun d => decide (d.size ≤ 60)) && decide (nm.size ≤ 60) && decide (te.size ≤ 60) && decide (dp.length ≤ 20) && decide (cr.size ≤ 200))) := Lib.hid rfl
  generalize fewB ⟨nm, te, pri, de, dp, ba, ca, att, le, cr, ct⟩ = R at *
  unfold Sp.v Sp.cells
  clear h1 w1 w2 w3 w4
  go_enter Tryz.func7, Tryz.ntmps7
  go_wp2
  obtain ⟨W0, hW0⟩ : ∃ W0, W0 = w.alloc (.cells #[.string nm, .string te, .int .i64 pri, .int .i64 de, .slice a dp.length cap, .int .i64 ba, .int .i64 ca, .int .i64 att, .int .i64 le, .string cr, .int .i64 ct] 24) := ⟨_, rfl⟩
  rw [← hW0]
  have HX : Hid (W0.heap[w.heap.size]? = some (.cells #[.string nm, .string te, .int .i64 pri, .int .i64 de, .slice a dp.length cap, .int .i64 ba, .int .i64 ca, .int .i64 att, .int .i64 le, .string cr, .int .i64 ct] 24)) := Lib.hid (by rw [hW0]; exact heap_new w _)
  have HB : Hid (Below w.heap.size w W0) := Lib.hid (by rw [hW0]; exact (Below.refl _ _).alloc (Nat.le_refl _) _)
  clear hW0 hC C
  go_loop [8] (fun i => ∃ k : Nat, k ≤ dp.length ∧ i = .int .i64 k ∧ ∀ d ∈ dp.take k, d.size ≤ 60) (fun i => dp.length - (intOf i).toNat)
  case atStart => exact ⟨0, by omega, rfl, by simp⟩
  case round =>
    obtain ⟨k, hk, rfl, hm⟩ := hrel
    have HM := Lib.hid hm
    clear hm
    by_cases hlt : k < dp.length
    · rcases h3 with ⟨rfl, rfl⟩ | ⟨b, o, rfl, hb, hc⟩
      · have := HLC.out; omega
      · have hk0 : dp[k]? = some dp[k] := List.getElem?_eq_getElem hlt
        have hcell : W0.cell? ⟨b, o + k, none⟩ = some (.string dp[k]) := (bcell HB.out _ _ hb).trans (hc k _ hk0)
        have HTK := Lib.hid (show dp.take (k + 1) = dp.take k ++ [dp[k]] by rw [List.take_succ_eq_append_getElem hlt])
        have hsz := HW4.out _ (List.getElem_mem hlt)
        have HIN := Lib.hid (List.getElem_mem hlt)
        generalize dp[k] = y at *
        clear hc hk0
        by_cases hy : 60 < y.size
        · have hy' : (60 : Int) < (y.size : Int) := by omega
          have HR : Hid (R = false) := Lib.hid (by
            rw [HF.out]
            have : dp.all (fun d => decide (d.size ≤ 60)) = false := by rw [List.all_eq_false]; exact ⟨y, HIN.out, by simp; omega⟩
            rw [this]; rfl)
          go_wp2
          go_ret
          exact RetB.mk (by rw [HR.out]; rfl) HB.out
        · have hy' : ¬ (60 : Int) < (y.size : Int) := by omega
          have HY : Hid (y.size ≤ 60) := Lib.hid (by omega)
          go_wp2
          go_round
          case rel =>
            refine ⟨k + 1, by omega, by go_num, fun d hd => ?_⟩
            rw [HTK.out, List.mem_append] at hd
            rcases hd with hd | hd
            · exact HM.out d hd
            · simp at hd; subst hd; exact HY.out
          case measure => simp [intOf]; omega
    · have HA : Hid (dp.all (fun d => decide (d.size ≤ 60)) = true) := Lib.hid (by
        rw [List.all_eq_true]
        intro d hd
        have := HM.out d (by rwa [List.take_of_length_le (by omega)])
        simp [this])
      have c0 : W0.cell? ⟨w.heap.size, 0, none⟩ = some (.string nm) := blk_cell HX.out 0 rfl
      have c1 : W0.cell? ⟨w.heap.size, 1, none⟩ = some (.string te) := blk_cell HX.out 1 rfl
      have c4 : W0.cell? ⟨w.heap.size, 4, none⟩ = some (.slice a dp.length cap) := blk_cell HX.out 4 rfl
      have c9 : W0.cell? ⟨w.heap.size, 9, none⟩ = some (.string cr) := blk_cell HX.out 9 rfl
      by_cases k1 : (nm.size : Int) ≤ 60
      case neg =>
        have HR : Hid (R = false) := Lib.hid (by rw [HF.out, decide_eq_false (p := nm.size ≤ 60) (by omega)]; simp)
        go_wp2
        go_ret
        exact RetB.mk (by rw [HR.out]; rfl) HB.out
      by_cases k2 : (te.size : Int) ≤ 60
      case neg =>
        have HR : Hid (R = false) := Lib.hid (by rw [HF.out, decide_eq_false (p := te.size ≤ 60) (by omega)]; simp)
        go_wp2
        go_ret
        exact RetB.mk (by rw [HR.out]; rfl) HB.out
      by_cases k3 : (dp.length : Int) ≤ 20
      case neg =>
        have HR : Hid (R = false) := Lib.hid (by rw [HF.out, decide_eq_false (p := dp.length ≤ 20) (by omega)]; simp)
        go_wp2
        go_ret
        exact RetB.mk (by rw [HR.out]; rfl) HB.out
      by_cases k4 : (cr.size : Int) ≤ 200
      case neg =>
        have HR : Hid (R = false) := Lib.hid (by rw [HF.out, decide_eq_false (p := cr.size ≤ 200) (by omega)]; simp)
        go_wp2
        go_ret
        exact RetB.mk (by rw [HR.out]; rfl) HB.out
      have HR : Hid (R = true) := Lib.hid (by
        rw [HF.out, HA.out, decide_eq_true (p := nm.size ≤ 60) (by omega), decide_eq_true (p := te.size ≤ 60) (by omega), decide_eq_true (p := dp.length ≤ 20) (by omega), decide_eq_true (p := cr.size ≤ 200) (by omega)]
        rfl)
      go_wp2
      go_ret
      exact RetB.mk (by rw [HR.out]; rfl) HB.out

end Go.Proofs.YtldieadbkaphkaaGreatDoor

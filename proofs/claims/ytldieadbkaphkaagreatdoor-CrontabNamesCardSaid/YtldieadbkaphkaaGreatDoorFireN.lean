/- Package fires: Next. -/
import Derived.Test.YtldieadbkaphkaaGreatDoorFireW
namespace Go.Proofs.YtldieadbkaphkaaGreatDoor
open Go.RowKit Go.ChangeMaps

def nextV (r : Int × Bool) : Value := .tuple #[.int .i64 r.1, .bool r.2]
theorem nextF_val (e : Ex) (after : Int) (h : after < 1099511627776) : nextF e after = nxt e (max after (-1) + 1) (min (max after (-1) + 1 + perEra) 1099511627776 + 1 - (max after (-1) + 1)).toNat := by
  unfold nextF; rw [if_neg (by omega)]

set_option maxRecDepth 100000 in
set_option maxHeartbeats 4000000 in
theorem next_any (w : World) (e : Ex) (ok : e.Ok) (t : Int) (h0 : -9223372036854775808 ≤ t) (h1 : t ≤ 9223372036854775807) : Calls Tryz.prog 38 #[e.v, .int .i64 t] w (RetB (nextV (nextF e t)) w) := by
  have hp : perEra = 210379680 := rfl
  by_cases hbig : 1099511627776 ≤ t
  · have HE : Hid (nextF e t = (0, false)) := Lib.hid (by unfold nextF; rw [if_pos hbig])
    clear hp ok
    obtain ⟨em, eh, ed, eo, ew, ad, aw⟩ := e
    unfold Ex.v Ex.cells
    simp only at *
    go_enter Tryz.func38, Tryz.ntmps38
    go_wp2_with fail
    go_ret2
    exact RetB.mk (by rw [HE.out]; rfl) ((Below.refl _ _).alloc (Nat.le_refl _) _)
  · obtain ⟨f, hf⟩ : ∃ f : Int, f = max t (-1) + 1 := ⟨_, rfl⟩
    have HE : Hid (nextF e t = nxt e f (min (f + perEra) 1099511627776 + 1 - f).toNat) := Lib.hid (by rw [nextF_val e t (by omega), ← hf])
    have hf0 : 0 ≤ f ∧ f ≤ 1099511627776 := by omega
    have HS : Hid (∀ W b, b ≤ 1099511627776 → Calls Tryz.prog 52 #[e.v, .int .i64 f, .int .i64 b] W (RetB (nextV (nxt e f (b + 1 - f).toNat)) W)) := Lib.hid fun W b hb => search_any W e ok f b hf0.1 (by omega) hb
    rw [hp] at HE
    clear ok hp
    generalize nextF e t = R at *
    by_cases hneg : t ≤ -1
    · obtain rfl : f = 0 := by omega
      have hmx : max t (-1) = -1 := by omega
      have HS2 := Lib.hid fun W => HS.out W 210379680 (by decide)
      have HE2 : Hid (R = nxt e 0 (210379680 + 1 - 0 : Int).toNat) := Lib.hid (by rw [HE.out]; rfl)
      clear HE HS
      generalize nxt e 0 (210379680 + 1 - 0 : Int).toNat = N at *
      obtain ⟨n1, n2⟩ := N
      obtain ⟨em, eh, ed, eo, ew, ad, aw⟩ := e
      unfold Ex.v Ex.cells nextV at *
      simp only at *
      go_enter Tryz.func38, Tryz.ntmps38
      go_wp2_with fail
      refine (HS2.out _).mono ?_
      rintro en w1 ⟨rfl, hb1⟩
      go_wp2_with fail
      go_ret2
      exact RetB.mk (by rw [HE2.out]; rfl) (((Below.refl _ _).alloc (Nat.le_refl _) _).trans (hb1.mono (by simp)))
    · have hmx : max t (-1) = t := by omega
      obtain rfl : f = t + 1 := by omega
      by_cases hm : t + 1 + 210379680 ≤ 1099511627776
      · have hmn : min (t + 1 + 210379680) 1099511627776 = t + 1 + 210379680 := by omega
        have HS2 := Lib.hid fun W => HS.out W (t + 1 + 210379680) hm
        rw [hmn] at HE
        clear HS hm hf
        generalize nxt e (t + 1) (t + 1 + 210379680 + 1 - (t + 1)).toNat = N at *
        obtain ⟨n1, n2⟩ := N
        obtain ⟨em, eh, ed, eo, ew, ad, aw⟩ := e
        unfold Ex.v Ex.cells nextV at *
        simp only at *
        go_enter Tryz.func38, Tryz.ntmps38
        go_wp2_with fail
        refine (HS2.out _).mono ?_
        rintro en w1 ⟨rfl, hb1⟩
        go_wp2_with fail
        go_ret2
        exact RetB.mk (by rw [HE.out]; rfl) (((Below.refl _ _).alloc (Nat.le_refl _) _).trans (hb1.mono (by simp)))
      · have hmn : min (t + 1 + 210379680) 1099511627776 = 1099511627776 := by omega
        have HS2 := Lib.hid fun W => HS.out W 1099511627776 (by decide)
        rw [hmn] at HE
        clear HS hf
        generalize nxt e (t + 1) (1099511627776 + 1 - (t + 1)).toNat = N at *
        obtain ⟨n1, n2⟩ := N
        obtain ⟨em, eh, ed, eo, ew, ad, aw⟩ := e
        unfold Ex.v Ex.cells nextV at *
        simp only at *
        go_enter Tryz.func38, Tryz.ntmps38
        go_wp2_with fail
        refine (HS2.out _).mono ?_
        rintro en w1 ⟨rfl, hb1⟩
        go_wp2_with fail
        go_ret2
        exact RetB.mk (by rw [HE.out]; rfl) (((Below.refl _ _).alloc (Nat.le_refl _) _).trans (hb1.mono (by simp)))

end Go.Proofs.YtldieadbkaphkaaGreatDoor

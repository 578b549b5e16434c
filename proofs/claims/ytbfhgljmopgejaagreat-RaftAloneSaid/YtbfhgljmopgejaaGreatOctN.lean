/- Package octet: the Reader's numbers and texts. -/
import Derived.Test.YtbfhgljmopgejaaGreatOctR
import Derived.Laws.ShiftsVarLaws
namespace Go.Proofs.YtbfhgljmopgejaaGreat
open Go.RowKit

theorem RetR.mk {v u : Value} {p : Nat} {s : RS} {w w' : World} (hv : u = v) (h : RdAt w' p s) (k : Keeps (fun k => k = p) w w') : RetR v p s w (.returned u) w' := ⟨by rw [hv], h, k⟩

section
variable (w : World) (p : Nat) (s : RS) (h : RdAt w p s)
include h

set_option maxRecDepth 100000 in
set_option maxHeartbeats 1000000 in
theorem rnum_any : Calls Tryz.prog 71 #[.pointer (some ⟨p, 0, none⟩)] w (RetR (.int .u64 (numR s).1) p (numR s).2 w) := by
  have H := Lib.hid h
  have hok := h
  cases h0 : (s.e == 0)
  · have her := err_any w p s h
    have e1 : numR s = (0, s) := numR_err (by simpa using h0)
    rw [e1]
    clear h e1 hok
    go_enter Tryz.func71, Tryz.ntmps71
    go_wp2
    go_loopw [3, 4] (fun x sh wr => x = .int .u64 0 ∧ sh = .int .i64 0 ∧ w = wr) (fun _ _ _ => 0)
    case atStart => exact ⟨rfl, rfl, rfl⟩
    case round =>
      obtain ⟨rfl, rfl, rfl⟩ := hrel
      go_wp2_with (go_at_call 81; refine her.mono ?_; rintro e w' ⟨rfl, rfl⟩)
      go_ret
      exact ⟨rfl, H.out, Keeps.refl _ _⟩
  · obtain ⟨bs, e⟩ := s
    obtain rfl : e = 0 := by simpa using h0
    clear h0 h hok
    go_enter Tryz.func71, Tryz.ntmps71
    go_wp2
    go_loopw [3, 4] (fun x sh wr => ∃ (k : Nat) (acc : Nat) (sv av : Int) (l : List UInt8), x = .int .u64 av ∧ sh = .int .i64 sv ∧ sv = 7 * (k : Int) ∧ k ≤ 10 ∧ av = (acc : Int) ∧ acc < 128 ^ k ∧ dec 0 0 bs = dec k acc l ∧ RdAt wr p ⟨l, 0⟩ ∧ Keeps (fun k => k = p) w wr) (fun _ sh _ => (80 - intOf sh).toNat)
    case atStart => exact ⟨0, 0, 0, 0, bs, rfl, rfl, by omega, by omega, rfl, by simp, rfl, H.out, Keeps.refl _ _⟩
    case round =>
      obtain ⟨k, acc, sv, av, l, rfl, rfl, hsv, hk, hav, hacc, hdec, hR, hkp⟩ := hrel
      have HSV := Lib.hid hsv
      have HAV := Lib.hid hav
      have HK := Lib.hid hk
      have HAC := Lib.hid hacc
      have HD := Lib.hid hdec
      have HKP := Lib.hid hkp
      have hs0 : 0 ≤ sv := by omega
      have hs1 : sv ≤ 70 := by omega
      have her := err_any wr p _ hR
      cases l with
      | nil =>
        have hone := one_short wr p _ hR rfl
        clear hsv hk hav hacc hdec hkp hR
        go_wp2_with (go_at_call 81; refine her.mono ?_; rintro e w' ⟨rfl, rfl⟩)
        refine hone.mono ?_
        rintro e w1 ⟨rfl, h1, hk1⟩
        have her1 := err_any w1 p _ h1
        clear her hone
        go_wp2_with (go_at_call 81; refine her1.mono ?_; rintro e w' ⟨rfl, rfl⟩)
        go_ret
        have e1 : numR ⟨bs, 0⟩ = (0, ⟨[], 4⟩) := by simp [numR, HD.out, dec]
        rw [e1]
        exact ⟨rfl, h1, HKP.out.trans hk1⟩
      | cons c r =>
        have hone := one_yes wr p _ hR c r rfl
        have hc256 := c.toNat_lt
        obtain ⟨ci, hci⟩ : ∃ ci : Int, ci = (c.toNat : Int) := ⟨_, rfl⟩
        rw [← hci] at hone
        have hc0 : 0 ≤ ci := by omega
        have hc1 : ci ≤ 255 := by omega
        have HCI := Lib.hid hci
        by_cases hbad : 9 < k ∨ (k = 9 ∧ 1 < c.toNat) ∨ (c.toNat = 0 ∧ 0 < k)
        · have hfl := fun W hW => fail_any W p ⟨r, 0⟩ hW 2 (by decide)
          have efl : RS.fail ⟨r, 0⟩ 2 = ⟨[], 2⟩ := rfl
          rw [efl] at hfl
          have e1 : numR ⟨bs, 0⟩ = (0, ⟨[], 2⟩) := by simp only [numR, HD.out, dec, if_pos hbad, if_true]
          have E1 := Lib.hid e1
          have hcase : (63 < sv) ∨ (¬ 63 < sv ∧ (sv == 63) = true ∧ 1 < ci) ∨ (¬ 63 < sv ∧ (sv == 63) = true ∧ ¬ 1 < ci ∧ (ci == 0) = true ∧ 0 < sv) ∨ (¬ 63 < sv ∧ (sv == 63) = false ∧ (ci == 0) = true ∧ 0 < sv) := by
            simp only [beq_iff_eq, beq_eq_false_iff_ne, ne_eq]
            omega
          clear hsv hk hav hacc hdec hkp hR hci hbad e1 efl hc256
          rcases hcase with hcase | ⟨t1, t2, t3⟩ | ⟨t1, t2, t3, t4, t5⟩ | ⟨t1, t2, t4, t5⟩
          all_goals
            go_wp2_with (go_at_call 81; refine her.mono ?_; rintro e w' ⟨rfl, rfl⟩)
            refine hone.mono ?_
            rintro e w1 ⟨rfl, h1, hk1⟩
            have her1 := err_any w1 p _ h1
            have hfl1 := hfl w1 h1
            go_wp2_with (first | (go_at_call 81; refine her1.mono ?_; rintro e w' ⟨rfl, rfl⟩) | (go_at_call 83; refine hfl1.mono ?_; rintro e w2 ⟨rfl, h2, hk2⟩))
            go_ret
            rw [E1.out]
            exact ⟨rfl, h2, (HKP.out.trans hk1).trans hk2⟩
        · have hst := num_step k acc c hacc (by omega) (by omega)
          rw [← hav, ← hci, ← hsv] at hst
          have HST := Lib.hid hst
          have hcase : (¬ 63 < sv ∧ (sv == 63) = true ∧ ¬ 1 < ci ∧ (ci == 0) = false) ∨ (¬ 63 < sv ∧ (sv == 63) = false ∧ (ci == 0) = false) ∨ (¬ 63 < sv ∧ (sv == 63) = false ∧ (ci == 0) = true ∧ ¬ 0 < sv) := by
            simp only [beq_iff_eq, beq_eq_false_iff_ne, ne_eq]
            omega
          have HB := Lib.hid hbad
          have hav0 : 0 ≤ av := by omega
          clear hsv hk hav hacc hdec hkp hR hci hbad hst hc256
          by_cases hlt : ci < 128
          · rcases hcase with ⟨t1, t2, t3, t4⟩ | ⟨t1, t2, t4⟩ | ⟨t1, t2, t4, t5⟩
            all_goals
              go_wp2_with (go_at_call 81; refine her.mono ?_; rintro e w' ⟨rfl, rfl⟩)
              refine hone.mono ?_
              rintro e w1 ⟨rfl, h1, hk1⟩
              have her1 := err_any w1 p _ h1
              go_wp2_with (first | (go_at_call 81; refine her1.mono ?_; rintro e w' ⟨rfl, rfl⟩))
              go_ret
              have hlt' : c.toNat < 128 := by have := HCI.out; omega
              have e1 : numR ⟨bs, 0⟩ = (acc + c.toNat % 128 * 128 ^ k, ⟨r, 0⟩) := by simp only [numR, HD.out, dec, if_neg HB.out, if_pos hlt', if_true]
              rw [e1]
              exact RetR.mk (int_eq HST.out) h1 (HKP.out.trans hk1)
          · rcases hcase with ⟨t1, t2, t3, t4⟩ | ⟨t1, t2, t4⟩ | ⟨t1, t2, t4, t5⟩
            · exfalso; omega
            rotate_left
            · exfalso; have : ci = 0 := by simpa using t4
              omega
            all_goals
              go_wp2_with (go_at_call 81; refine her.mono ?_; rintro e w' ⟨rfl, rfl⟩)
              refine hone.mono ?_
              rintro e w1 ⟨rfl, h1, hk1⟩
              have her1 := err_any w1 p _ h1
              go_wp2_with (first | (go_at_call 81; refine her1.mono ?_; rintro e w' ⟨rfl, rfl⟩))
              go_roundw
              case rel =>
                have hk9 : k ≤ 9 := by have := HB.out; omega
                have hlt' : ¬ c.toNat < 128 := by have := HCI.out; omega
                refine ⟨k + 1, acc + c.toNat % 128 * 128 ^ k, sv + 7, _, r, rfl, by go_num, by have := HSV.out; omega, by omega, HST.out, ?_, ?_, h1, HKP.out.trans hk1⟩
                · have h1 := HAC.out
                  have h2 : c.toNat % 128 * 128 ^ k ≤ 127 * 128 ^ k := Nat.mul_le_mul_right _ (by omega)
                  rw [Nat.pow_succ]
                  omega
                · rw [HD.out]; simp only [dec, if_neg HB.out, if_neg hlt']
              case measure => simp [intOf]; omega
end

end Go.Proofs.YtbfhgljmopgejaaGreat

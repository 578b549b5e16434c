/- complineref14.Name: whether a text is a name, by definition. -/
import Derived.Test.YtldieadbkaphkaaGreatDoorName
namespace Go.Proofs.YtldieadbkaphkaaGreatDoor
open Go.RowKit

set_option maxHeartbeats 1000000 in
theorem refName_any (s : ByteArray) (w : World) (hm : s.size ≤ 60) : Calls Tryz.prog 15 #[.string s] w (Ret (.bool (nameB s)) w) := by
  generalize hb : nameB s = b
  have HB := Lib.hid hb
  clear hb
  go_enter Tryz.func15, Tryz.ntmps15
  go_wp2
  go_loop [3] (fun i => ∃ k : Nat, k ≤ s.size ∧ i = .int .i64 k ∧ ∀ j, j < k → signB (s.data.toList.getD j 0).toNat = true ∧ (j = 0 → 97 ≤ (s.data.toList.getD 0 0).toNat ∧ (s.data.toList.getD 0 0).toNat ≤ 122)) (fun i => s.size - (intOf i).toNat)
  case atStart => exact ⟨0, by omega, rfl, fun j hj => by omega⟩
  case round =>
    obtain ⟨k, hk, rfl, hg⟩ := hrel
    have HG := Lib.hid hg
    clear hg
    by_cases hlt : k < s.size
    · have hat := at_list s k hlt
      have HA := Lib.hid hat
      clear hat
      have hnext : signB (s[k]'hlt).toNat = true → (k = 0 → 97 ≤ (s[k]'hlt).toNat ∧ (s[k]'hlt).toNat ≤ 122) → ∀ j, j < k + 1 → signB (s.data.toList.getD j 0).toNat = true ∧ (j = 0 → 97 ≤ (s.data.toList.getD 0 0).toNat ∧ (s.data.toList.getD 0 0).toNat ≤ 122) := by
        intro h1 h2 j hj
        rcases Nat.lt_or_ge j k with h | h
        · exact HG.out j h
        · obtain rfl : j = k := by omega
          rw [HA.out] at h1 h2
          refine ⟨h1, fun e => ?_⟩
          subst e
          exact h2 rfl
      have hstop : (signB (s[k]'hlt).toNat = true → k = 0 ∧ ¬ (97 ≤ (s[k]'hlt).toNat ∧ (s[k]'hlt).toNat ≤ 122)) → b = false := by
        intro h
        have := HB.out
        cases b
        · rfl
        · have h1 := (nameB_iff s).1 this
          have h2 := h1.2.2.2.2 k hlt
          rw [← HA.out] at h2
          obtain ⟨rfl, h3⟩ := h h2
          rw [HA.out] at h3
          exact absurd ⟨h1.2.2.1, h1.2.2.2.1⟩ h3
      have hsg := signB_iff (s[k]'hlt).toNat
      have HN := Lib.hid hnext
      have HS := Lib.hid hstop
      have HI := Lib.hid hsg
      clear hnext hstop hsg
      have hcases : (97 ≤ (s[k]'hlt).toNat ∧ (s[k]'hlt).toNat ≤ 122) ∨ (k ≤ 0 ∧ (s[k]'hlt).toNat < 97) ∨ (k ≤ 0 ∧ 122 < (s[k]'hlt).toNat) ∨ (0 < k ∧ 48 ≤ (s[k]'hlt).toNat ∧ (s[k]'hlt).toNat ≤ 57) ∨ (0 < k ∧ 45 ≤ (s[k]'hlt).toNat ∧ (s[k]'hlt).toNat ≤ 45) ∨ (0 < k ∧ 46 ≤ (s[k]'hlt).toNat ∧ (s[k]'hlt).toNat ≤ 46) ∨ (0 < k ∧ (s[k]'hlt).toNat < 45) ∨ (0 < k ∧ 46 < (s[k]'hlt).toNat ∧ (s[k]'hlt).toNat < 48) ∨ (0 < k ∧ 57 < (s[k]'hlt).toNat ∧ (s[k]'hlt).toNat < 97) ∨ (0 < k ∧ 122 < (s[k]'hlt).toNat) := by omega
      rcases hcases with ⟨h1, h2⟩ | ⟨h1, h2⟩ | ⟨h1, h2⟩ | ⟨h1, h2, h3⟩ | ⟨h1, h2, h3⟩ | ⟨h1, h2, h3⟩ | ⟨h1, h2⟩ | ⟨h1, h2, h3⟩ | ⟨h1, h2, h3⟩ | ⟨h1, h2⟩
      all_goals
        try
          first
          | (have k5 : ((((s[k]'hlt).toNat : Nat) : Int) != 45) = false := (by simp; omega))
          | (have k5 : ((((s[k]'hlt).toNat : Nat) : Int) != 45) = true := (by simp; omega))
        try
          first
          | (have k6 : ((((s[k]'hlt).toNat : Nat) : Int) != 46) = false := (by simp; omega))
          | (have k6 : ((((s[k]'hlt).toNat : Nat) : Int) != 46) = true := (by simp; omega))
        try
          first
          | (have k0 : ((k : Int) == 0) = false := (by simp; omega))
          | (have k0 : ((k : Int) == 0) = true := (by simp; omega))
        go_wp2
        try any_goals (exfalso; rename_i hx; simp only [Bool.not_eq_false', decide_eq_true_eq] at hx; omega)
        have g1 := HI.out
        first
          | (go_ret
             have hbf := HS.out (fun h => by have := g1.1 h; omega)
             subst hbf
             exact Ret.mk rfl)
          | (go_round
             case rel => exact ⟨k + 1, by omega, by go_num, HN.out (g1.2 (by omega)) (fun e => by omega)⟩
             case measure => simp [intOf]; omega)
    · have hb : b = decide (1 ≤ s.size ∧ s.size ≤ 24) := by
        have := HB.out
        have h3 := HG.out
        have hs : k = s.size := by omega
        subst hs
        have h4 := nameB_iff s
        rw [this] at h4
        cases b
        · by_cases hz : 1 ≤ s.size ∧ s.size ≤ 24
          · have := h4.2 ⟨hz.1, hz.2, ((h3 0 (by omega)).2 rfl).1, ((h3 0 (by omega)).2 rfl).2, fun i hi => (h3 i hi).1⟩
            cases this
          · rw [decide_eq_false hz]
        · have h5 := h4.1 rfl
          rw [decide_eq_true ⟨h5.1, h5.2.1⟩]
      subst hb
      by_cases hz : 1 ≤ s.size <;> by_cases hz2 : s.size ≤ 24
      all_goals try omega
      all_goals
        go_wp2
        go_ret
        exact Ret.mk (bool_eq (by first | (simp; done) | (simp; omega)))

end Go.Proofs.YtldieadbkaphkaaGreatDoor

/- Who may be members: the program's two tests of it. -/
import Derived.Test.YtbfhgljmopgejaaGreatOctZ
namespace Go.Proofs.YtbfhgljmopgejaaGreat
open Go.RowKit

/-- An int, as a cell holds it. -/
def intv (n : Int) : Value := .int .i64 n
theorem intv_one (n : Int) : (intv n).oneCell' = true := rfl

/-- Numbers that rise, above p, up to 7. -/
def memFrom : Int → List Int → Bool
  | _, [] => true
  | p, n :: r => decide (p < n ∧ n ≤ 7) && memFrom n r
def membersB (l : List Int) : Bool := !l.isEmpty && memFrom 0 l

theorem memFrom_step {p : Int} {l : List Int} {k : Nat} {n : Int} (hk : l[k]? = some n) : memFrom p (l.drop k) = (decide (p < n ∧ n ≤ 7) && memFrom n (l.drop (k + 1))) := by
  obtain ⟨h1, h2⟩ := List.getElem?_eq_some_iff.1 hk
  rw [List.drop_eq_getElem_cons h1, h2]
  rfl

theorem memFrom_le : ∀ {l : List Int} {p : Int}, memFrom p l = true → p ≤ 7 → (l.length : Int) ≤ 7 - p
  | [], p, _, h => by simp; omega
  | n :: r, p, h, hp => by
    simp only [memFrom, Bool.and_eq_true, decide_eq_true_eq] at h
    have := memFrom_le h.2 h.1.2
    simp only [List.length_cons]
    omega

theorem memFrom_all : ∀ {l : List Int} {p : Int}, memFrom p l = true → ∀ n ∈ l, p < n ∧ n ≤ 7
  | [], p, _, n, h => by simp at h
  | x :: r, p, h, n, hn => by
    simp only [memFrom, Bool.and_eq_true, decide_eq_true_eq] at h
    rcases List.mem_cons.1 hn with rfl | hn
    · exact h.1
    · have := memFrom_all h.2 n hn; omega

theorem members_len {l : List Int} (h : membersB l = true) : 1 ≤ l.length ∧ l.length ≤ 7 ∧ ∀ n ∈ l, 1 ≤ n ∧ n ≤ 7 := by
  unfold membersB at h
  simp only [Bool.and_eq_true] at h
  have h1 := memFrom_le h.2 (by omega)
  refine ⟨?_, by omega, fun n hn => by have := memFrom_all h.2 n hn; omega⟩
  cases l with
  | nil => simp at h
  | cons => simp

/-- The element ahead of the k-th; 0: there is none. -/
def prevOf (l : List Int) (k : Nat) : Int := if k = 0 then 0 else l.getD (k - 1) 0

theorem prevOf_succ {l : List Int} {k : Nat} {n : Int} (hk : l[k]? = some n) : prevOf l (k + 1) = n := by
  unfold prevOf
  rw [if_neg (by omega), Nat.add_sub_cancel, List.getD_eq_getElem?_getD, hk]
  rfl

section
variable (w : World) (a : Option Addr) (n cap : Nat) (l : List Int) (h : Sl intv w (.slice a n cap) l)
include h

theorem members_any : Calls Tryz.prog 45 #[.slice a n cap] w (Ret (.bool (membersB l)) w) := by
  have H := Lib.hid h
  obtain ⟨a', cap', he, h1, h2, h3⟩ := h
  cases he
  unfold maxLen at h2
  have HLC := Lib.hid h1
  have hlm : l.length ≤ 9223372036854775807 := by omega
  clear h1
  go_enter Tryz.func45, Tryz.ntmps45
  go_wp2
  go_loop [7] (fun i => ∃ k : Nat, k ≤ l.length ∧ i = .int .i64 k ∧ memFrom 0 l = memFrom (prevOf l k) (l.drop k) ∧ 0 ≤ prevOf l k) (fun i => l.length - (intOf i).toNat)
  case atStart => exact ⟨0, by omega, rfl, by simp [prevOf], by simp [prevOf]⟩
  case round =>
    obtain ⟨k, hk, rfl, hm, hp⟩ := hrel
    by_cases hlt : k < l.length
    · rcases h3 with ⟨rfl, rfl⟩ | ⟨b, o, rfl, hb, hc⟩
      · have := HLC.out; omega
      · have hk0 : l[k]? = some l[k] := List.getElem?_eq_getElem hlt
        have hcell : w.cell? ⟨b, o + k, none⟩ = some (.int .i64 l[k]) := hc k _ hk0
        have hst := memFrom_step (p := prevOf l k) hk0
        have hps := prevOf_succ hk0
        generalize l[k] = x at *
        generalize hpv : prevOf l k = pv at *
        have HM := Lib.hid hm
        have HST := Lib.hid hst
        have HPS := Lib.hid hps
        clear hm hst hps
        by_cases hk1 : 0 < k
        · obtain ⟨j, rfl⟩ : ∃ j, k = j + 1 := ⟨k - 1, by omega⟩
          have hpc : w.cell? ⟨b, o + j, none⟩ = some (.int .i64 pv) := by
            have h1 : l[j]? = some pv := by
              rw [List.getElem?_eq_getElem (show j < l.length by omega), ← hpv]
              unfold prevOf
              rw [if_neg (by omega), List.getD_eq_getElem?_getD, Nat.add_sub_cancel, List.getElem?_eq_getElem (show j < l.length by omega)]
              rfl
            exact hc _ _ h1
          clear hpv hc hk0
          have hcs : x < 1 ∨ (¬ x < 1 ∧ 7 < x) ∨ (¬ x < 1 ∧ ¬ 7 < x ∧ x ≤ pv) ∨ (¬ x < 1 ∧ ¬ 7 < x ∧ pv < x) := by omega
          rcases hcs with c1 | ⟨c1, c2⟩ | ⟨c1, c2, c3⟩ | ⟨c1, c2, c3⟩
          rotate_right
          · go_wp2
            go_round
            case rel => exact ⟨j + 1 + 1, by omega, by go_num, by rw [HM.out, HST.out, HPS.out]; simp; omega, by rw [HPS.out]; omega⟩
            case measure => simp [intOf]; omega
          all_goals
            go_wp2
            go_ret
            refine Ret.mk (bool_eq ?_)
            unfold membersB
            rw [HM.out, HST.out, show decide (pv < x ∧ x ≤ 7) = false from decide_eq_false (by omega)]
            simp
        · obtain rfl : k = 0 := by omega
          obtain rfl : pv = 0 := by rw [← hpv]; rfl
          rw [Nat.add_zero] at hcell
          clear hpv hc hk0
          have hcs : x < 1 ∨ (¬ x < 1 ∧ 7 < x) ∨ (¬ x < 1 ∧ ¬ 7 < x) := by omega
          rcases hcs with c1 | ⟨c1, c2⟩ | ⟨c1, c2⟩
          rotate_right
          · go_wp2
            go_round
            case rel => exact ⟨1, by omega, by go_num, by rw [HM.out, HST.out, HPS.out]; simp; omega, by rw [HPS.out]; omega⟩
            case measure => simp [intOf]; omega
          all_goals
            go_wp2
            go_ret
            refine Ret.mk (bool_eq ?_)
            unfold membersB
            rw [HM.out, HST.out, show decide ((0 : Int) < x ∧ x ≤ 7) = false from decide_eq_false (by omega)]
            simp
    · obtain rfl : k = l.length := by omega
      have HM := Lib.hid hm
      clear hm h3
      go_wp2
      go_ret
      refine Ret.mk (bool_eq ?_)
      unfold membersB
      rw [HM.out, List.drop_length]
      cases l <;> simp [memFrom]
end

end Go.Proofs.YtbfhgljmopgejaaGreat

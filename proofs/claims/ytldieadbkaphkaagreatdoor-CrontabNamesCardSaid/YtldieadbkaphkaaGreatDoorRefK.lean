/- The reference's Named, in plain words, is the program's Names. -/
import Derived.Test.YtldieadbkaphkaaGreatDoorNamed
namespace Go.Proofs.YtldieadbkaphkaaGreatDoor

theorem refV_id (s : Bs) {k : Nat} (hk : k ≠ 4) : refV s k = (parseF s).1.getD k [] := by
  unfold refV
  have : ∀ l : List Int, l.map (nrm k) = l := fun l => by
    induction l with
    | nil => rfl
    | cons x r ih => rw [List.map_cons, ih]; unfold nrm; rw [if_neg (by rintro ⟨h, _⟩; exact hk h)]
  exact this _
theorem refV_4 (s : Bs) {x : Int} (h0 : 0 ≤ x) (h6 : x ≤ 6) : x ∈ refV s 4 ↔ (x ∈ (parseF s).1.getD 4 [] ∨ (x = 0 ∧ (7 : Int) ∈ (parseF s).1.getD 4 [])) := by
  unfold refV
  rw [List.mem_map]
  constructor
  · rintro ⟨a, ha, rfl⟩
    unfold nrm at *
    by_cases h7 : a = 7
    · subst h7; right; exact ⟨rfl, ha⟩
    · rw [if_neg (by rintro ⟨_, h⟩; exact h7 h)]; exact .inl ha
  · rintro (h | ⟨rfl, h⟩)
    · exact ⟨x, h, by unfold nrm; rw [if_neg (by omega)]⟩
    · exact ⟨7, h, rfl⟩

theorem named_law {s : Bs} (h : (parseF s).2 = 0) {t : Int} (h0 : 0 ≤ t) : namedF (refV s) (splitL 32 s) (momF t) = namesM (exF s) (momF t) := by
  have hr := mom_range h0
  obtain ⟨m1, m2, d1, d2, w1, w2, h1, h2, i1, i2⟩ := hr
  generalize momF t = M at *
  have bit : ∀ (k : Nat) (x : Int), k < 5 → 0 ≤ x → (orBits ((parseF s).1.getD k [])).testBit x.toNat = decide (x ∈ (parseF s).1.getD k []) := fun k x hk hx => by
    rw [testBit_orBits _ (fun z hz => by have a := parseF_in h hk z hz; have b := fld_low k; omega), show ((x.toNat : Nat) : Int) = x by omega]
  have week : (sunday (orBits ((parseF s).1.getD 4 []))).testBit M.wd.toNat = decide (M.wd ∈ refV s 4) := by
    have e4 := refV_4 s w1 w2
    rw [testBit_sunday _ _ (by omega), if_neg (by omega)]
    have b7 := bit 4 7 (by omega) (by omega)
    have b0 := bit 4 0 (by omega) (by omega)
    have bw := bit 4 M.wd (by omega) w1
    by_cases hz : M.wd = 0
    · rw [hz] at e4 ⊢
      rw [if_pos (by decide)]
      rw [show ((7 : Int).toNat) = 7 from rfl] at b7
      rw [show ((0 : Int).toNat) = 0 from rfl] at b0
      rw [b7, b0, Bool.eq_iff_iff]
      simp only [Bool.or_eq_true, decide_eq_true_eq]
      rw [e4]
      exact ⟨fun h => h.elim .inl (fun h => .inr ⟨rfl, h⟩), fun h => h.elim .inl (fun h => .inr h.2)⟩
    · rw [if_neg (by omega), bw, Bool.eq_iff_iff]
      simp only [decide_eq_true_eq]
      rw [e4]
      exact ⟨.inl, fun h => h.elim id (fun h => absurd h.1 hz)⟩
  unfold namedF namesM namesB exF
  simp only
  rw [week, bit 0 M.mi (by omega) i1, bit 1 M.h (by omega) h1, bit 2 M.d (by omega) (by omega), bit 3 M.m (by omega) (by omega)]
  rw [refV_id s (k := 0) (by decide), refV_id s (k := 1) (by decide), refV_id s (k := 2) (by decide), refV_id s (k := 3) (by decide)]
  by_cases hc : decide (M.mi ∈ (parseF s).1.getD 0 []) = false ∨ decide (M.h ∈ (parseF s).1.getD 1 []) = false ∨ decide (M.m ∈ (parseF s).1.getD 3 []) = false
  · rw [if_pos hc, if_pos hc]
  · rw [if_neg hc, if_neg hc]
    have g2 := parseF_get h (k := 2) (by omega)
    have g4 := parseF_get h (k := 4) (by omega)
    by_cases s2 : (splitL 32 s).getD 2 [] = [42]
    · rw [if_pos s2, if_pos (.inl (decide_eq_true s2))]
      rw [s2] at g2
      have hd : M.d ∈ (parseF s).1.getD 2 [] := by
        rw [g2.1, (values_star 2).2 M.d]
        exact ⟨d1, d2⟩
      rw [decide_eq_true hd, Bool.true_and]
    · rw [if_neg s2]
      by_cases s4 : (splitL 32 s).getD 4 [] = [42]
      · rw [if_pos s4, if_pos (.inr (decide_eq_true s4))]
        rw [s4] at g4
        have hw : M.wd ∈ refV s 4 := by
          rw [refV_4 s w1 w2, g4.1, (values_star 4).2 M.wd]
          exact .inl ⟨w1, show M.wd ≤ 7 by omega⟩
        rw [decide_eq_true hw, Bool.and_true]
      · rw [if_neg s4, if_neg (by rintro (h | h); exact s2 (of_decide_eq_true h); exact s4 (of_decide_eq_true h))]

theorem named_at {s : Bs} (h : (parseF s).2 = 0) {t : Int} (h0 : 0 ≤ t) (h1 : t ≤ 1099511627776) : namedF (refV s) (splitL 32 s) (momF t) = atB (exF s) t := by
  rw [named_law h h0]; unfold atB; rw [if_pos ⟨h0, h1⟩]

end Go.Proofs.YtldieadbkaphkaaGreatDoor

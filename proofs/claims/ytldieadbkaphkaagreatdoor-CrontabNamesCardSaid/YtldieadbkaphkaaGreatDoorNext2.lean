/- What Next tells, in plain words. -/
import Derived.Test.YtldieadbkaphkaaGreatDoorBetw
namespace Go.Proofs.YtldieadbkaphkaaGreatDoor

theorem next_spec2 (e : Ex) (t : Int) (h0 : 0 ≤ t) (h1 : t < 1099511627776) :
    (∃ n, nextF e t = (n, true) ∧ t < n ∧ n ≤ 1099511627776 ∧ atB e n = true ∧ ∀ u, t < u → u < n → atB e u = false) ∨
    (nextF e t = (0, false) ∧ ∀ u, t < u → u ≤ t + 210379680 → atB e u = false) := by
  have hp : perEra = 210379680 := rfl
  have hv : nextF e t = nxt e (t + 1) (min (t + 1 + 210379680) 1099511627776 + 1 - (t + 1)).toNat := by
    rw [nextF_val e t (by omega), show max t (-1) = t by omega, hp]
  rcases nxt_cases e (min (t + 1 + 210379680) 1099511627776 + 1 - (t + 1)).toNat (t + 1) with ⟨n, e1, a, b, c, d⟩ | ⟨e1, a⟩
  · left
    exact ⟨n, by rw [hv, e1], by omega, by omega, c, fun u h2 h3 => d u (by omega) h3⟩
  · right
    refine ⟨by rw [hv, e1], fun u h2 h3 => ?_⟩
    by_cases hu : u ≤ 1099511627776
    · exact a u (by omega) (by omega)
    · unfold atB; rw [if_neg (by omega)]

end Go.Proofs.YtldieadbkaphkaaGreatDoor

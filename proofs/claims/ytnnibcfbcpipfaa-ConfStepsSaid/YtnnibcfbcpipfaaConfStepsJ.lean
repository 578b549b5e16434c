/- ConfSteps: all inputs. -/
import Derived.Test.YtnnibcfbcpipfaaConfSteps
namespace Go.Proofs.Ytnnibcfbcpipfaa
open Go.RowKit Go.Sort

set_option maxRecDepth 100000 in
theorem steps_long (w : World) (a : Option Addr) (len cap : Nat) (b : Option Addr) (m dap : Nat) (x : Int) (h : 20 < len ∨ len ≤ 20 ∧ 20 < m) (h1 : len ≤ 9223372036854775807) (h2 : m ≤ 9223372036854775807) :
    Calls Try.prog 5 #[.slice a len cap, .slice b m dap, .int .i64 x] w (RetB (.bool true) w) := by
  rcases h with h | ⟨h, h'⟩
  all_goals
    go_enter Try.func5, Try.ntmps5
    go_wp2_with fail
    refine (lives23 _).mono ?_
    rintro e w1 ⟨rfl, hb1⟩
    go_wp2_with fail
    refine (lives23 _).mono ?_
    rintro e w2 ⟨rfl, hb2⟩
    go_wp2_with fail
    go_ret
    exact RetB.mk rfl (hb1.trans (hb2.mono hb1.size))

theorem steps_any (w : World) (a : Option Addr) (len cap : Nat) (la : List Int) (b : Option Addr) (m dap : Nat) (lb : List Int) (x : Int) (ha : SlOk .i64 w (.slice a len cap) la) (hb : SlOk .i64 w (.slice b m dap) lb) :
    Calls Try.prog 5 #[.slice a len cap, .slice b m dap, .int .i64 x] w (RetB (.bool true) w) := by
  obtain ⟨⟨_, _, he, h1, h2, _⟩, _⟩ := id ha
  cases he
  obtain ⟨⟨_, _, he, g1, g2, _⟩, _⟩ := id hb
  cases he
  unfold maxLen at h2 g2
  by_cases hl : 20 < la.length ∨ la.length ≤ 20 ∧ 20 < lb.length
  · exact steps_long w a _ cap b _ dap x hl (by omega) (by omega)
  · have l1 : la.length ≤ 20 := by omega
    have l2 : lb.length ≤ 20 := by omega
    cases hm : membersB la
    · exact steps_a1 w a cap la ha.1 b dap lb hb.1 x l1 l2 hm _ rfl
    · by_cases hx : x < 1 ∨ (1 ≤ x ∧ 7 < x)
      · exact steps_a2 w a cap la ha.1 b dap lb hb.1 x l1 l2 hm hx _ rfl
      · by_cases hin : x ∈ la
        · by_cases h1 : la.length = 1
          · exact steps_b w a cap la ha.1 b dap lb hb.1 x l1 l2 hm (by omega) (by omega) hin h1
          · have := List.length_pos_of_mem hin
            exact steps_c w a cap la ha.1 b dap lb hb.1 x l1 l2 hm (by omega) (by omega) hin (by omega)
        · exact steps_d w a cap la ha.1 b dap lb hb.1 x l1 l2 hm (by omega) (by omega) hin

theorem stepsI_any (w : World) (a : Option Addr) (len cap : Nat) (la : List Int) (b : Option Addr) (m dap : Nat) (lb : List Int) (x : Int) (ha : SlOk .i64 w (.slice a len cap) la) (hb : SlOk .i64 w (.slice b m dap) lb) (_ : (Lit.int .i64 x).wf = true) :
    Calls Try.prog 5 #[.slice a len cap, .slice b m dap, .int .i64 x] w (RetB (.bool true) w) := steps_any w a len cap la b m dap lb x ha hb

end Go.Proofs.Ytnnibcfbcpipfaa

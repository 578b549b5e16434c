/- Package spec: span, rises, numbers; slices.ContainsFunc at names. -/
import Derived.Test.YtldieadbkaphkaaGreatDoorSpecV
import Derived.Test.YtldieadbkaphkaaGreatDoorBlk
import Derived.Test.YtldieadbkaphkaaGreatDoorCronS
import Derived.Deep.QuietTactic
import Derived.BigQuiet
import Derived.RegionTactic
namespace Go.Proofs.YtldieadbkaphkaaGreatDoor
open Go.RowKit

theorem span_any (w : World) (x : Int) : Calls Tryz.prog 61 #[.int .i64 x] w (Ret (.bool (spanB x)) w) := by
  by_cases h1 : 0 ≤ x <;> by_cases h2 : x ≤ 1048576
  all_goals
    go_enter Tryz.func61, Tryz.ntmps61
    go_wp2
    go_ret
    exact Ret.mk (bool_eq (by unfold spanB; simp [h1, h2]))

attribute [local go_sem] Oper.semAt_some

theorem run_geq_str (t : TypeId) (a b : ByteArray) : binOp .geq t (.string a) (.string b) = pure (.bool !(lessB a b)) := by simp [binOp, Op.stringOp, lessB]
attribute [local go_sem] run_geq_str

theorem rises_stop {l : List ByteArray} {i : Nat} {a b : ByteArray} (ha : l[i]? = some a) (hb : l[i + 1]? = some b) (h : lessB a b = false) : risesB l = false := by
  cases hr : risesB l
  · rfl
  · rw [(rises_iff l).1 hr i a b ha hb] at h; cases h
theorem rises_end {l : List ByteArray} {k : Nat} (hk : l.length ≤ k) (h : ∀ i a b, i + 1 < k → l[i]? = some a → l[i + 1]? = some b → lessB a b = true) : risesB l = true :=
  (rises_iff l).2 fun i a b ha hb => h i a b (by have := (List.getElem?_eq_some_iff.1 hb).1; omega) ha hb

set_option maxHeartbeats 4000000 in
theorem rises_any (w : World) (a : Option Addr) (n cap : Nat) (l : List ByteArray) (h : Sl strv w (.slice a n cap) l) : Calls Tryz.prog 62 #[.slice a n cap] w (RetB (.bool (risesB l)) w) := by
  obtain ⟨a', cap', he, h1, h2, h3⟩ := h
  cases he
  unfold maxLen at h2
  have HLC := Lib.hid h1
  have hlm : l.length ≤ 9223372036854775807 := by omega
  clear h1
  go_enter Tryz.func62, Tryz.ntmps62
  go_wp2
  go_loopw [3] (fun i wr => ∃ k : Nat, 1 ≤ k ∧ (k ≤ l.length ∨ k = 1) ∧ i = .int .i64 k ∧ Below w.heap.size w wr ∧ ∀ i a b, i + 1 < k → l[i]? = some a → l[i + 1]? = some b → lessB a b = true) (fun i _ => l.length - (intOf i).toNat)
  case atStart => exact ⟨1, by omega, .inr rfl, rfl, Below.refl _ _, fun i a b hi => by omega⟩
  case round =>
    obtain ⟨k, hk1, hk, rfl, hbw, hm⟩ := hrel
    have HM := Lib.hid hm
    have HBW := Lib.hid hbw
    clear hm
    by_cases hlt : k < l.length
    · rcases h3 with ⟨rfl, rfl⟩ | ⟨b, o, rfl, hb, hc⟩
      · have := HLC.out; omega
      · obtain ⟨j, rfl⟩ : ∃ j, k = j + 1 := ⟨k - 1, by omega⟩
        have hj0 : l[j]? = some l[j] := List.getElem?_eq_getElem (by omega)
        have hj1 : l[j + 1]? = some l[j + 1] := List.getElem?_eq_getElem hlt
        have c0 : wr.cell? ⟨b, o + j, none⟩ = some (.string l[j]) := (bcell hbw _ _ hb).trans (hc j _ hj0)
        have c1 : wr.cell? ⟨b, o + (j + 1), none⟩ = some (.string l[j + 1]) := (bcell hbw _ _ hb).trans (hc (j + 1) _ hj1)
        generalize l[j] = x at *
        generalize l[j + 1] = y at *
        have HJ0 := Lib.hid hj0
        have HJ1 := Lib.hid hj1
        clear hc hj0 hj1 hbw
        have hw1 : IntKind.i64.wrap ((j + 1 : Nat) - 1 : Int) = (j : Int) := by rw [IntKind.wrap_i64]; omega
        have hw2 : IntKind.i64.wrap (((j : Int) + 1) - 1 : Int) = (j : Int) := by rw [IntKind.wrap_i64]; omega
        cases hxy : Op.bytesLess x.toList y.toList
        · have HXY : Hid (risesB l = false) := Lib.hid (rises_stop HJ0.out HJ1.out hxy)
          have hgeq : (!Op.bytesLess x.toList y.toList) = true := by rw [hxy]; rfl
          go_wp2_with fail
          go_quiet (fail)
          go_wp2_with fail
          go_ret
          exact RetB.mk (by rw [HXY.out]; rfl) (bel_drewN HBW.out _)
        · have HXY := Lib.hid hxy
          have hgeq : (!Op.bytesLess x.toList y.toList) = false := by rw [hxy]; rfl
          go_wp2_with fail
          go_quiet (fail)
          go_wp2_with fail
          go_round
          case rel =>
            refine ⟨j + 2, by omega, .inl (by omega), by go_num, bel_drewN HBW.out _, fun i a b hi ha hb => ?_⟩
            by_cases hij : i = j
            · subst hij
              rw [HJ0.out] at ha
              rw [HJ1.out] at hb
              cases ha; cases hb
              exact HXY.out
            · exact HM.out i a b (by omega) ha hb
          case measure => simp [intOf]; omega
    · have HR : Hid (risesB l = true) := Lib.hid (rises_end (by omega) HM.out)
      have hlen : l.length = l.length := rfl
      go_wp2_with fail
      go_ret
      exact RetB.mk (by rw [HR.out]; rfl) HBW.out

end Go.Proofs.YtldieadbkaphkaaGreatDoor

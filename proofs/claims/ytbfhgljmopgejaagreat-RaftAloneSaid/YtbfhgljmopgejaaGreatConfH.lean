/- conf.Has. -/
import Derived.Test.YtbfhgljmopgejaaGreatConfP
namespace Go.Proofs.YtbfhgljmopgejaaGreat
open Go.RowKit

section
variable (w : World) (a : Option Addr) (n cap : Nat) (l : List Int) (h : Sl intv w (.slice a n cap) l) (x : Int)
include h

theorem index_any : Calls Tryz.prog 54 #[.slice a n cap, .int .i64 x] w fun e w' => ∃ r : Int, (decide (0 ≤ r) = decide (x ∈ l)) ∧ e = .returned (.int .i64 r) ∧ w = w' := by
  have H := Lib.hid h
  obtain ⟨a', cap', he, h1, h2, h3⟩ := h
  cases he
  unfold maxLen at h2
  have HLC := Lib.hid h1
  have hlm : l.length ≤ 9223372036854775807 := by omega
  clear h1
  go_enter Tryz.func54, Tryz.ntmps54
  go_wp2
  go_loop [8] (fun i => ∃ k : Nat, k ≤ l.length ∧ i = .int .i64 k ∧ x ∉ l.take k) (fun i => l.length - (intOf i).toNat)
  case atStart => exact ⟨0, by omega, rfl, by simp⟩
  case round =>
    obtain ⟨k, hk, rfl, hm⟩ := hrel
    have HM := Lib.hid hm
    clear hm
    by_cases hlt : k < l.length
    · rcases h3 with ⟨rfl, rfl⟩ | ⟨b, o, rfl, hb, hc⟩
      · have := HLC.out; omega
      · have hk0 : l[k]? = some l[k] := List.getElem?_eq_getElem hlt
        have hcell : w.cell? ⟨b, o + k, none⟩ = some (.int .i64 l[k]) := hc k _ hk0
        have HTK := Lib.hid (show l.take (k + 1) = l.take k ++ [l[k]] by rw [List.take_succ_eq_append_getElem hlt])
        have HIN := Lib.hid (List.getElem_mem hlt)
        generalize l[k] = y at *
        clear hc hk0
        cases he : (x == y)
        · go_wp2
          go_round
          case rel => exact ⟨k + 1, by omega, by go_num, by rw [HTK.out, List.mem_append, not_or]; exact ⟨HM.out, by simpa using he⟩⟩
          case measure => simp [intOf]; omega
        · obtain rfl : x = y := by simpa using he
          clear he
          go_wp2
          go_ret
          exact ⟨_, by simp [HIN.out], rfl, rfl⟩
    · obtain rfl : k = l.length := by omega
      clear h3
      go_wp2
      go_ret
      have := HM.out
      rw [List.take_length] at this
      exact ⟨-1, by simp [this], rfl, rfl⟩

theorem contains_any : Calls Tryz.prog 37 #[.slice a n cap, .int .i64 x] w (Ret (.bool (decide (x ∈ l))) w) := by
  have hi := index_any w a n cap l h x
  clear h
  go_enter Tryz.func37, Tryz.ntmps37
  go_wp2_with fail
  refine hi.mono ?_
  rintro e w' ⟨r, hr, rfl, rfl⟩
  have HR := Lib.hid hr
  clear hr
  go_wp2_with fail
  go_ret
  exact Ret.mk (bool_eq HR.out)

theorem has_any : Calls Tryz.prog 23 #[.slice a n cap, .int .i64 x] w (Ret (.bool (decide (x ∈ l))) w) := by
  have hi := contains_any w a n cap l h x
  clear h
  go_enter Tryz.func23, Tryz.ntmps23
  go_wp2_with (go_at_call 37; refine hi.mono ?_; rintro e w' ⟨rfl, rfl⟩)
  go_ret
  exact Ret.mk rfl
end

theorem info_i64 : (Tryz.prog.info? 3).map (fun i => (i.zero, i.size, i.bytes)) = some (some (.int .i64 0), 1, 8) := by kernel_rfl

end Go.Proofs.YtbfhgljmopgejaaGreat

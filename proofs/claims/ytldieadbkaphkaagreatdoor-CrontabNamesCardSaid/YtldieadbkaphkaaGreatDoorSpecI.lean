/- Package spec: the names of a spec: Check's own function, slices.IndexFunc and ContainsFunc at it. -/
import Derived.Test.YtldieadbkaphkaaGreatDoorSpecW
namespace Go.Proofs.YtldieadbkaphkaaGreatDoor
open Go.RowKit

theorem check1_any (w : World) (s : ByteArray) (hm : s.size ≤ maxLen) : Calls Tryz.prog 47 #[.string s] w (RetB (.bool !(nameB s)) w) := by
  have h := name_any s w hm
  cases hn : nameB s <;> rw [hn] at h
  all_goals
    clear hm hn
    go_enter Tryz.func47, Tryz.ntmps47
    go_wp2_with fail
    refine h.mono ?_
    rintro en w1 ⟨rfl, hb⟩
    go_wp2_with fail
    go_ret
    exact RetB.mk rfl hb

set_option maxHeartbeats 4000000 in
theorem indexS_any (w : World) (a : Option Addr) (n cap : Nat) (l : List ByteArray) (h : Sl strv w (.slice a n cap) l) (hl : ∀ d ∈ l, d.size ≤ maxLen) :
    Calls Tryz.prog 60 #[.slice a n cap, .func (Fn.func 47) #[] #[]] w fun e w' => ∃ i : Int, e = .returned (.int .i64 i) ∧ Below w.heap.size w w' ∧ decide (0 ≤ i) = !(l.all nameB) := by
  obtain ⟨a', cap', he, h1, h2, h3⟩ := h
  cases he
  unfold maxLen at h2
  have HLC := Lib.hid h1
  have HL := Lib.hid hl
  have hlm : l.length ≤ 9223372036854775807 := by omega
  clear h1 hl
  go_enter Tryz.func60, Tryz.ntmps60
  go_wp2
  go_loopw [8] (fun i wr => ∃ k : Nat, k ≤ l.length ∧ i = .int .i64 k ∧ Below w.heap.size w wr ∧ (l.take k).all nameB = true) (fun i _ => l.length - (intOf i).toNat)
  case atStart => exact ⟨0, by omega, rfl, Below.refl _ _, by simp⟩
  case round =>
    obtain ⟨k, hk, rfl, hbw, hm⟩ := hrel
    have HM := Lib.hid hm
    have HBW := Lib.hid hbw
    clear hm
    by_cases hlt : k < l.length
    · rcases h3 with ⟨rfl, rfl⟩ | ⟨b, o, rfl, hb, hc⟩
      · have := HLC.out; omega
      · have hk0 : l[k]? = some l[k] := List.getElem?_eq_getElem hlt
        have hcell : wr.cell? ⟨b, o + k, none⟩ = some (.string l[k]) := (bcell hbw _ _ hb).trans (hc k _ hk0)
        have HTK := Lib.hid (show l.take (k + 1) = l.take k ++ [l[k]] by rw [List.take_succ_eq_append_getElem hlt])
        have hcy := check1_any wr l[k] (HL.out _ (List.getElem_mem hlt))
        have HALL : Hid (nameB l[k] = false → l.all nameB = false) := Lib.hid fun hf => by
          rw [List.all_eq_false]
          exact ⟨_, List.getElem_mem hlt, by simp [hf]⟩
        generalize l[k] = y at *
        clear hc hk0 hbw
        cases he : nameB y
        · rw [he] at hcy
          have hA := HALL.out he
          have HA := Lib.hid hA
          clear he HALL hA
          go_wp2_with (go_at_call 47; refine hcy.mono ?_; rintro e w1 ⟨rfl, hb1⟩)
          go_ret
          exact ⟨k, rfl, HBW.out.trans (hb1.mono HBW.out.size), by rw [HA.out]; simp⟩
        · rw [he] at hcy
          have HE := Lib.hid he
          clear he HALL
          go_wp2_with (go_at_call 47; refine hcy.mono ?_; rintro e w1 ⟨rfl, hb1⟩)
          go_round
          case rel => exact ⟨k + 1, by omega, by go_num, HBW.out.trans (hb1.mono HBW.out.size), by rw [HTK.out, List.all_append, HM.out]; simp [HE.out]⟩
          case measure => simp [intOf]; omega
    · go_wp2_with fail
      go_ret
      refine ⟨-1, rfl, HBW.out, ?_⟩
      have := HM.out
      rw [List.take_of_length_le (by omega)] at this
      rw [this]; rfl

theorem containsS_any (w : World) (a : Option Addr) (n cap : Nat) (l : List ByteArray) (h : Sl strv w (.slice a n cap) l) (hl : ∀ d ∈ l, d.size ≤ maxLen) :
    Calls Tryz.prog 48 #[.slice a n cap, .func (Fn.func 47) #[] #[]] w (RetB (.bool !(l.all nameB)) w) := by
  have hi := indexS_any w a n cap l h hl
  clear h hl
  go_enter Tryz.func48, Tryz.ntmps48
  go_wp2_with fail
  refine hi.mono ?_
  rintro en w1 ⟨i, rfl, hb, hd⟩
  have HD := Lib.hid hd
  have HB := Lib.hid hb
  clear hd hb
  generalize l.all nameB = q at *
  by_cases h0 : 0 ≤ i
  all_goals
    go_wp2_with fail
    go_ret
    exact RetB.mk (by rw [← HD.out]; simp [h0]) HB.out

end Go.Proofs.YtldieadbkaphkaaGreatDoor

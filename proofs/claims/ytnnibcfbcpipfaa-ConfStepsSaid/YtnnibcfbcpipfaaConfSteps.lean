/- The statement ConfSteps: its walk, case by case (printed by wip/tools/gen_confsteps.py). -/
import Derived.Test.YtnnibcfbcpipfaaConfT
import Derived.Test.YtnnibcfbcpipfaaConfPaths
namespace Go.Proofs.Ytnnibcfbcpipfaa
open Go.RowKit Go.Sort

theorem majority_at (w : World) (a : Option Addr) (n cap : Nat) (hn : n ≤ 9223372036854775800) : Calls Try.prog 18 #[.slice a n cap] w (Ret (.int .i64 ((n : Int) / 2 + 1)) w) := by
  have h := majority_any w a n cap hn
  have e : ((n / 2 + 1 : Nat) : Int) = (n : Int) / 2 + 1 := by omega
  rw [e] at h
  exact h

theorem step_cut_long {l : List Int} {x : Int} (h : membersB l = true) (hx : x ∈ l) (hl : l.length ≠ 1) : stepB l (cutL l x) = true := by
  obtain ⟨h0, _, h3⟩ := membersB_iff.1 h
  match l, h0, h3, hl with
  | [], h0, _, _ => exact absurd rfl h0
  | [z], _, _, hl => exact absurd rfl hl
  | z :: y :: r, _, h3, _ =>
    have hzy : z < y := (List.pairwise_cons.1 h3).1 y (by simp)
    by_cases e : z = x
    · exact step_cut h hx (y := y) (by simp) (by omega)
    · exact step_cut h hx (y := z) (by simp) e

theorem stepB_no {la lb : List Int} (h : membersB la = false ∨ membersB lb = false) : stepB la lb = false := by
  unfold stepB
  rcases h with h | h <;> rw [h] <;> simp

set_option maxRecDepth 100000 in
set_option maxHeartbeats 8000000 in
theorem steps_a1 (w : World) (a : Option Addr) (cap : Nat) (la : List Int) (ha : Sl intv w (.slice a la.length cap) la) (b : Option Addr) (dap : Nat) (lb : List Int) (hb : Sl intv w (.slice b lb.length dap) lb) (x : Int) (hla : la.length ≤ 20) (hlb : lb.length ≤ 20) (hm : membersB la = false) (p : Bool) (hp : decide (x ∈ la) = p) :
    Calls Try.prog 5 #[.slice a la.length cap, .slice b lb.length dap, .int .i64 x] w (RetB (.bool true) w) := by
  have HSA : Hid (∀ W, Below w.heap.size w W → Sl intv W (.slice a la.length cap) la) := Lib.hid fun W hW => ha.below hW ha.row_lt
  have HSB : Hid (∀ W, Below w.heap.size w W → Sl intv W (.slice b lb.length dap) lb) := Lib.hid fun W hW => hb.below hW hb.row_lt
  obtain ⟨i0, hi, hz0, hz1, hz2⟩ := info_parts info_i64
  clear ha hb
  have HM := Lib.hid hm
  have HP := Lib.hid hp
  clear hm hp
  have hpp : (p != p) = false := by cases p <;> rfl
  go_enter Try.func5, Try.ntmps5
  go_wp2_with fail
  refine (lives23 _).mono ?_
  rintro e w1 ⟨rfl, hb1⟩
  have hr1 := refRight_any w1 a la.length cap la (HSA.out _ hb1)
  have hr2 := right_any w1 a la.length cap la (HSA.out _ hb1)
  rw [HM.out] at hr1 hr2
  have HB1 := Lib.hid hb1
  clear hb1
  go_wp2_with fail
  refine hr1.mono ?_
  rintro e w' ⟨rfl, rfl⟩
  clear hr1
  go_wp2_with fail
  refine hr2.mono ?_
  rintro e w2 ⟨rfl, hb2⟩
  clear hr2
  have hbb := HB1.out.trans (hb2.mono HB1.out.size)
  have hh1 := has_any w2 a _ cap la (HSA.out _ hbb) x
  have hh2 := lawHas_any w2 a _ cap la (HSA.out _ hbb) x
  rw [HP.out] at hh1 hh2
  have HBB := Lib.hid hbb
  clear hb2 hbb
  go_wp2_with fail
  refine hh1.mono ?_
  rintro e w' ⟨rfl, rfl⟩
  clear hh1
  go_wp2_with fail
  refine hh2.mono ?_
  rintro e w' ⟨rfl, rfl⟩
  clear hh2
  go_wp2_with fail
  refine (majority_at w2 a _ cap (by omega)).mono ?_
  rintro e w' ⟨rfl, rfl⟩
  go_wp2_with fail
  go_loopw [8, 9, 10] (fun v u i wr => ∃ k : Nat, k ≤ 7 ∧ i = .int .i64 ((k : Int) + 1) ∧ Two 3 w2 wr v u (moreL la x k) (lessL la x k)) (fun _ _ i _ => 8 - (intOf i).toNat)
  case atStart => exact ⟨0, by omega, rfl, Two.nil _ _⟩
  case round =>
    obtain ⟨k, hk, rfl, hT⟩ := hrel
    have HT := Lib.hid hT
    have hbw := HBB.out.trans (hT.bel.mono HBB.out.size)
    clear hT
    by_cases hlk : k < 7
    · have hp := lawHas_of wr a cap la (HSA.out _ hbw) k _ rfl
      have hm1 := moreL_len la x k
      have hm2 := lessL_len la x k
      have HM0 := Lib.hid (show (moreL la x k).length + 1 ≤ maxLen by unfold maxLen; omega)
      have HM1 := Lib.hid (show ((moreL la x k).length + 1) * 8 ≤ 140737488355328 by omega)
      have HL0 := Lib.hid (show (lessL la x k).length + 1 ≤ maxLen by unfold maxLen; omega)
      have HL1 := Lib.hid (show ((lessL la x k).length + 1) * 8 ≤ 140737488355328 by omega)
      clear hm1 hm2 hbw
      cases hpp : decide (((k + 1 : Nat) : Int) ∈ la) <;> cases hq : ((k : Int) + 1 == x)
      · rw [hpp] at hp
        have hq2 : ((k : Int) + 1 != x) = true := by rw [bne, hq]; rfl
        have HQ := Lib.hid (show (((k + 1 : Nat) : Int) == x) = false from hq)
        have HMK := Lib.hid (moreL_no (a := la) (n := x) (k := k) (by rw [hpp, HQ.out]; rfl))
        have HLK := Lib.hid (lessL_no (a := la) (n := x) (k := k) (by rw [hpp, HQ.out]; rfl))
        have HPP := Lib.hid hpp
        clear hpp HQ
        go_wp2_with fail
        refine hp.mono ?_
        rintro e w' ⟨rfl, rfl⟩
        go_wp2_with fail
        refine hp.mono ?_
        rintro e w' ⟨rfl, rfl⟩
        clear hp
        go_wp2_with fail
        go_roundw
        case rel => exact ⟨k + 1, by omega, by go_num, by rw [HMK.out, HLK.out]; exact HT.out⟩
        case measure => simp [intOf]; omega
      · rw [hpp] at hp
        have hq2 : ((k : Int) + 1 != x) = false := by rw [bne, hq]; rfl
        have HQ := Lib.hid (show (((k + 1 : Nat) : Int) == x) = true from hq)
        have HMK := Lib.hid (moreL_yes (a := la) (n := x) (k := k) (by rw [hpp, HQ.out]; rfl))
        have HLK := Lib.hid (lessL_no (a := la) (n := x) (k := k) (by rw [hpp, HQ.out]; rfl))
        have HPP := Lib.hid hpp
        clear hpp HQ
        go_wp2_with fail
        refine hp.mono ?_
        rintro e w' ⟨rfl, rfl⟩
        go_wp2_with (at_builtin; refine wpList_append_one wr rfl _ _ _ rfl 3 i0 (.int .i64 0) 8 Try.underlying22 hi hz0 hz1 hz2 rfl u8 (moreL la x k).length ((moreL la x k).map intv) rfl HT.out.own1 (.int .i64 ((k : Int) + 1)) _ rfl rfl HM0.out HM1.out ?_; intro v3 w3 hown3 hg3 hrow3; have HT3 := Lib.hid (HT.out.push hown3 hg3 hrow3); clear hown3 hg3 hrow3)
        have hbw := HBB.out.trans (HT3.out.bel.mono HBB.out.size)
        have hp2 := lawHas_of w3 a cap la (HSA.out _ hbw) k _ rfl
        rw [HPP.out] at hp2
        clear hp hbw
        refine hp2.mono ?_
        rintro e w' ⟨rfl, rfl⟩
        clear hp2
        go_wp2_with fail
        go_roundw
        case rel => exact ⟨k + 1, by omega, by go_num, by rw [HMK.out, HLK.out]; exact HT3.out⟩
        case measure => simp [intOf]; omega
      · rw [hpp] at hp
        have hq2 : ((k : Int) + 1 != x) = true := by rw [bne, hq]; rfl
        have HQ := Lib.hid (show (((k + 1 : Nat) : Int) == x) = false from hq)
        have HMK := Lib.hid (moreL_yes (a := la) (n := x) (k := k) (by rw [hpp, HQ.out]; rfl))
        have HLK := Lib.hid (lessL_yes (a := la) (n := x) (k := k) (by rw [hpp, HQ.out]; rfl))
        have HPP := Lib.hid hpp
        clear hpp HQ
        go_wp2_with fail
        refine hp.mono ?_
        rintro e w' ⟨rfl, rfl⟩
        go_wp2_with (at_builtin; refine wpList_append_one wr rfl _ _ _ rfl 3 i0 (.int .i64 0) 8 Try.underlying22 hi hz0 hz1 hz2 rfl u8 (moreL la x k).length ((moreL la x k).map intv) rfl HT.out.own1 (.int .i64 ((k : Int) + 1)) _ rfl rfl HM0.out HM1.out ?_; intro v3 w3 hown3 hg3 hrow3; have HT3 := Lib.hid (HT.out.push hown3 hg3 hrow3); clear hown3 hg3 hrow3)
        have hbw := HBB.out.trans (HT3.out.bel.mono HBB.out.size)
        have hp2 := lawHas_of w3 a cap la (HSA.out _ hbw) k _ rfl
        rw [HPP.out] at hp2
        clear hp hbw
        refine hp2.mono ?_
        rintro e w' ⟨rfl, rfl⟩
        clear hp2
        go_wp2_with (at_builtin; refine wpList_append_one w3 rfl _ _ _ rfl 3 i0 (.int .i64 0) 8 Try.underlying22 hi hz0 hz1 hz2 rfl u9 (lessL la x k).length ((lessL la x k).map intv) rfl HT3.out.own2 (.int .i64 ((k : Int) + 1)) _ rfl rfl HL0.out HL1.out ?_; intro v4 w4 hown3 hg3 hrow3; have HT4 := Lib.hid (HT3.out.swap.push hown3 hg3 hrow3); clear hown3 hg3 hrow3)
        go_roundw
        case rel => exact ⟨k + 1, by omega, by go_num, by rw [HMK.out, HLK.out]; exact HT4.out.swap⟩
        case measure => simp [intOf]; omega
      · rw [hpp] at hp
        have hq2 : ((k : Int) + 1 != x) = false := by rw [bne, hq]; rfl
        have HQ := Lib.hid (show (((k + 1 : Nat) : Int) == x) = true from hq)
        have HMK := Lib.hid (moreL_yes (a := la) (n := x) (k := k) (by rw [hpp, HQ.out]; rfl))
        have HLK := Lib.hid (lessL_no (a := la) (n := x) (k := k) (by rw [hpp, HQ.out]; rfl))
        have HPP := Lib.hid hpp
        clear hpp HQ
        go_wp2_with fail
        refine hp.mono ?_
        rintro e w' ⟨rfl, rfl⟩
        go_wp2_with (at_builtin; refine wpList_append_one wr rfl _ _ _ rfl 3 i0 (.int .i64 0) 8 Try.underlying22 hi hz0 hz1 hz2 rfl u8 (moreL la x k).length ((moreL la x k).map intv) rfl HT.out.own1 (.int .i64 ((k : Int) + 1)) _ rfl rfl HM0.out HM1.out ?_; intro v3 w3 hown3 hg3 hrow3; have HT3 := Lib.hid (HT.out.push hown3 hg3 hrow3); clear hown3 hg3 hrow3)
        have hbw := HBB.out.trans (HT3.out.bel.mono HBB.out.size)
        have hp2 := lawHas_of w3 a cap la (HSA.out _ hbw) k _ rfl
        rw [HPP.out] at hp2
        clear hp hbw
        refine hp2.mono ?_
        rintro e w' ⟨rfl, rfl⟩
        clear hp2
        go_wp2_with fail
        go_roundw
        case rel => exact ⟨k + 1, by omega, by go_num, by rw [HMK.out, HLK.out]; exact HT3.out⟩
        case measure => simp [intOf]; omega
    · have hk7 : k = 7 := by omega
      have HK7 := Lib.hid hk7
      clear hk7
      obtain ⟨adm, cpm, rfl, _⟩ := owns_sl HT.out.own1
      obtain ⟨adl, cpl, rfl, _⟩ := owns_sl HT.out.own2
      have hsm := owns_sl HT.out.own1
      have hsl := owns_sl HT.out.own2
      have hml := moreL_len la x k
      have hll := lessL_len la x k
      have HSM : Hid (∀ W, Below wr.heap.size wr W → Sl intv W (.slice adm (moreL la x k).length cpm) (moreL la x k)) := Lib.hid fun W hW => hsm.below hW hsm.row_lt
      have HSL : Hid (∀ W, Below wr.heap.size wr W → Sl intv W (.slice adl (lessL la x k).length cpl) (lessL la x k)) := Lib.hid fun W hW => hsl.below hW hsl.row_lt
      clear hsm hsl HT
      have HBW := Lib.hid hbw
      clear hbw
      have hadd := add_arg wr a _ cap la (HSA.out _ HBW.out) x (.inl HM.out)
      go_wp2_with fail
      refine hadd.mono ?_
      clear hadd
      rintro e w5 ⟨rfl, hb5⟩
      have hbw5 := HBW.out.trans (hb5.mono HBW.out.size)
      have HB5 := Lib.hid hb5
      clear hb5
      have hcut := cut_arg w5 a _ cap la (HSA.out _ hbw5) x (.inl HM.out)
      have HBW5 := Lib.hid hbw5
      clear hbw5
      go_wp2_with fail
      refine hcut.mono ?_
      clear hcut
      rintro e w6 ⟨rfl, hb6⟩
      have hb56 := HB5.out.trans (hb6.mono HB5.out.size)
      have HB56 := Lib.hid hb56
      have HBW6 := Lib.hid (HBW.out.trans (hb56.mono HBW.out.size))
      have HB6 := Lib.hid hb6
      clear hb6 hb56
      go_wp2_with fail
      have HBL := HBW6
      clear HBW6
      go_loop [15, 16] (fun un i => ∃ k : Nat, k ≤ 7 ∧ i = .int .i64 ((k : Int) + 1) ∧ un = .int .i64 (unl la lb k)) (fun _ i => 8 - (intOf i).toNat)
      case atStart => exact ⟨0, by omega, rfl, rfl⟩
      case round =>
        obtain ⟨q, hq, rfl, rfl⟩ := hrel
        have hun := unl_le la lb q
        have hbl := HBL.out
        by_cases hlq : q < 7
        · have hp1 := lawHas_of w6 a cap la (HSA.out _ hbl) q _ rfl
          have hp2 := lawHas_of w6 b dap lb (HSB.out _ hbl) q _ rfl
          clear hbl
          cases hv1 : decide (((q + 1 : Nat) : Int) ∈ la) <;> cases hv2 : decide (((q + 1 : Nat) : Int) ∈ lb)
          all_goals
            rw [hv1] at hp1
            rw [hv2] at hp2
            have HU := Lib.hid (show unl la lb (q + 1) = unl la lb q + _ by simp only [unl, hv1, hv2]; rfl)
            clear hv1 hv2
            go_wp2_with fail
            refine hp1.mono ?_
            rintro e w' ⟨rfl, rfl⟩
            clear hp1
            go_wp2_with fail
            refine hp2.mono ?_
            rintro e w' ⟨rfl, rfl⟩
            clear hp2
            go_wp2_with fail
            go_round
            case rel => exact ⟨q + 1, by omega, by go_num, by rw [HU.out]; first | rfl | (simp; done) | go_num⟩
            case measure => simp [intOf]; omega
        · have hq7 : q = 7 := by omega
          have HSTE := Lib.hid (show stepB la lb = (membersB la && (membersB lb && ((unl la lb q : Int) == 1))) by
            rw [hq7]
            cases h1 : membersB la
            · rw [stepB_no (.inl h1)]; rfl
            · cases h2 : membersB lb
              · rw [stepB_no (.inr h2)]; rfl
              · rw [stepB_unl h1 h2]; rfl)
          have hst := step_any w6 a _ cap la (HSA.out _ hbl) b _ dap lb (HSB.out _ hbl)
          have hrb := fun (W : World) (hW : Below w.heap.size w W) => refRight_any W b lb.length dap lb (HSB.out _ hW)
          rw [HSTE.out, HM.out] at hst
          clear hbl hq7
          have HRB := Lib.hid hrb
          clear hrb
          generalize unl la lb q = u at *
          cases hmb : membersB lb <;> cases hu : ((u : Int) == 1)
          all_goals
            rw [hmb, hu] at hst
            have hrb := HRB.out
            rw [hmb] at hrb
            have HRB2 := Lib.hid hrb
            clear hmb hrb
            go_wp2_with fail
            refine hst.mono ?_
            rintro e w9 ⟨rfl, hb9⟩
            have hbl9 := HBL.out.trans (hb9.mono HBL.out.size)
            clear hst
            go_wp2_with fail
            go_ret
            exact RetB.mk rfl hbl9

set_option maxRecDepth 100000 in
set_option maxHeartbeats 8000000 in
theorem steps_a2 (w : World) (a : Option Addr) (cap : Nat) (la : List Int) (ha : Sl intv w (.slice a la.length cap) la) (b : Option Addr) (dap : Nat) (lb : List Int) (hb : Sl intv w (.slice b lb.length dap) lb) (x : Int) (hla : la.length ≤ 20) (hlb : lb.length ≤ 20) (hm : membersB la = true) (hx : x < 1 ∨ (1 ≤ x ∧ 7 < x)) (p : Bool) (hp : decide (x ∈ la) = p) :
    Calls Try.prog 5 #[.slice a la.length cap, .slice b lb.length dap, .int .i64 x] w (RetB (.bool true) w) := by
  have HSA : Hid (∀ W, Below w.heap.size w W → Sl intv W (.slice a la.length cap) la) := Lib.hid fun W hW => ha.below hW ha.row_lt
  have HSB : Hid (∀ W, Below w.heap.size w W → Sl intv W (.slice b lb.length dap) lb) := Lib.hid fun W hW => hb.below hW hb.row_lt
  obtain ⟨i0, hi, hz0, hz1, hz2⟩ := info_parts info_i64
  clear ha hb
  have HM := Lib.hid hm
  have HP := Lib.hid hp
  have HX := Lib.hid (show ¬ (1 ≤ x ∧ x ≤ 7) by omega)
  clear hm hp
  have hpp : (p != p) = false := by cases p <;> rfl
  rcases hx with hx | ⟨hx, hx7⟩
  all_goals
    go_enter Try.func5, Try.ntmps5
    go_wp2_with fail
    refine (lives23 _).mono ?_
    rintro e w1 ⟨rfl, hb1⟩
    have hr1 := refRight_any w1 a la.length cap la (HSA.out _ hb1)
    have hr2 := right_any w1 a la.length cap la (HSA.out _ hb1)
    rw [HM.out] at hr1 hr2
    have HB1 := Lib.hid hb1
    clear hb1
    go_wp2_with fail
    refine hr1.mono ?_
    rintro e w' ⟨rfl, rfl⟩
    clear hr1
    go_wp2_with fail
    refine hr2.mono ?_
    rintro e w2 ⟨rfl, hb2⟩
    clear hr2
    have hbb := HB1.out.trans (hb2.mono HB1.out.size)
    have hh1 := has_any w2 a _ cap la (HSA.out _ hbb) x
    have hh2 := lawHas_any w2 a _ cap la (HSA.out _ hbb) x
    rw [HP.out] at hh1 hh2
    have HBB := Lib.hid hbb
    clear hb2 hbb
    go_wp2_with fail
    refine hh1.mono ?_
    rintro e w' ⟨rfl, rfl⟩
    clear hh1
    go_wp2_with fail
    refine hh2.mono ?_
    rintro e w' ⟨rfl, rfl⟩
    clear hh2
    go_wp2_with fail
    refine (majority_at w2 a _ cap (by omega)).mono ?_
    rintro e w' ⟨rfl, rfl⟩
    go_wp2_with fail
    go_loopw [8, 9, 10] (fun v u i wr => ∃ k : Nat, k ≤ 7 ∧ i = .int .i64 ((k : Int) + 1) ∧ Two 3 w2 wr v u (moreL la x k) (lessL la x k)) (fun _ _ i _ => 8 - (intOf i).toNat)
    case atStart => exact ⟨0, by omega, rfl, Two.nil _ _⟩
    case round =>
      obtain ⟨k, hk, rfl, hT⟩ := hrel
      have HT := Lib.hid hT
      have hbw := HBB.out.trans (hT.bel.mono HBB.out.size)
      clear hT
      by_cases hlk : k < 7
      · have hp := lawHas_of wr a cap la (HSA.out _ hbw) k _ rfl
        have hm1 := moreL_len la x k
        have hm2 := lessL_len la x k
        have HM0 := Lib.hid (show (moreL la x k).length + 1 ≤ maxLen by unfold maxLen; omega)
        have HM1 := Lib.hid (show ((moreL la x k).length + 1) * 8 ≤ 140737488355328 by omega)
        have HL0 := Lib.hid (show (lessL la x k).length + 1 ≤ maxLen by unfold maxLen; omega)
        have HL1 := Lib.hid (show ((lessL la x k).length + 1) * 8 ≤ 140737488355328 by omega)
        clear hm1 hm2 hbw
        cases hpp : decide (((k + 1 : Nat) : Int) ∈ la) <;> cases hq : ((k : Int) + 1 == x)
        · rw [hpp] at hp
          have hq2 : ((k : Int) + 1 != x) = true := by rw [bne, hq]; rfl
          have HQ := Lib.hid (show (((k + 1 : Nat) : Int) == x) = false from hq)
          have HMK := Lib.hid (moreL_no (a := la) (n := x) (k := k) (by rw [hpp, HQ.out]; rfl))
          have HLK := Lib.hid (lessL_no (a := la) (n := x) (k := k) (by rw [hpp, HQ.out]; rfl))
          have HPP := Lib.hid hpp
          clear hpp HQ
          go_wp2_with fail
          refine hp.mono ?_
          rintro e w' ⟨rfl, rfl⟩
          go_wp2_with fail
          refine hp.mono ?_
          rintro e w' ⟨rfl, rfl⟩
          clear hp
          go_wp2_with fail
          go_roundw
          case rel => exact ⟨k + 1, by omega, by go_num, by rw [HMK.out, HLK.out]; exact HT.out⟩
          case measure => simp [intOf]; omega
        · rw [hpp] at hp
          have hq2 : ((k : Int) + 1 != x) = false := by rw [bne, hq]; rfl
          have HQ := Lib.hid (show (((k + 1 : Nat) : Int) == x) = true from hq)
          have HMK := Lib.hid (moreL_yes (a := la) (n := x) (k := k) (by rw [hpp, HQ.out]; rfl))
          have HLK := Lib.hid (lessL_no (a := la) (n := x) (k := k) (by rw [hpp, HQ.out]; rfl))
          have HPP := Lib.hid hpp
          clear hpp HQ
          go_wp2_with fail
          refine hp.mono ?_
          rintro e w' ⟨rfl, rfl⟩
          go_wp2_with (at_builtin; refine wpList_append_one wr rfl _ _ _ rfl 3 i0 (.int .i64 0) 8 Try.underlying22 hi hz0 hz1 hz2 rfl u8 (moreL la x k).length ((moreL la x k).map intv) rfl HT.out.own1 (.int .i64 ((k : Int) + 1)) _ rfl rfl HM0.out HM1.out ?_; intro v3 w3 hown3 hg3 hrow3; have HT3 := Lib.hid (HT.out.push hown3 hg3 hrow3); clear hown3 hg3 hrow3)
          have hbw := HBB.out.trans (HT3.out.bel.mono HBB.out.size)
          have hp2 := lawHas_of w3 a cap la (HSA.out _ hbw) k _ rfl
          rw [HPP.out] at hp2
          clear hp hbw
          refine hp2.mono ?_
          rintro e w' ⟨rfl, rfl⟩
          clear hp2
          go_wp2_with fail
          go_roundw
          case rel => exact ⟨k + 1, by omega, by go_num, by rw [HMK.out, HLK.out]; exact HT3.out⟩
          case measure => simp [intOf]; omega
        · rw [hpp] at hp
          have hq2 : ((k : Int) + 1 != x) = true := by rw [bne, hq]; rfl
          have HQ := Lib.hid (show (((k + 1 : Nat) : Int) == x) = false from hq)
          have HMK := Lib.hid (moreL_yes (a := la) (n := x) (k := k) (by rw [hpp, HQ.out]; rfl))
          have HLK := Lib.hid (lessL_yes (a := la) (n := x) (k := k) (by rw [hpp, HQ.out]; rfl))
          have HPP := Lib.hid hpp
          clear hpp HQ
          go_wp2_with fail
          refine hp.mono ?_
          rintro e w' ⟨rfl, rfl⟩
          go_wp2_with (at_builtin; refine wpList_append_one wr rfl _ _ _ rfl 3 i0 (.int .i64 0) 8 Try.underlying22 hi hz0 hz1 hz2 rfl u8 (moreL la x k).length ((moreL la x k).map intv) rfl HT.out.own1 (.int .i64 ((k : Int) + 1)) _ rfl rfl HM0.out HM1.out ?_; intro v3 w3 hown3 hg3 hrow3; have HT3 := Lib.hid (HT.out.push hown3 hg3 hrow3); clear hown3 hg3 hrow3)
          have hbw := HBB.out.trans (HT3.out.bel.mono HBB.out.size)
          have hp2 := lawHas_of w3 a cap la (HSA.out _ hbw) k _ rfl
          rw [HPP.out] at hp2
          clear hp hbw
          refine hp2.mono ?_
          rintro e w' ⟨rfl, rfl⟩
          clear hp2
          go_wp2_with (at_builtin; refine wpList_append_one w3 rfl _ _ _ rfl 3 i0 (.int .i64 0) 8 Try.underlying22 hi hz0 hz1 hz2 rfl u9 (lessL la x k).length ((lessL la x k).map intv) rfl HT3.out.own2 (.int .i64 ((k : Int) + 1)) _ rfl rfl HL0.out HL1.out ?_; intro v4 w4 hown3 hg3 hrow3; have HT4 := Lib.hid (HT3.out.swap.push hown3 hg3 hrow3); clear hown3 hg3 hrow3)
          go_roundw
          case rel => exact ⟨k + 1, by omega, by go_num, by rw [HMK.out, HLK.out]; exact HT4.out.swap⟩
          case measure => simp [intOf]; omega
        · rw [hpp] at hp
          have hq2 : ((k : Int) + 1 != x) = false := by rw [bne, hq]; rfl
          have HQ := Lib.hid (show (((k + 1 : Nat) : Int) == x) = true from hq)
          have HMK := Lib.hid (moreL_yes (a := la) (n := x) (k := k) (by rw [hpp, HQ.out]; rfl))
          have HLK := Lib.hid (lessL_no (a := la) (n := x) (k := k) (by rw [hpp, HQ.out]; rfl))
          have HPP := Lib.hid hpp
          clear hpp HQ
          go_wp2_with fail
          refine hp.mono ?_
          rintro e w' ⟨rfl, rfl⟩
          go_wp2_with (at_builtin; refine wpList_append_one wr rfl _ _ _ rfl 3 i0 (.int .i64 0) 8 Try.underlying22 hi hz0 hz1 hz2 rfl u8 (moreL la x k).length ((moreL la x k).map intv) rfl HT.out.own1 (.int .i64 ((k : Int) + 1)) _ rfl rfl HM0.out HM1.out ?_; intro v3 w3 hown3 hg3 hrow3; have HT3 := Lib.hid (HT.out.push hown3 hg3 hrow3); clear hown3 hg3 hrow3)
          have hbw := HBB.out.trans (HT3.out.bel.mono HBB.out.size)
          have hp2 := lawHas_of w3 a cap la (HSA.out _ hbw) k _ rfl
          rw [HPP.out] at hp2
          clear hp hbw
          refine hp2.mono ?_
          rintro e w' ⟨rfl, rfl⟩
          clear hp2
          go_wp2_with fail
          go_roundw
          case rel => exact ⟨k + 1, by omega, by go_num, by rw [HMK.out, HLK.out]; exact HT3.out⟩
          case measure => simp [intOf]; omega
      · have hk7 : k = 7 := by omega
        have HK7 := Lib.hid hk7
        clear hk7
        obtain ⟨adm, cpm, rfl, _⟩ := owns_sl HT.out.own1
        obtain ⟨adl, cpl, rfl, _⟩ := owns_sl HT.out.own2
        have hsm := owns_sl HT.out.own1
        have hsl := owns_sl HT.out.own2
        have hml := moreL_len la x k
        have hll := lessL_len la x k
        have HSM : Hid (∀ W, Below wr.heap.size wr W → Sl intv W (.slice adm (moreL la x k).length cpm) (moreL la x k)) := Lib.hid fun W hW => hsm.below hW hsm.row_lt
        have HSL : Hid (∀ W, Below wr.heap.size wr W → Sl intv W (.slice adl (lessL la x k).length cpl) (lessL la x k)) := Lib.hid fun W hW => hsl.below hW hsl.row_lt
        clear hsm hsl HT
        have HBW := Lib.hid hbw
        clear hbw
        have hadd := add_arg wr a _ cap la (HSA.out _ HBW.out) x (.inr ⟨HM.out, HX.out⟩)
        go_wp2_with fail
        refine hadd.mono ?_
        clear hadd
        rintro e w5 ⟨rfl, hb5⟩
        have hbw5 := HBW.out.trans (hb5.mono HBW.out.size)
        have HB5 := Lib.hid hb5
        clear hb5
        have hcut := cut_arg w5 a _ cap la (HSA.out _ hbw5) x (.inr ⟨HM.out, HX.out⟩)
        have HBW5 := Lib.hid hbw5
        clear hbw5
        go_wp2_with fail
        refine hcut.mono ?_
        clear hcut
        rintro e w6 ⟨rfl, hb6⟩
        have hb56 := HB5.out.trans (hb6.mono HB5.out.size)
        have HB56 := Lib.hid hb56
        have HBW6 := Lib.hid (HBW.out.trans (hb56.mono HBW.out.size))
        have HB6 := Lib.hid hb6
        clear hb6 hb56
        go_wp2_with fail
        have HBL := HBW6
        clear HBW6
        go_loop [15, 16] (fun un i => ∃ k : Nat, k ≤ 7 ∧ i = .int .i64 ((k : Int) + 1) ∧ un = .int .i64 (unl la lb k)) (fun _ i => 8 - (intOf i).toNat)
        case atStart => exact ⟨0, by omega, rfl, rfl⟩
        case round =>
          obtain ⟨q, hq, rfl, rfl⟩ := hrel
          have hun := unl_le la lb q
          have hbl := HBL.out
          by_cases hlq : q < 7
          · have hp1 := lawHas_of w6 a cap la (HSA.out _ hbl) q _ rfl
            have hp2 := lawHas_of w6 b dap lb (HSB.out _ hbl) q _ rfl
            clear hbl
            cases hv1 : decide (((q + 1 : Nat) : Int) ∈ la) <;> cases hv2 : decide (((q + 1 : Nat) : Int) ∈ lb)
            all_goals
              rw [hv1] at hp1
              rw [hv2] at hp2
              have HU := Lib.hid (show unl la lb (q + 1) = unl la lb q + _ by simp only [unl, hv1, hv2]; rfl)
              clear hv1 hv2
              go_wp2_with fail
              refine hp1.mono ?_
              rintro e w' ⟨rfl, rfl⟩
              clear hp1
              go_wp2_with fail
              refine hp2.mono ?_
              rintro e w' ⟨rfl, rfl⟩
              clear hp2
              go_wp2_with fail
              go_round
              case rel => exact ⟨q + 1, by omega, by go_num, by rw [HU.out]; first | rfl | (simp; done) | go_num⟩
              case measure => simp [intOf]; omega
          · have hq7 : q = 7 := by omega
            have HSTE := Lib.hid (show stepB la lb = (membersB la && (membersB lb && ((unl la lb q : Int) == 1))) by
              rw [hq7]
              cases h1 : membersB la
              · rw [stepB_no (.inl h1)]; rfl
              · cases h2 : membersB lb
                · rw [stepB_no (.inr h2)]; rfl
                · rw [stepB_unl h1 h2]; rfl)
            have hst := step_any w6 a _ cap la (HSA.out _ hbl) b _ dap lb (HSB.out _ hbl)
            have hrb := fun (W : World) (hW : Below w.heap.size w W) => refRight_any W b lb.length dap lb (HSB.out _ hW)
            rw [HSTE.out, HM.out] at hst
            clear hbl hq7
            have HRB := Lib.hid hrb
            clear hrb
            generalize unl la lb q = u at *
            cases hmb : membersB lb <;> cases hu : ((u : Int) == 1)
            all_goals
              rw [hmb, hu] at hst
              have hrb := HRB.out
              rw [hmb] at hrb
              have HRB2 := Lib.hid hrb
              clear hmb hrb
              go_wp2_with fail
              refine hst.mono ?_
              rintro e w9 ⟨rfl, hb9⟩
              have hbl9 := HBL.out.trans (hb9.mono HBL.out.size)
              clear hst
              have hrb := HRB2.out _ hbl9
              go_wp2_with fail
              refine hrb.mono ?_
              rintro e w' ⟨rfl, rfl⟩
              clear hrb
              go_wp2_with fail
              go_ret
              exact RetB.mk rfl hbl9

set_option maxRecDepth 100000 in
set_option maxHeartbeats 8000000 in
theorem steps_b (w : World) (a : Option Addr) (cap : Nat) (la : List Int) (ha : Sl intv w (.slice a la.length cap) la) (b : Option Addr) (dap : Nat) (lb : List Int) (hb : Sl intv w (.slice b lb.length dap) lb) (x : Int) (hla : la.length ≤ 20) (hlb : lb.length ≤ 20) (hm : membersB la = true) (hx1 : 1 ≤ x) (hx7 : x ≤ 7) (hin : x ∈ la) (hl1 : la.length = 1) :
    Calls Try.prog 5 #[.slice a la.length cap, .slice b lb.length dap, .int .i64 x] w (RetB (.bool true) w) := by
  have HSA : Hid (∀ W, Below w.heap.size w W → Sl intv W (.slice a la.length cap) la) := Lib.hid fun W hW => ha.below hW ha.row_lt
  have HSB : Hid (∀ W, Below w.heap.size w W → Sl intv W (.slice b lb.length dap) lb) := Lib.hid fun W hW => hb.below hW hb.row_lt
  obtain ⟨i0, hi, hz0, hz1, hz2⟩ := info_parts info_i64
  clear ha hb
  have HM := Lib.hid hm
  have HP := Lib.hid (show decide (x ∈ la) = true by simpa using hin)
  have HIN := Lib.hid hin
  have HL1 := Lib.hid hl1
  have f1 : ((la.length : Int) == 1) = true := by rw [beq_iff_eq]; omega
  have f2 : la.length ≤ 1 := by omega
  clear hm hin hl1
  go_enter Try.func5, Try.ntmps5
  go_wp2_with fail
  refine (lives23 _).mono ?_
  rintro e w1 ⟨rfl, hb1⟩
  have hr1 := refRight_any w1 a la.length cap la (HSA.out _ hb1)
  have hr2 := right_any w1 a la.length cap la (HSA.out _ hb1)
  rw [HM.out] at hr1 hr2
  have HB1 := Lib.hid hb1
  clear hb1
  go_wp2_with fail
  refine hr1.mono ?_
  rintro e w' ⟨rfl, rfl⟩
  clear hr1
  go_wp2_with fail
  refine hr2.mono ?_
  rintro e w2 ⟨rfl, hb2⟩
  clear hr2
  have hbb := HB1.out.trans (hb2.mono HB1.out.size)
  have hh1 := has_any w2 a _ cap la (HSA.out _ hbb) x
  have hh2 := lawHas_any w2 a _ cap la (HSA.out _ hbb) x
  rw [HP.out] at hh1 hh2
  have HBB := Lib.hid hbb
  clear hb2 hbb
  go_wp2_with fail
  refine hh1.mono ?_
  rintro e w' ⟨rfl, rfl⟩
  clear hh1
  go_wp2_with fail
  refine hh2.mono ?_
  rintro e w' ⟨rfl, rfl⟩
  clear hh2
  go_wp2_with fail
  refine (majority_at w2 a _ cap (by omega)).mono ?_
  rintro e w' ⟨rfl, rfl⟩
  go_wp2_with fail
  go_loopw [8, 9, 10] (fun v u i wr => ∃ k : Nat, k ≤ 7 ∧ i = .int .i64 ((k : Int) + 1) ∧ Two 3 w2 wr v u (moreL la x k) (lessL la x k)) (fun _ _ i _ => 8 - (intOf i).toNat)
  case atStart => exact ⟨0, by omega, rfl, Two.nil _ _⟩
  case round =>
    obtain ⟨k, hk, rfl, hT⟩ := hrel
    have HT := Lib.hid hT
    have hbw := HBB.out.trans (hT.bel.mono HBB.out.size)
    clear hT
    by_cases hlk : k < 7
    · have hp := lawHas_of wr a cap la (HSA.out _ hbw) k _ rfl
      have hm1 := moreL_len la x k
      have hm2 := lessL_len la x k
      have HM0 := Lib.hid (show (moreL la x k).length + 1 ≤ maxLen by unfold maxLen; omega)
      have HM1 := Lib.hid (show ((moreL la x k).length + 1) * 8 ≤ 140737488355328 by omega)
      have HL0 := Lib.hid (show (lessL la x k).length + 1 ≤ maxLen by unfold maxLen; omega)
      have HL1 := Lib.hid (show ((lessL la x k).length + 1) * 8 ≤ 140737488355328 by omega)
      clear hm1 hm2 hbw
      cases hpp : decide (((k + 1 : Nat) : Int) ∈ la) <;> cases hq : ((k : Int) + 1 == x)
      · rw [hpp] at hp
        have hq2 : ((k : Int) + 1 != x) = true := by rw [bne, hq]; rfl
        have HQ := Lib.hid (show (((k + 1 : Nat) : Int) == x) = false from hq)
        have HMK := Lib.hid (moreL_no (a := la) (n := x) (k := k) (by rw [hpp, HQ.out]; rfl))
        have HLK := Lib.hid (lessL_no (a := la) (n := x) (k := k) (by rw [hpp, HQ.out]; rfl))
        have HPP := Lib.hid hpp
        clear hpp HQ
        go_wp2_with fail
        refine hp.mono ?_
        rintro e w' ⟨rfl, rfl⟩
        go_wp2_with fail
        refine hp.mono ?_
        rintro e w' ⟨rfl, rfl⟩
        clear hp
        go_wp2_with fail
        go_roundw
        case rel => exact ⟨k + 1, by omega, by go_num, by rw [HMK.out, HLK.out]; exact HT.out⟩
        case measure => simp [intOf]; omega
      · rw [hpp] at hp
        have hq2 : ((k : Int) + 1 != x) = false := by rw [bne, hq]; rfl
        have HQ := Lib.hid (show (((k + 1 : Nat) : Int) == x) = true from hq)
        have HMK := Lib.hid (moreL_yes (a := la) (n := x) (k := k) (by rw [hpp, HQ.out]; rfl))
        have HLK := Lib.hid (lessL_no (a := la) (n := x) (k := k) (by rw [hpp, HQ.out]; rfl))
        have HPP := Lib.hid hpp
        clear hpp HQ
        go_wp2_with fail
        refine hp.mono ?_
        rintro e w' ⟨rfl, rfl⟩
        go_wp2_with (at_builtin; refine wpList_append_one wr rfl _ _ _ rfl 3 i0 (.int .i64 0) 8 Try.underlying22 hi hz0 hz1 hz2 rfl u8 (moreL la x k).length ((moreL la x k).map intv) rfl HT.out.own1 (.int .i64 ((k : Int) + 1)) _ rfl rfl HM0.out HM1.out ?_; intro v3 w3 hown3 hg3 hrow3; have HT3 := Lib.hid (HT.out.push hown3 hg3 hrow3); clear hown3 hg3 hrow3)
        have hbw := HBB.out.trans (HT3.out.bel.mono HBB.out.size)
        have hp2 := lawHas_of w3 a cap la (HSA.out _ hbw) k _ rfl
        rw [HPP.out] at hp2
        clear hp hbw
        refine hp2.mono ?_
        rintro e w' ⟨rfl, rfl⟩
        clear hp2
        go_wp2_with fail
        go_roundw
        case rel => exact ⟨k + 1, by omega, by go_num, by rw [HMK.out, HLK.out]; exact HT3.out⟩
        case measure => simp [intOf]; omega
      · rw [hpp] at hp
        have hq2 : ((k : Int) + 1 != x) = true := by rw [bne, hq]; rfl
        have HQ := Lib.hid (show (((k + 1 : Nat) : Int) == x) = false from hq)
        have HMK := Lib.hid (moreL_yes (a := la) (n := x) (k := k) (by rw [hpp, HQ.out]; rfl))
        have HLK := Lib.hid (lessL_yes (a := la) (n := x) (k := k) (by rw [hpp, HQ.out]; rfl))
        have HPP := Lib.hid hpp
        clear hpp HQ
        go_wp2_with fail
        refine hp.mono ?_
        rintro e w' ⟨rfl, rfl⟩
        go_wp2_with (at_builtin; refine wpList_append_one wr rfl _ _ _ rfl 3 i0 (.int .i64 0) 8 Try.underlying22 hi hz0 hz1 hz2 rfl u8 (moreL la x k).length ((moreL la x k).map intv) rfl HT.out.own1 (.int .i64 ((k : Int) + 1)) _ rfl rfl HM0.out HM1.out ?_; intro v3 w3 hown3 hg3 hrow3; have HT3 := Lib.hid (HT.out.push hown3 hg3 hrow3); clear hown3 hg3 hrow3)
        have hbw := HBB.out.trans (HT3.out.bel.mono HBB.out.size)
        have hp2 := lawHas_of w3 a cap la (HSA.out _ hbw) k _ rfl
        rw [HPP.out] at hp2
        clear hp hbw
        refine hp2.mono ?_
        rintro e w' ⟨rfl, rfl⟩
        clear hp2
        go_wp2_with (at_builtin; refine wpList_append_one w3 rfl _ _ _ rfl 3 i0 (.int .i64 0) 8 Try.underlying22 hi hz0 hz1 hz2 rfl u9 (lessL la x k).length ((lessL la x k).map intv) rfl HT3.out.own2 (.int .i64 ((k : Int) + 1)) _ rfl rfl HL0.out HL1.out ?_; intro v4 w4 hown3 hg3 hrow3; have HT4 := Lib.hid (HT3.out.swap.push hown3 hg3 hrow3); clear hown3 hg3 hrow3)
        go_roundw
        case rel => exact ⟨k + 1, by omega, by go_num, by rw [HMK.out, HLK.out]; exact HT4.out.swap⟩
        case measure => simp [intOf]; omega
      · rw [hpp] at hp
        have hq2 : ((k : Int) + 1 != x) = false := by rw [bne, hq]; rfl
        have HQ := Lib.hid (show (((k + 1 : Nat) : Int) == x) = true from hq)
        have HMK := Lib.hid (moreL_yes (a := la) (n := x) (k := k) (by rw [hpp, HQ.out]; rfl))
        have HLK := Lib.hid (lessL_no (a := la) (n := x) (k := k) (by rw [hpp, HQ.out]; rfl))
        have HPP := Lib.hid hpp
        clear hpp HQ
        go_wp2_with fail
        refine hp.mono ?_
        rintro e w' ⟨rfl, rfl⟩
        go_wp2_with (at_builtin; refine wpList_append_one wr rfl _ _ _ rfl 3 i0 (.int .i64 0) 8 Try.underlying22 hi hz0 hz1 hz2 rfl u8 (moreL la x k).length ((moreL la x k).map intv) rfl HT.out.own1 (.int .i64 ((k : Int) + 1)) _ rfl rfl HM0.out HM1.out ?_; intro v3 w3 hown3 hg3 hrow3; have HT3 := Lib.hid (HT.out.push hown3 hg3 hrow3); clear hown3 hg3 hrow3)
        have hbw := HBB.out.trans (HT3.out.bel.mono HBB.out.size)
        have hp2 := lawHas_of w3 a cap la (HSA.out _ hbw) k _ rfl
        rw [HPP.out] at hp2
        clear hp hbw
        refine hp2.mono ?_
        rintro e w' ⟨rfl, rfl⟩
        clear hp2
        go_wp2_with fail
        go_roundw
        case rel => exact ⟨k + 1, by omega, by go_num, by rw [HMK.out, HLK.out]; exact HT3.out⟩
        case measure => simp [intOf]; omega
    · have hk7 : k = 7 := by omega
      have HK7 := Lib.hid hk7
      clear hk7
      obtain ⟨adm, cpm, rfl, _⟩ := owns_sl HT.out.own1
      obtain ⟨adl, cpl, rfl, _⟩ := owns_sl HT.out.own2
      have hsm := owns_sl HT.out.own1
      have hsl := owns_sl HT.out.own2
      have hml := moreL_len la x k
      have hll := lessL_len la x k
      have HSM : Hid (∀ W, Below wr.heap.size wr W → Sl intv W (.slice adm (moreL la x k).length cpm) (moreL la x k)) := Lib.hid fun W hW => hsm.below hW hsm.row_lt
      have HSL : Hid (∀ W, Below wr.heap.size wr W → Sl intv W (.slice adl (lessL la x k).length cpl) (lessL la x k)) := Lib.hid fun W hW => hsl.below hW hsl.row_lt
      clear hsm hsl HT
      have HBW := Lib.hid hbw
      clear hbw
      have hadd := add_same wr a _ cap la (HSA.out _ HBW.out) x HM.out ⟨hx1, hx7⟩ HIN.out
      go_wp2_with fail
      refine hadd.mono ?_
      clear hadd
      rintro e w5 ⟨rfl, hb5⟩
      have hbw5 := HBW.out.trans (hb5.mono HBW.out.size)
      have HB5 := Lib.hid hb5
      clear hb5
      have hcut := cut_none w5 a _ cap la (HSA.out _ hbw5) x HM.out ⟨hx1, hx7⟩ (.inr ⟨HIN.out, HL1.out⟩)
      have HBW5 := Lib.hid hbw5
      clear hbw5
      go_wp2_with fail
      refine hcut.mono ?_
      clear hcut
      rintro e w6 ⟨rfl, hb6⟩
      have hb56 := HB5.out.trans (hb6.mono HB5.out.size)
      have HB56 := Lib.hid hb56
      have HBW6 := Lib.hid (HBW.out.trans (hb56.mono HBW.out.size))
      have HB6 := Lib.hid hb6
      clear hb6 hb56
      have hh3 := lawHas_any w6 a _ cap la (HSA.out _ HBW6.out) x
      rw [HP.out] at hh3
      go_wp2_with fail
      refine hh3.mono ?_
      rintro e w' ⟨rfl, rfl⟩
      clear hh3
      go_wp2_with fail
      have HBL := HBW6
      clear HBW6
      go_loop [15, 16] (fun un i => ∃ k : Nat, k ≤ 7 ∧ i = .int .i64 ((k : Int) + 1) ∧ un = .int .i64 (unl la lb k)) (fun _ i => 8 - (intOf i).toNat)
      case atStart => exact ⟨0, by omega, rfl, rfl⟩
      case round =>
        obtain ⟨q, hq, rfl, rfl⟩ := hrel
        have hun := unl_le la lb q
        have hbl := HBL.out
        by_cases hlq : q < 7
        · have hp1 := lawHas_of w6 a cap la (HSA.out _ hbl) q _ rfl
          have hp2 := lawHas_of w6 b dap lb (HSB.out _ hbl) q _ rfl
          clear hbl
          cases hv1 : decide (((q + 1 : Nat) : Int) ∈ la) <;> cases hv2 : decide (((q + 1 : Nat) : Int) ∈ lb)
          all_goals
            rw [hv1] at hp1
            rw [hv2] at hp2
            have HU := Lib.hid (show unl la lb (q + 1) = unl la lb q + _ by simp only [unl, hv1, hv2]; rfl)
            clear hv1 hv2
            go_wp2_with fail
            refine hp1.mono ?_
            rintro e w' ⟨rfl, rfl⟩
            clear hp1
            go_wp2_with fail
            refine hp2.mono ?_
            rintro e w' ⟨rfl, rfl⟩
            clear hp2
            go_wp2_with fail
            go_round
            case rel => exact ⟨q + 1, by omega, by go_num, by rw [HU.out]; first | rfl | (simp; done) | go_num⟩
            case measure => simp [intOf]; omega
        · have hq7 : q = 7 := by omega
          have HSTE := Lib.hid (show stepB la lb = (membersB la && (membersB lb && ((unl la lb q : Int) == 1))) by
            rw [hq7]
            cases h1 : membersB la
            · rw [stepB_no (.inl h1)]; rfl
            · cases h2 : membersB lb
              · rw [stepB_no (.inr h2)]; rfl
              · rw [stepB_unl h1 h2]; rfl)
          have hst := step_any w6 a _ cap la (HSA.out _ hbl) b _ dap lb (HSB.out _ hbl)
          have hrb := fun (W : World) (hW : Below w.heap.size w W) => refRight_any W b lb.length dap lb (HSB.out _ hW)
          rw [HSTE.out, HM.out] at hst
          clear hbl hq7
          have HRB := Lib.hid hrb
          clear hrb
          generalize unl la lb q = u at *
          cases hmb : membersB lb <;> cases hu : ((u : Int) == 1)
          all_goals
            rw [hmb, hu] at hst
            have hrb := HRB.out
            rw [hmb] at hrb
            have HRB2 := Lib.hid hrb
            clear hmb hrb
            go_wp2_with fail
            refine hst.mono ?_
            rintro e w9 ⟨rfl, hb9⟩
            have hbl9 := HBL.out.trans (hb9.mono HBL.out.size)
            clear hst
            have hrb := HRB2.out _ hbl9
            go_wp2_with fail
            refine hrb.mono ?_
            rintro e w' ⟨rfl, rfl⟩
            clear hrb
            go_wp2_with fail
            go_ret
            exact RetB.mk rfl hbl9

set_option maxRecDepth 100000 in
set_option maxHeartbeats 8000000 in
theorem steps_c (w : World) (a : Option Addr) (cap : Nat) (la : List Int) (ha : Sl intv w (.slice a la.length cap) la) (b : Option Addr) (dap : Nat) (lb : List Int) (hb : Sl intv w (.slice b lb.length dap) lb) (x : Int) (hla : la.length ≤ 20) (hlb : lb.length ≤ 20) (hm : membersB la = true) (hx1 : 1 ≤ x) (hx7 : x ≤ 7) (hin : x ∈ la) (hl1 : 1 < la.length) :
    Calls Try.prog 5 #[.slice a la.length cap, .slice b lb.length dap, .int .i64 x] w (RetB (.bool true) w) := by
  have HSA : Hid (∀ W, Below w.heap.size w W → Sl intv W (.slice a la.length cap) la) := Lib.hid fun W hW => ha.below hW ha.row_lt
  have HSB : Hid (∀ W, Below w.heap.size w W → Sl intv W (.slice b lb.length dap) lb) := Lib.hid fun W hW => hb.below hW hb.row_lt
  obtain ⟨i0, hi, hz0, hz1, hz2⟩ := info_parts info_i64
  clear ha hb
  have HM := Lib.hid hm
  have HP := Lib.hid (show decide (x ∈ la) = true by simpa using hin)
  have HIN := Lib.hid hin
  have HL1 := Lib.hid (show la.length ≠ 1 by omega)
  have f1 : ((la.length : Int) == 1) = false := by rw [beq_eq_false_iff_ne]; omega
  clear hm hin
  go_enter Try.func5, Try.ntmps5
  go_wp2_with fail
  refine (lives23 _).mono ?_
  rintro e w1 ⟨rfl, hb1⟩
  have hr1 := refRight_any w1 a la.length cap la (HSA.out _ hb1)
  have hr2 := right_any w1 a la.length cap la (HSA.out _ hb1)
  rw [HM.out] at hr1 hr2
  have HB1 := Lib.hid hb1
  clear hb1
  go_wp2_with fail
  refine hr1.mono ?_
  rintro e w' ⟨rfl, rfl⟩
  clear hr1
  go_wp2_with fail
  refine hr2.mono ?_
  rintro e w2 ⟨rfl, hb2⟩
  clear hr2
  have hbb := HB1.out.trans (hb2.mono HB1.out.size)
  have hh1 := has_any w2 a _ cap la (HSA.out _ hbb) x
  have hh2 := lawHas_any w2 a _ cap la (HSA.out _ hbb) x
  rw [HP.out] at hh1 hh2
  have HBB := Lib.hid hbb
  clear hb2 hbb
  go_wp2_with fail
  refine hh1.mono ?_
  rintro e w' ⟨rfl, rfl⟩
  clear hh1
  go_wp2_with fail
  refine hh2.mono ?_
  rintro e w' ⟨rfl, rfl⟩
  clear hh2
  go_wp2_with fail
  refine (majority_at w2 a _ cap (by omega)).mono ?_
  rintro e w' ⟨rfl, rfl⟩
  go_wp2_with fail
  go_loopw [8, 9, 10] (fun v u i wr => ∃ k : Nat, k ≤ 7 ∧ i = .int .i64 ((k : Int) + 1) ∧ Two 3 w2 wr v u (moreL la x k) (lessL la x k)) (fun _ _ i _ => 8 - (intOf i).toNat)
  case atStart => exact ⟨0, by omega, rfl, Two.nil _ _⟩
  case round =>
    obtain ⟨k, hk, rfl, hT⟩ := hrel
    have HT := Lib.hid hT
    have hbw := HBB.out.trans (hT.bel.mono HBB.out.size)
    clear hT
    by_cases hlk : k < 7
    · have hp := lawHas_of wr a cap la (HSA.out _ hbw) k _ rfl
      have hm1 := moreL_len la x k
      have hm2 := lessL_len la x k
      have HM0 := Lib.hid (show (moreL la x k).length + 1 ≤ maxLen by unfold maxLen; omega)
      have HM1 := Lib.hid (show ((moreL la x k).length + 1) * 8 ≤ 140737488355328 by omega)
      have HL0 := Lib.hid (show (lessL la x k).length + 1 ≤ maxLen by unfold maxLen; omega)
      have HL1 := Lib.hid (show ((lessL la x k).length + 1) * 8 ≤ 140737488355328 by omega)
      clear hm1 hm2 hbw
      cases hpp : decide (((k + 1 : Nat) : Int) ∈ la) <;> cases hq : ((k : Int) + 1 == x)
      · rw [hpp] at hp
        have hq2 : ((k : Int) + 1 != x) = true := by rw [bne, hq]; rfl
        have HQ := Lib.hid (show (((k + 1 : Nat) : Int) == x) = false from hq)
        have HMK := Lib.hid (moreL_no (a := la) (n := x) (k := k) (by rw [hpp, HQ.out]; rfl))
        have HLK := Lib.hid (lessL_no (a := la) (n := x) (k := k) (by rw [hpp, HQ.out]; rfl))
        have HPP := Lib.hid hpp
        clear hpp HQ
        go_wp2_with fail
        refine hp.mono ?_
        rintro e w' ⟨rfl, rfl⟩
        go_wp2_with fail
        refine hp.mono ?_
        rintro e w' ⟨rfl, rfl⟩
        clear hp
        go_wp2_with fail
        go_roundw
        case rel => exact ⟨k + 1, by omega, by go_num, by rw [HMK.out, HLK.out]; exact HT.out⟩
        case measure => simp [intOf]; omega
      · rw [hpp] at hp
        have hq2 : ((k : Int) + 1 != x) = false := by rw [bne, hq]; rfl
        have HQ := Lib.hid (show (((k + 1 : Nat) : Int) == x) = true from hq)
        have HMK := Lib.hid (moreL_yes (a := la) (n := x) (k := k) (by rw [hpp, HQ.out]; rfl))
        have HLK := Lib.hid (lessL_no (a := la) (n := x) (k := k) (by rw [hpp, HQ.out]; rfl))
        have HPP := Lib.hid hpp
        clear hpp HQ
        go_wp2_with fail
        refine hp.mono ?_
        rintro e w' ⟨rfl, rfl⟩
        go_wp2_with (at_builtin; refine wpList_append_one wr rfl _ _ _ rfl 3 i0 (.int .i64 0) 8 Try.underlying22 hi hz0 hz1 hz2 rfl u8 (moreL la x k).length ((moreL la x k).map intv) rfl HT.out.own1 (.int .i64 ((k : Int) + 1)) _ rfl rfl HM0.out HM1.out ?_; intro v3 w3 hown3 hg3 hrow3; have HT3 := Lib.hid (HT.out.push hown3 hg3 hrow3); clear hown3 hg3 hrow3)
        have hbw := HBB.out.trans (HT3.out.bel.mono HBB.out.size)
        have hp2 := lawHas_of w3 a cap la (HSA.out _ hbw) k _ rfl
        rw [HPP.out] at hp2
        clear hp hbw
        refine hp2.mono ?_
        rintro e w' ⟨rfl, rfl⟩
        clear hp2
        go_wp2_with fail
        go_roundw
        case rel => exact ⟨k + 1, by omega, by go_num, by rw [HMK.out, HLK.out]; exact HT3.out⟩
        case measure => simp [intOf]; omega
      · rw [hpp] at hp
        have hq2 : ((k : Int) + 1 != x) = true := by rw [bne, hq]; rfl
        have HQ := Lib.hid (show (((k + 1 : Nat) : Int) == x) = false from hq)
        have HMK := Lib.hid (moreL_yes (a := la) (n := x) (k := k) (by rw [hpp, HQ.out]; rfl))
        have HLK := Lib.hid (lessL_yes (a := la) (n := x) (k := k) (by rw [hpp, HQ.out]; rfl))
        have HPP := Lib.hid hpp
        clear hpp HQ
        go_wp2_with fail
        refine hp.mono ?_
        rintro e w' ⟨rfl, rfl⟩
        go_wp2_with (at_builtin; refine wpList_append_one wr rfl _ _ _ rfl 3 i0 (.int .i64 0) 8 Try.underlying22 hi hz0 hz1 hz2 rfl u8 (moreL la x k).length ((moreL la x k).map intv) rfl HT.out.own1 (.int .i64 ((k : Int) + 1)) _ rfl rfl HM0.out HM1.out ?_; intro v3 w3 hown3 hg3 hrow3; have HT3 := Lib.hid (HT.out.push hown3 hg3 hrow3); clear hown3 hg3 hrow3)
        have hbw := HBB.out.trans (HT3.out.bel.mono HBB.out.size)
        have hp2 := lawHas_of w3 a cap la (HSA.out _ hbw) k _ rfl
        rw [HPP.out] at hp2
        clear hp hbw
        refine hp2.mono ?_
        rintro e w' ⟨rfl, rfl⟩
        clear hp2
        go_wp2_with (at_builtin; refine wpList_append_one w3 rfl _ _ _ rfl 3 i0 (.int .i64 0) 8 Try.underlying22 hi hz0 hz1 hz2 rfl u9 (lessL la x k).length ((lessL la x k).map intv) rfl HT3.out.own2 (.int .i64 ((k : Int) + 1)) _ rfl rfl HL0.out HL1.out ?_; intro v4 w4 hown3 hg3 hrow3; have HT4 := Lib.hid (HT3.out.swap.push hown3 hg3 hrow3); clear hown3 hg3 hrow3)
        go_roundw
        case rel => exact ⟨k + 1, by omega, by go_num, by rw [HMK.out, HLK.out]; exact HT4.out.swap⟩
        case measure => simp [intOf]; omega
      · rw [hpp] at hp
        have hq2 : ((k : Int) + 1 != x) = false := by rw [bne, hq]; rfl
        have HQ := Lib.hid (show (((k + 1 : Nat) : Int) == x) = true from hq)
        have HMK := Lib.hid (moreL_yes (a := la) (n := x) (k := k) (by rw [hpp, HQ.out]; rfl))
        have HLK := Lib.hid (lessL_no (a := la) (n := x) (k := k) (by rw [hpp, HQ.out]; rfl))
        have HPP := Lib.hid hpp
        clear hpp HQ
        go_wp2_with fail
        refine hp.mono ?_
        rintro e w' ⟨rfl, rfl⟩
        go_wp2_with (at_builtin; refine wpList_append_one wr rfl _ _ _ rfl 3 i0 (.int .i64 0) 8 Try.underlying22 hi hz0 hz1 hz2 rfl u8 (moreL la x k).length ((moreL la x k).map intv) rfl HT.out.own1 (.int .i64 ((k : Int) + 1)) _ rfl rfl HM0.out HM1.out ?_; intro v3 w3 hown3 hg3 hrow3; have HT3 := Lib.hid (HT.out.push hown3 hg3 hrow3); clear hown3 hg3 hrow3)
        have hbw := HBB.out.trans (HT3.out.bel.mono HBB.out.size)
        have hp2 := lawHas_of w3 a cap la (HSA.out _ hbw) k _ rfl
        rw [HPP.out] at hp2
        clear hp hbw
        refine hp2.mono ?_
        rintro e w' ⟨rfl, rfl⟩
        clear hp2
        go_wp2_with fail
        go_roundw
        case rel => exact ⟨k + 1, by omega, by go_num, by rw [HMK.out, HLK.out]; exact HT3.out⟩
        case measure => simp [intOf]; omega
    · have hk7 : k = 7 := by omega
      have HK7 := Lib.hid hk7
      clear hk7
      obtain ⟨adm, cpm, rfl, _⟩ := owns_sl HT.out.own1
      obtain ⟨adl, cpl, rfl, _⟩ := owns_sl HT.out.own2
      have hsm := owns_sl HT.out.own1
      have hsl := owns_sl HT.out.own2
      have hml := moreL_len la x k
      have hll := lessL_len la x k
      have HSM : Hid (∀ W, Below wr.heap.size wr W → Sl intv W (.slice adm (moreL la x k).length cpm) (moreL la x k)) := Lib.hid fun W hW => hsm.below hW hsm.row_lt
      have HSL : Hid (∀ W, Below wr.heap.size wr W → Sl intv W (.slice adl (lessL la x k).length cpl) (lessL la x k)) := Lib.hid fun W hW => hsl.below hW hsl.row_lt
      clear hsm hsl HT
      have HBW := Lib.hid hbw
      clear hbw
      have hadd := add_same wr a _ cap la (HSA.out _ HBW.out) x HM.out ⟨hx1, hx7⟩ HIN.out
      go_wp2_with fail
      refine hadd.mono ?_
      clear hadd
      rintro e w5 ⟨rfl, hb5⟩
      have hbw5 := HBW.out.trans (hb5.mono HBW.out.size)
      have HB5 := Lib.hid hb5
      clear hb5
      have hcut := cut_yes w5 a _ cap la (HSA.out _ hbw5) x HM.out ⟨hx1, hx7⟩ HIN.out HL1.out
      have HBW5 := Lib.hid hbw5
      clear hbw5
      go_wp2_with fail
      refine hcut.mono ?_
      clear hcut
      rintro e w6 ⟨ad6, cp6, rfl, hb6, hs6, _⟩
      have hb56 := HB5.out.trans (hb6.mono HB5.out.size)
      have HB56 := Lib.hid hb56
      have HBW6 := Lib.hid (HBW.out.trans (hb56.mono HBW.out.size))
      have HB6 := Lib.hid hb6
      have HS6 := Lib.hid hs6
      clear hb6 hs6 hb56
      have hh3 := lawHas_any w6 a _ cap la (HSA.out _ HBW6.out) x
      rw [HP.out] at hh3
      go_wp2_with fail
      refine hh3.mono ?_
      rintro e w' ⟨rfl, rfl⟩
      clear hh3
      have hlx : lessL la x k = cutL la x := by rw [HK7.out]; exact lessL_all HM.out
      have hsl6 := HSL.out _ HB56.out
      rw [hlx] at hsl6 ⊢
      have hsame := same_any w6 _ _ cp6 _ HS6.out _ _ cpl hsl6
      clear hsl6 hlx
      go_wp2_with fail
      refine hsame.mono ?_
      rintro e w7 ⟨rfl, hb7⟩
      clear hsame
      have hbw7 := HBW6.out.trans (hb7.mono HBW6.out.size)
      have hstep := step_any w7 a _ cap la (HSA.out _ hbw7) ad6 _ cp6 _ (HS6.out.below hb7 HS6.out.row_lt)
      rw [step_cut_long HM.out HIN.out HL1.out] at hstep
      have HBW7 := Lib.hid hbw7
      clear hb7 hbw7
      go_wp2_with fail
      refine hstep.mono ?_
      rintro e w8 ⟨rfl, hb8⟩
      clear hstep
      have HBL := Lib.hid (HBW7.out.trans (hb8.mono HBW7.out.size))
      clear hb8
      go_wp2_with fail
      go_loop [15, 16] (fun un i => ∃ k : Nat, k ≤ 7 ∧ i = .int .i64 ((k : Int) + 1) ∧ un = .int .i64 (unl la lb k)) (fun _ i => 8 - (intOf i).toNat)
      case atStart => exact ⟨0, by omega, rfl, rfl⟩
      case round =>
        obtain ⟨q, hq, rfl, rfl⟩ := hrel
        have hun := unl_le la lb q
        have hbl := HBL.out
        by_cases hlq : q < 7
        · have hp1 := lawHas_of w8 a cap la (HSA.out _ hbl) q _ rfl
          have hp2 := lawHas_of w8 b dap lb (HSB.out _ hbl) q _ rfl
          clear hbl
          cases hv1 : decide (((q + 1 : Nat) : Int) ∈ la) <;> cases hv2 : decide (((q + 1 : Nat) : Int) ∈ lb)
          all_goals
            rw [hv1] at hp1
            rw [hv2] at hp2
            have HU := Lib.hid (show unl la lb (q + 1) = unl la lb q + _ by simp only [unl, hv1, hv2]; rfl)
            clear hv1 hv2
            go_wp2_with fail
            refine hp1.mono ?_
            rintro e w' ⟨rfl, rfl⟩
            clear hp1
            go_wp2_with fail
            refine hp2.mono ?_
            rintro e w' ⟨rfl, rfl⟩
            clear hp2
            go_wp2_with fail
            go_round
            case rel => exact ⟨q + 1, by omega, by go_num, by rw [HU.out]; first | rfl | (simp; done) | go_num⟩
            case measure => simp [intOf]; omega
        · have hq7 : q = 7 := by omega
          have HSTE := Lib.hid (show stepB la lb = (membersB la && (membersB lb && ((unl la lb q : Int) == 1))) by
            rw [hq7]
            cases h1 : membersB la
            · rw [stepB_no (.inl h1)]; rfl
            · cases h2 : membersB lb
              · rw [stepB_no (.inr h2)]; rfl
              · rw [stepB_unl h1 h2]; rfl)
          have hst := step_any w8 a _ cap la (HSA.out _ hbl) b _ dap lb (HSB.out _ hbl)
          have hrb := fun (W : World) (hW : Below w.heap.size w W) => refRight_any W b lb.length dap lb (HSB.out _ hW)
          rw [HSTE.out, HM.out] at hst
          clear hbl hq7
          have HRB := Lib.hid hrb
          clear hrb
          generalize unl la lb q = u at *
          cases hmb : membersB lb <;> cases hu : ((u : Int) == 1)
          all_goals
            rw [hmb, hu] at hst
            have hrb := HRB.out
            rw [hmb] at hrb
            have HRB2 := Lib.hid hrb
            clear hmb hrb
            go_wp2_with fail
            refine hst.mono ?_
            rintro e w9 ⟨rfl, hb9⟩
            have hbl9 := HBL.out.trans (hb9.mono HBL.out.size)
            clear hst
            have hrb := HRB2.out _ hbl9
            go_wp2_with fail
            refine hrb.mono ?_
            rintro e w' ⟨rfl, rfl⟩
            clear hrb
            go_wp2_with fail
            go_ret
            exact RetB.mk rfl hbl9

set_option maxRecDepth 100000 in
set_option maxHeartbeats 8000000 in
theorem steps_d (w : World) (a : Option Addr) (cap : Nat) (la : List Int) (ha : Sl intv w (.slice a la.length cap) la) (b : Option Addr) (dap : Nat) (lb : List Int) (hb : Sl intv w (.slice b lb.length dap) lb) (x : Int) (hla : la.length ≤ 20) (hlb : lb.length ≤ 20) (hm : membersB la = true) (hx1 : 1 ≤ x) (hx7 : x ≤ 7) (hin : x ∉ la) :
    Calls Try.prog 5 #[.slice a la.length cap, .slice b lb.length dap, .int .i64 x] w (RetB (.bool true) w) := by
  have HSA : Hid (∀ W, Below w.heap.size w W → Sl intv W (.slice a la.length cap) la) := Lib.hid fun W hW => ha.below hW ha.row_lt
  have HSB : Hid (∀ W, Below w.heap.size w W → Sl intv W (.slice b lb.length dap) lb) := Lib.hid fun W hW => hb.below hW hb.row_lt
  obtain ⟨i0, hi, hz0, hz1, hz2⟩ := info_parts info_i64
  clear ha hb
  have HM := Lib.hid hm
  have HP := Lib.hid (show decide (x ∈ la) = false by simpa using hin)
  have HIN := Lib.hid hin
  clear hm hin
  go_enter Try.func5, Try.ntmps5
  go_wp2_with fail
  refine (lives23 _).mono ?_
  rintro e w1 ⟨rfl, hb1⟩
  have hr1 := refRight_any w1 a la.length cap la (HSA.out _ hb1)
  have hr2 := right_any w1 a la.length cap la (HSA.out _ hb1)
  rw [HM.out] at hr1 hr2
  have HB1 := Lib.hid hb1
  clear hb1
  go_wp2_with fail
  refine hr1.mono ?_
  rintro e w' ⟨rfl, rfl⟩
  clear hr1
  go_wp2_with fail
  refine hr2.mono ?_
  rintro e w2 ⟨rfl, hb2⟩
  clear hr2
  have hbb := HB1.out.trans (hb2.mono HB1.out.size)
  have hh1 := has_any w2 a _ cap la (HSA.out _ hbb) x
  have hh2 := lawHas_any w2 a _ cap la (HSA.out _ hbb) x
  rw [HP.out] at hh1 hh2
  have HBB := Lib.hid hbb
  clear hb2 hbb
  go_wp2_with fail
  refine hh1.mono ?_
  rintro e w' ⟨rfl, rfl⟩
  clear hh1
  go_wp2_with fail
  refine hh2.mono ?_
  rintro e w' ⟨rfl, rfl⟩
  clear hh2
  go_wp2_with fail
  refine (majority_at w2 a _ cap (by omega)).mono ?_
  rintro e w' ⟨rfl, rfl⟩
  go_wp2_with fail
  go_loopw [8, 9, 10] (fun v u i wr => ∃ k : Nat, k ≤ 7 ∧ i = .int .i64 ((k : Int) + 1) ∧ Two 3 w2 wr v u (moreL la x k) (lessL la x k)) (fun _ _ i _ => 8 - (intOf i).toNat)
  case atStart => exact ⟨0, by omega, rfl, Two.nil _ _⟩
  case round =>
    obtain ⟨k, hk, rfl, hT⟩ := hrel
    have HT := Lib.hid hT
    have hbw := HBB.out.trans (hT.bel.mono HBB.out.size)
    clear hT
    by_cases hlk : k < 7
    · have hp := lawHas_of wr a cap la (HSA.out _ hbw) k _ rfl
      have hm1 := moreL_len la x k
      have hm2 := lessL_len la x k
      have HM0 := Lib.hid (show (moreL la x k).length + 1 ≤ maxLen by unfold maxLen; omega)
      have HM1 := Lib.hid (show ((moreL la x k).length + 1) * 8 ≤ 140737488355328 by omega)
      have HL0 := Lib.hid (show (lessL la x k).length + 1 ≤ maxLen by unfold maxLen; omega)
      have HL1 := Lib.hid (show ((lessL la x k).length + 1) * 8 ≤ 140737488355328 by omega)
      clear hm1 hm2 hbw
      cases hpp : decide (((k + 1 : Nat) : Int) ∈ la) <;> cases hq : ((k : Int) + 1 == x)
      · rw [hpp] at hp
        have hq2 : ((k : Int) + 1 != x) = true := by rw [bne, hq]; rfl
        have HQ := Lib.hid (show (((k + 1 : Nat) : Int) == x) = false from hq)
        have HMK := Lib.hid (moreL_no (a := la) (n := x) (k := k) (by rw [hpp, HQ.out]; rfl))
        have HLK := Lib.hid (lessL_no (a := la) (n := x) (k := k) (by rw [hpp, HQ.out]; rfl))
        have HPP := Lib.hid hpp
        clear hpp HQ
        go_wp2_with fail
        refine hp.mono ?_
        rintro e w' ⟨rfl, rfl⟩
        go_wp2_with fail
        refine hp.mono ?_
        rintro e w' ⟨rfl, rfl⟩
        clear hp
        go_wp2_with fail
        go_roundw
        case rel => exact ⟨k + 1, by omega, by go_num, by rw [HMK.out, HLK.out]; exact HT.out⟩
        case measure => simp [intOf]; omega
      · rw [hpp] at hp
        have hq2 : ((k : Int) + 1 != x) = false := by rw [bne, hq]; rfl
        have HQ := Lib.hid (show (((k + 1 : Nat) : Int) == x) = true from hq)
        have HMK := Lib.hid (moreL_yes (a := la) (n := x) (k := k) (by rw [hpp, HQ.out]; rfl))
        have HLK := Lib.hid (lessL_no (a := la) (n := x) (k := k) (by rw [hpp, HQ.out]; rfl))
        have HPP := Lib.hid hpp
        clear hpp HQ
        go_wp2_with fail
        refine hp.mono ?_
        rintro e w' ⟨rfl, rfl⟩
        go_wp2_with (at_builtin; refine wpList_append_one wr rfl _ _ _ rfl 3 i0 (.int .i64 0) 8 Try.underlying22 hi hz0 hz1 hz2 rfl u8 (moreL la x k).length ((moreL la x k).map intv) rfl HT.out.own1 (.int .i64 ((k : Int) + 1)) _ rfl rfl HM0.out HM1.out ?_; intro v3 w3 hown3 hg3 hrow3; have HT3 := Lib.hid (HT.out.push hown3 hg3 hrow3); clear hown3 hg3 hrow3)
        have hbw := HBB.out.trans (HT3.out.bel.mono HBB.out.size)
        have hp2 := lawHas_of w3 a cap la (HSA.out _ hbw) k _ rfl
        rw [HPP.out] at hp2
        clear hp hbw
        refine hp2.mono ?_
        rintro e w' ⟨rfl, rfl⟩
        clear hp2
        go_wp2_with fail
        go_roundw
        case rel => exact ⟨k + 1, by omega, by go_num, by rw [HMK.out, HLK.out]; exact HT3.out⟩
        case measure => simp [intOf]; omega
      · rw [hpp] at hp
        have hq2 : ((k : Int) + 1 != x) = true := by rw [bne, hq]; rfl
        have HQ := Lib.hid (show (((k + 1 : Nat) : Int) == x) = false from hq)
        have HMK := Lib.hid (moreL_yes (a := la) (n := x) (k := k) (by rw [hpp, HQ.out]; rfl))
        have HLK := Lib.hid (lessL_yes (a := la) (n := x) (k := k) (by rw [hpp, HQ.out]; rfl))
        have HPP := Lib.hid hpp
        clear hpp HQ
        go_wp2_with fail
        refine hp.mono ?_
        rintro e w' ⟨rfl, rfl⟩
        go_wp2_with (at_builtin; refine wpList_append_one wr rfl _ _ _ rfl 3 i0 (.int .i64 0) 8 Try.underlying22 hi hz0 hz1 hz2 rfl u8 (moreL la x k).length ((moreL la x k).map intv) rfl HT.out.own1 (.int .i64 ((k : Int) + 1)) _ rfl rfl HM0.out HM1.out ?_; intro v3 w3 hown3 hg3 hrow3; have HT3 := Lib.hid (HT.out.push hown3 hg3 hrow3); clear hown3 hg3 hrow3)
        have hbw := HBB.out.trans (HT3.out.bel.mono HBB.out.size)
        have hp2 := lawHas_of w3 a cap la (HSA.out _ hbw) k _ rfl
        rw [HPP.out] at hp2
        clear hp hbw
        refine hp2.mono ?_
        rintro e w' ⟨rfl, rfl⟩
        clear hp2
        go_wp2_with (at_builtin; refine wpList_append_one w3 rfl _ _ _ rfl 3 i0 (.int .i64 0) 8 Try.underlying22 hi hz0 hz1 hz2 rfl u9 (lessL la x k).length ((lessL la x k).map intv) rfl HT3.out.own2 (.int .i64 ((k : Int) + 1)) _ rfl rfl HL0.out HL1.out ?_; intro v4 w4 hown3 hg3 hrow3; have HT4 := Lib.hid (HT3.out.swap.push hown3 hg3 hrow3); clear hown3 hg3 hrow3)
        go_roundw
        case rel => exact ⟨k + 1, by omega, by go_num, by rw [HMK.out, HLK.out]; exact HT4.out.swap⟩
        case measure => simp [intOf]; omega
      · rw [hpp] at hp
        have hq2 : ((k : Int) + 1 != x) = false := by rw [bne, hq]; rfl
        have HQ := Lib.hid (show (((k + 1 : Nat) : Int) == x) = true from hq)
        have HMK := Lib.hid (moreL_yes (a := la) (n := x) (k := k) (by rw [hpp, HQ.out]; rfl))
        have HLK := Lib.hid (lessL_no (a := la) (n := x) (k := k) (by rw [hpp, HQ.out]; rfl))
        have HPP := Lib.hid hpp
        clear hpp HQ
        go_wp2_with fail
        refine hp.mono ?_
        rintro e w' ⟨rfl, rfl⟩
        go_wp2_with (at_builtin; refine wpList_append_one wr rfl _ _ _ rfl 3 i0 (.int .i64 0) 8 Try.underlying22 hi hz0 hz1 hz2 rfl u8 (moreL la x k).length ((moreL la x k).map intv) rfl HT.out.own1 (.int .i64 ((k : Int) + 1)) _ rfl rfl HM0.out HM1.out ?_; intro v3 w3 hown3 hg3 hrow3; have HT3 := Lib.hid (HT.out.push hown3 hg3 hrow3); clear hown3 hg3 hrow3)
        have hbw := HBB.out.trans (HT3.out.bel.mono HBB.out.size)
        have hp2 := lawHas_of w3 a cap la (HSA.out _ hbw) k _ rfl
        rw [HPP.out] at hp2
        clear hp hbw
        refine hp2.mono ?_
        rintro e w' ⟨rfl, rfl⟩
        clear hp2
        go_wp2_with fail
        go_roundw
        case rel => exact ⟨k + 1, by omega, by go_num, by rw [HMK.out, HLK.out]; exact HT3.out⟩
        case measure => simp [intOf]; omega
    · have hk7 : k = 7 := by omega
      have HK7 := Lib.hid hk7
      clear hk7
      obtain ⟨adm, cpm, rfl, _⟩ := owns_sl HT.out.own1
      obtain ⟨adl, cpl, rfl, _⟩ := owns_sl HT.out.own2
      have hsm := owns_sl HT.out.own1
      have hsl := owns_sl HT.out.own2
      have hml := moreL_len la x k
      have hll := lessL_len la x k
      have HSM : Hid (∀ W, Below wr.heap.size wr W → Sl intv W (.slice adm (moreL la x k).length cpm) (moreL la x k)) := Lib.hid fun W hW => hsm.below hW hsm.row_lt
      have HSL : Hid (∀ W, Below wr.heap.size wr W → Sl intv W (.slice adl (lessL la x k).length cpl) (lessL la x k)) := Lib.hid fun W hW => hsl.below hW hsl.row_lt
      clear hsm hsl HT
      have HBW := Lib.hid hbw
      clear hbw
      have hadd := add_yes wr a _ cap la (HSA.out _ HBW.out) x HM.out ⟨hx1, hx7⟩ HIN.out
      go_wp2_with fail
      refine hadd.mono ?_
      clear hadd
      rintro e w5 ⟨ad5, cp5, rfl, hb5, hs5, _⟩
      have hbw5 := HBW.out.trans (hb5.mono HBW.out.size)
      have HB5 := Lib.hid hb5
      have HS5 := Lib.hid hs5
      clear hb5 hs5
      have hln5 := (members_len (insL_members HM.out HIN.out hx1 hx7)).2.1
      have hcut := cut_none w5 a _ cap la (HSA.out _ hbw5) x HM.out ⟨hx1, hx7⟩ (.inl HIN.out)
      have HBW5 := Lib.hid hbw5
      clear hbw5
      go_wp2_with fail
      refine hcut.mono ?_
      clear hcut
      rintro e w6 ⟨rfl, hb6⟩
      have hb56 := HB5.out.trans (hb6.mono HB5.out.size)
      have HB56 := Lib.hid hb56
      have HBW6 := Lib.hid (HBW.out.trans (hb56.mono HBW.out.size))
      have HB6 := Lib.hid hb6
      clear hb6 hb56
      have hh3 := lawHas_any w6 a _ cap la (HSA.out _ HBW6.out) x
      rw [HP.out] at hh3
      go_wp2_with fail
      refine hh3.mono ?_
      rintro e w' ⟨rfl, rfl⟩
      clear hh3
      have hlx : moreL la x k = insL la x := by rw [HK7.out]; exact moreL_all HM.out HIN.out hx1 hx7
      have hsm6 := HSM.out _ HB56.out
      rw [hlx] at hsm6 ⊢
      have hs56 := HS5.out.below HB6.out HS5.out.row_lt
      have HS56 := Lib.hid hs56
      have hsame := same_any w6 _ _ cp5 _ hs56 _ _ cpm hsm6
      clear hsm6 hlx hs56
      go_wp2_with fail
      refine hsame.mono ?_
      rintro e w7 ⟨rfl, hb7⟩
      clear hsame
      have hbw7 := HBW6.out.trans (hb7.mono HBW6.out.size)
      have hstep := step_any w7 a _ cap la (HSA.out _ hbw7) ad5 _ cp5 _ (HS56.out.below hb7 HS56.out.row_lt)
      rw [(step_ins HM.out HIN.out hx1 hx7).1] at hstep
      have HBW7 := Lib.hid hbw7
      clear hb7 hbw7
      go_wp2_with fail
      refine hstep.mono ?_
      rintro e w8 ⟨rfl, hb8⟩
      clear hstep
      have HBL := Lib.hid (HBW7.out.trans (hb8.mono HBW7.out.size))
      clear hb8
      go_wp2_with fail
      go_loop [15, 16] (fun un i => ∃ k : Nat, k ≤ 7 ∧ i = .int .i64 ((k : Int) + 1) ∧ un = .int .i64 (unl la lb k)) (fun _ i => 8 - (intOf i).toNat)
      case atStart => exact ⟨0, by omega, rfl, rfl⟩
      case round =>
        obtain ⟨q, hq, rfl, rfl⟩ := hrel
        have hun := unl_le la lb q
        have hbl := HBL.out
        by_cases hlq : q < 7
        · have hp1 := lawHas_of w8 a cap la (HSA.out _ hbl) q _ rfl
          have hp2 := lawHas_of w8 b dap lb (HSB.out _ hbl) q _ rfl
          clear hbl
          cases hv1 : decide (((q + 1 : Nat) : Int) ∈ la) <;> cases hv2 : decide (((q + 1 : Nat) : Int) ∈ lb)
          all_goals
            rw [hv1] at hp1
            rw [hv2] at hp2
            have HU := Lib.hid (show unl la lb (q + 1) = unl la lb q + _ by simp only [unl, hv1, hv2]; rfl)
            clear hv1 hv2
            go_wp2_with fail
            refine hp1.mono ?_
            rintro e w' ⟨rfl, rfl⟩
            clear hp1
            go_wp2_with fail
            refine hp2.mono ?_
            rintro e w' ⟨rfl, rfl⟩
            clear hp2
            go_wp2_with fail
            go_round
            case rel => exact ⟨q + 1, by omega, by go_num, by rw [HU.out]; first | rfl | (simp; done) | go_num⟩
            case measure => simp [intOf]; omega
        · have hq7 : q = 7 := by omega
          have HSTE := Lib.hid (show stepB la lb = (membersB la && (membersB lb && ((unl la lb q : Int) == 1))) by
            rw [hq7]
            cases h1 : membersB la
            · rw [stepB_no (.inl h1)]; rfl
            · cases h2 : membersB lb
              · rw [stepB_no (.inr h2)]; rfl
              · rw [stepB_unl h1 h2]; rfl)
          have hst := step_any w8 a _ cap la (HSA.out _ hbl) b _ dap lb (HSB.out _ hbl)
          have hrb := fun (W : World) (hW : Below w.heap.size w W) => refRight_any W b lb.length dap lb (HSB.out _ hW)
          rw [HSTE.out, HM.out] at hst
          clear hbl hq7
          have HRB := Lib.hid hrb
          clear hrb
          generalize unl la lb q = u at *
          cases hmb : membersB lb <;> cases hu : ((u : Int) == 1)
          all_goals
            rw [hmb, hu] at hst
            have hrb := HRB.out
            rw [hmb] at hrb
            have HRB2 := Lib.hid hrb
            clear hmb hrb
            go_wp2_with fail
            refine hst.mono ?_
            rintro e w9 ⟨rfl, hb9⟩
            have hbl9 := HBL.out.trans (hb9.mono HBL.out.size)
            clear hst
            have hrb := HRB2.out _ hbl9
            go_wp2_with fail
            refine hrb.mono ?_
            rintro e w' ⟨rfl, rfl⟩
            clear hrb
            go_wp2_with fail
            go_ret
            exact RetB.mk rfl hbl9

end Go.Proofs.Ytnnibcfbcpipfaa

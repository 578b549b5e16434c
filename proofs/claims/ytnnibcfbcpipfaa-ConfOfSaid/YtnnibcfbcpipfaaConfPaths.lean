/- The statement ConfPaths: its plain law, and its walk. -/
import Derived.Test.YtnnibcfbcpipfaaConfG
namespace Go.Proofs.Ytnnibcfbcpipfaa
open Go.RowKit

def cntG (a b : Nat) : Nat → Nat
  | 0 => 0
  | k + 1 => cntG a b k + if a.testBit (k + 1) && !b.testBit (k + 1) then 1 else 0

theorem cntG_mono (a b k : Nat) (hk : k ≤ 7) : cntG a b k ≤ cntG a b 7 := by
  have h : ∀ d, cntG a b k ≤ cntG a b (k + d) := by
    intro d
    induction d with
    | zero => exact Nat.le_refl _
    | succ d ih => exact Nat.le_trans ih (by rw [← Nat.add_assoc]; simp only [cntG]; omega)
  have := h (7 - k)
  rwa [show k + (7 - k) = 7 by omega] at this

structure Inv1 (a b k : Nat) (L : List Int) (st : Nat) : Prop where
  mem : membersB L = true
  has : ∀ n : Nat, (n : Int) ∈ L ↔ 1 ≤ n ∧ n ≤ 7 ∧ (a.testBit n = true ∨ n ≤ k ∧ b.testBit n = true)
  cnt : st + cntG a b k ≤ k

structure Inv2 (a b k : Nat) (L : List Int) (st : Nat) : Prop where
  mem : membersB L = true
  has : ∀ n : Nat, (n : Int) ∈ L ↔ 1 ≤ n ∧ n ≤ 7 ∧ (b.testBit n = true ∨ k < n ∧ a.testBit n = true)
  cnt : st + cntG a b 7 ≤ 7 + cntG a b k

theorem Inv1.add {a b k : Nat} {L : List Int} {st : Nat} (h : Inv1 a b k L st) (hk : k < 7) (hb : b.testBit (k + 1) = true) (hn : ((k + 1 : Nat) : Int) ∉ L) : Inv1 a b (k + 1) (insL L ((k + 1 : Nat) : Int)) (st + 1) := by
  have ha : a.testBit (k + 1) = false := by
    cases ha : a.testBit (k + 1)
    · rfl
    · exact absurd ((h.has (k + 1)).2 ⟨by omega, by omega, .inl ha⟩) hn
  refine ⟨insL_members h.mem hn (by omega) (by omega), fun n => ?_, ?_⟩
  · rw [insL_mem, h.has]
    constructor
    · rintro (⟨h1, h2, h3⟩ | h1)
      · exact ⟨h1, h2, h3.imp id fun h => ⟨by omega, h.2⟩⟩
      · obtain rfl : n = k + 1 := by omega
        exact ⟨by omega, by omega, .inr ⟨by omega, hb⟩⟩
    · rintro ⟨h1, h2, h3 | ⟨h3, h4⟩⟩
      · exact .inl ⟨h1, h2, .inl h3⟩
      · by_cases e : n = k + 1
        · exact .inr (by rw [e])
        · exact .inl ⟨h1, h2, .inr ⟨by omega, h4⟩⟩
  · have := h.cnt
    simp only [cntG, ha, Bool.false_and, Bool.false_eq_true, if_false]
    omega

theorem Inv1.skip {a b k : Nat} {L : List Int} {st : Nat} (h : Inv1 a b k L st) (_ : k < 7) (hb : b.testBit (k + 1) = true → ((k + 1 : Nat) : Int) ∈ L) : Inv1 a b (k + 1) L st := by
  refine ⟨h.mem, fun n => ?_, ?_⟩
  · rw [h.has]
    constructor
    · rintro ⟨h1, h2, h3⟩
      exact ⟨h1, h2, h3.imp id fun h => ⟨by omega, h.2⟩⟩
    · rintro ⟨h1, h2, h3 | ⟨h3, h4⟩⟩
      · exact ⟨h1, h2, .inl h3⟩
      · by_cases e : n = k + 1
        · subst e
          exact (h.has (k + 1)).1 (hb h4)
        · exact ⟨h1, h2, .inr ⟨by omega, h4⟩⟩
  · have := h.cnt
    simp only [cntG]
    split <;> omega

theorem Inv1.next {a b : Nat} {L : List Int} {st : Nat} (h : Inv1 a b 7 L st) : Inv2 a b 0 L st := by
  refine ⟨h.mem, fun n => ?_, by have := h.cnt; simp only [cntG] at *; omega⟩
  rw [h.has]
  constructor
  · rintro ⟨h1, h2, h3 | h3⟩
    · exact ⟨h1, h2, .inr ⟨by omega, h3⟩⟩
    · exact ⟨h1, h2, .inl h3.2⟩
  · rintro ⟨h1, h2, h3 | h3⟩
    · exact ⟨h1, h2, .inr ⟨by omega, h3⟩⟩
    · exact ⟨h1, h2, .inl h3.2⟩

theorem Inv2.cut {a b k : Nat} {L : List Int} {st : Nat} (h : Inv2 a b k L st) (_ : k < 7) (hb : b.testBit (k + 1) = false) (hn : ((k + 1 : Nat) : Int) ∈ L) {y : Int} (hy : y ∈ L) (hyb : y ≠ ((k + 1 : Nat) : Int)) : Inv2 a b (k + 1) (cutL L ((k + 1 : Nat) : Int)) (st + 1) := by
  have ha : a.testBit (k + 1) = true := by
    rcases ((h.has (k + 1)).1 hn).2.2 with h1 | h1
    · rw [hb] at h1; cases h1
    · exact h1.2
  refine ⟨cutL_members h.mem hy hyb, fun n => ?_, ?_⟩
  · rw [cutL_mem, h.has]
    constructor
    · rintro ⟨⟨h1, h2, h3⟩, h4⟩
      exact ⟨h1, h2, h3.imp id fun h => ⟨by omega, h.2⟩⟩
    · rintro ⟨h1, h2, h3 | h3⟩
      · refine ⟨⟨h1, h2, .inl h3⟩, fun e => ?_⟩
        obtain rfl : n = k + 1 := by omega
        rw [hb] at h3; cases h3
      · exact ⟨⟨h1, h2, .inr ⟨by omega, h3.2⟩⟩, by omega⟩
  · have := h.cnt
    have e : cntG a b (k + 1) = cntG a b k + 1 := by
      show cntG a b k + (if a.testBit (k + 1) && !b.testBit (k + 1) then 1 else 0) = _
      rw [ha, hb]
      rfl
    omega

theorem Inv2.skip {a b k : Nat} {L : List Int} {st : Nat} (h : Inv2 a b k L st) (hb : ((k + 1 : Nat) : Int) ∈ L → b.testBit (k + 1) = true) : Inv2 a b (k + 1) L st := by
  refine ⟨h.mem, fun n => ?_, ?_⟩
  · rw [h.has]
    constructor
    · rintro ⟨h1, h2, h3 | h3⟩
      · exact ⟨h1, h2, .inl h3⟩
      · by_cases e : n = k + 1
        · subst e
          exact ⟨h1, h2, .inl (hb ((h.has (k + 1)).2 ⟨h1, h2, .inr h3⟩))⟩
        · exact ⟨h1, h2, .inr ⟨by omega, h3.2⟩⟩
    · rintro ⟨h1, h2, h3⟩
      exact ⟨h1, h2, h3.imp id fun h => ⟨by omega, h.2⟩⟩
  · have := h.cnt
    have e : cntG a b k ≤ cntG a b (k + 1) := by simp only [cntG]; omega
    omega

theorem Inv2.last {a b : Nat} {L : List Int} {st : Nat} (h : Inv2 a b 7 L st) : L = ofB b ∧ st ≤ 7 := by
  obtain ⟨_, h2, h3⟩ := membersB_iff.1 h.mem
  refine ⟨sorted_ext h3 (ofB_pair b) fun n => ?_, by have := h.cnt; omega⟩
  constructor
  · intro hn
    obtain ⟨g1, g7⟩ := h2 n hn
    obtain ⟨k, rfl⟩ : ∃ k : Nat, n = (k : Int) := ⟨n.toNat, by omega⟩
    rw [mem_ofB]
    obtain ⟨h1, h2, h3 | h3⟩ := (h.has k).1 hn
    · exact ⟨h1, h2, h3⟩
    · omega
  · intro hn
    have hn' := hn
    rw [ofB_eq] at hn'
    simp only [List.mem_map] at hn'
    obtain ⟨k, _, rfl⟩ := hn'
    rw [mem_ofB] at hn
    exact (h.has k).2 ⟨hn.1, hn.2.1, .inl hn.2.2⟩

theorem Inv1.start {a b : Nat} (h : ofB a ≠ []) : Inv1 a b 0 (ofB a) 0 := by
  refine ⟨ofB_members h, fun n => ?_, by simp [cntG]⟩
  rw [mem_ofB]
  constructor
  · rintro ⟨h1, h2, h3⟩; exact ⟨h1, h2, .inl h3⟩
  · rintro ⟨h1, h2, h3 | h3⟩
    · exact ⟨h1, h2, h3⟩
    · omega

/-- The statement's own function's test of a node. -/
theorem lawHas_of (w : World) (ad : Option Addr) (cp : Nat) (L : List Int) (h : Sl intv w (.slice ad L.length cp) L) (k : Nat) (p : Bool) (hp : p = decide (((k + 1 : Nat) : Int) ∈ L)) :
    Calls Try.prog 21 #[.slice ad L.length cp, .int .i64 ((k : Int) + 1)] w (Ret (.bool p) w) := by
  subst hp
  exact lawHas_any w ad _ cp L h _

theorem add_paths {w : World} {ad : Option Addr} {cp : Nat} {L : List Int} (h : Sl intv w (.slice ad L.length cp) L) (k : Nat) (hm : membersB L = true) (hk : k < 7) (hn : ((k + 1 : Nat) : Int) ∉ L) :
    Calls Try.prog 22 #[.slice ad L.length cp, .int .i64 ((k : Int) + 1)] w (ConfR w (insL L ((k + 1 : Nat) : Int))) := add_yes w ad _ cp L h _ hm (by omega) hn

theorem cut_paths {w : World} {ad : Option Addr} {cp : Nat} {L : List Int} (h : Sl intv w (.slice ad L.length cp) L) (k : Nat) (hm : membersB L = true) (hk : k < 7) (hn : ((k + 1 : Nat) : Int) ∈ L) {y : Int} (hy : y ∈ L) (hyb : y ≠ ((k + 1 : Nat) : Int)) :
    Calls Try.prog 23 #[.slice ad L.length cp, .int .i64 ((k : Int) + 1)] w (ConfR w (cutL L ((k + 1 : Nat) : Int))) := by
  refine cut_yes w ad _ cp L h _ hm (by omega) hn fun e => ?_
  obtain ⟨z, hz⟩ : ∃ z, L = [z] := List.length_eq_one_iff.1 e
  rw [hz] at hn hy
  simp only [List.mem_singleton] at hn hy
  exact hyb (hy.trans hn.symm)

theorem paths_empty (w : World) (a b : Nat) (ha : a < 256) (hb : b < 256) (h : (ofB a).length = 0 ∨ 0 < (ofB a).length ∧ (ofB b).length = 0) :
    Calls Try.prog 6 #[.int .u8 a, .int .u8 b] w (RetB (.bool true) w) := by
  have hla := ofK_len a 7
  have hlb := ofK_len b 7
  change (ofB a).length ≤ 7 at hla
  change (ofB b).length ≤ 7 at hlb
  have h1 := fun w => paths1_any w a ha
  have h2 := fun w => paths1_any w b hb
  unfold MadeI at h1 h2
  generalize (ofB a).length = la at *
  generalize (ofB b).length = lb at *
  rcases h with rfl | ⟨h, rfl⟩
  all_goals
    go_enter Try.func6, Try.ntmps6
    go_wp2_with fail
    refine (lives23 _).mono ?_
    rintro e w1 ⟨rfl, hb1⟩
    go_wp2_with fail
    refine (h1 _).mono ?_
    rintro e w2 ⟨a2, c2, rfl, hb2, _, _, _⟩
    go_wp2_with fail
    refine (h2 _).mono ?_
    rintro e w3 ⟨a3, c3, rfl, hb3, _, _, _⟩
    go_wp2_with fail
    go_ret
    exact RetB.mk rfl ((hb1.trans (hb2.mono hb1.size)).trans (hb3.mono (by have := hb1.size; have := hb2.size; omega)))

set_option maxRecDepth 100000 in
set_option maxHeartbeats 4000000 in
theorem paths_main (w : World) (a b : Nat) (ha : a < 256) (hb : b < 256) (hea : ofB a ≠ []) (heb : ofB b ≠ []) :
    Calls Try.prog 6 #[.int .u8 a, .int .u8 b] w (RetB (.bool true) w) := by
  have hla : 0 < (ofB a).length := List.length_pos_iff.2 hea
  have hlb : 0 < (ofB b).length := List.length_pos_iff.2 heb
  have hla7 := ofK_len a 7
  have hlb7 := ofK_len b 7
  change (ofB a).length ≤ 7 at hla7
  change (ofB b).length ≤ 7 at hlb7
  obtain ⟨yb, hyb⟩ : ∃ y : Nat, (y : Int) ∈ ofB b := by
    obtain ⟨z, hz⟩ := List.exists_mem_of_ne_nil _ heb
    have hz' := hz
    rw [ofB_eq] at hz'
    simp only [List.mem_map] at hz'
    obtain ⟨m, _, rfl⟩ := hz'
    exact ⟨m, hz⟩
  have HYB := Lib.hid hyb
  have HEA := Lib.hid hea
  have f1 : (((ofB a).length : Int) == 0) = false := by rw [beq_eq_false_iff_ne]; omega
  have f2 : (((ofB b).length : Int) == 0) = false := by rw [beq_eq_false_iff_ne]; omega
  clear hyb hea heb
  go_enter Try.func6, Try.ntmps6
  go_wp2_with fail
  refine (lives23 _).mono ?_
  rintro e w1 ⟨rfl, hb1⟩
  go_wp2_with fail
  refine (paths1_any _ a ha).mono ?_
  rintro e w2 ⟨a2, c2, rfl, hb2, hs2, _, _⟩
  go_wp2_with fail
  refine (paths1_any _ b hb).mono ?_
  rintro e w3 ⟨a3, c3, rfl, hb3, hs3, _, _⟩
  have hs2' := hs2.below hb3 hs2.row_lt
  have hbb : Below w.heap.size w w3 := (hb1.trans (hb2.mono hb1.size)).trans (hb3.mono (by have := hb1.size; have := hb2.size; omega))
  have HT : Hid (∀ W, Below w3.heap.size w3 W → Sl intv W (.slice a3 (ofB b).length c3) (ofB b)) := Lib.hid fun W hW => hs3.below hW hs3.row_lt
  have HS2 := Lib.hid hs2'
  have HBB := Lib.hid hbb
  clear hs2 hs2' hs3 hbb hb1 hb2 hb3
  go_wp2_with fail
  go_loopw [6, 8, 9] (fun lv sv i wr => ∃ (k st : Nat) (L : List Int) (ad : Option Addr) (cp : Nat), k ≤ 7 ∧ i = .int .i64 ((k : Int) + 1) ∧ lv = .slice ad L.length cp ∧ sv = .int .i64 st ∧ Inv1 a b k L st ∧ Sl intv wr (.slice ad L.length cp) L ∧ Below w3.heap.size w3 wr) (fun _ _ i _ => 8 - (intOf i).toNat)
  case atStart => exact ⟨0, 0, ofB a, a2, c2, by omega, rfl, rfl, rfl, Inv1.start HEA.out, HS2.out, Below.refl _ _⟩
  case round =>
    obtain ⟨k, st, L, ad, cp, hk, rfl, rfl, rfl, hI, hsl, hbw⟩ := hrel
    have HI := Lib.hid hI
    have HSL := Lib.hid hsl
    have HBW := Lib.hid hbw
    have hst := hI.cnt
    have hLl := (members_len hI.mem)
    obtain ⟨hL1, hL7, _⟩ := hLl
    by_cases hlk : k < 7
    · have hp := lawHas_of wr a3 c3 (ofB b) (HT.out _ hbw) k _ rfl
      have hq := lawHas_of wr ad cp L hsl k _ rfl
      have hst7 : st ≤ 7 := by omega
      clear hI hsl hbw hst
      cases hpb : decide (((k + 1 : Nat) : Int) ∈ ofB b)
      · rw [hpb] at hp
        have HPB := Lib.hid hpb
        clear hpb
        go_wp2_with fail
        refine hp.mono ?_
        rintro e w' ⟨rfl, rfl⟩
        clear hq hp
        go_wp2_with fail
        go_roundw
        case rel =>
          refine ⟨k + 1, st, L, ad, cp, by omega, by go_num, rfl, rfl, HI.out.skip hlk fun h => ?_, HSL.out, HBW.out⟩
          exact absurd ((mem_ofB b (k + 1)).2 ⟨by omega, by omega, h⟩) (of_decide_eq_false HPB.out)
        case measure => simp [intOf]; omega
      · rw [hpb] at hp
        have HPB := Lib.hid hpb
        clear hpb
        cases hqb : decide (((k + 1 : Nat) : Int) ∈ L)
        · rw [hqb] at hq
          have hnot := of_decide_eq_false hqb
          have hadd := add_paths HSL.out k HI.out.mem hlk hnot
          obtain ⟨s1, s2⟩ := step_ins HI.out.mem hnot (by omega) (by omega)
          have HS1 := Lib.hid s1
          have HS22 := Lib.hid s2
          have HNOT := Lib.hid hnot
          clear hqb hnot s1 s2
          go_wp2_with fail
          refine hp.mono ?_
          rintro e w' ⟨rfl, rfl⟩
          clear hp
          go_wp2_with fail
          refine hq.mono ?_
          rintro e w' ⟨rfl, rfl⟩
          clear hq
          go_wp2_with fail
          refine hadd.mono ?_
          rintro e w4 ⟨ad4, cp4, rfl, hb4, hs4, _⟩
          clear hadd
          have hst1 := step_any w4 ad _ cp L (HSL.out.below hb4 HSL.out.row_lt) ad4 _ cp4 _ hs4
          rw [HS1.out] at hst1
          have HS4 := Lib.hid hs4
          have HB4 := Lib.hid hb4
          clear hs4 hb4
          go_wp2_with fail
          refine hst1.mono ?_
          rintro e w5 ⟨rfl, hb5⟩
          clear hst1
          have hsl5 := (HSL.out.below HB4.out HSL.out.row_lt).below hb5 (fun k hk => Nat.lt_of_lt_of_le (HSL.out.row_lt k hk) HB4.out.size)
          have hst2 := step_any w5 ad4 _ cp4 _ (HS4.out.below hb5 HS4.out.row_lt) ad _ cp L hsl5
          rw [HS22.out] at hst2
          have HB5 := Lib.hid hb5
          clear hb5 hsl5
          go_wp2_with fail
          refine hst2.mono ?_
          rintro e w6 ⟨rfl, hb6⟩
          have HB6 := Lib.hid hb6
          clear hb6 hst2
          go_wp2_with fail
          go_roundw
          case rel =>
            have hb45 := HB4.out.trans (HB5.out.mono HB4.out.size)
            have hb46 := hb45.trans (HB6.out.mono hb45.size)
            have hb56 := HB5.out.trans (HB6.out.mono HB5.out.size)
            refine ⟨k + 1, st + 1, _, ad4, cp4, by omega, by go_num, rfl, by go_num, HI.out.add hlk ((mem_ofB b (k + 1)).1 (of_decide_eq_true HPB.out)).2.2 HNOT.out, HS4.out.below hb56 HS4.out.row_lt, HBW.out.trans (hb46.mono HBW.out.size)⟩
          case measure => simp [intOf]; omega
        · rw [hqb] at hq
          have HQB := Lib.hid hqb
          clear hqb
          go_wp2_with fail
          refine hp.mono ?_
          rintro e w' ⟨rfl, rfl⟩
          clear hp
          go_wp2_with fail
          refine hq.mono ?_
          rintro e w' ⟨rfl, rfl⟩
          clear hq
          go_wp2_with fail
          go_roundw
          case rel => exact ⟨k + 1, st, L, ad, cp, by omega, by go_num, rfl, rfl, HI.out.skip hlk fun _ => of_decide_eq_true HQB.out, HSL.out, HBW.out⟩
          case measure => simp [intOf]; omega
    · have hk7 : k = 7 := by omega
      have hst7 : st ≤ 7 := by omega
      have HI2 := Lib.hid (show Inv2 a b 0 L st by rw [hk7] at hI; exact hI.next)
      clear hI hsl hbw hst HI hk7
      go_wp2_with fail
      go_loopw [6, 8, 12] (fun lv sv i wr => ∃ (k st : Nat) (L : List Int) (ad : Option Addr) (cp : Nat), k ≤ 7 ∧ i = .int .i64 ((k : Int) + 1) ∧ lv = .slice ad L.length cp ∧ sv = .int .i64 st ∧ Inv2 a b k L st ∧ Sl intv wr (.slice ad L.length cp) L ∧ Below w3.heap.size w3 wr) (fun _ _ i _ => 8 - (intOf i).toNat)
      case atStart => exact ⟨0, st, L, ad, cp, by omega, rfl, rfl, rfl, HI2.out, HSL.out, HBW.out⟩
      clear HSL HBW HI2
      case round =>
        clear hst7 hL1 hL7 hk
        obtain ⟨k, st, L, ad, cp, hk, rfl, rfl, rfl, hI, hsl, hbw⟩ := hrel
        have HI := Lib.hid hI
        have HSL := Lib.hid hsl
        have HBW := Lib.hid hbw
        have hst := hI.cnt
        obtain ⟨hL1, hL7, _⟩ := members_len hI.mem
        have hcg := cntG_mono a b k
        by_cases hlk : k < 7
        · have hp := lawHas_of wr a3 c3 (ofB b) (HT.out _ hbw) k _ rfl
          have hq := lawHas_of wr ad cp L hsl k _ rfl
          have hst7 : st ≤ 7 := by have := hcg (by omega); omega
          clear hI hsl hbw hst hcg
          cases hqb : decide (((k + 1 : Nat) : Int) ∈ L)
          · rw [hqb] at hq
            have HQB := Lib.hid hqb
            clear hqb
            go_wp2_with fail
            refine hq.mono ?_
            rintro e w' ⟨rfl, rfl⟩
            clear hq hp
            go_wp2_with fail
            go_roundw
            case rel => exact ⟨k + 1, st, L, ad, cp, by omega, by go_num, rfl, rfl, HI.out.skip fun h => absurd h (of_decide_eq_false HQB.out), HSL.out, HBW.out⟩
            case measure => simp [intOf]; omega
          · rw [hqb] at hq
            have hin := of_decide_eq_true hqb
            have HIN := Lib.hid hin
            clear hqb
            cases hpb : decide (((k + 1 : Nat) : Int) ∈ ofB b)
            · rw [hpb] at hp
              have hnot := of_decide_eq_false hpb
              have hybL : (yb : Int) ∈ L := (HI.out.has yb).2 (by have := (mem_ofB b yb).1 HYB.out; exact ⟨this.1, this.2.1, .inl this.2.2⟩)
              have hybn : (yb : Int) ≠ ((k + 1 : Nat) : Int) := fun e => hnot (e ▸ HYB.out)
              have hbt : b.testBit (k + 1) = false := by
                cases h : b.testBit (k + 1)
                · rfl
                · exact absurd ((mem_ofB b (k + 1)).2 ⟨by omega, by omega, h⟩) hnot
              have hcut := cut_paths HSL.out k HI.out.mem hlk hin hybL hybn
              have HS1 := Lib.hid (step_cut HI.out.mem hin hybL hybn)
              have HI3 := Lib.hid (HI.out.cut hlk hbt hin hybL hybn)
              clear hpb hnot hybL hybn hbt hin
              go_wp2_with fail
              refine hq.mono ?_
              rintro e w' ⟨rfl, rfl⟩
              clear hq
              go_wp2_with fail
              refine hp.mono ?_
              rintro e w' ⟨rfl, rfl⟩
              clear hp
              go_wp2_with fail
              refine hcut.mono ?_
              rintro e w4 ⟨ad4, cp4, rfl, hb4, hs4, _⟩
              clear hcut
              have hst1 := step_any w4 ad _ cp L (HSL.out.below hb4 HSL.out.row_lt) ad4 _ cp4 _ hs4
              rw [HS1.out] at hst1
              have HS4 := Lib.hid hs4
              have HB4 := Lib.hid hb4
              clear hs4 hb4
              go_wp2_with fail
              refine hst1.mono ?_
              rintro e w5 ⟨rfl, hb5⟩
              clear hst1
              have HB5 := Lib.hid hb5
              clear hb5
              go_wp2_with fail
              go_roundw
              case rel =>
                have hb45 := HB4.out.trans (HB5.out.mono HB4.out.size)
                refine ⟨k + 1, st + 1, _, ad4, cp4, by omega, by go_num, rfl, by go_num, HI3.out, HS4.out.below HB5.out HS4.out.row_lt, HBW.out.trans (hb45.mono HBW.out.size)⟩
              case measure => simp [intOf]; omega
            · rw [hpb] at hp
              have HPB := Lib.hid hpb
              clear hpb hin
              go_wp2_with fail
              refine hq.mono ?_
              rintro e w' ⟨rfl, rfl⟩
              clear hq
              go_wp2_with fail
              refine hp.mono ?_
              rintro e w' ⟨rfl, rfl⟩
              clear hp
              go_wp2_with fail
              go_roundw
              case rel => exact ⟨k + 1, st, L, ad, cp, by omega, by go_num, rfl, rfl, HI.out.skip fun _ => ((mem_ofB b (k + 1)).1 (of_decide_eq_true HPB.out)).2.2, HSL.out, HBW.out⟩
              case measure => simp [intOf]; omega
        · obtain rfl : k = 7 := by omega
          obtain ⟨rfl, hst7⟩ := HI.out.last
          have hmb := HI.out.mem
          clear hI hst hcg HI
          have hsm := same_any wr ad _ cp (ofB b) hsl a3 _ c3 (HT.out _ hbw)
          have HM := Lib.hid hmb
          clear hsl hbw hmb
          have hstd : decide ((st : Int) ≤ 7) = true := by simp; omega
          go_wp2_with fail
          refine hsm.mono ?_
          rintro e w4 ⟨rfl, hb4⟩
          clear hsm
          have hr := right_any w4 ad _ cp (ofB b) (HSL.out.below hb4 HSL.out.row_lt)
          rw [HM.out] at hr
          have HB4 := Lib.hid hb4
          clear hb4
          go_wp2_with fail
          refine hr.mono ?_
          rintro e w5 ⟨rfl, hb5⟩
          go_wp2_with fail
          go_ret
          have hbb4 := HBB.out.trans (HBW.out.mono HBB.out.size)
          have hbb5 := hbb4.trans (HB4.out.mono hbb4.size)
          exact RetB.mk rfl (hbb5.trans (hb5.mono hbb5.size))

theorem pathsI_any (w : World) (a b : Int) (ha : (Lit.int .u8 a).wf = true) (hb : (Lit.int .u8 b).wf = true) :
    Calls Try.prog 6 #[.int .u8 a, .int .u8 b] w (RetB (.bool true) w) := by
  have h1 := byte_wf ha
  have h2 := byte_wf hb
  obtain ⟨x, rfl⟩ : ∃ k : Nat, a = (k : Int) := ⟨a.toNat, by omega⟩
  obtain ⟨y, rfl⟩ : ∃ k : Nat, b = (k : Int) := ⟨b.toNat, by omega⟩
  by_cases e1 : ofB x = []
  · exact paths_empty w x y (by omega) (by omega) (.inl (by rw [e1]; rfl))
  · by_cases e2 : ofB y = []
    · exact paths_empty w x y (by omega) (by omega) (.inr ⟨List.length_pos_iff.2 e1, by rw [e2]; rfl⟩)
    · exact paths_main w x y (by omega) (by omega) e1 e2

end Go.Proofs.Ytnnibcfbcpipfaa

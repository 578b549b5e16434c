/- Package cron: number, in, step, part, values, bounds, Parse. -/
import Derived.Test.YtldieadbkaphkaaGreatDoorBlk
import Derived.Test.YtldieadbkaphkaaGreatDoorCronL
import Derived.Test.YtldieadbkaphkaaGreatDoorShelf
import Derived.IntWalk
import Derived.Lib.AtoiErrMem
import Derived.Deep.CutRange
import Derived.Deep.QuietTactic
import Derived.BigQuiet
namespace Go.Proofs.YtldieadbkaphkaaGreatDoor
open Go.RowKit

/-- The library's variable MaxLen holds some int. -/
def MaxL (w : World) : Prop := ∃ m, w.cell? ⟨0, 0, none⟩ = some (.int .i64 m)
theorem MaxL.below {w w' : World} {B : Nat} (h : MaxL w) (hb : Below B w w') (hB : 0 < B) : MaxL w' := by
  obtain ⟨m, hm⟩ := h
  exact ⟨m, (bcell hb _ _ hB).trans hm⟩
theorem MaxL.lt {w : World} (h : MaxL w) : 0 < w.heap.size := by
  obtain ⟨m, hm⟩ := h
  exact cell_lt hm
theorem MaxL.step {w w' : World} (h : MaxL w) (hb : Below w.heap.size w w') : MaxL w' := h.below hb h.lt
theorem MaxL.alloc {w : World} (h : MaxL w) (o : Obj) : MaxL (w.alloc o) := h.step ((Below.refl _ _).alloc (Nat.le_refl _) _)
theorem MaxL.drewN {w : World} (h : MaxL w) (n : Nat) : MaxL (w.drewN n) := h
theorem MaxL.drew {w : World} (h : MaxL w) : MaxL w.drew := h


theorem bel_drewN {B : Nat} {a w : World} (h : Below B a w) (n : Nat) : Below B a (w.drewN n) := ⟨h.os, h.tape, h.output, h.size, h.block⟩
theorem bel_drew {B : Nat} {a w : World} (h : Below B a w) : Below B a w.drew := ⟨h.os, h.tape, h.output, h.size, h.block⟩

theorem strCut_any (w : World) (c : UInt8) (s : Bs) (hm : MaxL w) (hs : s.length < 4294967281) :
    Calls Tryz.prog 66 #[.string ⟨s.toArray⟩, .string ⟨#[c]⟩] w fun e w' => e = .returned (.tuple #[.string ⟨(cutL c s).1.toArray⟩, .string ⟨(cutL c s).2.1.toArray⟩, .bool (cutL c s).2.2]) ∧ ∃ n, w' = w.drewN n := by
  obtain ⟨m, hm⟩ := hm
  have h := Any.strings_Cut Tryz.lays145 ⟨s.toArray⟩ ⟨#[c]⟩ m w hs hm
  have e : Lib.cut (⟨s.toArray⟩ : ByteArray).data.toList (⟨#[c]⟩ : ByteArray).data.toList = cutL c s := cut_eq c s
  rw [e] at h
  exact h
theorem strSplit_any (w : World) (c : UInt8) (s : Bs) (hm : MaxL w) (hs : s.length < 4294967281) :
    Calls Tryz.prog 34 #[.string ⟨s.toArray⟩, .string ⟨#[c]⟩] w fun e w' => e = .returned (.slice (some ⟨w.heap.size, 0, none⟩) (splitL c s).length (splitL c s).length) ∧ w' = w.alloc (.cells ((splitL c s).map fun p => Value.string ⟨p.toArray⟩).toArray 9) := by
  obtain ⟨m, hm⟩ := hm
  have h := Any.strings_Split Tryz.lays146 (by kernel_rfl) ⟨s.toArray⟩ ⟨#[c]⟩ m w hs hm (Nat.le_refl 1)
  rw [split_eq, split_len, List.map_map] at h
  exact h
theorem strIndex_any (w : World) (t s : Bs) (hm : MaxL w) (hs : t.length < 4294967281) :
    Calls Tryz.prog 65 #[.string ⟨t.toArray⟩, .string ⟨s.toArray⟩] w (Ret (.int .i64 (Lib.index t s)) w) := by
  obtain ⟨m, hm⟩ := hm
  exact (Any.strings_Index Tryz.lays143 ⟨t.toArray⟩ ⟨s.toArray⟩ m w hs hm).mono fun e w' h => ⟨h.1, h.2.symm⟩
theorem strTrim_any (w : World) (s : Bs) (hs : s.length ≤ 9223372036854775807) :
    Calls Tryz.prog 85 #[.string ⟨s.toArray⟩, .string ⟨#[48, 49, 50, 51, 52, 53, 54, 55, 56, 57]⟩] w (RetB (.string ⟨(Lib.trimS s digits10).toArray⟩) w) :=
  Any.strings_Trim_laid Tryz.lays160 (by kernel_rfl) ⟨s.toArray⟩ ⟨#[48, 49, 50, 51, 52, 53, 54, 55, 56, 57]⟩ w hs (by decide) (ascii_of_all (by decide))
theorem strAtoi_any (w : World) (s : Bs) (h : s.all digB = true) (h1 : 1 ≤ s.length) (h2 : s.length ≤ 2) :
    Calls Tryz.prog 28 #[.string ⟨s.toArray⟩] w (RetB (.tuple #[.int .i64 (decV s), .nilIface]) w) :=
  (Any.strconv_Atoi Tryz.lays172 ⟨s.toArray⟩ (decV s) (by show s.length ≤ 18; omega) (atoi_digits s h h1 h2) w).mono fun e w' ⟨he, t, ht⟩ => ⟨he, by
    rw [ht]
    exact Lib.bytesWorld_below w _ t⟩

def Fld.v (f : Fld) : Value := .agg #[.int .i64 f.low, .int .i64 f.high, .string ⟨f.names.toArray⟩]


def numV (f : Fld) (s : Bs) : Value := .tuple #[.int .i64 (numF f s).1, .bool (numF f s).2]

set_option maxHeartbeats 1000000 in
theorem number_name (w : World) (f : Fld) (s : Bs) (hm : MaxL w) (h3 : s.length = 3) (hn : f.names ≠ []) (hnl : f.names.length ≤ 36) (hl : 0 ≤ f.low ∧ f.low ≤ 1) :
    Calls Tryz.prog 67 #[f.v, .string ⟨s.toArray⟩] w (RetB (numV f s) w) := by
  have hi := fun W (hW : MaxL W) => strIndex_any W f.names s hW (by omega)
  have hm1 := hm.alloc (.cells #[.int .i64 f.low, .int .i64 f.high, .string ⟨f.names.toArray⟩] 79)
  have hr := Lib.index_ge f.names s
  have hr2 := index_le f.names s
  have hne : (f.names == []) = false := by simpa using hn
  have hne2 : (f.names != []) = true := by simpa using hn
  have EN : Hid (numF f s = if 0 ≤ Lib.index f.names s ∧ Lib.index f.names s % 3 = 0 then (f.low + Lib.index f.names s / 3, true) else (0, false)) := Lib.hid (by unfold numF; rw [if_pos ⟨h3, hn⟩])
  have hl1 := hl.1
  have hl2 := hl.2
  unfold Fld.v numV
  rw [EN.out]
  clear hn hl hm
  generalize Lib.index f.names s = i at *
  by_cases h0 : 0 ≤ i
  · by_cases hz : i % 3 = 0
    · rw [if_pos ⟨h0, hz⟩]
      go_enter Tryz.func67, Tryz.ntmps67
      go_wp2_with fail
      refine (hi _ hm1).mono ?_
      rintro e w' ⟨rfl, rfl⟩
      go_wp2
      go_ret2
      exact RetB.mk rfl ((Below.refl _ _).alloc (Nat.le_refl _) _)
    · have hzb : (i % 3 == 0) = false := by simpa using hz
      rw [if_neg (by rintro ⟨_, h⟩; exact hz h)]
      clear hz
      go_enter Tryz.func67, Tryz.ntmps67
      go_wp2_with fail
      refine (hi _ hm1).mono ?_
      rintro e w' ⟨rfl, rfl⟩
      go_wp2
      go_ret2
      exact RetB.mk rfl ((Below.refl _ _).alloc (Nat.le_refl _) _)
  · rw [if_neg (by rintro ⟨h, _⟩; exact h0 h)]
    go_enter Tryz.func67, Tryz.ntmps67
    go_wp2_with fail
    refine (hi _ hm1).mono ?_
    rintro e w' ⟨rfl, rfl⟩
    go_wp2
    go_ret2
    exact RetB.mk rfl ((Below.refl _ _).alloc (Nat.le_refl _) _)

set_option maxHeartbeats 1000000 in
theorem number_len (w : World) (f : Fld) (s : Bs) (h3 : s.length = 3 → f.names = []) (h : s.length < 1 ∨ 2 < s.length) (hs : s.length ≤ 9223372036854775807) :
    Calls Tryz.prog 67 #[f.v, .string ⟨s.toArray⟩] w (RetB (numV f s) w) := by
  have EN : Hid (numF f s = (0, false)) := Lib.hid (by
    unfold numF
    rw [if_neg (by rintro ⟨a, b⟩; exact b (h3 a)), if_pos (by omega)])
  unfold Fld.v numV
  rw [EN.out]
  by_cases hl3 : s.length = 3
  · have hn := h3 hl3
    rw [hn]
    clear h h3 hn EN
    go_enter Tryz.func67, Tryz.ntmps67
    go_wp2_with fail
    go_ret2
    exact RetB.mk rfl ((Below.refl _ _).alloc (Nat.le_refl _) _)
  · rcases h with h | h
    all_goals
      have hb3 : ((s.length : Int) == 3) = false := by simp; omega
      clear h3 EN hl3
      go_enter Tryz.func67, Tryz.ntmps67
      go_wp2_with fail
      go_ret2
      exact RetB.mk rfl ((Below.refl _ _).alloc (Nat.le_refl _) _)

set_option maxHeartbeats 1000000 in
theorem number_dig (w : World) (f : Fld) (s : Bs) (h1 : 1 ≤ s.length) (h2 : s.length ≤ 2) :
    Calls Tryz.prog 67 #[f.v, .string ⟨s.toArray⟩] w (RetB (numV f s) w) := by
  have ht := fun W => strTrim_any W s (by omega)
  have hb3 : ((s.length : Int) == 3) = false := by simp; omega
  cases hd : s.all digB with
  | false =>
    have EN : Hid (numF f s = (0, false)) := Lib.hid (by
      unfold numF
      rw [if_neg (by omega), if_pos (.inr (.inr hd))])
    have hne : (Lib.trimS s digits10 != []) = true := by
      have : ¬ Lib.trimS s digits10 = [] := fun e => by have := (trim_digits s).1 e; rw [hd] at this; cases this
      simpa using this
    have hne3 : (Lib.trimS s digits10 == []) = false := by
      have : ¬ Lib.trimS s digits10 = [] := fun e => by have := (trim_digits s).1 e; rw [hd] at this; cases this
      simpa using this
    unfold Fld.v numV
    rw [EN.out]
    generalize Lib.trimS s digits10 = r at *
    clear hd EN
    go_enter Tryz.func67, Tryz.ntmps67
    go_wp2_with fail
    refine (ht _).mono ?_
    rintro e w' ⟨rfl, hb⟩
    go_wp2_with fail
    go_ret2
    exact RetB.mk rfl (((Below.refl _ _).alloc (Nat.le_refl _) _).trans (hb.mono (by simp)))
  | true =>
    have EN : Hid (numF f s = (decV s, true)) := Lib.hid (by
      unfold numF
      rw [if_neg (by omega), if_neg (by rintro (h | h | h); omega; omega; rw [hd] at h; cases h)])
    have ha := fun W => strAtoi_any W s hd h1 h2
    have he : Lib.trimS s digits10 = [] := (trim_digits s).2 hd
    rw [he] at ht
    unfold Fld.v numV
    rw [EN.out]
    generalize decV s = d at *
    clear hd EN he
    go_enter Tryz.func67, Tryz.ntmps67
    go_wp2_with fail
    refine (ht _).mono ?_
    rintro e w' ⟨rfl, hb⟩
    go_wp2_with fail
    refine (ha _).mono ?_
    rintro e w'' ⟨rfl, hb2⟩
    go_wp2_with fail
    go_ret2
    have hb1 := (((Below.refl _ w).alloc (Nat.le_refl _) (.cells #[.int .i64 f.low, .int .i64 f.high, .string ⟨f.names.toArray⟩] 79))).trans (hb.mono (by simp))
    exact RetB.mk rfl (hb1.trans (hb2.mono hb1.size))

theorem cronNumber_any (w : World) (f : Fld) (s : Bs) (hm : MaxL w) (hnl : f.names.length ≤ 36) (hl : 0 ≤ f.low ∧ f.low ≤ 1) (hs : s.length ≤ 9223372036854775807) :
    Calls Tryz.prog 67 #[f.v, .string ⟨s.toArray⟩] w (RetB (numV f s) w) := by
  by_cases h : s.length = 3 ∧ f.names ≠ []
  · exact number_name w f s hm h.1 h.2 hnl hl
  · by_cases h2 : s.length < 1 ∨ 2 < s.length
    · exact number_len w f s (fun a => Classical.byContradiction fun b => h ⟨a, b⟩) h2 hs
    · exact number_dig w f s (by omega) (by omega)

theorem cronIn_any (w : World) (f : Fld) (n : Int) : Calls Tryz.prog 68 #[f.v, .int .i64 n] w (RetB (.bool (inF f n)) w) := by
  unfold Fld.v
  have EI := Lib.hid (show inF f n = (decide (f.low ≤ n) && decide (n ≤ f.high)) from rfl)
  by_cases h1 : f.low ≤ n
  · by_cases h2 : n ≤ f.high
    all_goals
      go_enter Tryz.func68, Tryz.ntmps68
      go_wp2
      go_ret
      exact RetB.mk (bool_eq (by rw [EI.out]; first | (simp [*]; done) | (simp [*]; omega))) ((Below.refl _ _).alloc (Nat.le_refl _) _)
  · go_enter Tryz.func68, Tryz.ntmps68
    go_wp2
    go_ret
    exact RetB.mk (bool_eq (by rw [EI.out]; first | (simp [*]; done) | (simp [*]; omega))) ((Below.refl _ _).alloc (Nat.le_refl _) _)

def stepV (s : Bs) (is : Bool) : Value := .tuple #[.int .i64 (stepF s is).1, .int .i64 (stepF s is).2]

set_option maxHeartbeats 1000000 in
theorem cronStep_any (w : World) (s : Bs) (is : Bool) (hm : MaxL w) (hs : s.length ≤ 9223372036854775807) : Calls Tryz.prog 69 #[.string ⟨s.toArray⟩, .bool is] w (RetB (stepV s is) w) := by
  have hn := cronNumber_any w Fld.none s hm (by decide) (by decide) hs
  have hr := numF_range Fld.none s (by decide) (by decide)
  have ES := Lib.hid (show stepF s is = if is = false then (1, 0) else if (numF Fld.none s).2 = false then (0, 2) else if (numF Fld.none s).1 < 1 ∨ 60 < (numF Fld.none s).1 then (0, 3) else ((numF Fld.none s).1, 0) from rfl)
  unfold numV at hn
  unfold stepV
  rw [ES.out]
  clear ES hm
  generalize numF Fld.none s = r at *
  obtain ⟨n, ok⟩ := r
  simp only at *
  obtain ⟨r0, r1⟩ := hr
  change Calls Tryz.prog 67 #[.agg #[.int .i64 0, .int .i64 0, .string ⟨#[]⟩], .string ⟨s.toArray⟩] w _ at hn
  cases is
  · go_enter Tryz.func69, Tryz.ntmps69
    go_wp2
    go_ret2
    exact RetB.mk rfl (Below.refl _ _)
  · cases ok
    · go_enter Tryz.func69, Tryz.ntmps69
      go_wp2_with fail
      refine hn.mono ?_
      rintro e w' ⟨rfl, hb⟩
      go_wp2
      go_ret2
      exact RetB.mk rfl hb
    · by_cases hlo : n < 1
      · rw [if_neg (by simp), if_neg (by simp), if_pos (.inl hlo)]
        go_enter Tryz.func69, Tryz.ntmps69
        go_wp2_with fail
        refine hn.mono ?_
        rintro e w' ⟨rfl, hb⟩
        go_wp2
        go_ret2
        exact RetB.mk rfl hb
      · by_cases hhi : 60 < n
        · rw [if_neg (by simp), if_neg (by simp), if_pos (.inr hhi)]
          go_enter Tryz.func69, Tryz.ntmps69
          go_wp2_with fail
          refine hn.mono ?_
          rintro e w' ⟨rfl, hb⟩
          go_wp2
          go_ret2
          exact RetB.mk rfl hb
        · rw [if_neg (by simp), if_neg (by simp), if_neg (by omega)]
          go_enter Tryz.func69, Tryz.ntmps69
          go_wp2_with fail
          refine hn.mono ?_
          rintro e w' ⟨rfl, hb⟩
          go_wp2
          go_ret2
          exact RetB.mk rfl hb

end Go.Proofs.YtldieadbkaphkaaGreatDoor

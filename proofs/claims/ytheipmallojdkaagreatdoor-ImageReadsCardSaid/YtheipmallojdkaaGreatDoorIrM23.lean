/- Package spec: numbers (printed by wip/tools/gen_numbers.py). Package spec: the names of a spec: Check's own function, slices.IndexFunc and ContainsFunc at it. -/
import Derived.Test.YtheipmallojdkaaGreatDoorIrM22

namespace Go.Proofs.YtheipmallojdkaaGreatDoor
open Go.RowKit

section
variable (w : World) (nm te cr : ByteArray) (pri de ba ca att le ct : Int) (dp : List ByteArray) (a : Option Addr) (cap : Nat)

set_option maxRecDepth 100000 in
set_option maxHeartbeats 4000000 in
theorem numbers_0 (h0 : ¬ 0 ≤ pri) : Calls Tryz.prog 74 #[Sp.v ⟨nm, te, pri, de, dp, ba, ca, att, le, cr, ct⟩ (.slice a dp.length cap)] w (RetB (.bool false) w) := by
  unfold Sp.v Sp.cells
  go_enter Tryz.func74, Tryz.ntmps74
  go_wp2_with fail
  go_ret
  exact RetB.mk rfl ((Below.refl _ _).alloc (Nat.le_refl _) _)

set_option maxRecDepth 100000 in
set_option maxHeartbeats 4000000 in
theorem numbers_1 (h0 : 0 ≤ pri) (h1 : ¬ pri < 4) : Calls Tryz.prog 74 #[Sp.v ⟨nm, te, pri, de, dp, ba, ca, att, le, cr, ct⟩ (.slice a dp.length cap)] w (RetB (.bool false) w) := by
  unfold Sp.v Sp.cells
  go_enter Tryz.func74, Tryz.ntmps74
  go_wp2_with fail
  go_ret
  exact RetB.mk rfl ((Below.refl _ _).alloc (Nat.le_refl _) _)

set_option maxRecDepth 100000 in
set_option maxHeartbeats 4000000 in
theorem numbers_2 (h0 : 0 ≤ pri) (h1 : pri < 4) (h2 : spanB de = false) : Calls Tryz.prog 74 #[Sp.v ⟨nm, te, pri, de, dp, ba, ca, att, le, cr, ct⟩ (.slice a dp.length cap)] w (RetB (.bool false) w) := by
  unfold Sp.v Sp.cells
  go_enter Tryz.func74, Tryz.ntmps74
  go_wp2_with (first | (go_at_call 85; refine (span_any _ _).mono ?_; rintro e w' ⟨rfl, rfl⟩) | fail)
  go_ret
  exact RetB.mk rfl ((Below.refl _ _).alloc (Nat.le_refl _) _)

set_option maxRecDepth 100000 in
set_option maxHeartbeats 4000000 in
theorem numbers_3 (h0 : 0 ≤ pri) (h1 : pri < 4) (h2 : spanB de = true) (h3 : spanB ba = false) : Calls Tryz.prog 74 #[Sp.v ⟨nm, te, pri, de, dp, ba, ca, att, le, cr, ct⟩ (.slice a dp.length cap)] w (RetB (.bool false) w) := by
  unfold Sp.v Sp.cells
  go_enter Tryz.func74, Tryz.ntmps74
  go_wp2_with (first | (go_at_call 85; refine (span_any _ _).mono ?_; rintro e w' ⟨rfl, rfl⟩) | fail)
  go_ret
  exact RetB.mk rfl ((Below.refl _ _).alloc (Nat.le_refl _) _)

set_option maxRecDepth 100000 in
set_option maxHeartbeats 4000000 in
theorem numbers_4 (h0 : 0 ≤ pri) (h1 : pri < 4) (h2 : spanB de = true) (h3 : spanB ba = true) (h4 : spanB ca = false) : Calls Tryz.prog 74 #[Sp.v ⟨nm, te, pri, de, dp, ba, ca, att, le, cr, ct⟩ (.slice a dp.length cap)] w (RetB (.bool false) w) := by
  unfold Sp.v Sp.cells
  go_enter Tryz.func74, Tryz.ntmps74
  go_wp2_with (first | (go_at_call 85; refine (span_any _ _).mono ?_; rintro e w' ⟨rfl, rfl⟩) | fail)
  go_ret
  exact RetB.mk rfl ((Below.refl _ _).alloc (Nat.le_refl _) _)

set_option maxRecDepth 100000 in
set_option maxHeartbeats 4000000 in
theorem numbers_5 (h0 : 0 ≤ pri) (h1 : pri < 4) (h2 : spanB de = true) (h3 : spanB ba = true) (h4 : spanB ca = true) (h5 : spanB le = false) : Calls Tryz.prog 74 #[Sp.v ⟨nm, te, pri, de, dp, ba, ca, att, le, cr, ct⟩ (.slice a dp.length cap)] w (RetB (.bool false) w) := by
  unfold Sp.v Sp.cells
  go_enter Tryz.func74, Tryz.ntmps74
  go_wp2_with (first | (go_at_call 85; refine (span_any _ _).mono ?_; rintro e w' ⟨rfl, rfl⟩) | fail)
  go_ret
  exact RetB.mk rfl ((Below.refl _ _).alloc (Nat.le_refl _) _)

set_option maxRecDepth 100000 in
set_option maxHeartbeats 4000000 in
theorem numbers_6 (h0 : 0 ≤ pri) (h1 : pri < 4) (h2 : spanB de = true) (h3 : spanB ba = true) (h4 : spanB ca = true) (h5 : spanB le = true) (h6 : ¬ 0 < le) : Calls Tryz.prog 74 #[Sp.v ⟨nm, te, pri, de, dp, ba, ca, att, le, cr, ct⟩ (.slice a dp.length cap)] w (RetB (.bool false) w) := by
  unfold Sp.v Sp.cells
  go_enter Tryz.func74, Tryz.ntmps74
  go_wp2_with (first | (go_at_call 85; refine (span_any _ _).mono ?_; rintro e w' ⟨rfl, rfl⟩) | fail)
  go_ret
  exact RetB.mk rfl ((Below.refl _ _).alloc (Nat.le_refl _) _)

set_option maxRecDepth 100000 in
set_option maxHeartbeats 4000000 in
theorem numbers_7 (h0 : 0 ≤ pri) (h1 : pri < 4) (h2 : spanB de = true) (h3 : spanB ba = true) (h4 : spanB ca = true) (h5 : spanB le = true) (h6 : 0 < le) (h7 : ¬ 1 ≤ att) : Calls Tryz.prog 74 #[Sp.v ⟨nm, te, pri, de, dp, ba, ca, att, le, cr, ct⟩ (.slice a dp.length cap)] w (RetB (.bool false) w) := by
  unfold Sp.v Sp.cells
  go_enter Tryz.func74, Tryz.ntmps74
  go_wp2_with (first | (go_at_call 85; refine (span_any _ _).mono ?_; rintro e w' ⟨rfl, rfl⟩) | fail)
  go_ret
  exact RetB.mk rfl ((Below.refl _ _).alloc (Nat.le_refl _) _)

set_option maxRecDepth 100000 in
set_option maxHeartbeats 4000000 in
theorem numbers_8 (h0 : 0 ≤ pri) (h1 : pri < 4) (h2 : spanB de = true) (h3 : spanB ba = true) (h4 : spanB ca = true) (h5 : spanB le = true) (h6 : 0 < le) (h7 : 1 ≤ att) (h8 : ¬ att ≤ 16) : Calls Tryz.prog 74 #[Sp.v ⟨nm, te, pri, de, dp, ba, ca, att, le, cr, ct⟩ (.slice a dp.length cap)] w (RetB (.bool false) w) := by
  unfold Sp.v Sp.cells
  go_enter Tryz.func74, Tryz.ntmps74
  go_wp2_with (first | (go_at_call 85; refine (span_any _ _).mono ?_; rintro e w' ⟨rfl, rfl⟩) | fail)
  go_ret
  exact RetB.mk rfl ((Below.refl _ _).alloc (Nat.le_refl _) _)

set_option maxRecDepth 100000 in
set_option maxHeartbeats 4000000 in
theorem numbers_9 (h0 : 0 ≤ pri) (h1 : pri < 4) (h2 : spanB de = true) (h3 : spanB ba = true) (h4 : spanB ca = true) (h5 : spanB le = true) (h6 : 0 < le) (h7 : 1 ≤ att) (h8 : att ≤ 16) (h9 : ¬ 0 ≤ ct) : Calls Tryz.prog 74 #[Sp.v ⟨nm, te, pri, de, dp, ba, ca, att, le, cr, ct⟩ (.slice a dp.length cap)] w (RetB (.bool false) w) := by
  unfold Sp.v Sp.cells
  go_enter Tryz.func74, Tryz.ntmps74
  go_wp2_with (first | (go_at_call 85; refine (span_any _ _).mono ?_; rintro e w' ⟨rfl, rfl⟩) | fail)
  go_ret
  exact RetB.mk rfl ((Below.refl _ _).alloc (Nat.le_refl _) _)

set_option maxRecDepth 100000 in
set_option maxHeartbeats 4000000 in
theorem numbers_10 (h0 : 0 ≤ pri) (h1 : pri < 4) (h2 : spanB de = true) (h3 : spanB ba = true) (h4 : spanB ca = true) (h5 : spanB le = true) (h6 : 0 < le) (h7 : 1 ≤ att) (h8 : att ≤ 16) (h9 : 0 ≤ ct) (h10 : ¬ ct ≤ 16) : Calls Tryz.prog 74 #[Sp.v ⟨nm, te, pri, de, dp, ba, ca, att, le, cr, ct⟩ (.slice a dp.length cap)] w (RetB (.bool false) w) := by
  unfold Sp.v Sp.cells
  go_enter Tryz.func74, Tryz.ntmps74
  go_wp2_with (first | (go_at_call 85; refine (span_any _ _).mono ?_; rintro e w' ⟨rfl, rfl⟩) | fail)
  go_ret
  exact RetB.mk rfl ((Below.refl _ _).alloc (Nat.le_refl _) _)

set_option maxRecDepth 100000 in
set_option maxHeartbeats 4000000 in
theorem numbers_11 (hcap : dp.length ≤ maxLen) (h0 : 0 ≤ pri) (h1 : pri < 4) (h2 : spanB de = true) (h3 : spanB ba = true) (h4 : spanB ca = true) (h5 : spanB le = true) (h6 : 0 < le) (h7 : 1 ≤ att) (h8 : att ≤ 16) (h9 : 0 ≤ ct) (h10 : ct ≤ 16) (h11 : ¬ dp.length ≤ 8) : Calls Tryz.prog 74 #[Sp.v ⟨nm, te, pri, de, dp, ba, ca, att, le, cr, ct⟩ (.slice a dp.length cap)] w (RetB (.bool false) w) := by
  unfold maxLen at hcap
  unfold Sp.v Sp.cells
  go_enter Tryz.func74, Tryz.ntmps74
  go_wp2_with (first | (go_at_call 85; refine (span_any _ _).mono ?_; rintro e w' ⟨rfl, rfl⟩) | fail)
  go_ret
  exact RetB.mk rfl ((Below.refl _ _).alloc (Nat.le_refl _) _)

set_option maxRecDepth 100000 in
set_option maxHeartbeats 4000000 in
theorem numbers_12_false (hcap : dp.length ≤ maxLen) (h0 : 0 ≤ pri) (h1 : pri < 4) (h2 : spanB de = true) (h3 : spanB ba = true) (h4 : spanB ca = true) (h5 : spanB le = true) (h6 : 0 < le) (h7 : 1 ≤ att) (h8 : att ≤ 16) (h9 : 0 ≤ ct) (h10 : ct ≤ 16) (h11 : dp.length ≤ 8) (h12 : risesB dp = false) (hs : Sl strv w (.slice a dp.length cap) dp) : Calls Tryz.prog 74 #[Sp.v ⟨nm, te, pri, de, dp, ba, ca, att, le, cr, ct⟩ (.slice a dp.length cap)] w (RetB (.bool false) w) := by
  have hr := rises_any (w.alloc (.cells #[.string nm, .string te, .int .i64 pri, .int .i64 de, .slice a dp.length cap, .int .i64 ba, .int .i64 ca, .int .i64 att, .int .i64 le, .string cr, .int .i64 ct] 40)) a dp.length cap dp (hs.alloc _)
  rw [h12] at hr
  clear h12 hs
  unfold maxLen at hcap
  unfold Sp.v Sp.cells
  go_enter Tryz.func74, Tryz.ntmps74
  go_wp2_with (first | (go_at_call 85; refine (span_any _ _).mono ?_; rintro e w' ⟨rfl, rfl⟩) | fail)
  refine hr.mono ?_
  rintro en w1 ⟨rfl, hb1⟩
  go_wp2_with fail
  go_ret
  exact RetB.mk rfl (((Below.refl _ _).alloc (Nat.le_refl _) _).trans (hb1.mono (by simp)))

set_option maxRecDepth 100000 in
set_option maxHeartbeats 4000000 in
theorem numbers_12_true (hcap : dp.length ≤ maxLen) (h0 : 0 ≤ pri) (h1 : pri < 4) (h2 : spanB de = true) (h3 : spanB ba = true) (h4 : spanB ca = true) (h5 : spanB le = true) (h6 : 0 < le) (h7 : 1 ≤ att) (h8 : att ≤ 16) (h9 : 0 ≤ ct) (h10 : ct ≤ 16) (h11 : dp.length ≤ 8) (h12 : risesB dp = true) (hs : Sl strv w (.slice a dp.length cap) dp) : Calls Tryz.prog 74 #[Sp.v ⟨nm, te, pri, de, dp, ba, ca, att, le, cr, ct⟩ (.slice a dp.length cap)] w (RetB (.bool true) w) := by
  have hr := rises_any (w.alloc (.cells #[.string nm, .string te, .int .i64 pri, .int .i64 de, .slice a dp.length cap, .int .i64 ba, .int .i64 ca, .int .i64 att, .int .i64 le, .string cr, .int .i64 ct] 40)) a dp.length cap dp (hs.alloc _)
  rw [h12] at hr
  clear h12 hs
  unfold maxLen at hcap
  unfold Sp.v Sp.cells
  go_enter Tryz.func74, Tryz.ntmps74
  go_wp2_with (first | (go_at_call 85; refine (span_any _ _).mono ?_; rintro e w' ⟨rfl, rfl⟩) | fail)
  refine hr.mono ?_
  rintro en w1 ⟨rfl, hb1⟩
  go_wp2_with fail
  go_ret
  exact RetB.mk rfl (((Below.refl _ _).alloc (Nat.le_refl _) _).trans (hb1.mono (by simp)))

end

theorem numbers_any (w : World) (s : Sp) (a : Option Addr) (n cap : Nat) (h : Sl strv w (.slice a n cap) s.deps) : Calls Tryz.prog 74 #[s.v (.slice a n cap)] w (RetB (.bool (numbersB s)) w) := by
  obtain ⟨nm, te, pri, de, dp, ba, ca, att, le, cr, ct⟩ := s
  have hs := h
  obtain ⟨a0, kap, he, h1, h2, _⟩ := h
  injection he with e1 e2 e3
  subst e1 e2 e3
  have hcap : dp.length ≤ maxLen := Nat.le_trans h1 h2
  unfold numbersB
  simp only
  by_cases h0 : 0 ≤ pri
  case neg =>
    have hw := numbers_0 w nm te cr pri de ba ca att le ct dp a cap  h0
    simpa [h0] using hw
  by_cases h1 : pri < 4
  case neg =>
    have hw := numbers_1 w nm te cr pri de ba ca att le ct dp a cap h0 h1
    simpa [h0, h1] using hw
  by_cases h2 : spanB de = true
  case neg =>
    have hw := numbers_2 w nm te cr pri de ba ca att le ct dp a cap h0 h1 (by simpa using h2)
    simpa [h0, h1, h2] using hw
  by_cases h3 : spanB ba = true
  case neg =>
    have hw := numbers_3 w nm te cr pri de ba ca att le ct dp a cap h0 h1 h2 (by simpa using h3)
    simpa [h0, h1, h2, h3] using hw
  by_cases h4 : spanB ca = true
  case neg =>
    have hw := numbers_4 w nm te cr pri de ba ca att le ct dp a cap h0 h1 h2 h3 (by simpa using h4)
    simpa [h0, h1, h2, h3, h4] using hw
  by_cases h5 : spanB le = true
  case neg =>
    have hw := numbers_5 w nm te cr pri de ba ca att le ct dp a cap h0 h1 h2 h3 h4 (by simpa using h5)
    simpa [h0, h1, h2, h3, h4, h5] using hw
  by_cases h6 : 0 < le
  case neg =>
    have hw := numbers_6 w nm te cr pri de ba ca att le ct dp a cap h0 h1 h2 h3 h4 h5 h6
    simpa [h0, h1, h2, h3, h4, h5, h6] using hw
  by_cases h7 : 1 ≤ att
  case neg =>
    have hw := numbers_7 w nm te cr pri de ba ca att le ct dp a cap h0 h1 h2 h3 h4 h5 h6 h7
    simpa [h0, h1, h2, h3, h4, h5, h6, h7] using hw
  by_cases h8 : att ≤ 16
  case neg =>
    have hw := numbers_8 w nm te cr pri de ba ca att le ct dp a cap h0 h1 h2 h3 h4 h5 h6 h7 h8
    simpa [h0, h1, h2, h3, h4, h5, h6, h7, h8] using hw
  by_cases h9 : 0 ≤ ct
  case neg =>
    have hw := numbers_9 w nm te cr pri de ba ca att le ct dp a cap h0 h1 h2 h3 h4 h5 h6 h7 h8 h9
    simpa [h0, h1, h2, h3, h4, h5, h6, h7, h8, h9] using hw
  by_cases h10 : ct ≤ 16
  case neg =>
    have hw := numbers_10 w nm te cr pri de ba ca att le ct dp a cap h0 h1 h2 h3 h4 h5 h6 h7 h8 h9 h10
    simpa [h0, h1, h2, h3, h4, h5, h6, h7, h8, h9, h10] using hw
  by_cases h11 : dp.length ≤ 8
  case neg =>
    have hw := numbers_11 w nm te cr pri de ba ca att le ct dp a cap hcap h0 h1 h2 h3 h4 h5 h6 h7 h8 h9 h10 h11
    simpa [h0, h1, h2, h3, h4, h5, h6, h7, h8, h9, h10, h11] using hw
  by_cases h12 : risesB dp = true
  case neg =>
    have hw := numbers_12_false w nm te cr pri de ba ca att le ct dp a cap hcap h0 h1 h2 h3 h4 h5 h6 h7 h8 h9 h10 h11 (by simpa using h12) hs
    simpa [h0, h1, h2, h3, h4, h5, h6, h7, h8, h9, h10, h11, h12] using hw
  have hw := numbers_12_true w nm te cr pri de ba ca att le ct dp a cap hcap h0 h1 h2 h3 h4 h5 h6 h7 h8 h9 h10 h11 h12 hs
  simpa [h0, h1, h2, h3, h4, h5, h6, h7, h8, h9, h10, h11, h12] using hw

end Go.Proofs.YtheipmallojdkaaGreatDoor

namespace Go.Proofs.YtheipmallojdkaaGreatDoor
open Go.RowKit

theorem check1_any (w : World) (s : ByteArray) (hm : s.size ≤ maxLen) : Calls Tryz.prog 72 #[.string s] w (RetB (.bool !(nameB s)) w) := by
  have h := name_any s w hm
  cases hn : nameB s <;> rw [hn] at h
  all_goals
    clear hm hn
    go_enter Tryz.func72, Tryz.ntmps72
    go_wp2_with fail
    refine h.mono ?_
    rintro en w1 ⟨rfl, hb⟩
    go_wp2_with fail
    go_ret
    exact RetB.mk rfl hb

set_option maxHeartbeats 4000000 in
theorem indexS_any (w : World) (a : Option Addr) (n cap : Nat) (l : List ByteArray) (h : Sl strv w (.slice a n cap) l) (hl : ∀ d ∈ l, d.size ≤ maxLen) :
    Calls Tryz.prog 76 #[.slice a n cap, .func (Fn.func 72) #[] #[]] w fun e w' => ∃ i : Int, e = .returned (.int .i64 i) ∧ Below w.heap.size w w' ∧ decide (0 ≤ i) = !(l.all nameB) := by
  obtain ⟨a', cap', he, h1, h2, h3⟩ := h
  cases he
  unfold maxLen at h2
  have HLC := Lib.hid h1
  have HL := Lib.hid hl
  have hlm : l.length ≤ 9223372036854775807 := by omega
  clear h1 hl
  go_enter Tryz.func76, Tryz.ntmps76
  go_wp2
  go_loopw [8] (fun i wr => ∃ k : Nat, k ≤ l.length ∧ i = .int .i64 k ∧ Below w.heap.size w wr ∧ (l.take k).all nameB = true) (fun i _ => l.length - (intOf i).toNat)
  case atStart => exact ⟨0, by omega, rfl, Below.refl _ _, by simp⟩
  case round =>
    obtain ⟨k, hk, rfl, hbw, hm⟩ := hrel
    have HM := Lib.hid hm
    have HBW := Lib.hid hbw
    clear hm
    by_cases hlt : k < l.length
    · rcases h3 with ⟨rfl, rfl⟩ | ⟨b, o, rfl, hb, hc⟩
      · have := HLC.out; omega
      · have hk0 : l[k]? = some l[k] := List.getElem?_eq_getElem hlt
        have hcell : wr.cell? ⟨b, o + k, none⟩ = some (.string l[k]) := (bcell hbw _ _ hb).trans (hc k _ hk0)
        have HTK := Lib.hid (show l.take (k + 1) = l.take k ++ [l[k]] by rw [List.take_succ_eq_append_getElem hlt])
        have hcy := check1_any wr l[k] (HL.out _ (List.getElem_mem hlt))
        have HALL : Hid (nameB l[k] = false → l.all nameB = false) := Lib.hid fun hf => by
          rw [List.all_eq_false]
          exact ⟨_, List.getElem_mem hlt, by simp [hf]⟩
        generalize l[k] = y at *
        clear hc hk0 hbw
        cases he : nameB y
        · rw [he] at hcy
          have hA := HALL.out he
          have HA := Lib.hid hA
          clear he HALL hA
          go_wp2_with (go_at_call 72; refine hcy.mono ?_; rintro e w1 ⟨rfl, hb1⟩)
          go_ret
          exact ⟨k, rfl, HBW.out.trans (hb1.mono HBW.out.size), by rw [HA.out]; simp⟩
        · rw [he] at hcy
          have HE := Lib.hid he
          clear he HALL
          go_wp2_with (go_at_call 72; refine hcy.mono ?_; rintro e w1 ⟨rfl, hb1⟩)
          go_round
          case rel => exact ⟨k + 1, by omega, by go_num, HBW.out.trans (hb1.mono HBW.out.size), by rw [HTK.out, List.all_append, HM.out]; simp [HE.out]⟩
          case measure => simp [intOf]; omega
    · go_wp2_with fail
      go_ret
      refine ⟨-1, rfl, HBW.out, ?_⟩
      have := HM.out
      rw [List.take_of_length_le (by omega)] at this
      rw [this]; rfl

theorem containsS_any (w : World) (a : Option Addr) (n cap : Nat) (l : List ByteArray) (h : Sl strv w (.slice a n cap) l) (hl : ∀ d ∈ l, d.size ≤ maxLen) :
    Calls Tryz.prog 60 #[.slice a n cap, .func (Fn.func 72) #[] #[]] w (RetB (.bool !(l.all nameB)) w) := by
  have hi := indexS_any w a n cap l h hl
  clear h hl
  go_enter Tryz.func60, Tryz.ntmps60
  go_wp2_with fail
  refine hi.mono ?_
  rintro en w1 ⟨i, rfl, hb, hd⟩
  have HD := Lib.hid hd
  have HB := Lib.hid hb
  clear hd hb
  generalize l.all nameB = q at *
  by_cases h0 : 0 ≤ i
  all_goals
    go_wp2_with fail
    go_ret
    exact RetB.mk (by rw [← HD.out]; simp [h0]) HB.out

end Go.Proofs.YtheipmallojdkaaGreatDoor

/- slices.Sort at []uint64: the walk of pdqsort, of at most sixteen numbers, no two alike. PRINTED by wip/tools/gen_sortw.py. -/
import Derived.Test.YtckmenongeklpaaSortV
namespace Go.Proofs.Ytckmenongeklpaa
open Go.RowKit Go.Sort

set_option maxRecDepth 100000 in
set_option maxHeartbeats 1600000 in
theorem pdq_u64 (W : World) (blk L cap lm : Nat) (d : Array Int) (hL : L = d.size) (hH : Holds u64v W blk 0 d) (hd : L ≤ 16) (hlm : L < lm + 12) (hl : lm ≤ 64) (hn : Nd d) :
    Calls Try.prog 51 #[.slice (some ⟨blk, 0, none⟩) L cap, .int .i64 0, .int .i64 L, .int .i64 lm] W (Srt 0 d.size blk d W) := by
  have HL := Lib.hid hL
  have HH := Lib.hid hH
  have hnd := Lib.hid hn
  have HP0 : Hid (Pq W blk L 0 L lm d d W) := Lib.hid ⟨RowW.refl hH, permIn_refl d 0 d.size, by rw [hL]; exact InO.start d, Nat.zero_le _, Nat.le_refl _, by omega, by omega⟩
  have hbl : L = 0 ∨ blk < W.heap.size := by
    rcases Nat.eq_zero_or_pos L with h | h
    · exact .inl h
    · exact .inr (cell_lt (hH 0 (by omega)).1)
  have HBL := Lib.hid hbl
  have hd : L ≤ 49 := by omega
  clear hL hH hn hbl
  go_enter Try.func51, Try.ntmps51
  go_wp2
  go_loopw [1, 2, 3, 8, 9] (fun x1 x2 l x y wr => ∃ (a b lim : Nat) (dk : Array Int) (wb wp : Bool), x1 = .int .i64 a ∧ x2 = .int .i64 b ∧ l = .int .i64 lim ∧ x = .bool wb ∧ y = .bool wp ∧ (wb = true ∨ b ≤ a + 15) ∧ lim ≤ 64 ∧ Hid (Pq W blk L a b lim d dk wr)) (fun x1 x2 _ _ _ _ => (intOf x2).toNat - (intOf x1).toNat)
  case atStart => exact ⟨0, L, lm, d, true, true, rfl, rfl, rfl, rfl, rfl, .inl rfl, hl, HP0⟩
  case round =>
    clear HP0
    obtain ⟨a, b, lim, dk, wb, wp, rfl, rfl, rfl, rfl, rfl, hwb, hl64, HPQ⟩ := hrel
    have hab := HPQ.out.ab
    have hbL := HPQ.out.bL
    have hli := HPQ.out.lim
    have HHr : Hid (Holds u64v wr blk 0 dk) := Lib.hid (HPQ.out.row.holds HH.out HPQ.out.size)
    by_cases h12 : b ≤ a + 12
    · have hdec : decide ((b : Int) - a ≤ 12) = true := by simp; omega
      clear hwb
      go_wp2_with fail
      refine (ins_srt wr blk L cap a b dk (by rw [HPQ.out.size]; exact HL.out) HHr.out hab hbL (by omega)).mono ?_
      rintro e w' ⟨d', rfl, hp4, hs4, hR4⟩
      have HF := Lib.hid (HPQ.out.fin HL.out hp4 hs4 hR4)
      clear hp4 hs4 hR4
      go_wp2_with fail
      go_end0
      exact HF.out
    · have hdec : decide ((b : Int) - a ≤ 12) = false := by simp; omega
      have hl0 : ((lim : Int) == 0) = false := by simp; omega
      have hlen := HPQ.out.len
      have hbW : blk < wr.heap.size := by
        have h1 := HBL.out
        have h2 := HPQ.out.row.2.size
        omega
      cases wb
      · have h15 : b ≤ a + 15 := by simpa using hwb
        clear hwb
        go_wp2_with fail
        refine (break_u64 wr blk L cap a b dk (by rw [HPQ.out.size]; exact HL.out) HHr.out hbL (by omega) h15 hd).mono ?_
        rintro e w0 ⟨d1, rfl, hpm, hR0⟩
        have HP1 := Lib.hid hpm
        have HR0 := Lib.hid hR0
        have HH0 : Hid (Holds u64v w0 blk 0 d1) := Lib.hid (hR0.holds HHr.out hpm.1)
        have hb0 : blk < w0.heap.size := Nat.lt_of_lt_of_le hbW hR0.2.size
        have hw1 : IntKind.i64.wrap ((lim : Int) - 1) = ((lim - 1 : Nat) : Int) := by rw [IntKind.wrap_i64]; omega
        clear hpm hR0
        go_wp2_with fail
        refine (pivot_u64 w0 blk L cap a b d1 (by rw [HP1.out.1, HPQ.out.size]; exact HL.out) HH0.out hbL (by omega) hd).mono ?_
        rintro e w1 ⟨p, h, rfl, hp1, hp2, hh, hbel⟩
        have HR1 : Hid (RowW wr blk d1 w1) := Lib.hid (HR0.out.below hbW hbel)
        clear hbel hw1
        obtain ⟨lim1, e1, hl1, hl6⟩ : ∃ lim1 : Nat, lim - 1 = lim1 ∧ lim ≤ lim1 + 1 ∧ lim1 ≤ 64 := ⟨lim - 1, rfl, by omega, by omega⟩
        have h2 : (h == 2) = false := by simp; omega
        rw [e1]
        clear hh e1
        by_cases ha0 : a = 0
        · have hdec : decide ((0 : Int) < (a : Int)) = false := by simp; omega
          have hdec2 : decide (0 < a) = false := by simp; omega
          clear ha0
          go_wp2
          go_quiet ((go_at_call 60; exact Calls.quiet_of_same (less_same _ _ _)))
          obtain ⟨w2, hw2⟩ : ∃ w2, w2 = w1.drewN nq := ⟨_, rfl⟩
          rw [← hw2]
          have HR2 : Hid (RowW wr blk d1 w2) := Lib.hid (by rw [hw2]; exact HR1.out.drewN nq)
          clear hw2 hdec hdec2 HR1
          go_wp2_with fail
          refine (part_u64 w2 blk L cap a b p d1 (by rw [HP1.out.1, HPQ.out.size]; exact HL.out) (HR2.out.holds HHr.out HP1.out.1) hbL hp1 hp2 hd).mono ?_
          rintro e w3 ⟨mid, fl, d2, rfl, hpt, hR3⟩
          have HPT := Lib.hid hpt
          have HR3 := Lib.hid hR3
          have hm1 := hpt.lo
          have hm2 := hpt.hi
          have HH3 : Hid (Holds u64v w3 blk 0 d2) := Lib.hid (hR3.holds (HR2.out.holds HHr.out HP1.out.1) hpt.perm.1)
          have HZ : Hid (L = d2.size) := Lib.hid (by rw [hpt.perm.1, HP1.out.1, HPQ.out.size]; exact HL.out)
          clear hpt hR3
          by_cases hlr : mid - a < b - mid
          · have hdec : decide ((mid : Int) - a < (b : Int) - mid) = true := by simp; omega
            go_wp2_with fail
            refine (pdq_small w3 blk L cap a mid lim1 d2 HZ.out HH3.out hm1 (by omega) hd (by omega)).mono ?_
            rintro e w4 ⟨d3, rfl, hp4, hs4, hR4⟩
            have HN := Lib.hid (HPQ.out.next HL.out HP1.out ⟨HR2.out.1, HR2.out.2⟩ HPT.out HR3.out hp4 hs4 hR4 (.inl ⟨rfl, rfl, rfl, rfl⟩) hl1)
            clear hp4 hs4 hR4
            go_wp2_with fail
            go_roundw
            case rel => exact ⟨mid + 1, b, lim1, d3, _, fl, (by go_num), rfl, rfl, rfl, rfl, .inr (by omega), hl6, HN⟩
            case measure => simp [intOf]; omega
          · have hdec : decide ((mid : Int) - a < (b : Int) - mid) = false := by simp; omega
            go_wp2_with fail
            have hq := pdq_small w3 blk L cap (mid + 1) b lim1 d2 HZ.out HH3.out (by omega) hbL hd (by omega)
            rw [show ((mid + 1 : Nat) : Int) = (mid : Int) + 1 by omega] at hq
            refine hq.mono ?_
            clear hq
            rintro e w4 ⟨d3, rfl, hp4, hs4, hR4⟩
            have HN := Lib.hid (HPQ.out.next HL.out HP1.out ⟨HR2.out.1, HR2.out.2⟩ HPT.out HR3.out hp4 hs4 hR4 (.inr ⟨rfl, rfl, rfl, rfl⟩) hl1)
            clear hp4 hs4 hR4
            go_wp2_with fail
            go_roundw
            case rel => exact ⟨a, mid, lim1, d3, _, fl, rfl, rfl, rfl, rfl, rfl, .inr (by omega), hl6, HN⟩
            case measure => simp [intOf]; omega
        · have hdec : decide ((0 : Int) < (a : Int)) = true := by simp; omega
          have hdec2 : decide (0 < a) = true := by simp; omega
          have hA := HPQ.out.ahead HL.out hnd.out HP1.out (by omega) hp1 hp2
          have hh := HR1.out.holds HHr.out HP1.out.1
          obtain ⟨c1, f1⟩ := hh (a - 1) (by have := HP1.out.1; have := HPQ.out.size; have := HL.out; omega)
          obtain ⟨c0, f0⟩ := hh p (by have := HP1.out.1; have := HPQ.out.size; have := HL.out; omega)
          rw [Nat.zero_add] at c1 c0 f1 f0
          generalize hx : d1[a - 1]! = x at c1 hA
          generalize hy : d1[p]! = y at c0 hA
          unfold u64v at c1 c0
          have hl1 : ltInt x y = true := by simp [ltInt]; exact hA
          have hw1 : IntKind.i64.wrap ((a : Int) - 1) = ((a - 1 : Nat) : Int) := by rw [IntKind.wrap_i64]; omega
          clear hx hy hh hA ha0
          go_wp2
          go_quiet ((go_at_call 60; exact Calls.quiet_of_same (less_same _ _ _)))
          clear c1 c0 f1 f0 hl1 hw1
          obtain ⟨w2, hw2⟩ : ∃ w2, w2 = w1.drewN nq := ⟨_, rfl⟩
          rw [← hw2]
          have HR2 : Hid (RowW wr blk d1 w2) := Lib.hid (by rw [hw2]; exact HR1.out.drewN nq)
          clear hw2 hdec hdec2 HR1
          go_wp2_with fail
          refine (part_u64 w2 blk L cap a b p d1 (by rw [HP1.out.1, HPQ.out.size]; exact HL.out) (HR2.out.holds HHr.out HP1.out.1) hbL hp1 hp2 hd).mono ?_
          rintro e w3 ⟨mid, fl, d2, rfl, hpt, hR3⟩
          have HPT := Lib.hid hpt
          have HR3 := Lib.hid hR3
          have hm1 := hpt.lo
          have hm2 := hpt.hi
          have HH3 : Hid (Holds u64v w3 blk 0 d2) := Lib.hid (hR3.holds (HR2.out.holds HHr.out HP1.out.1) hpt.perm.1)
          have HZ : Hid (L = d2.size) := Lib.hid (by rw [hpt.perm.1, HP1.out.1, HPQ.out.size]; exact HL.out)
          clear hpt hR3
          by_cases hlr : mid - a < b - mid
          · have hdec : decide ((mid : Int) - a < (b : Int) - mid) = true := by simp; omega
            go_wp2_with fail
            refine (pdq_small w3 blk L cap a mid lim1 d2 HZ.out HH3.out hm1 (by omega) hd (by omega)).mono ?_
            rintro e w4 ⟨d3, rfl, hp4, hs4, hR4⟩
            have HN := Lib.hid (HPQ.out.next HL.out HP1.out ⟨HR2.out.1, HR2.out.2⟩ HPT.out HR3.out hp4 hs4 hR4 (.inl ⟨rfl, rfl, rfl, rfl⟩) hl1)
            clear hp4 hs4 hR4
            go_wp2_with fail
            go_roundw
            case rel => exact ⟨mid + 1, b, lim1, d3, _, fl, (by go_num), rfl, rfl, rfl, rfl, .inr (by omega), hl6, HN⟩
            case measure => simp [intOf]; omega
          · have hdec : decide ((mid : Int) - a < (b : Int) - mid) = false := by simp; omega
            go_wp2_with fail
            have hq := pdq_small w3 blk L cap (mid + 1) b lim1 d2 HZ.out HH3.out (by omega) hbL hd (by omega)
            rw [show ((mid + 1 : Nat) : Int) = (mid : Int) + 1 by omega] at hq
            refine hq.mono ?_
            clear hq
            rintro e w4 ⟨d3, rfl, hp4, hs4, hR4⟩
            have HN := Lib.hid (HPQ.out.next HL.out HP1.out ⟨HR2.out.1, HR2.out.2⟩ HPT.out HR3.out hp4 hs4 hR4 (.inr ⟨rfl, rfl, rfl, rfl⟩) hl1)
            clear hp4 hs4 hR4
            go_wp2_with fail
            go_roundw
            case rel => exact ⟨a, mid, lim1, d3, _, fl, rfl, rfl, rfl, rfl, rfl, .inr (by omega), hl6, HN⟩
            case measure => simp [intOf]; omega
      · clear hwb
        go_wp2_with fail
        refine (pivot_u64 wr blk L cap a b dk (by rw [HPQ.out.size]; exact HL.out) HHr.out hbL (by omega) hd).mono ?_
        rintro e w1 ⟨p, h, rfl, hp1, hp2, hh, hbel⟩
        have HR1 : Hid (RowW wr blk dk w1) := Lib.hid ((RowW.refl HHr.out).below hbW hbel)
        have HP1 : Hid (PermIn a b dk dk) := Lib.hid (permIn_refl dk a b)
        have hl1 : lim ≤ lim + 1 := by omega
        clear hbel
        cases wp
        · have h2 : (h == 2) = false := by simp; omega
          clear hh
          by_cases ha0 : a = 0
          · have hdec : decide ((0 : Int) < (a : Int)) = false := by simp; omega
            have hdec2 : decide (0 < a) = false := by simp; omega
            clear ha0
            go_wp2
            go_quiet ((go_at_call 60; exact Calls.quiet_of_same (less_same _ _ _)))
            obtain ⟨w2, hw2⟩ : ∃ w2, w2 = w1.drewN nq := ⟨_, rfl⟩
            rw [← hw2]
            have HR2 : Hid (RowW wr blk dk w2) := Lib.hid (by rw [hw2]; exact HR1.out.drewN nq)
            clear hw2 hdec hdec2 HR1
            go_wp2_with fail
            refine (part_u64 w2 blk L cap a b p dk (by rw [HP1.out.1, HPQ.out.size]; exact HL.out) (HR2.out.holds HHr.out HP1.out.1) hbL hp1 hp2 hd).mono ?_
            rintro e w3 ⟨mid, fl, d2, rfl, hpt, hR3⟩
            have HPT := Lib.hid hpt
            have HR3 := Lib.hid hR3
            have hm1 := hpt.lo
            have hm2 := hpt.hi
            have HH3 : Hid (Holds u64v w3 blk 0 d2) := Lib.hid (hR3.holds (HR2.out.holds HHr.out HP1.out.1) hpt.perm.1)
            have HZ : Hid (L = d2.size) := Lib.hid (by rw [hpt.perm.1, HP1.out.1, HPQ.out.size]; exact HL.out)
            clear hpt hR3
            by_cases hlr : mid - a < b - mid
            · have hdec : decide ((mid : Int) - a < (b : Int) - mid) = true := by simp; omega
              go_wp2_with fail
              refine (pdq_small w3 blk L cap a mid lim d2 HZ.out HH3.out hm1 (by omega) hd (by omega)).mono ?_
              rintro e w4 ⟨d3, rfl, hp4, hs4, hR4⟩
              have HN := Lib.hid (HPQ.out.next HL.out HP1.out ⟨HR2.out.1, HR2.out.2⟩ HPT.out HR3.out hp4 hs4 hR4 (.inl ⟨rfl, rfl, rfl, rfl⟩) hl1)
              clear hp4 hs4 hR4
              go_wp2_with fail
              go_roundw
              case rel => exact ⟨mid + 1, b, lim, d3, _, fl, (by go_num), rfl, rfl, rfl, rfl, .inr (by omega), hl64, HN⟩
              case measure => simp [intOf]; omega
            · have hdec : decide ((mid : Int) - a < (b : Int) - mid) = false := by simp; omega
              go_wp2_with fail
              have hq := pdq_small w3 blk L cap (mid + 1) b lim d2 HZ.out HH3.out (by omega) hbL hd (by omega)
              rw [show ((mid + 1 : Nat) : Int) = (mid : Int) + 1 by omega] at hq
              refine hq.mono ?_
              clear hq
              rintro e w4 ⟨d3, rfl, hp4, hs4, hR4⟩
              have HN := Lib.hid (HPQ.out.next HL.out HP1.out ⟨HR2.out.1, HR2.out.2⟩ HPT.out HR3.out hp4 hs4 hR4 (.inr ⟨rfl, rfl, rfl, rfl⟩) hl1)
              clear hp4 hs4 hR4
              go_wp2_with fail
              go_roundw
              case rel => exact ⟨a, mid, lim, d3, _, fl, rfl, rfl, rfl, rfl, rfl, .inr (by omega), hl64, HN⟩
              case measure => simp [intOf]; omega
          · have hdec : decide ((0 : Int) < (a : Int)) = true := by simp; omega
            have hdec2 : decide (0 < a) = true := by simp; omega
            have hA := HPQ.out.ahead HL.out hnd.out HP1.out (by omega) hp1 hp2
            have hh := HR1.out.holds HHr.out HP1.out.1
            obtain ⟨c1, f1⟩ := hh (a - 1) (by have := HP1.out.1; have := HPQ.out.size; have := HL.out; omega)
            obtain ⟨c0, f0⟩ := hh p (by have := HP1.out.1; have := HPQ.out.size; have := HL.out; omega)
            rw [Nat.zero_add] at c1 c0 f1 f0
            generalize hx : dk[a - 1]! = x at c1 hA
            generalize hy : dk[p]! = y at c0 hA
            unfold u64v at c1 c0
            have hl1 : ltInt x y = true := by simp [ltInt]; exact hA
            have hw1 : IntKind.i64.wrap ((a : Int) - 1) = ((a - 1 : Nat) : Int) := by rw [IntKind.wrap_i64]; omega
            clear hx hy hh hA ha0
            go_wp2
            go_quiet ((go_at_call 60; exact Calls.quiet_of_same (less_same _ _ _)))
            clear c1 c0 f1 f0 hl1 hw1
            obtain ⟨w2, hw2⟩ : ∃ w2, w2 = w1.drewN nq := ⟨_, rfl⟩
            rw [← hw2]
            have HR2 : Hid (RowW wr blk dk w2) := Lib.hid (by rw [hw2]; exact HR1.out.drewN nq)
            clear hw2 hdec hdec2 HR1
            go_wp2_with fail
            refine (part_u64 w2 blk L cap a b p dk (by rw [HP1.out.1, HPQ.out.size]; exact HL.out) (HR2.out.holds HHr.out HP1.out.1) hbL hp1 hp2 hd).mono ?_
            rintro e w3 ⟨mid, fl, d2, rfl, hpt, hR3⟩
            have HPT := Lib.hid hpt
            have HR3 := Lib.hid hR3
            have hm1 := hpt.lo
            have hm2 := hpt.hi
            have HH3 : Hid (Holds u64v w3 blk 0 d2) := Lib.hid (hR3.holds (HR2.out.holds HHr.out HP1.out.1) hpt.perm.1)
            have HZ : Hid (L = d2.size) := Lib.hid (by rw [hpt.perm.1, HP1.out.1, HPQ.out.size]; exact HL.out)
            clear hpt hR3
            by_cases hlr : mid - a < b - mid
            · have hdec : decide ((mid : Int) - a < (b : Int) - mid) = true := by simp; omega
              go_wp2_with fail
              refine (pdq_small w3 blk L cap a mid lim d2 HZ.out HH3.out hm1 (by omega) hd (by omega)).mono ?_
              rintro e w4 ⟨d3, rfl, hp4, hs4, hR4⟩
              have HN := Lib.hid (HPQ.out.next HL.out HP1.out ⟨HR2.out.1, HR2.out.2⟩ HPT.out HR3.out hp4 hs4 hR4 (.inl ⟨rfl, rfl, rfl, rfl⟩) hl1)
              clear hp4 hs4 hR4
              go_wp2_with fail
              go_roundw
              case rel => exact ⟨mid + 1, b, lim, d3, _, fl, (by go_num), rfl, rfl, rfl, rfl, .inr (by omega), hl64, HN⟩
              case measure => simp [intOf]; omega
            · have hdec : decide ((mid : Int) - a < (b : Int) - mid) = false := by simp; omega
              go_wp2_with fail
              have hq := pdq_small w3 blk L cap (mid + 1) b lim d2 HZ.out HH3.out (by omega) hbL hd (by omega)
              rw [show ((mid + 1 : Nat) : Int) = (mid : Int) + 1 by omega] at hq
              refine hq.mono ?_
              clear hq
              rintro e w4 ⟨d3, rfl, hp4, hs4, hR4⟩
              have HN := Lib.hid (HPQ.out.next HL.out HP1.out ⟨HR2.out.1, HR2.out.2⟩ HPT.out HR3.out hp4 hs4 hR4 (.inr ⟨rfl, rfl, rfl, rfl⟩) hl1)
              clear hp4 hs4 hR4
              go_wp2_with fail
              go_roundw
              case rel => exact ⟨a, mid, lim, d3, _, fl, rfl, rfl, rfl, rfl, rfl, .inr (by omega), hl64, HN⟩
              case measure => simp [intOf]; omega
        · rcases hh with rfl | rfl
          · skip
            by_cases ha0 : a = 0
            · have hdec : decide ((0 : Int) < (a : Int)) = false := by simp; omega
              have hdec2 : decide (0 < a) = false := by simp; omega
              clear ha0
              go_wp2
              go_quiet ((go_at_call 60; exact Calls.quiet_of_same (less_same _ _ _)))
              obtain ⟨w2, hw2⟩ : ∃ w2, w2 = w1.drewN nq := ⟨_, rfl⟩
              rw [← hw2]
              have HR2 : Hid (RowW wr blk dk w2) := Lib.hid (by rw [hw2]; exact HR1.out.drewN nq)
              clear hw2 hdec hdec2 HR1
              go_wp2_with fail
              refine (part_u64 w2 blk L cap a b p dk (by rw [HP1.out.1, HPQ.out.size]; exact HL.out) (HR2.out.holds HHr.out HP1.out.1) hbL hp1 hp2 hd).mono ?_
              rintro e w3 ⟨mid, fl, d2, rfl, hpt, hR3⟩
              have HPT := Lib.hid hpt
              have HR3 := Lib.hid hR3
              have hm1 := hpt.lo
              have hm2 := hpt.hi
              have HH3 : Hid (Holds u64v w3 blk 0 d2) := Lib.hid (hR3.holds (HR2.out.holds HHr.out HP1.out.1) hpt.perm.1)
              have HZ : Hid (L = d2.size) := Lib.hid (by rw [hpt.perm.1, HP1.out.1, HPQ.out.size]; exact HL.out)
              clear hpt hR3
              by_cases hlr : mid - a < b - mid
              · have hdec : decide ((mid : Int) - a < (b : Int) - mid) = true := by simp; omega
                go_wp2_with fail
                refine (pdq_small w3 blk L cap a mid lim d2 HZ.out HH3.out hm1 (by omega) hd (by omega)).mono ?_
                rintro e w4 ⟨d3, rfl, hp4, hs4, hR4⟩
                have HN := Lib.hid (HPQ.out.next HL.out HP1.out ⟨HR2.out.1, HR2.out.2⟩ HPT.out HR3.out hp4 hs4 hR4 (.inl ⟨rfl, rfl, rfl, rfl⟩) hl1)
                clear hp4 hs4 hR4
                go_wp2_with fail
                go_roundw
                case rel => exact ⟨mid + 1, b, lim, d3, _, fl, (by go_num), rfl, rfl, rfl, rfl, .inr (by omega), hl64, HN⟩
                case measure => simp [intOf]; omega
              · have hdec : decide ((mid : Int) - a < (b : Int) - mid) = false := by simp; omega
                go_wp2_with fail
                have hq := pdq_small w3 blk L cap (mid + 1) b lim d2 HZ.out HH3.out (by omega) hbL hd (by omega)
                rw [show ((mid + 1 : Nat) : Int) = (mid : Int) + 1 by omega] at hq
                refine hq.mono ?_
                clear hq
                rintro e w4 ⟨d3, rfl, hp4, hs4, hR4⟩
                have HN := Lib.hid (HPQ.out.next HL.out HP1.out ⟨HR2.out.1, HR2.out.2⟩ HPT.out HR3.out hp4 hs4 hR4 (.inr ⟨rfl, rfl, rfl, rfl⟩) hl1)
                clear hp4 hs4 hR4
                go_wp2_with fail
                go_roundw
                case rel => exact ⟨a, mid, lim, d3, _, fl, rfl, rfl, rfl, rfl, rfl, .inr (by omega), hl64, HN⟩
                case measure => simp [intOf]; omega
            · have hdec : decide ((0 : Int) < (a : Int)) = true := by simp; omega
              have hdec2 : decide (0 < a) = true := by simp; omega
              have hA := HPQ.out.ahead HL.out hnd.out HP1.out (by omega) hp1 hp2
              have hh := HR1.out.holds HHr.out HP1.out.1
              obtain ⟨c1, f1⟩ := hh (a - 1) (by have := HP1.out.1; have := HPQ.out.size; have := HL.out; omega)
              obtain ⟨c0, f0⟩ := hh p (by have := HP1.out.1; have := HPQ.out.size; have := HL.out; omega)
              rw [Nat.zero_add] at c1 c0 f1 f0
              generalize hx : dk[a - 1]! = x at c1 hA
              generalize hy : dk[p]! = y at c0 hA
              unfold u64v at c1 c0
              have hl1 : ltInt x y = true := by simp [ltInt]; exact hA
              have hw1 : IntKind.i64.wrap ((a : Int) - 1) = ((a - 1 : Nat) : Int) := by rw [IntKind.wrap_i64]; omega
              clear hx hy hh hA ha0
              go_wp2
              go_quiet ((go_at_call 60; exact Calls.quiet_of_same (less_same _ _ _)))
              clear c1 c0 f1 f0 hl1 hw1
              obtain ⟨w2, hw2⟩ : ∃ w2, w2 = w1.drewN nq := ⟨_, rfl⟩
              rw [← hw2]
              have HR2 : Hid (RowW wr blk dk w2) := Lib.hid (by rw [hw2]; exact HR1.out.drewN nq)
              clear hw2 hdec hdec2 HR1
              go_wp2_with fail
              refine (part_u64 w2 blk L cap a b p dk (by rw [HP1.out.1, HPQ.out.size]; exact HL.out) (HR2.out.holds HHr.out HP1.out.1) hbL hp1 hp2 hd).mono ?_
              rintro e w3 ⟨mid, fl, d2, rfl, hpt, hR3⟩
              have HPT := Lib.hid hpt
              have HR3 := Lib.hid hR3
              have hm1 := hpt.lo
              have hm2 := hpt.hi
              have HH3 : Hid (Holds u64v w3 blk 0 d2) := Lib.hid (hR3.holds (HR2.out.holds HHr.out HP1.out.1) hpt.perm.1)
              have HZ : Hid (L = d2.size) := Lib.hid (by rw [hpt.perm.1, HP1.out.1, HPQ.out.size]; exact HL.out)
              clear hpt hR3
              by_cases hlr : mid - a < b - mid
              · have hdec : decide ((mid : Int) - a < (b : Int) - mid) = true := by simp; omega
                go_wp2_with fail
                refine (pdq_small w3 blk L cap a mid lim d2 HZ.out HH3.out hm1 (by omega) hd (by omega)).mono ?_
                rintro e w4 ⟨d3, rfl, hp4, hs4, hR4⟩
                have HN := Lib.hid (HPQ.out.next HL.out HP1.out ⟨HR2.out.1, HR2.out.2⟩ HPT.out HR3.out hp4 hs4 hR4 (.inl ⟨rfl, rfl, rfl, rfl⟩) hl1)
                clear hp4 hs4 hR4
                go_wp2_with fail
                go_roundw
                case rel => exact ⟨mid + 1, b, lim, d3, _, fl, (by go_num), rfl, rfl, rfl, rfl, .inr (by omega), hl64, HN⟩
                case measure => simp [intOf]; omega
              · have hdec : decide ((mid : Int) - a < (b : Int) - mid) = false := by simp; omega
                go_wp2_with fail
                have hq := pdq_small w3 blk L cap (mid + 1) b lim d2 HZ.out HH3.out (by omega) hbL hd (by omega)
                rw [show ((mid + 1 : Nat) : Int) = (mid : Int) + 1 by omega] at hq
                refine hq.mono ?_
                clear hq
                rintro e w4 ⟨d3, rfl, hp4, hs4, hR4⟩
                have HN := Lib.hid (HPQ.out.next HL.out HP1.out ⟨HR2.out.1, HR2.out.2⟩ HPT.out HR3.out hp4 hs4 hR4 (.inr ⟨rfl, rfl, rfl, rfl⟩) hl1)
                clear hp4 hs4 hR4
                go_wp2_with fail
                go_roundw
                case rel => exact ⟨a, mid, lim, d3, _, fl, rfl, rfl, rfl, rfl, rfl, .inr (by omega), hl64, HN⟩
                case measure => simp [intOf]; omega
          · go_wp2_with fail
            refine (partial_u64 w1 blk L cap a b dk (by rw [HPQ.out.size]; exact HL.out) (HR1.out.holds HHr.out rfl) hbL (by omega) hd).mono ?_
            rintro e w0 ⟨r, rfl, hr, hbel⟩
            have HR0 : Hid (RowW wr blk dk w0) := Lib.hid (HR1.out.below hbW hbel)
            clear hbel HR1
            cases r
            · clear hr
              by_cases ha0 : a = 0
              · have hdec : decide ((0 : Int) < (a : Int)) = false := by simp; omega
                have hdec2 : decide (0 < a) = false := by simp; omega
                clear ha0
                go_wp2
                go_quiet ((go_at_call 60; exact Calls.quiet_of_same (less_same _ _ _)))
                obtain ⟨w2, hw2⟩ : ∃ w2, w2 = w0.drewN nq := ⟨_, rfl⟩
                rw [← hw2]
                have HR2 : Hid (RowW wr blk dk w2) := Lib.hid (by rw [hw2]; exact HR0.out.drewN nq)
                clear hw2 hdec hdec2 HR0
                go_wp2_with fail
                refine (part_u64 w2 blk L cap a b p dk (by rw [HP1.out.1, HPQ.out.size]; exact HL.out) (HR2.out.holds HHr.out HP1.out.1) hbL hp1 hp2 hd).mono ?_
                rintro e w3 ⟨mid, fl, d2, rfl, hpt, hR3⟩
                have HPT := Lib.hid hpt
                have HR3 := Lib.hid hR3
                have hm1 := hpt.lo
                have hm2 := hpt.hi
                have HH3 : Hid (Holds u64v w3 blk 0 d2) := Lib.hid (hR3.holds (HR2.out.holds HHr.out HP1.out.1) hpt.perm.1)
                have HZ : Hid (L = d2.size) := Lib.hid (by rw [hpt.perm.1, HP1.out.1, HPQ.out.size]; exact HL.out)
                clear hpt hR3
                by_cases hlr : mid - a < b - mid
                · have hdec : decide ((mid : Int) - a < (b : Int) - mid) = true := by simp; omega
                  go_wp2_with fail
                  refine (pdq_small w3 blk L cap a mid lim d2 HZ.out HH3.out hm1 (by omega) hd (by omega)).mono ?_
                  rintro e w4 ⟨d3, rfl, hp4, hs4, hR4⟩
                  have HN := Lib.hid (HPQ.out.next HL.out HP1.out ⟨HR2.out.1, HR2.out.2⟩ HPT.out HR3.out hp4 hs4 hR4 (.inl ⟨rfl, rfl, rfl, rfl⟩) hl1)
                  clear hp4 hs4 hR4
                  go_wp2_with fail
                  go_roundw
                  case rel => exact ⟨mid + 1, b, lim, d3, _, fl, (by go_num), rfl, rfl, rfl, rfl, .inr (by omega), hl64, HN⟩
                  case measure => simp [intOf]; omega
                · have hdec : decide ((mid : Int) - a < (b : Int) - mid) = false := by simp; omega
                  go_wp2_with fail
                  have hq := pdq_small w3 blk L cap (mid + 1) b lim d2 HZ.out HH3.out (by omega) hbL hd (by omega)
                  rw [show ((mid + 1 : Nat) : Int) = (mid : Int) + 1 by omega] at hq
                  refine hq.mono ?_
                  clear hq
                  rintro e w4 ⟨d3, rfl, hp4, hs4, hR4⟩
                  have HN := Lib.hid (HPQ.out.next HL.out HP1.out ⟨HR2.out.1, HR2.out.2⟩ HPT.out HR3.out hp4 hs4 hR4 (.inr ⟨rfl, rfl, rfl, rfl⟩) hl1)
                  clear hp4 hs4 hR4
                  go_wp2_with fail
                  go_roundw
                  case rel => exact ⟨a, mid, lim, d3, _, fl, rfl, rfl, rfl, rfl, rfl, .inr (by omega), hl64, HN⟩
                  case measure => simp [intOf]; omega
              · have hdec : decide ((0 : Int) < (a : Int)) = true := by simp; omega
                have hdec2 : decide (0 < a) = true := by simp; omega
                have hA := HPQ.out.ahead HL.out hnd.out HP1.out (by omega) hp1 hp2
                have hh := HR0.out.holds HHr.out HP1.out.1
                obtain ⟨c1, f1⟩ := hh (a - 1) (by have := HP1.out.1; have := HPQ.out.size; have := HL.out; omega)
                obtain ⟨c0, f0⟩ := hh p (by have := HP1.out.1; have := HPQ.out.size; have := HL.out; omega)
                rw [Nat.zero_add] at c1 c0 f1 f0
                generalize hx : dk[a - 1]! = x at c1 hA
                generalize hy : dk[p]! = y at c0 hA
                unfold u64v at c1 c0
                have hl1 : ltInt x y = true := by simp [ltInt]; exact hA
                have hw0 : IntKind.i64.wrap ((a : Int) - 1) = ((a - 1 : Nat) : Int) := by rw [IntKind.wrap_i64]; omega
                clear hx hy hh hA ha0
                go_wp2
                go_quiet ((go_at_call 60; exact Calls.quiet_of_same (less_same _ _ _)))
                clear c1 c0 f1 f0 hl1 hw0
                obtain ⟨w2, hw2⟩ : ∃ w2, w2 = w0.drewN nq := ⟨_, rfl⟩
                rw [← hw2]
                have HR2 : Hid (RowW wr blk dk w2) := Lib.hid (by rw [hw2]; exact HR0.out.drewN nq)
                clear hw2 hdec hdec2 HR0
                go_wp2_with fail
                refine (part_u64 w2 blk L cap a b p dk (by rw [HP1.out.1, HPQ.out.size]; exact HL.out) (HR2.out.holds HHr.out HP1.out.1) hbL hp1 hp2 hd).mono ?_
                rintro e w3 ⟨mid, fl, d2, rfl, hpt, hR3⟩
                have HPT := Lib.hid hpt
                have HR3 := Lib.hid hR3
                have hm1 := hpt.lo
                have hm2 := hpt.hi
                have HH3 : Hid (Holds u64v w3 blk 0 d2) := Lib.hid (hR3.holds (HR2.out.holds HHr.out HP1.out.1) hpt.perm.1)
                have HZ : Hid (L = d2.size) := Lib.hid (by rw [hpt.perm.1, HP1.out.1, HPQ.out.size]; exact HL.out)
                clear hpt hR3
                by_cases hlr : mid - a < b - mid
                · have hdec : decide ((mid : Int) - a < (b : Int) - mid) = true := by simp; omega
                  go_wp2_with fail
                  refine (pdq_small w3 blk L cap a mid lim d2 HZ.out HH3.out hm1 (by omega) hd (by omega)).mono ?_
                  rintro e w4 ⟨d3, rfl, hp4, hs4, hR4⟩
                  have HN := Lib.hid (HPQ.out.next HL.out HP1.out ⟨HR2.out.1, HR2.out.2⟩ HPT.out HR3.out hp4 hs4 hR4 (.inl ⟨rfl, rfl, rfl, rfl⟩) hl1)
                  clear hp4 hs4 hR4
                  go_wp2_with fail
                  go_roundw
                  case rel => exact ⟨mid + 1, b, lim, d3, _, fl, (by go_num), rfl, rfl, rfl, rfl, .inr (by omega), hl64, HN⟩
                  case measure => simp [intOf]; omega
                · have hdec : decide ((mid : Int) - a < (b : Int) - mid) = false := by simp; omega
                  go_wp2_with fail
                  have hq := pdq_small w3 blk L cap (mid + 1) b lim d2 HZ.out HH3.out (by omega) hbL hd (by omega)
                  rw [show ((mid + 1 : Nat) : Int) = (mid : Int) + 1 by omega] at hq
                  refine hq.mono ?_
                  clear hq
                  rintro e w4 ⟨d3, rfl, hp4, hs4, hR4⟩
                  have HN := Lib.hid (HPQ.out.next HL.out HP1.out ⟨HR2.out.1, HR2.out.2⟩ HPT.out HR3.out hp4 hs4 hR4 (.inr ⟨rfl, rfl, rfl, rfl⟩) hl1)
                  clear hp4 hs4 hR4
                  go_wp2_with fail
                  go_roundw
                  case rel => exact ⟨a, mid, lim, d3, _, fl, rfl, rfl, rfl, rfl, rfl, .inr (by omega), hl64, HN⟩
                  case measure => simp [intOf]; omega
            · have HF := Lib.hid (HPQ.out.fin HL.out HP1.out (hr rfl) HR0.out)
              clear hr
              go_wp2_with fail
              go_end0
              exact HF.out

end Go.Proofs.Ytckmenongeklpaa

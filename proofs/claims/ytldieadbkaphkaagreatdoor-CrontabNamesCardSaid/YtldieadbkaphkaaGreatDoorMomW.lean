/- The reference's calendar: leap, length, Moment; the program's Names and At. -/
import Derived.Test.YtldieadbkaphkaaGreatDoorCalW
import Derived.Test.YtldieadbkaphkaaGreatDoorRule
namespace Go.Proofs.YtldieadbkaphkaaGreatDoor
open Go.RowKit Go.ChangeMaps

theorem refLeap_any (w : World) (y : Int) (h0 : 0 ≤ y) (h1 : y ≤ 1000000000) : Calls Tryz.prog 24 #[.int .i64 y] w (Ret (.bool (lpY y == 1)) w) := by
  have E : Hid ((lpY y == 1) = decide (y % 4 = 0 ∧ (y % 100 ≠ 0 ∨ y % 400 = 0))) := Lib.hid (by unfold lpY; split <;> simp_all)
  by_cases h400 : y % 400 = 0
  · have h4 : y % 4 = 0 := by omega
    have E2 := Lib.hid (show (lpY y == 1) = true by rw [E.out]; simp [h4, h400])
    clear E h4
    go_enter Tryz.func24, Tryz.ntmps24
    go_wp2
    go_ret
    exact Ret.mk (bool_eq (by rw [E2.out]))
  · have hb : (y % 400 == 0) = false := by simpa using h400
    have E2 := Lib.hid (show (lpY y == 1) = decide (y % 4 = 0 ∧ y % 100 ≠ 0) by rw [E.out]; simp [h400])
    clear E h400
    by_cases h4 : y % 4 = 0
    · by_cases h100 : y % 100 = 0
      · have E3 := Lib.hid (show (lpY y == 1) = false by rw [E2.out]; simp [h100])
        clear E2
        go_enter Tryz.func24, Tryz.ntmps24
        go_wp2
        go_ret
        exact Ret.mk (bool_eq (by rw [E3.out]))
      · have E3 := Lib.hid (show (lpY y == 1) = true by rw [E2.out]; simp [h4, h100])
        have hb2 : (y % 100 != 0) = true := by simpa using h100
        have hb3 : (y % 100 == 0) = false := by simpa using h100
        clear E2 h100
        go_enter Tryz.func24, Tryz.ntmps24
        go_wp2
        go_ret
        exact Ret.mk (bool_eq (by rw [E3.out]))
    · have E3 := Lib.hid (show (lpY y == 1) = false by rw [E2.out]; simp [h4])
      have hb2 : (y % 4 == 0) = false := by simpa using h4
      clear E2 h4
      go_enter Tryz.func24, Tryz.ntmps24
      go_wp2
      go_ret
      exact Ret.mk (bool_eq (by rw [E3.out]))

set_option maxHeartbeats 4000000 in
theorem refLength_any (w : World) (y m : Int) (h0 : 0 ≤ y) (h1 : y ≤ 1000000000) (m1 : 1 ≤ m) (m2 : m ≤ 12) : Calls Tryz.prog 25 #[.int .i64 y, .int .i64 m] w (RetB (.int .i64 (lenM (lpY y) m)) w) := by
  have hl := fun W => refLeap_any W y h0 h1
  have h01 := Lib.hid (lpY_01 y)
  have E := Lib.hid (show lenM (lpY y) m = if m = 2 then 28 + lpY y else if m = 4 ∨ m = 6 ∨ m = 9 ∨ m = 11 then 30 else 31 from rfl)
  rcases month_cases m1 m2 with rfl | rfl | rfl | rfl | rfl | rfl | rfl | rfl | rfl | rfl | rfl | rfl
  case inr.inl =>
    generalize lpY y = lp at *
    rcases h01.out with rfl | rfl
    all_goals
      go_enter Tryz.func25, Tryz.ntmps25
      go_wp2_with fail
      refine (hl _).mono ?_
      rintro e w' ⟨rfl, rfl⟩
      go_wp2
      go_ret
      exact RetB.mk (by rw [E.out]; rfl) (by first | exact Below.refl _ _ | exact (Below.refl _ _).alloc (Nat.le_refl _) _)
  all_goals
    clear hl
    go_enter Tryz.func25, Tryz.ntmps25
    go_wp2
    go_ret
    exact RetB.mk (by rw [E.out]; rfl) ((Below.refl _ _).alloc (Nat.le_refl _) _)

theorem info_mom : (Tryz.prog.info? 37).map (·.size) = some 6 := by kernel_rfl

def momC (y m d wd h mi : Int) : Array Value := #[.int .i64 y, .int .i64 m, .int .i64 d, .int .i64 wd, .int .i64 h, .int .i64 mi]
theorem mom_eq {t y m d : Int} (h0 : 0 ≤ t) (h : IsDate y m d (t / 1440)) : momF t = ⟨y, m, d, (t / 1440 + 6) % 7, t % 1440 / 60, t % 60⟩ := by
  have hc := civ_date (t / 1440 + 730425) (by omega)
  rw [show t / 1440 + 730425 - 730425 = t / 1440 by omega] at hc
  obtain ⟨e1, e2, e3⟩ := hc.unique h
  unfold momF
  rw [e1, e2, e3, show t % 1440 % 60 = t % 60 by omega]

set_option maxRecDepth 100000 in
set_option maxHeartbeats 4000000 in
theorem refMoment_any (w : World) (t : Int) (h0 : 0 ≤ t) (h1 : t ≤ 1099511627776) : Calls Tryz.prog 12 #[.int .i64 t] w (RetB (momF t).v w) := by
  have HL : Hid (∀ W y, 0 ≤ y → y ≤ 1000000000 → Calls Tryz.prog 24 #[.int .i64 y] W (Ret (.bool (lpY y == 1)) W)) := Lib.hid refLeap_any
  have HN : Hid (∀ W y m, 0 ≤ y → y ≤ 1000000000 → 1 ≤ m → m ≤ 12 → Calls Tryz.prog 25 #[.int .i64 y, .int .i64 m] W (RetB (.int .i64 (lenM (lpY y) m)) W)) := Lib.hid refLength_any
  have HF := Lib.hid (fun y m d (h : IsDate y m d (t / 1440)) => mom_eq h0 h)
  have HB1 : Hid (∀ k : Int, 0 ≤ k → k ≤ 5300 → dby (2000 + 400 * k) = 730485 + 146097 * k) := Lib.hid fun k a b => by unfold dby; omega
  obtain ⟨n, hn⟩ : ∃ n, n = t / 1440 := ⟨_, rfl⟩
  obtain ⟨e, he⟩ : ∃ e, e = n / 146097 := ⟨_, rfl⟩
  obtain ⟨r, hr⟩ : ∃ r, r = n % 146097 := ⟨_, rfl⟩
  have hn0 : 0 ≤ n ∧ n ≤ 763549741 := by omega
  have he0 : 0 ≤ e ∧ e ≤ 5300 := by omega
  have hr0 : 0 ≤ r ∧ r < 146097 := by omega
  have HNR := Lib.hid (show n = 146097 * e + r by omega)
  have HE := Lib.hid he
  have HR := Lib.hid hr
  have HNN := Lib.hid hn
  obtain ⟨e0, e1⟩ := he0
  obtain ⟨r0, r1⟩ := hr0
  obtain ⟨n0, n1⟩ := hn0
  go_enter Tryz.func12, Tryz.ntmps12
  go_upto_region 2 with (fail)
  rw [← HNN.out]
  clear hn
  go_upto_region 4 with (fail)
  rw [← HE.out]
  clear he
  go_upto_region 5 with (fail)
  rw [← HR.out]
  clear hr
  have HB : Hid (dby (2000 + e * 400) = 730485 + 146097 * e) := Lib.hid (by have := HB1.out e e0 e1; rw [Int.mul_comm] at this; exact this)
  clear HB1 HR HE
  go_loopw [3, 5] (fun s3 _s5 wr => ∃ y d : Int, s3 = .int .i64 d ∧ wr.heap[w.heap.size]? = some (.cells (momC 0 0 0 0 0 0) 37) ∧ wr.heap[w.heap.size + 1]? = some (.cells (momC y 1 0 ((n + 6) % 7) (t % 1440 / 60) (t % 60)) 37) ∧ Below w.heap.size w wr ∧ 0 ≤ d ∧ dby y + d = n + 730485 ∧ 2000 ≤ y ∧ 365 * y + d ≤ 1000000000 ∧ d ≤ 146097) (fun s3 _ _ => (intOf s3).toNat)
  case atStart =>
    refine ⟨2000 + e * 400, r, rfl, aheap (heap_new w _) _, ?_, ((Below.refl _ _).alloc (Nat.le_refl _) _).alloc (by simp) _, r0, by rw [HB.out, HNR.out]; omega, by omega, by omega, by omega⟩
    have := heap_new (w.alloc (.cells (momC 0 0 0 0 0 0) 37)) (.cells (momC (2000 + e * 400) 1 0 ((n + 6) % 7) (t % 1440 / 60) (t % 60)) 37)
    simpa [momC] using this
  case round =>
    obtain ⟨y, d, rfl, hx, hy, hb, hd0, hs, hy0, hy1, hd1⟩ := hrel
    obtain ⟨wo, rfl⟩ : ∃ wo : World, wo = wr := ⟨_, rfl⟩
    have HX := Lib.hid hx
    have HY := Lib.hid hy
    have HBW := Lib.hid hb
    have HS := Lib.hid hs
    have hsu := Lib.hid (dby_succ y)
    have c0 : wo.cell? ⟨w.heap.size + 1, 0, none⟩ = some (.int .i64 y) := blk_cell hy 0 rfl
    have f0 := blk_free hy 0
    have hlp := HL.out wo y (by omega) (by omega)
    have h01 := lpY_01 y
    clear hx hy hb hs
    by_cases hlt : d < 365 + lpY y
    · have HLP := Lib.hid (lpY_01 y)
      have hin : ∃ b, (lpY y == 1) = b := ⟨_, rfl⟩
      obtain ⟨lb, hlb⟩ := hin
      have hlp2 : lpY y = if lb then 1 else 0 := by rcases h01 with h | h <;> rw [h] at hlb ⊢ <;> subst hlb <;> rfl
      have HLP2 := Lib.hid hlp2
      rw [hlb] at hlp
      rw [hlp2] at hlt
      clear hlb hlp2 h01
      cases lb
      all_goals
        simp only [if_true, Bool.false_eq_true, if_false, Int.add_zero, Int.reduceAdd] at hlt
        have hdd := decide_eq_true hlt
        go_wp2_with fail
        refine hlp.mono ?_
        rintro en w' ⟨rfl, rfl⟩
        clear hlp
        go_wp2_with fail
        go_loopw [3] (fun s3 wr => ∃ m d' : Int, s3 = .int .i64 d' ∧ wr.heap[w.heap.size]? = some (.cells (momC 0 0 0 0 0 0) 37) ∧ wr.heap[w.heap.size + 1]? = some (.cells (momC y m 0 ((n + 6) % 7) (t % 1440 / 60) (t % 60)) 37) ∧ Below w.heap.size w wr ∧ 0 ≤ d' ∧ 1 ≤ m ∧ m ≤ 12 ∧ cumM (lpY y) m + d' = d ∧ d' ≤ 146097) (fun s3 _ => (intOf s3).toNat)
        case atStart => exact ⟨1, d, rfl, HX.out, HY.out, HBW.out, hd0, by omega, by omega, by simp [cumM], hd1⟩
        case round =>
          obtain ⟨m, d', rfl, hx, hy, hb, hd0', hm1, hm2, hc, hd1'⟩ := hrel
          obtain ⟨wo2, rfl⟩ : ∃ wo2 : World, wo2 = wr := ⟨_, rfl⟩
          have HX2 := Lib.hid hx
          have HY2 := Lib.hid hy
          have HBW2 := Lib.hid hb
          have HC2 := Lib.hid hc
          have g0 : wo2.cell? ⟨w.heap.size + 1, 0, none⟩ = some (.int .i64 y) := blk_cell hy 0 rfl
          have g1 : wo2.cell? ⟨w.heap.size + 1, 1, none⟩ = some (.int .i64 m) := blk_cell hy 1 rfl
          have k1 := blk_free hy 1
          have k2 := blk_free hy 2
          have g2 : wo2.cell? ⟨w.heap.size + 1, 2, none⟩ = some (.int .i64 0) := blk_cell hy 2 rfl
          have hlen := HN.out wo2 y m (by omega) (by omega) hm1 hm2
          have hlp := lenM_pos HLP.out m
          have HLEN : Hid (∀ W, Calls Tryz.prog 25 #[.int .i64 y, .int .i64 m] W (RetB (.int .i64 (lenM (lpY y) m)) W)) := Lib.hid fun W => HN.out W y m (by omega) (by omega) hm1 hm2
          have HCS := Lib.hid (cum_succ (lpY y) hm1)
          have HCE := Lib.hid (cum_end (lpY y))
          have HL2 := HLP2.out
          simp only [if_true, Bool.false_eq_true, if_false] at HL2
          have HLY := Lib.hid HL2
          clear hx hy hb hc HL2 c0 f0
          by_cases hle : lenM (lpY y) m ≤ d'
          · have hm11 : m ≤ 11 := by
              by_cases h : m < 12
              · omega
              · exfalso
                have e12 : m = 12 := by omega
                have h1 := HC2.out
                have h2 := HCE.out
                have h3 := HLY.out
                rw [e12] at h1 hle
                omega
            have HIT : Hid (∀ wx : World, Below w.heap.size w wx → wx.heap[w.heap.size]? = some (.cells (momC 0 0 0 0 0 0) 37) → wx.heap[w.heap.size + 1]? = some (.cells (momC y m 0 ((n + 6) % 7) (t % 1440 / 60) (t % 60)) 37) → ∃ m2 d2 : Int, Value.int .i64 (d' - lenM (lpY y) m) = .int .i64 d2 ∧ (wx.setCell ⟨w.heap.size + 1, 1, none⟩ (.int .i64 (m + 1))).heap[w.heap.size]? = some (.cells (momC 0 0 0 0 0 0) 37) ∧ (wx.setCell ⟨w.heap.size + 1, 1, none⟩ (.int .i64 (m + 1))).heap[w.heap.size + 1]? = some (.cells (momC y m2 0 ((n + 6) % 7) (t % 1440 / 60) (t % 60)) 37) ∧ Below w.heap.size w (wx.setCell ⟨w.heap.size + 1, 1, none⟩ (.int .i64 (m + 1))) ∧ 0 ≤ d2 ∧ 1 ≤ m2 ∧ m2 ≤ 12 ∧ cumM (lpY y) m2 + d2 = d ∧ d2 ≤ 146097) :=
              Lib.hid fun wx hb hx hy => ⟨m + 1, d' - lenM (lpY y) m, rfl, blk_set_other hx (by simp) _, blk_set hy 1 _, hb.setCell (by simp) _, by omega, by omega, by omega, by rw [HCS.out hm11]; have := HC2.out; omega, by omega⟩
            clear HCS HCE
            generalize lenM (lpY y) m = len at *
            go_wp2_with fail
            refine hlen.mono ?_
            rintro en w3 ⟨rfl, hb3⟩
            have hx3 := bheap hb3 HX2.out (heap_lt HX2.out)
            have hy3 := bheap hb3 HY2.out (heap_lt HY2.out)
            have HX3 := Lib.hid hx3
            have HY3 := Lib.hid hy3
            have HB3 := Lib.hid (HBW2.out.trans (hb3.mono HBW2.out.size))
            have q0 : w3.cell? ⟨w.heap.size + 1, 0, none⟩ = some (.int .i64 y) := blk_cell hy3 0 rfl
            have q1 : w3.cell? ⟨w.heap.size + 1, 1, none⟩ = some (.int .i64 m) := blk_cell hy3 1 rfl
            have hlen3 := HLEN.out w3
            clear hx3 hy3 hlen g0 g1 g2 k1 k2 hb3
            go_wp2_with fail
            refine hlen3.mono ?_
            rintro en w4 ⟨rfl, hb4⟩
            have hx4 := bheap hb4 HX3.out (heap_lt HX3.out)
            have hy4 := bheap hb4 HY3.out (heap_lt HY3.out)
            have HX4 := Lib.hid hx4
            have HY4 := Lib.hid hy4
            have HB4 := Lib.hid (HB3.out.trans (hb4.mono HB3.out.size))
            have q2 : w4.cell? ⟨w.heap.size + 1, 1, none⟩ = some (.int .i64 m) := blk_cell hy4 1 rfl
            have q3 := blk_free hy4 1
            clear hx4 hy4 hlen3 q0 q1 hb4
            go_wp2_with fail
            go_roundw
            case rel => exact HIT.out w4 HB4.out HX4.out HY4.out
            case measure => simp [intOf]; omega
          · have HFIN : Hid ((momF t).v = .agg #[.int .i64 y, .int .i64 m, .int .i64 (d' + 1), .int .i64 ((n + 6) % 7), .int .i64 (t % 1440 / 60), .int .i64 (t % 60)]) := Lib.hid (by
              have hdate : IsDate y m (d' + 1) (t / 1440) := ⟨hm1, hm2, by omega, by omega, by have := HC2.out; have := HS.out; rw [← HNN.out]; omega⟩
              rw [HF.out y m (d' + 1) hdate, ← HNN.out]
              rfl)
            clear HCS HCE
            generalize lenM (lpY y) m = len at *
            go_wp2_with fail
            refine hlen.mono ?_
            rintro en w3 ⟨rfl, hb3⟩
            have hx3 := bheap hb3 HX2.out (heap_lt HX2.out)
            have hy3 := bheap hb3 HY2.out (heap_lt HY2.out)
            have HX3 := Lib.hid hx3
            have HY3 := Lib.hid hy3
            have HB3 := Lib.hid (HBW2.out.trans (hb3.mono HBW2.out.size))
            have q2 : w3.cell? ⟨w.heap.size + 1, 2, none⟩ = some (.int .i64 0) := blk_cell hy3 2 rfl
            have q3 := blk_free hy3 2
            clear hx3 hy3 hlen g0 g1 g2 k1 k2 hb3
            go_wp2_with (first
              | (refine wpList_load_all _ rfl _ _ rfl _ rfl _ (momC y m (d' + 1) ((n + 6) % 7) (t % 1440 / 60) (t % 60)) _ _ (blk_set HY3.out 2 _) rfl _ Tryz.underlying37 rfl info_mom ?_)
              | (refine wpList_store_all _ rfl _ _ _ rfl _ rfl _ rfl _ _ (blk_set_other HX3.out (by simp) _) ?_ ?_ info_mom ?_ ?_; (focus (simp [momC]; done)); (focus (simp [momC]; done)); (focus (simp [momC, OneCells, Value.oneCell']; done))))
            intro W5 hW5 hk5 _
            go_wp2_with fail
            exact bodyPost_ret (results_blk Tryz.results12 _ _ w.heap.size _ _ _ (by rfl) hW5 _ Tryz.underlying37 rfl info_mom) rfl
              (RetB.mk (by rw [HFIN.out]; rfl) ((HB3.out.setCell (by simp) _).trans (hk5.below (by simpa using HB3.out.size) (fun k hk => Nat.le_of_eq hk.symm))))
    · have hd365 : 365 ≤ d := by omega
      have hrel2 : Hid (∀ wx : World, wx = wo.setCell ⟨w.heap.size + 1, 0, none⟩ (.int .i64 (y + 1)) → ∃ y' d' : Int, Value.int .i64 (d - (365 + lpY y)) = .int .i64 d' ∧ wx.heap[w.heap.size]? = some (.cells (momC 0 0 0 0 0 0) 37) ∧ wx.heap[w.heap.size + 1]? = some (.cells (momC y' 1 0 ((n + 6) % 7) (t % 1440 / 60) (t % 60)) 37) ∧ Below w.heap.size w wx ∧ 0 ≤ d' ∧ dby y' + d' = n + 730485 ∧ 2000 ≤ y' ∧ 365 * y' + d' ≤ 1000000000 ∧ d' ≤ 146097) := Lib.hid fun wx hwx => by
        subst hwx
        exact ⟨y + 1, d - (365 + lpY y), rfl, blk_set_other HX.out (by simp) _, blk_set HY.out 0 _, HBW.out.setCell (by simp) _, by omega, by rw [hsu.out]; have := HS.out; omega, by omega, by omega, by omega⟩
      rcases h01 with hl | hl
      all_goals
        rw [hl] at hlp hrel2 hlt
        clear hl
        go_wp2_with fail
        refine hlp.mono ?_
        rintro en w' ⟨rfl, rfl⟩
        clear hlp
        go_wp2_with fail
        go_roundw
        case rel => exact hrel2.out _ rfl
        case measure => simp [intOf]; omega

end Go.Proofs.YtldieadbkaphkaaGreatDoor

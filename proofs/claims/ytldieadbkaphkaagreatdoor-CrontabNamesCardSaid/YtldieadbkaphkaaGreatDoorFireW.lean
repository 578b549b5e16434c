/- Package fires: has, jump, search, Next, Ever. -/
import Derived.Test.YtldieadbkaphkaaGreatDoorFireL
namespace Go.Proofs.YtldieadbkaphkaaGreatDoor
open Go.RowKit Go.ChangeMaps

theorem firesHas_any (w : World) (v x : Nat) (hv : v < 18446744073709551616) (hx : x ≤ 63) : Calls Tryz.prog 88 #[.int .u64 v, .int .i64 x] w (Ret (.bool (v.testBit x)) w) := by
  have hb := bit_u64 v x hv
  have HB := Lib.hid hb
  clear hb
  go_enter Tryz.func88, Tryz.ntmps88
  go_wp2
  go_ret
  exact Ret.mk (bool_eq (by rw [← HB.out]))

theorem mom_year {t : Int} (h0 : 0 ≤ t) (h1 : t ≤ 1099511627776) : 0 ≤ (momF t).y ∧ (momF t).y ≤ 1000000000 := by
  obtain ⟨a, b⟩ := (momF_date h0).year
  unfold dby at a b
  omega

theorem whole_any (w : World) (e : Ex) (ok : e.Ok) (t : Int) (h0 : 0 ≤ t) :
    Calls Tryz.prog 71 #[.agg #[.int .u64 1, .int .u64 1, .int .u64 e.da, .int .u64 e.mo, .int .u64 e.we, .bool e.ad, .bool e.aw], .agg #[.int .i64 (momF t).y, .int .i64 (momF t).m, .int .i64 (momF t).d, .int .i64 (momF t).wd, .int .i64 0, .int .i64 0]] w (RetB (.bool (wholeB e (momF t))) w) := by
  have hr := mom_range h0
  have h := cronNames_any w ⟨1, 1, e.da, e.mo, e.we, e.ad, e.aw⟩ ⟨show (1 : Nat) < 18446744073709551616 by decide, show (1 : Nat) < 18446744073709551616 by decide, ok.2.2.1, ok.2.2.2.1, ok.2.2.2.2⟩ (momF t).y (momF t).m.toNat (momF t).d.toNat (momF t).wd.toNat 0 0 (by omega) (by omega) (by omega) (by omega) (by omega)
  have e1 : (((momF t).m.toNat : Nat) : Int) = (momF t).m := by omega
  have e2 : (((momF t).d.toNat : Nat) : Int) = (momF t).d := by omega
  have e3 : (((momF t).wd.toNat : Nat) : Int) = (momF t).wd := by omega
  rw [e1, e2, e3] at h
  exact h

set_option maxRecDepth 100000 in
set_option maxHeartbeats 4000000 in
theorem jump_any (w : World) (e : Ex) (ok : e.Ok) (t : Int) (h0 : 0 ≤ t) (h1 : t ≤ 1099511627776) : Calls Tryz.prog 72 #[e.v, (momF t).v] w (RetB (.int .i64 (jumpF e t)) w) := by
  have hr := mom_range h0
  obtain ⟨y0, y1⟩ := mom_year h0 h1
  have hl := lenM_pos (lpY_01 (momF t).y) (momF t).m
  have HJ : Hid (jumpF e t = if e.mo.testBit (momF t).m.toNat = false then (lenM (lpY (momF t).y) (momF t).m - (momF t).d + 1) * 1440 - ((momF t).h * 60 + (momF t).mi) else if wholeB e (momF t) = false then 1440 - ((momF t).h * 60 + (momF t).mi) else if e.ho.testBit (momF t).h.toNat = false then 60 - (momF t).mi else 1) := Lib.hid rfl
  have HD : Hid (∀ W, Calls Tryz.prog 89 #[.int .i64 (momF t).y, .int .i64 (momF t).m] W (fun e' w' => e' = .returned (.int .i64 (lenM (lpY (momF t).y) (momF t).m)) ∧ w' = W)) := Lib.hid fun W => (daysM_any W _ _ y0 y1 hr.1 hr.2.1).mono fun _ _ h => ⟨h.1, h.2.symm⟩
  have HN : Hid (∀ W, Calls Tryz.prog 71 #[.agg #[.int .u64 1, .int .u64 1, .int .u64 e.da, .int .u64 e.mo, .int .u64 e.we, .bool e.ad, .bool e.aw], .agg #[.int .i64 (momF t).y, .int .i64 (momF t).m, .int .i64 (momF t).d, .int .i64 (momF t).wd, .int .i64 0, .int .i64 0]] W (RetB (.bool (wholeB e (momF t))) W)) := Lib.hid fun W => whole_any W e ok t h0
  have e1 : (((momF t).m.toNat : Nat) : Int) = (momF t).m := by omega
  have e2 : (((momF t).h.toNat : Nat) : Int) = (momF t).h := by omega
  have HM : Hid (∀ W, Calls Tryz.prog 88 #[.int .u64 e.mo, .int .i64 (momF t).m] W (Ret (.bool (e.mo.testBit (momF t).m.toNat)) W)) := Lib.hid fun W => by
    have h := firesHas_any W e.mo (momF t).m.toNat ok.2.2.2.1 (by omega)
    rw [e1] at h; exact h
  have HH : Hid (∀ W, Calls Tryz.prog 88 #[.int .u64 e.ho, .int .i64 (momF t).h] W (Ret (.bool (e.ho.testBit (momF t).h.toNat)) W)) := Lib.hid fun W => by
    have h := firesHas_any W e.ho (momF t).h.toNat ok.2.1 (by omega)
    rw [e2] at h; exact h
  clear ok e1 e2
  generalize jumpF e t = J at *
  generalize wholeB e (momF t) = bw at *
  generalize e.mo.testBit (momF t).m.toNat = bm at *
  generalize e.ho.testBit (momF t).h.toNat = bh at *
  generalize lenM (lpY (momF t).y) (momF t).m = L at *
  generalize momF t = M at *
  obtain ⟨y, m, d, wd, hh, mi⟩ := M
  obtain ⟨em, eh, ed, eo, ew, ad, aw⟩ := e
  unfold Ex.v Ex.cells Mom.v
  simp only at *
  obtain ⟨r1, r2, r3, r4, r5, r6, r7, r8, r9, r10⟩ := hr
  obtain ⟨l1, l2⟩ := hl
  have HB3 : Hid (∀ o1 o2 o3 o4, Below w.heap.size w ((((w.alloc o1).alloc o2).alloc o3).alloc o4)) := Lib.hid fun o1 o2 o3 o4 => ((((Below.refl _ _).alloc (Nat.le_refl _) _).alloc (by simp) _).alloc (by first | (simp; done) | (simp; omega)) _).alloc (by first | (simp; done) | (simp; omega)) _
  cases bm
  · have HR := Lib.hid (show J = (L - d + 1) * 1440 - (hh * 60 + mi) by rw [HJ.out]; rfl)
    clear HJ
    go_enter Tryz.func72, Tryz.ntmps72
    go_wp2_with fail
    refine (HM.out _).mono ?_
    rintro en w' ⟨rfl, rfl⟩
    go_wp2_with fail
    go_quiet (first | (go_at_call 89; (with_reducible exact Calls.quiet_of_same (HD.out _))))
    go_wp2_with fail
    go_ret
    exact RetB.mk (by rw [HR.out]; rfl) (bel_drewN (HB3.out _ _ _ _) _)
  · cases bw
    · have HR := Lib.hid (show J = 1440 - (hh * 60 + mi) by rw [HJ.out]; rfl)
      clear HJ
      go_enter Tryz.func72, Tryz.ntmps72
      go_wp2_with fail
      refine (HM.out _).mono ?_
      rintro en w' ⟨rfl, rfl⟩
      go_wp2_with fail
      refine (HN.out _).mono ?_
      rintro en w1 ⟨rfl, hb1⟩
      go_wp2_with fail
      go_ret
      exact RetB.mk (by rw [HR.out]; rfl) ((HB3.out _ _ _ _).trans (hb1.mono (by first | (simp; done) | (simp; omega))))
    · cases bh
      all_goals
        have HR := HJ
        simp only [Bool.true_eq_false, if_false, if_true] at HR
        clear HJ
        go_enter Tryz.func72, Tryz.ntmps72
        go_wp2_with fail
        refine (HM.out _).mono ?_
        rintro en w' ⟨rfl, rfl⟩
        go_wp2_with fail
        refine (HN.out _).mono ?_
        rintro en w1 ⟨rfl, hb1⟩
        have x0 := bheap hb1 (aheap (aheap (aheap (heap_new w (.cells #[.int .u64 em, .int .u64 eh, .int .u64 ed, .int .u64 eo, .int .u64 ew, .bool ad, .bool aw] 53)) _) _) _) (by first | (simp; done) | (simp; omega))
        have x1 := bheap hb1 (aheap (aheap (heap_new (w.alloc (.cells #[.int .u64 em, .int .u64 eh, .int .u64 ed, .int .u64 eo, .int .u64 ew, .bool ad, .bool aw] 53)) (.cells #[.int .i64 y, .int .i64 m, .int .i64 d, .int .i64 wd, .int .i64 hh, .int .i64 mi] 37)) _) _) (by first | (simp; done) | (simp; omega))
        have c0 : w1.cell? ⟨w.heap.size, 1, none⟩ = some (.int .u64 eh) := blk_cell x0 1 rfl
        simp only [World.size_alloc] at x1
        have c1 : w1.cell? ⟨w.heap.size + 1, 4, none⟩ = some (.int .i64 hh) := blk_cell x1 4 rfl
        have c2 : w1.cell? ⟨w.heap.size + 1, 5, none⟩ = some (.int .i64 mi) := blk_cell x1 5 rfl
        have HB1 := Lib.hid ((HB3.out _ _ _ _).trans (hb1.mono (by first | (simp; done) | (simp; omega))))
        clear x0 x1 hb1 HB3
        go_wp2_with fail
        refine (HH.out _).mono ?_
        rintro en w' ⟨rfl, rfl⟩
        go_wp2_with fail
        go_ret
        exact RetB.mk (by rw [HR.out]; rfl) HB1.out

theorem nxt_jump {e : Ex} {x last : Int} (h0 : 0 ≤ x) (hl : x ≤ last) (hn : atB e x = false) :
    nxt e x (last + 1 - x).toNat = nxt e (x + jumpF e x) (last + 1 - (x + jumpF e x)).toNat := by
  have hj := jump_ok e h0
  have hs := jump_skip e h0 hn
  by_cases h : x + jumpF e x ≤ last + 1
  · rw [nxt_skip (jumpF e x).toNat _ x (by omega) (fun u a b => hs u a (by omega)), show ((jumpF e x).toNat : Int) = jumpF e x by omega, show (last + 1 - x).toNat - (jumpF e x).toNat = (last + 1 - (x + jumpF e x)).toNat by omega]
  · rw [nxt_miss (fun u a b => hs u a (by omega)), show (last + 1 - (x + jumpF e x)).toNat = 0 by omega]
    rfl

theorem nxt_here {e : Ex} {x last : Int} (hl : x ≤ last) (hn : atB e x = true) : nxt e x (last + 1 - x).toNat = (x, true) :=
  nxt_hit (Int.le_refl _) (by omega) hn (fun u a b => by omega)
theorem nxt_none {e : Ex} {x last : Int} (hl : last < x) : nxt e x (last + 1 - x).toNat = (0, false) := by
  rw [show (last + 1 - x).toNat = 0 by omega]; rfl

set_option maxRecDepth 100000 in
set_option maxHeartbeats 4000000 in
theorem search_any (w : World) (e : Ex) (ok : e.Ok) (a b : Int) (h0 : 0 ≤ a) (h1 : a ≤ 1099511627777) (h2 : b ≤ 1099511627776) : Calls Tryz.prog 52 #[e.v, .int .i64 a, .int .i64 b] w (RetB (.tuple #[.int .i64 (nxt e a (b + 1 - a).toNat).1, .bool (nxt e a (b + 1 - a).toNat).2]) w) := by
  have HO := Lib.hid ok
  clear ok
  obtain ⟨R, hR⟩ : ∃ R, R = nxt e a (b + 1 - a).toNat := ⟨_, rfl⟩
  rw [← hR]
  have hev : e.v = .agg e.cells := rfl
  obtain ⟨ee, rfl⟩ : ∃ ee, ee = e := ⟨_, rfl⟩
  have HEX : Hid (∃ em eh ed eo ew ad aw, ee = ⟨em, eh, ed, eo, ew, ad, aw⟩) := Lib.hid ⟨_, _, _, _, _, _, _, rfl⟩
  obtain ⟨em, eh, ed, eo, ew, ad, aw, HEE⟩ := HEX.out
  have hcs : ee.cells = #[.int .u64 em, .int .u64 eh, .int .u64 ed, .int .u64 eo, .int .u64 ew, .bool ad, .bool aw] := by rw [HEE]; rfl
  have HOF : Hid (∀ W x, 0 ≤ x → x ≤ 1099511627776 → Calls Tryz.prog 70 #[.int .i64 x] W (RetB (.tuple #[(momF x).v, .int .i64 0]) W)) := Lib.hid calOf_yes
  have HNM : Hid (∀ W x, 0 ≤ x → Calls Tryz.prog 71 #[.agg #[.int .u64 em, .int .u64 eh, .int .u64 ed, .int .u64 eo, .int .u64 ew, .bool ad, .bool aw], (momF x).v] W (RetB (.bool (namesM ee (momF x))) W)) := Lib.hid fun W x hx => by
    have h := namesM_any W ee HO.out x hx
    rw [hev, hcs] at h; exact h
  have HJM : Hid (∀ W x, 0 ≤ x → x ≤ 1099511627776 → Calls Tryz.prog 72 #[.agg #[.int .u64 em, .int .u64 eh, .int .u64 ed, .int .u64 eo, .int .u64 ew, .bool ad, .bool aw], (momF x).v] W (RetB (.int .i64 (jumpF ee x)) W)) := Lib.hid fun W x hx hy => by
    have h := jump_any W ee HO.out x hx hy
    rw [hev, hcs] at h; exact h
  have HR := Lib.hid hR
  rw [hev, hcs]
  clear hR hev hcs HEX HEE
  go_enter Tryz.func52, Tryz.ntmps52
  go_wp2_with fail
  go_loopw [1] (fun s1 wr => ∃ x : Int, s1 = .int .i64 x ∧ wr.heap[w.heap.size]? = some (.cells #[.int .u64 em, .int .u64 eh, .int .u64 ed, .int .u64 eo, .int .u64 ew, .bool ad, .bool aw] 53) ∧ Below w.heap.size w wr ∧ 0 ≤ x ∧ x ≤ 1099600000000 ∧ R = nxt ee x (b + 1 - x).toNat) (fun s1 _ => (b + 1 - intOf s1).toNat)
  case atStart => exact ⟨a, rfl, heap_new w _, (Below.refl _ _).alloc (Nat.le_refl _) _, h0, by omega, HR.out⟩
  case round =>
    obtain ⟨x, rfl, hx, hb, x0, x1, hr⟩ := hrel
    have HX := Lib.hid hx
    have HB := Lib.hid hb
    have HRX := Lib.hid hr
    clear hx hb hr HR
    by_cases hle : x ≤ b
    · have hof := HOF.out wr x x0 (by omega)
      have HNMX := Lib.hid fun W => HNM.out W x x0
      have HJMX := Lib.hid fun W => HJM.out W x x0 (by omega)
      have HJO := Lib.hid (jump_ok ee x0)
      have HAT : Hid (atB ee x = namesM ee (momF x)) := Lib.hid (by unfold atB; rw [if_pos ⟨x0, by omega⟩])
      have HYES : Hid (atB ee x = true → R = (x, true)) := Lib.hid fun h => by rw [HRX.out, nxt_here hle h]
      have HNO : Hid (atB ee x = false → R = nxt ee (x + jumpF ee x) (b + 1 - (x + jumpF ee x)).toNat) := Lib.hid fun h => by rw [HRX.out, nxt_jump x0 hle h]
      rw [HAT.out] at HYES HNO
      clear HAT HRX HNM HJM HOF
      generalize jumpF ee x = j at *
      generalize namesM ee (momF x) = nb at *
      generalize momF x = M at *
      obtain ⟨y, m, d, wd, hh, mi⟩ := M
      unfold Mom.v at *
      simp only at *
      go_wp2_with fail
      refine hof.mono ?_
      rintro en w1 ⟨rfl, hb1⟩
      have hx1 := bheap hb1 HX.out (heap_lt HX.out)
      have HX1 := Lib.hid (aheap hx1 (.cells #[.int .i64 y, .int .i64 m, .int .i64 d, .int .i64 wd, .int .i64 hh, .int .i64 mi] 37))
      have HM1 := Lib.hid (heap_new w1 (.cells #[.int .i64 y, .int .i64 m, .int .i64 d, .int .i64 wd, .int .i64 hh, .int .i64 mi] 37))
      have HB1 := Lib.hid ((HB.out.trans (hb1.mono HB.out.size)).alloc (HB.out.trans (hb1.mono HB.out.size)).size (.cells #[.int .i64 y, .int .i64 m, .int .i64 d, .int .i64 wd, .int .i64 hh, .int .i64 mi] 37))
      have c0 : w1.cell? ⟨w.heap.size, 0, none⟩ = some (.int .u64 em) := blk_cell hx1 0 rfl
      have c1 : w1.cell? ⟨w.heap.size, 1, none⟩ = some (.int .u64 eh) := blk_cell hx1 1 rfl
      have c2 : w1.cell? ⟨w.heap.size, 2, none⟩ = some (.int .u64 ed) := blk_cell hx1 2 rfl
      have c3 : w1.cell? ⟨w.heap.size, 3, none⟩ = some (.int .u64 eo) := blk_cell hx1 3 rfl
      have c4 : w1.cell? ⟨w.heap.size, 4, none⟩ = some (.int .u64 ew) := blk_cell hx1 4 rfl
      have c5 : w1.cell? ⟨w.heap.size, 5, none⟩ = some (.bool ad) := blk_cell hx1 5 rfl
      have c6 : w1.cell? ⟨w.heap.size, 6, none⟩ = some (.bool aw) := blk_cell hx1 6 rfl
      have hlt := heap_lt hx1
      clear hx1 hb1 hof
      go_wp2_with fail
      refine (HNMX.out _).mono ?_
      rintro en w2 ⟨rfl, hb2⟩
      have HB2 := Lib.hid (HB1.out.trans (hb2.mono HB1.out.size))
      cases nb
      · have hx2 := bheap hb2 HX1.out (heap_lt HX1.out)
        have hm2 := bheap hb2 HM1.out (heap_lt HM1.out)
        have HX2 := Lib.hid hx2
        have d0 : w2.cell? ⟨w.heap.size, 0, none⟩ = some (.int .u64 em) := blk_cell hx2 0 rfl
        have d1 : w2.cell? ⟨w.heap.size, 1, none⟩ = some (.int .u64 eh) := blk_cell hx2 1 rfl
        have d2 : w2.cell? ⟨w.heap.size, 2, none⟩ = some (.int .u64 ed) := blk_cell hx2 2 rfl
        have d3 : w2.cell? ⟨w.heap.size, 3, none⟩ = some (.int .u64 eo) := blk_cell hx2 3 rfl
        have d4 : w2.cell? ⟨w.heap.size, 4, none⟩ = some (.int .u64 ew) := blk_cell hx2 4 rfl
        have d5 : w2.cell? ⟨w.heap.size, 5, none⟩ = some (.bool ad) := blk_cell hx2 5 rfl
        have d6 : w2.cell? ⟨w.heap.size, 6, none⟩ = some (.bool aw) := blk_cell hx2 6 rfl
        have m0 : w2.cell? ⟨w1.heap.size, 0, none⟩ = some (.int .i64 y) := blk_cell hm2 0 rfl
        have m1 : w2.cell? ⟨w1.heap.size, 1, none⟩ = some (.int .i64 m) := blk_cell hm2 1 rfl
        have m2 : w2.cell? ⟨w1.heap.size, 2, none⟩ = some (.int .i64 d) := blk_cell hm2 2 rfl
        have m3 : w2.cell? ⟨w1.heap.size, 3, none⟩ = some (.int .i64 wd) := blk_cell hm2 3 rfl
        have m4 : w2.cell? ⟨w1.heap.size, 4, none⟩ = some (.int .i64 hh) := blk_cell hm2 4 rfl
        have m5 : w2.cell? ⟨w1.heap.size, 5, none⟩ = some (.int .i64 mi) := blk_cell hm2 5 rfl
        clear hx2 hm2 hb2 c0 c1 c2 c3 c4 c5 c6 hlt
        go_wp2_with fail
        refine (HJMX.out _).mono ?_
        rintro en w3 ⟨rfl, hb3⟩
        have HX3 := Lib.hid (bheap hb3 HX2.out (heap_lt HX2.out))
        have HB3 := Lib.hid (HB2.out.trans (hb3.mono HB2.out.size))
        obtain ⟨j1, j2⟩ := HJO.out
        clear hb3 d0 d1 d2 d3 d4 d5 d6 m0 m1 m2 m3 m4 m5
        go_wp2_with fail
        go_roundw
        case rel => exact ⟨x + j, rfl, HX3.out, HB3.out, by omega, by omega, HNO.out (by simp)⟩
        case measure => simp [intOf]; omega
      · clear c0 c1 c2 c3 c4 c5 c6 hlt
        go_wp2_with fail
        go_ret2
        exact RetB.mk (by rw [HYES.out (by simp)]; rfl) HB2.out
    · have HN2 := Lib.hid (show R = (0, false) by rw [HRX.out, nxt_none (by omega)])
      go_wp2_with fail
      go_ret2
      exact RetB.mk (by rw [HN2.out]; rfl) HB.out

end Go.Proofs.YtldieadbkaphkaaGreatDoor

/- The statement RaftAlone: the walk. -/
import Derived.Test.YtbfhgljmopgejaaGreatRaftN
import Derived.Test.YtbfhgljmopgejaaGreatBss
namespace Go.Proofs.YtbfhgljmopgejaaGreat
open Go.RowKit Go.Sort

/-- Node 3 leads alone, behind k proposals. -/
def LedN (W wr : World) (p k : Nat) : Prop :=
  ∃ x tb tm, Led W wr p x tb tm ∧ x.role = 3 ∧ x.term = 1 ∧ x.lead = 3 ∧ x.commit = (k : Int) + 1 ∧ x.es.length = k + 1 ∧ lastTm 0 x.es = 1

/-- Node 3, behind k ticks of n. -/
def WaitN (W wr : World) (p n k : Nat) (el : Int) : Prop :=
  (k < n ∧ ∃ mv lg imv, Lone W wr p ⟨3, mv, el, 1, 0, 0, 0, 0, k, lg, none, [], imv, 0, .pointer none, .pointer none, false⟩) ∨ (k = n ∧ LedN W wr p 0)

/-- One proposal more. -/
theorem step_lone {W wr : World} {p i : Nat} (h : LedN W wr p i) (hi : i ≤ 60) (v : Value) (d : List UInt8) (hs : SlW u8v wr v d) (hd : d.length ≤ 900) :
    Calls Tryz.prog 9 #[.pointer (some ⟨p, 0, none⟩), v] wr fun e w' => e = .returned (.tuple #[.int .u64 ((i : Int) + 2), .int .i64 0]) ∧ LedN W w' p (i + 1) ∧ Below W.heap.size W w' ∧
      Calls Tryz.prog 10 #[.pointer (some ⟨p, 0, none⟩)] w' (Ret (.int .u64 ((i : Int) + 2)) w') ∧
      Calls Tryz.prog 11 #[.pointer (some ⟨p, 0, none⟩), .int .u64 ((i : Int) + 1), .int .i64 1] w' fun en w'' => ∃ g cap va vc, en = .returned (.tuple #[.slice (some ⟨g, 0, none⟩) 1 cap, .bool true]) ∧ Below w'.heap.size w' w'' ∧ LedN W w'' p (i + 1) ∧
        w''.cell? ⟨g, 1, none⟩ = some (.int .u64 1) ∧ w''.cell? ⟨g, 3, none⟩ = some (.slice va d.length vc) ∧ Sl u8v w'' (.slice va d.length vc) d ∧ 1 ≤ cap := by
  obtain ⟨x, tb, tm, hl, hr, ht, hle, hc, hn, hlt⟩ := h
  refine (propose_lone hl hr (i + 1) hn (by omega) (by omega) (by omega) (by omega) (by omega) (by rw [hc]; omega) v d hs hd).mono ?_
  rintro e w' ⟨rfl, r, v', h'⟩
  have hled : LedN W w' p (i + 1) := ⟨_, tb, tm, h', hr, ht, hle, by show ((i + 1 : Nat) : Int) + 1 = _; omega, by show (x.es ++ [_]).length = _; rw [List.length_append, hn]; rfl, by show lastTm 0 (x.es ++ [_]) = 1; rw [lastTm_snoc]; exact ht⟩
  refine ⟨by rw [show (((i + 1 : Nat) : Int)) + 1 = (i : Int) + 2 by omega], hled, h'.lone.bel, ?_, ?_⟩
  · have := commit_lone h'.lone
    rw [show ({ x with r := r, es := x.es ++ [⟨((i + 1 : Nat) : Int) + 1, x.term, false, v', d⟩], commit := ((i + 1 : Nat) : Int) + 1, since := 0 } : LoneS).commit = (i : Int) + 2 by show ((i + 1 : Nat) : Int) + 1 = _; omega] at this
    exact this
  · have := entries_lone h'.lone (i + 1) ⟨((i + 1 : Nat) : Int) + 1, x.term, false, v', d⟩ (by show (x.es ++ [_])[i + 1]? = _; rw [← hn]; simp) (by show (x.es ++ [_]).length = _; rw [List.length_append, hn]; rfl) rfl
    rw [show (((i + 1 : Nat) : Int)) = (i : Int) + 1 by omega] at this
    refine this.mono ?_
    rintro en w'' ⟨g, cap, rfl, u, hb, _, g1, _, g3, gs, gc⟩
    obtain ⟨va, vc, rfl, _⟩ := id gs
    exact ⟨g, cap, va, vc, rfl, hb, ⟨_, tb, tm, h'.below hb, hr, ht, hle, by show ((i + 1 : Nat) : Int) + 1 = _; omega, by show (x.es ++ [_]).length = _; rw [List.length_append, hn]; rfl, by show lastTm 0 (x.es ++ [_]) = 1; rw [lastTm_snoc]; exact ht⟩, by rw [g1]; show some (Value.int .u64 x.term) = _; rw [ht], g3, gs, gc⟩

theorem alone_long (w : World) (elect draw : Int) (a : Option Addr) (len cap : Nat) (hl : ¬ len ≤ 60) :
    Calls Tryz.prog 3 #[.int .u16 elect, .int .u64 draw, .slice a len cap] w (RetB (.bool true) w) := by
  have hbig : (60 : Int) < (len : Int) := by omega
  clear hl
  go_enter Tryz.func3, Tryz.ntmps3
  go_wp2_with fail
  refine (lives26 _).mono ?_
  rintro e w1 ⟨rfl, hb1⟩
  have HB1 := Lib.hid hb1
  clear hb1
  go_wp2_with fail
  refine (lives26 _).mono ?_
  rintro e w2 ⟨rfl, hb2⟩
  have HB2 := Lib.hid (HB1.out.trans (hb2.mono HB1.out.size))
  clear hb2
  go_wp2_with fail
  go_ret
  exact RetB.mk rfl HB2.out

set_option maxRecDepth 100000 in
set_option maxHeartbeats 3200000 in
theorem alone_main (w : World) (elect draw : Int) (he0 : 0 ≤ elect) (he1 : elect < 65536) (hd0 : 0 ≤ draw) (hd1 : draw < 18446744073709551616) (a : Option Addr) (len cap : Nat) (xs : Nat → Value × List UInt8) (hr : BsRow w a len cap xs) (hl : len ≤ 60) :
    Calls Tryz.prog 3 #[.int .u16 elect, .int .u64 draw, .slice a len cap] w (RetB (.bool true) w) := by
  have HR := Lib.hid hr
  have hm0 := Int.emod_nonneg elect (show (1000 : Int) ≠ 0 by omega)
  have hm1 := Int.emod_lt_of_pos elect (show (0 : Int) < 1000 by omega)
  have t1 : Int.tmod elect 1000 = elect % 1000 := Int.tmod_eq_emod_of_nonneg he0
  have t2 : IntKind.i64.wrap (elect % 1000) = elect % 1000 := IntWalk.i64_in _ (by omega)
  have t3 : IntKind.i64.wrap (1 + elect % 1000) = 1 + elect % 1000 := IntWalk.i64_in _ (by omega)
  have hs60 : decide ((60 : Int) < (len : Int)) = false := decide_eq_false (by omega)
  clear hr
  go_enter Tryz.func3, Tryz.ntmps3
  go_wp2_with fail
  refine (lives26 _).mono ?_
  rintro e w1 ⟨rfl, hb1⟩
  have HB1 := Lib.hid hb1
  clear hb1
  go_wp2_with fail
  obtain ⟨W, hW⟩ : ∃ W, W = w1.alloc (.cells #[.int .i64 3] 3) := ⟨_, rfl⟩
  have HS : Hid (Sl intv W (.slice (some ⟨w1.heap.size, 0, none⟩) 1 1) [3]) := Lib.hid (by rw [hW]; exact sl_single w1 3)
  have HB : Hid (Below w.heap.size w W) := Lib.hid (by rw [hW]; exact HB1.out.alloc HB1.out.size _)
  rw [← hW]
  clear hW
  obtain ⟨E, hE⟩ : ∃ E, E = 1 + elect % 1000 := ⟨_, rfl⟩
  rw [← hE]
  have hE1 : 1 ≤ E := by omega
  have hE2 : E ≤ 1000 := by omega
  refine (new_lone W 3 E _ 1 HS.out (by omega) (by omega) hE1 hE2).mono ?_
  rintro e w2 ⟨p, mv, lg, imv, rfl, h2⟩
  have H2 := Lib.hid h2
  have hn0 := Int.emod_nonneg draw (show E ≠ 0 by omega)
  have hn1 := Int.emod_lt_of_pos draw (show 0 < E by omega)
  have u1 : IntKind.u64.wrap E = E := IntWalk.u64_in _ (by omega)
  have u2 : Int.tmod draw E = draw % E := Int.tmod_eq_emod_of_nonneg hd0
  have u3 : IntKind.i64.wrap (draw % E) = draw % E := IntWalk.i64_in _ (by omega)
  have u4 : IntKind.i64.wrap (E + draw % E) = E + draw % E := IntWalk.i64_in _ (by omega)
  have u5 : (E == 0) = false := by simp; omega
  have u6 : ¬ E = 0 := by omega
  clear h2 hE t1 t2 t3 hm0 hm1
  go_wp2_with fail
  obtain ⟨n, hn⟩ : ∃ n : Nat, (n : Int) = E + draw % E := ⟨(E + draw % E).toNat, by omega⟩
  rw [← hn]
  have HN := Lib.hid hn
  have hn1' : 1 ≤ n := by omega
  have hn2' : n ≤ 2000 := by omega
  have HLT := Lib.hid (show 0 ≤ draw % E ∧ draw % E < E from ⟨hn0, hn1⟩)
  clear hn u1 u2 u3 u4 u5 u6 hn0 hn1
  go_loopw [49] (fun iv wr => ∃ k : Nat, iv = .int .i64 k ∧ k ≤ n ∧ Hid (WaitN W wr p n k E)) (fun iv _ => n - (intOf iv).toNat)
  case atStart => exact ⟨0, rfl, Nat.zero_le _, Lib.hid (.inl ⟨by omega, mv, lg, imv, H2.out⟩)⟩
  case round =>
    obtain ⟨k, rfl, hk, HW⟩ := hrel
    clear H2
    by_cases hlt : k < n
    · obtain ⟨mv, lg, imv, hlone⟩ : ∃ mv lg imv, Lone W wr p ⟨3, mv, E, 1, 0, 0, 0, 0, k, lg, none, [], imv, 0, .pointer none, .pointer none, false⟩ := by
        rcases HW.out with ⟨_, h⟩ | ⟨h, _⟩
        · exact h
        · omega
      have HLN := Lib.hid hlone
      clear hlone HW
      have e1 : IntKind.i64.wrap ((n : Int) - 1) = (n : Int) - 1 := IntWalk.i64_in _ (by omega)
      go_wp2_with fail
      refine (role_lone HLN.out).mono ?_
      rintro e w' ⟨rfl, rfl⟩
      go_wp2_with fail
      refine (term_lone HLN.out).mono ?_
      rintro e w' ⟨rfl, rfl⟩
      go_wp2_with fail
      by_cases hlast : k + 1 < n
      · refine (tick_wait HLN.out rfl ⟨by show (0:Int) ≤ 0; omega, by show (0:Int) < _; omega⟩ ⟨hE1, hE2⟩ (by show (0:Int) ≤ k; omega) draw hd0 (by have := HN.out; show (k : Int) + 1 < E + draw % E; omega)).mono ?_
        rintro e w3 ⟨rfl, h3, _⟩
        have H3 := Lib.hid h3
        clear h3
        have q1 : ((k : Int) == (n : Int) - 1) = false := by simp; omega
        have q2 : ¬ (k : Int) = (n : Int) - 1 := by omega
        go_wp2_with fail
        refine (role_lone H3.out).mono ?_
        rintro e w' ⟨rfl, rfl⟩
        go_wp2_with fail
        go_roundw
        case rel => exact ⟨k + 1, by go_num, by omega, Lib.hid (.inl ⟨hlast, mv, lg, imv, by have := H3.out; simpa using this⟩)⟩
        case measure => simp [intOf]; omega
      · refine (tick_lead HLN.out rfl ⟨by show (0:Int) ≤ 0; omega, by show (0:Int) < _; omega⟩ ⟨hE1, hE2⟩ (by show (0:Int) ≤ k; omega) draw hd0 (by have := HN.out; show (k : Int) + 1 = E + draw % E; omega) rfl rfl).mono ?_
        rintro e w3 ⟨rfl, tb, tm, r, v, h3⟩
        have H3 := Lib.hid h3
        clear h3
        have q1 : ((k : Int) == (n : Int) - 1) = true := by simp; omega
        have q2 : (k : Int) = (n : Int) - 1 := by omega
        have HQ := Lib.hid q2
        clear q2
        go_wp2_with fail
        refine (role_lone H3.out.lone).mono ?_
        rintro e w' ⟨rfl, rfl⟩
        go_wp2_with fail
        go_roundw
        case rel => exact ⟨k + 1, by go_num, by omega, Lib.hid (.inr ⟨by omega, _, tb, tm, H3.out, rfl, rfl, rfl, rfl, rfl, rfl⟩)⟩
        case measure => simp [intOf]; omega
    · have hkn : k = n := by omega
      subst hkn
      have HLD : Hid (LedN W wr p 0) := Lib.hid (by
        rcases HW.out with ⟨h, _⟩ | ⟨_, h⟩
        · omega
        · exact h)
      clear HW hlt hk
      go_wp2_with fail
      go_loopw [12, 74] (fun av iv wr => ∃ i : Nat, iv = .int .i64 i ∧ av = .int .u64 ((i : Int) + 1) ∧ i ≤ len ∧ Hid (LedN W wr p i)) (fun _ iv _ => len - (intOf iv).toNat)
      case atStart => exact ⟨0, rfl, rfl, Nat.zero_le _, HLD⟩
      case round =>
        obtain ⟨i, rfl, rfl, hi, HL⟩ := hrel
        clear HLD
        have HBW : Hid (Below w.heap.size w wr) := Lib.hid (by
          obtain ⟨x, tb, tm, hl, _⟩ := HL.out
          exact HB.out.trans (hl.lone.bel.mono HB.out.size))
        by_cases hilt : i < len
        · obtain ⟨b, off, rfl, hbl, hall⟩ := HR.out.2.2.resolve_left (by omega)
          obtain ⟨hcell, hsw, hdl⟩ := hall i hilt
          generalize xs i = x at *
          obtain ⟨v, d⟩ := x
          have hcell' : wr.cell? ⟨b, off + i, none⟩ = some v := (bcell HBW.out b _ hbl).trans hcell
          have hsw' : SlW u8v wr v d := hsw.below HBW.out
          obtain ⟨ba, bc, rfl⟩ := hsw'.form
          unfold maxLen at hdl
          have HSW := Lib.hid hsw'
          have HSW0 := Lib.hid hsw
          clear hall hcell hsw hsw'
          by_cases hbig : 900 < d.length
          · have q1 : decide ((900 : Int) < (d.length : Int)) = true := by simp; omega
            go_wp2_with fail
            go_ret
            exact RetB.mk rfl HBW.out
          · have q1 : decide ((900 : Int) < (d.length : Int)) = false := by simp; omega
            have HSTEP := Lib.hid (step_lone HL.out (by omega) (.slice ba d.length bc) d HSW.out (by omega))
            have e1 : IntKind.u64.wrap ((i : Int) + 1 + 1) = (i : Int) + 2 := by rw [show (i : Int) + 1 + 1 = (i : Int) + 2 by omega]; exact IntWalk.u64_in _ (by omega)
            have e2 : IntKind.u64.wrap ((i : Int) + 2) = (i : Int) + 2 := IntWalk.u64_in _ (by omega)
            have e3 : IntKind.u64.wrap ((i : Int) + 2 - 1) = (i : Int) + 1 := by rw [show (i : Int) + 2 - 1 = (i : Int) + 1 by omega]; exact IntWalk.u64_in _ (by omega)
            have e4 : IntKind.u64.wrap ((i : Int) + 1) = (i : Int) + 1 := IntWalk.u64_in _ (by omega)
            clear hbig
            go_wp2_with fail
            refine HSTEP.out.mono ?_
            rintro en w3 ⟨rfl, hl3, hb3, hc3, he3⟩
            have HL3 := Lib.hid hl3
            have HC3 := Lib.hid hc3
            have HE3 := Lib.hid he3
            clear hl3 hc3 he3
            go_wp2_with fail
            refine HC3.out.mono ?_
            rintro en w' ⟨rfl, rfl⟩
            go_wp2_with fail
            refine HE3.out.mono ?_
            rintro en w4 ⟨g, gc, va, vc, rfl, hb4, hl4, g1, g3, hs4, hgc⟩
            have HL4 := Lib.hid hl4
            have HBR : Hid (Below w.heap.size w w4) := Lib.hid (by
              obtain ⟨x, tb, tm, hl, _⟩ := HL4.out
              exact HB.out.trans (hl.lone.bel.mono HB.out.size))
            have hcv1 := sl_string (show Sl u8v w4.drew _ d from hs4) Tryz.underlying33
            have hsb : SlW u8v w4.drew (.slice ba d.length bc) d := HSW0.out.below (belowD HBR.out)
            have hcv2 := string_W hsb
            clear hb4 hl4 hs4 hsb hb3
            go_wp2_with fail
            go_region_held3 (fun w' => w'.cell? ⟨g, 1, none⟩ = some (.int .u64 1) ∧ w'.cell? ⟨g, 3, none⟩ = some (.slice va d.length vc) ∧ (convert 33 9 (.slice va d.length vc)).run Tryz.prog w' = .ok (.string ⟨d.toArray⟩) w' ∧ (convert 33 9 (.slice ba d.length bc)).run Tryz.prog w' = .ok (.string ⟨d.toArray⟩) w') (first | exact ⟨g1, g3, hcv1, hcv2⟩) (fail)
            clear g1 g3 hcv1 hcv2
            go_wp2_with fail
            go_roundw
            case rel =>
              refine ⟨i + 1, by go_num, by rw [show (((i + 1 : Nat) : Int)) + 1 = (i : Int) + 2 by omega], by omega, Lib.hid ?_⟩
              obtain ⟨x, tb, tm, hl, hr⟩ := HL4.out
              exact ⟨x, tb, tm, hl.below (belowD (Below.refl _ _)), hr⟩
            case measure => simp [intOf]; omega
        · have hil : i = len := by omega
          subst hil
          clear hilt hi
          have HOUT : Hid (∃ x tb tm, Led W wr p x tb tm ∧ x.lead = 3) := Lib.hid (by
            obtain ⟨x, tb, tm, hl, _, _, h3, _⟩ := HL.out
            exact ⟨x, tb, tm, hl, h3⟩)
          obtain ⟨x, tb, tm, hled, hld⟩ := HOUT.out
          have HLED := Lib.hid hled
          have HLDR := Lib.hid hld
          clear hled hld
          go_wp2_with fail
          refine (out_lone HLED.out.lone).mono ?_
          rintro en w5 ⟨rfl, h5, hk5⟩
          have H5 := Lib.hid h5
          have hle := leader_lone h5
          rw [HLDR.out] at hle
          have HLE := Lib.hid hle
          have HB5 := Lib.hid (HB.out.trans (h5.bel.mono HB.out.size))
          clear h5 hk5 hle
          go_wp2_with fail
          refine HLE.out.mono ?_
          rintro en w' ⟨rfl, rfl⟩
          go_wp2_with fail
          go_ret
          exact RetB.mk rfl HB5.out

theorem alone_walk (elect draw : Int) (a : Option Addr) (len cap : Nat) (xs : Nat → Value × List UInt8) (w : World) (h0 : (Lit.int .u16 elect).wf = true) (h1 : (Lit.int .u64 draw).wf = true) (hr : BsRow w a len cap xs) :
    Calls Tryz.prog 3 #[.int .u16 elect, .int .u64 draw, .slice a len cap] w (RetB (.bool true) w) := by
  simp [Lit.wf, IntKind.min, IntKind.max, IntKind.signed, IntKind.bits] at h0 h1
  by_cases hl : len ≤ 60
  · exact alone_main w elect draw (by omega) (by omega) (by omega) (by omega) a len cap xs hr hl
  · exact alone_long w elect draw a len cap hl

end Go.Proofs.YtbfhgljmopgejaaGreat

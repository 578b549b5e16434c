/- raft, any node: right: does a message count? PRINTED by wip/tools/gen_rtv.py. -/
import Derived.Test.YtdjooojpcepleaaGreatRsM27

namespace Go.Proofs.YtdjooojpcepleaaGreat
open Go.RowKit
open Go.«Sort» (grow)
theorem rnode_yes (w : World) (x : Int) (h1 : 1 ≤ x) (h7 : x ≤ 7) : Calls Tryz.prog 45 #[.int .i64 x] w (Ret (.bool true) w) := by
 go_enter Tryz.func45, Tryz.ntmps45
 go_wp2
 go_ret
 exact Ret.mk rfl
def RightR (w : World) (x : NodeS) (m : Msg) (e : Ending) (w' : World) : Prop :=
 ∃ b : Bool, e = .returned (.bool b) ∧ Below w.heap.size w w' ∧ (b = true → m.from_ ≠ x.id ∧ (m.kind = 6 → mB m.mem = true))
set_option maxRecDepth 100000 in
set_option maxHeartbeats 16000000 in
theorem right_node (w : World) (M F : Nat → Prop) (p : Nat) (x : NodeS) (h : NodeAt w M F p x) (hM : ∀ k, M k → k < w.heap.size) (m : Msg) (hm : MsgOk w M m) (k0 : 0 ≤ m.kind) (k7 : m.kind ≤ 7) (f1 : 1 ≤ m.from_) (f7 : m.from_ ≤ 7) (hto : m.to_ = x.id) (t0 : 0 ≤ m.term) (tn : m.term ≤ 2000) (x0 : 0 ≤ m.index) (xn : m.index ≤ 2000) (es6 : m.es.length ≤ 1000000) :
  Calls Tryz.prog 34 #[.pointer (some ⟨p, 0, none⟩), m.agg] w (RightR w x m) := by
 have HMSG := hI hm
 have hR0 := Rn.start h hM
 obtain ⟨_, _, ea, ec, hev, _⟩ := hm.ents
 obtain ⟨ma, mc, hmv, _⟩ := hm.mem
 obtain ⟨d, hd, _⟩ := hm.data
 obtain ⟨da, dc, hdv, _⟩ := hd
 obtain ⟨mk, from_, to_, term, mi, logTerm, commit, my, ev, mv, dv, es, mem⟩ := m
 simp only at hev hmv hdv
 subst hev hmv hdv
 have hpl := h.plt
 simp only at *
 subst hto
 obtain ⟨Wm, hX⟩ : ∃ Wm, Wm = w.alloc (.cells #[.int .i64 mk, .int .i64 from_, .int .i64 x.id, .int .u64 term, .int .u64 mi, .int .u64 logTerm, .int .u64 commit, .bool my, .slice ea es.length ec, .slice ma mem.length mc, .slice da d.length dc] 54) := ⟨_, rfl⟩
 have hbX : Below w.heap.size w Wm := by rw [hX]; exact bR.alloc nL _
 have HXX : Hid (Wm.heap[w.heap.size]? = some (.cells #[.int .i64 mk, .int .i64 from_, .int .i64 x.id, .int .u64 term, .int .u64 mi, .int .u64 logTerm, .int .u64 commit, .bool my, .slice ea es.length ec, .slice ma mem.length mc, .slice da d.length dc] 54 (0, 0))) := hI (by rw [hX]; exact bW w _)
 have HRX := hI (hR0.below hbX)
 have HBX := hI hbX
 have HK := hI k7
 have hmb := hm.mem
 have HMB := hI hmb
 clear h hM hm hbX hR0 hmb
 unfold Msg.agg
 have q3 : decide (mk < 0) = false := by simpa using k0
 have q4 : decide (8 ≤ mk) = false := by simp; omega
 have q5 : decide (4611686018427387904 < term) = false := by simp; omega
 have q6 : decide (mi ≤ 4611686018427387904) = true := by simp; omega
 have HQ : Hid (∀ dz oz, Calls Tryz.prog 45 #[.int .i64 from_] (grow (redrawn Wm dz) oz) (fun e w'' => e = .returned (.bool true) ∧ ∃ p : Regrown, w'' = grow (redrawn Wm p.d) p.os)) := hI fun dz oz => Calls.regrown_of ((rnode_yes _ from_ f1 f7).mono (by rintro e w' ⟨h1, rfl⟩; exact ⟨h1, bR⟩))
 clear k0 k7 tn xn t0 x0
 by_cases hfi : from_ = x.id
 ·have q1 : (from_ == x.id) = true := by simpa using hfi
  clear hfi
  go_enter Tryz.func34, Tryz.ntmps34
  go_wp2_with fail
  rw [← hX]
  clear hX
  obtain ⟨c0, c1, c2, c3, -, -, -, -, -, -, -⟩ := r11 HXX.out
  have n0 : ∀ dz oz, (grow (redrawn Wm dz) oz).cell? ⟨p, 0, none⟩ = some (.int .i64 x.id) := cell_regrown (HRX.out.cell 0 rfl)
  have lw := heap_lt HXX.out
  have lp := HRX.out.plt
  refine wp_region_quiet_below (by kernel_rfl) (by kernel_rfl) ?_
  iterate 19 (quiet_step (first | (with_reducible exact HQ.out _ _)))
  iterate 4 (with_reducible refine wQ (by kernel_rfl) ?_)
  simp only [Act.put, sA, sS, sZ]
  iterate 2 (quiet_step (first | (with_reducible exact HQ.out _ _)))
  iterate 3 (with_reducible refine wQ (by kernel_rfl) ?_)
  simp only [Act.put, sA, sS, sZ]
  iterate 2 (quiet_step (first | (with_reducible exact HQ.out _ _)))
  iterate 3 (with_reducible refine wQ (by kernel_rfl) ?_)
  simp only [Act.put, sA, sS, sZ]
  iterate 2 (quiet_step (first | (with_reducible exact HQ.out _ _)))
  iterate 3 (with_reducible refine wQ (by kernel_rfl) ?_)
  simp only [Act.put, sA, sS, sZ]
  iterate 1 (quiet_step (first | (with_reducible exact HQ.out _ _)))
  refine wpQuiet_nil ?_
  intro w3 hw'
  have HB3 : Hid (Below Wm.heap.size Wm w3) := hI (by
    obtain ⟨⟨dq, osq⟩, hw''⟩ := hw'
    subst hw''
    exact below_regrown Wm dq osq)
  clear hw'
  clear c0 c1 c2 c3 n0 lw lp
  try simp only [Act.put, sA, sS, sZ]
  go_wp2_with fail
  go_ret
  exact ⟨false, rfl, HBX.out.trans (HB3.out.mono HBX.out.size), fun e => by cases e⟩
 ·have q1 : (from_ == x.id) = false := by simpa using hfi
  have HFI := hI hfi
  clear hfi
  go_enter Tryz.func34, Tryz.ntmps34
  go_wp2_with fail
  rw [← hX]
  clear hX
  obtain ⟨c0, c1, c2, c3, -, -, -, -, -, -, -⟩ := r11 HXX.out
  have n0 : ∀ dz oz, (grow (redrawn Wm dz) oz).cell? ⟨p, 0, none⟩ = some (.int .i64 x.id) := cell_regrown (HRX.out.cell 0 rfl)
  have lw := heap_lt HXX.out
  have lp := HRX.out.plt
  refine wp_region_quiet_below (by kernel_rfl) (by kernel_rfl) ?_
  iterate 39 (quiet_step (first | (with_reducible exact HQ.out _ _)))
  refine wpQuiet_nil ?_
  intro w3 hw'
  have HB3 : Hid (Below Wm.heap.size Wm w3) := hI (by
    obtain ⟨⟨dq, osq⟩, hw''⟩ := hw'
    subst hw''
    exact below_regrown Wm dq osq)
  clear hw'
  clear c0 c1 c2 c3 n0 lw lp
  try simp only [Act.put, sA, sS, sZ]
  have HX3 := hI (bH HB3.out HXX.out (heap_lt HXX.out))
  have hb03 := HBX.out.trans (HB3.out.mono HBX.out.size)
  obtain ⟨c0, -, -, c3, c4, c5, -, -, c8, c9, -⟩ := b11 HX3.out
  have HB03 := hI hb03
  have HLT := hI (late_any w3 M ea ec es ((HMSG.out.mv_ (Mv.below M hb03)).ents) w.heap.size term c3 (heap_lt HX3.out) es6)
  clear hb03 HQ
  by_cases h4 : mk = 4
  ·subst h4
   go_wp2_with fail
   refine HLT.out.mono ?_
   rintro en w4 ⟨⟨b, rfl⟩, hb4⟩
   have HX4 := hI (bH hb4 HX3.out (heap_lt HX3.out))
   have HB04 := hI (HB03.out.trans (hb4.mono HB03.out.size))
   obtain ⟨d0, -, -, d3, -, d5, -, -, -, -, -⟩ := b11 HX4.out
   clear c0 c3 c4 c5 c8 c9 hb4 HLT
   cases b
   ·by_cases hl : logTerm ≤ term
    ·have q8 : decide (logTerm ≤ term) = true := by simpa using hl
     go_wp2_with fail
     go_ret
     exact ⟨true, rfl, HB04.out, fun _ => ⟨HFI.out, fun e => absurd e (by show ¬ (4 : Int) = 6; decide)⟩⟩
    ·have q8 : decide (logTerm ≤ term) = false := by simpa using hl
     go_wp2_with fail
     go_ret
     exact ⟨false, rfl, HB04.out, fun e => by cases e⟩
   ·go_wp2_with fail
    go_ret
    exact ⟨false, rfl, HB04.out, fun e => by cases e⟩
  ·by_cases h6 : mk = 6
   ·subst h6
    go_wp2_with fail
    refine HLT.out.mono ?_
    rintro en w4 ⟨⟨b, rfl⟩, hb4⟩
    have HX4 := hI (bH hb4 HX3.out (heap_lt HX3.out))
    have HB04 := hI (HB03.out.trans (hb4.mono HB03.out.size))
    obtain ⟨d0, -, -, d3, d4, d5, -, -, -, d9, -⟩ := b11 HX4.out
    have HRT := hI (right_any w4 ma mem.length mc mem (HMB.out.below HB04.out HMB.out.row_lt))
    generalize hmbq : mB mem = mb at *
    have HMBQ := hI hmbq
    clear c0 c3 c4 c5 c8 c9 hb4 HLT hmbq
    cases b
    ·by_cases hl : logTerm ≤ term
     ·have q8 : decide (logTerm ≤ term) = true := by simpa using hl
      go_wp2_with fail
      refine HRT.out.mono ?_
      rintro en w5 ⟨rfl, hb5⟩
      have HB05 := hI (HB04.out.trans (hb5.mono HB04.out.size))
      clear hb5 HRT
      go_wp2_with fail
      go_ret
      exact ⟨mb, rfl, HB05.out, fun e => ⟨HFI.out, fun _ => HMBQ.out.trans e⟩⟩
     ·have q8 : decide (logTerm ≤ term) = false := by simpa using hl
      go_wp2_with fail
      go_ret
      exact ⟨false, rfl, HB04.out, fun e => by cases e⟩
    ·go_wp2_with fail
     go_ret
     exact ⟨false, rfl, HB04.out, fun e => by cases e⟩
   ·have q7 : (mk == 4) = false := by simpa using h4
    have q8 : (mk == 6) = false := by simpa using h6
    have q7' : (mk != 4) = true := by simpa using h4
    have q8' : (mk != 6) = true := by simpa using h6
    have H6 := hI h6
    clear h4 h6
    go_wp2_with fail
    go_ret
    exact ⟨true, rfl, HB03.out, fun _ => ⟨HFI.out, fun e => absurd e H6.out⟩⟩
end Go.Proofs.YtdjooojpcepleaaGreat

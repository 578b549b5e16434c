/- Package raft, a node alone: it asks, stands, and leads. -/
import Derived.Test.YtbfhgljmopgejaaGreatRaftH
import Derived.BigRegion
namespace Go.Proofs.YtbfhgljmopgejaaGreat
open Go.RowKit Go.Sort

section
variable {w0 w : World} {p : Nat} {x : LoneS}

/-- A node that leads, after an election. -/
def Elected (w0 : World) (p : Nat) (x : LoneS) (e : Ending) (w' : World) : Prop :=
  e = .returned (.tuple #[]) ∧ ∃ tb tm r v, Led w0 w' p { x with term := x.term + 1, vote := x.id, hard := true, role := 3, lead := x.id, poll := .pointer none, track := .pointer (some ⟨tb, 0, none⟩), r := r, es := [⟨1, x.term + 1, false, v, nothB⟩], commit := 1, since := 0 } tb tm

set_option maxRecDepth 100000 in
set_option maxHeartbeats 1600000 in
theorem stands_lone (h : Lone w0 w p x) (he : x.es = []) (hc : x.commit = 0) (ht : 0 ≤ x.term) (ht2 : x.term ≤ 9223372036854775807) : Calls Tryz.prog 40 #[.pointer (some ⟨p, 0, none⟩)] w (Elected w0 p x) := by
  have hlt := h.lt
  have d6 : w.cell? ⟨p, 6, none⟩ = some (.int .i64 x.role) := h.cell 6 rfl
  have d8 : w.cell? ⟨p, 8, none⟩ = some (.int .i64 x.since) := h.cell 8 rfl
  have f8 := h.free 8
  have f6 := h.free 6
  have H2 := Lib.hid ((h.set { x with since := 0 } 8 (.int .i64 0) rfl rfl rfl rfl rfl rfl).set { x with since := 0, role := 2 } 6 (.int .i64 2) rfl rfl rfl rfl rfl rfl)
  have HE := Lib.hid he
  have HC := Lib.hid hc
  clear h he hc
  go_enter Tryz.func40, Tryz.ntmps40
  go_wp2_with fail
  generalize (w.setCell ⟨p, 8, none⟩ (.int .i64 0)).setCell ⟨p, 6, none⟩ (.int .i64 2) = W2 at *
  have e0 : W2.cell? ⟨p, 0, none⟩ = some (.int .i64 x.id) := H2.out.cell 0 rfl
  have e4 : W2.cell? ⟨p, 4, none⟩ = some (.int .u64 x.term) := H2.out.cell 4 rfl
  have e5 : W2.cell? ⟨p, 5, none⟩ = some (.int .i64 x.vote) := H2.out.cell 5 rfl
  have e18 : W2.cell? ⟨p, 18, none⟩ = some (.bool x.hard) := H2.out.cell 18 rfl
  have g4 := H2.out.free 4
  have g5 := H2.out.free 5
  have g18 := H2.out.free 18
  have hw : IntKind.u64.wrap (x.term + 1) = x.term + 1 := IntWalk.u64_in _ (by omega)
  clear d6 d8 f8 f6
  go_region
  have H3 := Lib.hid ((((H2.out.set { x with since := 0, role := 2, term := x.term + 1 } 4 (.int .u64 (x.term + 1)) rfl rfl rfl rfl rfl rfl).set { x with since := 0, role := 2, term := x.term + 1, vote := x.id } 5 (.int .i64 x.id) rfl rfl rfl rfl rfl rfl).set { x with since := 0, role := 2, term := x.term + 1, vote := x.id, hard := true } 18 (.bool true) rfl rfl rfl rfl rfl rfl).drew)
  generalize (((W2.setCell ⟨p, 4, none⟩ (.int .u64 (x.term + 1))).setCell ⟨p, 5, none⟩ (.int .i64 x.id)).setCell ⟨p, 18, none⟩ (.bool true)).drew = W3 at *
  clear e0 e4 e5 e18 g4 g5 g18
  go_wp2_with fail
  refine (poll_lone H3.out).mono ?_
  rintro en w4 ⟨b, rfl, h4, hk4⟩
  have H4 := Lib.hid h4
  clear h4 hk4
  go_wp2_with fail
  refine (leads_lone H4.out HE.out HC.out (by show 0 ≤ x.term + 1; omega) (by show x.term + 1 ≤ _; omega)).mono ?_
  rintro en w5 ⟨rfl, tb, tm, r, v, h5⟩
  have H5 := Lib.hid h5
  clear h5
  go_wp2_with fail
  refine bodyPost_end (results_none rfl _ _ _) rfl ?_
  exact ⟨rfl, tb, tm, r, v, H5.out⟩

set_option maxRecDepth 100000 in
set_option maxHeartbeats 1600000 in
theorem asks_lone (h : Lone w0 w p x) (he : x.es = []) (hc : x.commit = 0) (ht : 0 ≤ x.term) (ht2 : x.term ≤ 9223372036854775807) : Calls Tryz.prog 25 #[.pointer (some ⟨p, 0, none⟩)] w (Elected w0 p x) := by
  have hlt := h.lt
  have d6 : w.cell? ⟨p, 6, none⟩ = some (.int .i64 x.role) := h.cell 6 rfl
  have d7 : w.cell? ⟨p, 7, none⟩ = some (.int .i64 x.lead) := h.cell 7 rfl
  have d8 : w.cell? ⟨p, 8, none⟩ = some (.int .i64 x.since) := h.cell 8 rfl
  have d16 : w.cell? ⟨p, 16, none⟩ = some x.track := h.cell 16 rfl
  have f6 := h.free 6
  have f7 := h.free 7
  have f8 := h.free 8
  have f16 := h.free 16
  have H2 := Lib.hid ((((h.set { x with since := 0 } 8 (.int .i64 0) rfl rfl rfl rfl rfl rfl).set { x with since := 0, role := 1 } 6 (.int .i64 1) rfl rfl rfl rfl rfl rfl).set { x with since := 0, role := 1, lead := 0 } 7 (.int .i64 0) rfl rfl rfl rfl rfl rfl).set { x with since := 0, role := 1, lead := 0, track := .pointer none } 16 (.pointer none) rfl rfl rfl rfl rfl rfl)
  have HE := Lib.hid he
  have HC := Lib.hid hc
  clear h he hc
  go_enter Tryz.func25, Tryz.ntmps25
  go_wp2_with fail
  generalize (((w.setCell ⟨p, 8, none⟩ (.int .i64 0)).setCell ⟨p, 6, none⟩ (.int .i64 1)).setCell ⟨p, 7, none⟩ (.int .i64 0)).setCell ⟨p, 16, none⟩ (.pointer none) = W2 at *
  clear d6 d7 d8 d16 f6 f7 f8 f16
  refine (poll_lone H2.out).mono ?_
  rintro en w4 ⟨b, rfl, h4, hk4⟩
  have H4 := Lib.hid h4
  clear h4 hk4
  go_wp2_with fail
  refine (stands_lone H4.out HE.out HC.out ht ht2).mono ?_
  rintro en w5 ⟨rfl, tb, tm, r, v, h5⟩
  have H5 := Lib.hid h5
  clear h5
  go_wp2_with fail
  refine bodyPost_end (results_none rfl _ _ _) rfl ?_
  exact ⟨rfl, tb, tm, r, v, H5.out⟩

/-- A tick that is too early. -/
theorem tick_wait (h : Lone w0 w p x) (hr : x.role = 0) (ht : 0 ≤ x.term ∧ x.term < 4611686018427387904) (he : 1 ≤ x.el ∧ x.el ≤ 1000) (hs : 0 ≤ x.since) (draw : Int) (hd : 0 ≤ draw) (hw : x.since + 1 < x.el + draw % x.el) :
    Calls Tryz.prog 8 #[.pointer (some ⟨p, 0, none⟩), .int .u64 draw] w (LoneP w0 w p { x with since := x.since + 1 } (.tuple #[])) := by
  have hm0 := Int.emod_nonneg draw (show x.el ≠ 0 by omega)
  have hm1 := Int.emod_lt_of_pos draw (show 0 < x.el by omega)
  have hlt := h.lt
  have d2 : w.cell? ⟨p, 2, none⟩ = some (.int .i64 x.el) := h.cell 2 rfl
  have d4 : w.cell? ⟨p, 4, none⟩ = some (.int .u64 x.term) := h.cell 4 rfl
  have d6 : w.cell? ⟨p, 6, none⟩ = some (.int .i64 x.role) := h.cell 6 rfl
  have d8 : w.cell? ⟨p, 8, none⟩ = some (.int .i64 x.since) := h.cell 8 rfl
  have f8 := h.free 8
  have e0 : IntKind.i64.wrap (x.since + 1) = x.since + 1 := IntWalk.i64_in _ (by omega)
  have q0 : (x.role == 3) = false := by rw [hr]; rfl
  have H2 := Lib.hid (h.set { x with since := x.since + 1 } 8 (.int .i64 (x.since + 1)) rfl rfl rfl rfl rfl rfl)
  have HK2 := Lib.hid (show Keeps (fun k => k = p) w (w.setCell ⟨p, 8, none⟩ (.int .i64 (x.since + 1))) from (Keeps.refl (fun k => k = p) w).setCell (p := ⟨p, 8, none⟩) (.inl rfl) _)
  clear h hr
  go_enter Tryz.func8, Tryz.ntmps8
  go_wp2_with fail
  generalize w.setCell ⟨p, 8, none⟩ (.int .i64 (x.since + 1)) = W2 at *
  have k2 : W2.cell? ⟨p, 2, none⟩ = some (.int .i64 x.el) := H2.out.cell 2 rfl
  have k4 : W2.cell? ⟨p, 4, none⟩ = some (.int .u64 x.term) := H2.out.cell 4 rfl
  have k8 : W2.cell? ⟨p, 8, none⟩ = some (.int .i64 (x.since + 1)) := H2.out.cell 8 rfl
  have r1 : decide (x.term < 4611686018427387904) = true := by simp; omega
  have r2 : IntKind.u64.wrap x.el = x.el := IntWalk.u64_in _ (by omega)
  have r3 : Int.tmod draw x.el = draw % x.el := Int.tmod_eq_emod_of_nonneg hd
  have r4 : IntKind.i64.wrap (draw % x.el) = draw % x.el := IntWalk.i64_in _ (by omega)
  have r5 : IntKind.i64.wrap (x.el + draw % x.el) = x.el + draw % x.el := IntWalk.i64_in _ (by omega)
  have r6 : decide (x.el + draw % x.el ≤ x.since + 1) = false := by simp; omega
  have r7 : (x.el == 0) = false := by simp; omega
  have r8 : ¬ x.el = 0 := by omega
  clear d2 d4 d6 d8 f8 e0 q0
  go_quiet (fail)
  go_wp2_with fail
  refine bodyPost_end (results_none rfl _ _ _) rfl ?_
  have hk := HK2.out
  exact ⟨rfl, H2.out.drewN _, ⟨hk.os, hk.tape, hk.output, hk.size, hk.block⟩⟩

set_option maxRecDepth 100000 in
set_option maxHeartbeats 1600000 in
/-- The tick at which it stands, and leads. -/
theorem tick_lead (h : Lone w0 w p x) (hr : x.role = 0) (ht : 0 ≤ x.term ∧ x.term < 4611686018427387904) (he : 1 ≤ x.el ∧ x.el ≤ 1000) (hs : 0 ≤ x.since) (draw : Int) (hd : 0 ≤ draw) (hw : x.since + 1 = x.el + draw % x.el) (hes : x.es = []) (hcm : x.commit = 0) :
    Calls Tryz.prog 8 #[.pointer (some ⟨p, 0, none⟩), .int .u64 draw] w (Elected w0 p x) := by
  have hm0 := Int.emod_nonneg draw (show x.el ≠ 0 by omega)
  have hm1 := Int.emod_lt_of_pos draw (show 0 < x.el by omega)
  have hlt := h.lt
  have d2 : w.cell? ⟨p, 2, none⟩ = some (.int .i64 x.el) := h.cell 2 rfl
  have d4 : w.cell? ⟨p, 4, none⟩ = some (.int .u64 x.term) := h.cell 4 rfl
  have d6 : w.cell? ⟨p, 6, none⟩ = some (.int .i64 x.role) := h.cell 6 rfl
  have d8 : w.cell? ⟨p, 8, none⟩ = some (.int .i64 x.since) := h.cell 8 rfl
  have f8 := h.free 8
  have e0 : IntKind.i64.wrap (x.since + 1) = x.since + 1 := IntWalk.i64_in _ (by omega)
  have q0 : (x.role == 3) = false := by rw [hr]; rfl
  have H2 := Lib.hid (h.set { x with since := x.since + 1 } 8 (.int .i64 (x.since + 1)) rfl rfl rfl rfl rfl rfl)
  have HK2 := Lib.hid (show Keeps (fun k => k = p) w (w.setCell ⟨p, 8, none⟩ (.int .i64 (x.since + 1))) from (Keeps.refl (fun k => k = p) w).setCell (p := ⟨p, 8, none⟩) (.inl rfl) _)
  have HES := Lib.hid hes
  have HCM := Lib.hid hcm
  have HW := Lib.hid hw
  clear h hr hes hcm hw
  go_enter Tryz.func8, Tryz.ntmps8
  go_wp2_with fail
  generalize w.setCell ⟨p, 8, none⟩ (.int .i64 (x.since + 1)) = W2 at *
  have k2 : W2.cell? ⟨p, 2, none⟩ = some (.int .i64 x.el) := H2.out.cell 2 rfl
  have k4 : W2.cell? ⟨p, 4, none⟩ = some (.int .u64 x.term) := H2.out.cell 4 rfl
  have k8 : W2.cell? ⟨p, 8, none⟩ = some (.int .i64 (x.since + 1)) := H2.out.cell 8 rfl
  have r1 : decide (x.term < 4611686018427387904) = true := by simp; omega
  have r2 : IntKind.u64.wrap x.el = x.el := IntWalk.u64_in _ (by omega)
  have r3 : Int.tmod draw x.el = draw % x.el := Int.tmod_eq_emod_of_nonneg hd
  have r4 : IntKind.i64.wrap (draw % x.el) = draw % x.el := IntWalk.i64_in _ (by omega)
  have r5 : IntKind.i64.wrap (x.el + draw % x.el) = x.el + draw % x.el := IntWalk.i64_in _ (by omega)
  have r6 : decide (x.el + draw % x.el ≤ x.since + 1) = true := by have := HW.out; simp; omega
  have r7 : (x.el == 0) = false := by simp; omega
  have r8 : ¬ x.el = 0 := by omega
  have k0 : W2.cell? ⟨p, 0, none⟩ = some (.int .i64 x.id) := H2.out.cell 0 rfl
  clear d2 d4 d6 d8 f8 e0 q0 HK2
  go_region_held3 (fun w' => w'.cell? ⟨p, 0, none⟩ = some (.int .i64 x.id) ∧ w'.cell? ⟨p, 2, none⟩ = some (.int .i64 x.el) ∧ w'.cell? ⟨p, 4, none⟩ = some (.int .u64 x.term) ∧ w'.cell? ⟨p, 8, none⟩ = some (.int .i64 (x.since + 1))) (first | exact ⟨k0, k2, k4, k8⟩ | exact ⟨l0, l2, l4, l8⟩)
    (first
      | (go_at_call 24; refine (members_lone H2.out.drew).mono ?_; rintro en w3 ⟨a, cap, rfl, hn3⟩; have HN3 := Lib.hid hn3; have H3 := Lib.hid (H2.out.drew.below hn3.bel); have l0 : w3.cell? ⟨p, 0, none⟩ = some (.int .i64 x.id) := H3.out.cell 0 rfl; have l2 : w3.cell? ⟨p, 2, none⟩ = some (.int .i64 x.el) := H3.out.cell 2 rfl; have l4 : w3.cell? ⟨p, 4, none⟩ = some (.int .u64 x.term) := H3.out.cell 4 rfl; have l8 : w3.cell? ⟨p, 8, none⟩ = some (.int .i64 (x.since + 1)) := H3.out.cell 8 rfl; have hh := has_any w3 a 1 cap [x.id] HN3.out.sl x.id; rw [show decide (x.id ∈ [x.id]) = true by simp] at hh; have HH := Lib.hid hh; clear hn3 hh)
      | (go_at_call 23; refine HH.out.mono ?_; rintro en w4 ⟨rfl, rfl⟩))
  clear k0 k2 k4 k8 l0 l2 l4 l8 r1 r2 r3 r4 r5 r6 r7 r8
  go_wp2_with fail
  refine (asks_lone H3.out HES.out HCM.out ht.1 (by show x.term ≤ _; omega)).mono ?_
  rintro en w5 ⟨rfl, tb, tm, r, v, h5⟩
  have H5 := Lib.hid h5
  clear h5
  go_wp2_with fail
  refine bodyPost_end (results_none rfl _ _ _) rfl ?_
  exact ⟨rfl, tb, tm, r, v, H5.out⟩
end

end Go.Proofs.YtbfhgljmopgejaaGreat

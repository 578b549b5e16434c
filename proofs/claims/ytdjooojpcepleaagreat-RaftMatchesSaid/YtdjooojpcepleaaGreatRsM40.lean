/- Package raft, a node alone: it asks, stands, and leads. -/
import Derived.Test.YtdjooojpcepleaaGreatRsM39
import Derived.BigRegion

namespace Go.Proofs.YtdjooojpcepleaaGreat.L8
open Go.RowKit Go.Sort
section
variable {w0 w : World} {p : Nat} {x : LoneS}
def Elected (w0 : World) (p : Nat) (x : LoneS) (e : Ending) (w' : World) : Prop :=
 e = .returned (.tuple #[]) ∧ ∃ tb tm r v, Led w0 w' p { x with term := x.term + 1, vote := x.id, hard := true, role := 3, lead := x.id, poll := .pointer none, track := .pointer (some ⟨tb, 0, none⟩), r := r, es := [⟨1, x.term + 1, false, v, nothB⟩], commit := 1, since := 0 } tb tm
set_option maxRecDepth 100000 in
set_option maxHeartbeats 1600000 in
theorem stands_lone (h : Lone w0 w p x) (he : x.es = []) (hc : x.commit = 0) (ht : 0 ≤ x.term) (ht2 : x.term ≤ 9223372036854775807) : Calls Tryz.prog 61 #[.pointer (some ⟨p, 0, none⟩)] w (Elected w0 p x) := by
 have hlt := h.lt
 have d6 : w.cell? ⟨p, 6, none⟩ = some (.int .i64 x.role) := h.cell 6 rfl
 have d8 : w.cell? ⟨p, 8, none⟩ = some (.int .i64 x.since) := h.cell 8 rfl
 have f8 := h.free 8
 have f6 := h.free 6
 have H2 := hI ((h.set { x with since := 0 } 8 (.int .i64 0) rfl rfl rfl rfl rfl rfl).set { x with since := 0, role := 2 } 6 (.int .i64 2) rfl rfl rfl rfl rfl rfl)
 have HE := hI he
 have HC := hI hc
 clear h he hc
 go_enter Tryz.func61, Tryz.ntmps61
 go_wp2_with fail
 generalize (w.setCell ⟨p, 8, none⟩ (.int .i64 0)).setCell ⟨p, 6, none⟩ (.int .i64 2) = W2 at *
 have e0 : W2.cell? ⟨p, 0, none⟩ = some (.int .i64 x.id) := H2.out.cell 0 rfl
 have e4 : W2.cell? ⟨p, 4, none⟩ = some (.int .u64 x.term) := H2.out.cell 4 rfl
 have e5 : W2.cell? ⟨p, 5, none⟩ = some (.int .i64 x.vote) := H2.out.cell 5 rfl
 have e18 : W2.cell? ⟨p, 18, none⟩ = some (.bool x.hard) := H2.out.cell 18 rfl
 have g4 := H2.out.free 4
 have g5 := H2.out.free 5
 have g18 := H2.out.free 18
 have hw : IntKind.u64.wrap (x.term + 1) = x.term + 1 := IntWalk.u64_in _ (by omega)
 clear d6 d8 f8 f6
 go_region
 have H3 := hI ((((H2.out.set { x with since := 0, role := 2, term := x.term + 1 } 4 (.int .u64 (x.term + 1)) rfl rfl rfl rfl rfl rfl).set { x with since := 0, role := 2, term := x.term + 1, vote := x.id } 5 (.int .i64 x.id) rfl rfl rfl rfl rfl rfl).set { x with since := 0, role := 2, term := x.term + 1, vote := x.id, hard := true } 18 (.bool true) rfl rfl rfl rfl rfl rfl).drew)
 generalize (((W2.setCell ⟨p, 4, none⟩ (.int .u64 (x.term + 1))).setCell ⟨p, 5, none⟩ (.int .i64 x.id)).setCell ⟨p, 18, none⟩ (.bool true)).drew = W3 at *
 clear e0 e4 e5 e18 g4 g5 g18
 go_wp2_with fail
 refine (poll_lone H3.out).mono ?_
 rintro en w4 ⟨b, rfl, h4, hk4⟩
 have H4 := hI h4
 clear h4 hk4
 go_wp2_with fail
 refine (leads_lone H4.out HE.out HC.out (by show 0 ≤ x.term + 1; omega) (by show x.term + 1 ≤ _; omega)).mono ?_
 rintro en w5 ⟨rfl, tb, tm, r, v, h5⟩
 have H5 := hI h5
 clear h5
 go_wp2_with fail
 refine bE rfl rfl ?_
 exact ⟨rfl, tb, tm, r, v, H5.out⟩
set_option maxRecDepth 100000 in
set_option maxHeartbeats 1600000 in
theorem asks_lone (h : Lone w0 w p x) (he : x.es = []) (hc : x.commit = 0) (ht : 0 ≤ x.term) (ht2 : x.term ≤ 9223372036854775807) : Calls Tryz.prog 32 #[.pointer (some ⟨p, 0, none⟩)] w (Elected w0 p x) := by
 have hlt := h.lt
 have d6 : w.cell? ⟨p, 6, none⟩ = some (.int .i64 x.role) := h.cell 6 rfl
 have d7 : w.cell? ⟨p, 7, none⟩ = some (.int .i64 x.lead) := h.cell 7 rfl
 have d8 : w.cell? ⟨p, 8, none⟩ = some (.int .i64 x.since) := h.cell 8 rfl
 have d16 : w.cell? ⟨p, 16, none⟩ = some x.track := h.cell 16 rfl
 have f6 := h.free 6
 have f7 := h.free 7
 have f8 := h.free 8
 have f16 := h.free 16
 have H2 := hI ((((h.set { x with since := 0 } 8 (.int .i64 0) rfl rfl rfl rfl rfl rfl).set { x with since := 0, role := 1 } 6 (.int .i64 1) rfl rfl rfl rfl rfl rfl).set { x with since := 0, role := 1, lead := 0 } 7 (.int .i64 0) rfl rfl rfl rfl rfl rfl).set { x with since := 0, role := 1, lead := 0, track := .pointer none } 16 (.pointer none) rfl rfl rfl rfl rfl rfl)
 have HE := hI he
 have HC := hI hc
 clear h he hc
 go_enter Tryz.func32, Tryz.ntmps32
 go_wp2_with fail
 generalize (((w.setCell ⟨p, 8, none⟩ (.int .i64 0)).setCell ⟨p, 6, none⟩ (.int .i64 1)).setCell ⟨p, 7, none⟩ (.int .i64 0)).setCell ⟨p, 16, none⟩ (.pointer none) = W2 at *
 clear d6 d7 d8 d16 f6 f7 f8 f16
 refine (poll_lone H2.out).mono ?_
 rintro en w4 ⟨b, rfl, h4, hk4⟩
 have H4 := hI h4
 clear h4 hk4
 go_wp2_with fail
 refine (stands_lone H4.out HE.out HC.out ht ht2).mono ?_
 rintro en w5 ⟨rfl, tb, tm, r, v, h5⟩
 have H5 := hI h5
 clear h5
 go_wp2_with fail
 refine bE rfl rfl ?_
 exact ⟨rfl, tb, tm, r, v, H5.out⟩
theorem tick_wait (h : Lone w0 w p x) (hr : x.role = 0) (ht : 0 ≤ x.term ∧ x.term < 4611686018427387904) (he : 1 ≤ x.el ∧ x.el ≤ 1000) (hs : 0 ≤ x.since) (draw : Int) (hd : 0 ≤ draw) (hw : x.since + 1 < x.el + draw % x.el) :
  Calls Tryz.prog 13 #[.pointer (some ⟨p, 0, none⟩), .int .u64 draw] w (LoneP w0 w p { x with since := x.since + 1 } (.tuple #[])) := by
 have hm0 := Int.emod_nonneg draw (show x.el ≠ 0 by omega)
 have hm1 := Int.emod_lt_of_pos draw (show 0 < x.el by omega)
 have hlt := h.lt
 have d2 : w.cell? ⟨p, 2, none⟩ = some (.int .i64 x.el) := h.cell 2 rfl
 have d4 : w.cell? ⟨p, 4, none⟩ = some (.int .u64 x.term) := h.cell 4 rfl
 have d6 : w.cell? ⟨p, 6, none⟩ = some (.int .i64 x.role) := h.cell 6 rfl
 have d8 : w.cell? ⟨p, 8, none⟩ = some (.int .i64 x.since) := h.cell 8 rfl
 have f8 := h.free 8
 have e0 : IntKind.i64.wrap (x.since + 1) = x.since + 1 := IntWalk.i64_in _ (by omega)
 have q0 : (x.role == 3) = false := by rw [hr]; rfl
 have H2 := hI (h.set { x with since := x.since + 1 } 8 (.int .i64 (x.since + 1)) rfl rfl rfl rfl rfl rfl)
 have HK2 := hI (show Keeps (fun k => k = p) w (w.setCell ⟨p, 8, none⟩ (.int .i64 (x.since + 1))) from (Keeps.refl (fun k => k = p) w).setCell (p := ⟨p, 8, none⟩) (.inl rfl) _)
 clear h hr
 go_enter Tryz.func13, Tryz.ntmps13
 go_wp2_with fail
 generalize w.setCell ⟨p, 8, none⟩ (.int .i64 (x.since + 1)) = W2 at *
 have k2 : W2.cell? ⟨p, 2, none⟩ = some (.int .i64 x.el) := H2.out.cell 2 rfl
 have k4 : W2.cell? ⟨p, 4, none⟩ = some (.int .u64 x.term) := H2.out.cell 4 rfl
 have k8 : W2.cell? ⟨p, 8, none⟩ = some (.int .i64 (x.since + 1)) := H2.out.cell 8 rfl
 have r1 : decide (x.term < 4611686018427387904) = true := by simp; omega
 have r2 : IntKind.u64.wrap x.el = x.el := IntWalk.u64_in _ (by omega)
 have r3 : Int.tmod draw x.el = draw % x.el := Int.tmod_eq_emod_of_nonneg hd
 have r4 : IntKind.i64.wrap (draw % x.el) = draw % x.el := IntWalk.i64_in _ (by omega)
 have r5 : IntKind.i64.wrap (x.el + draw % x.el) = x.el + draw % x.el := IntWalk.i64_in _ (by omega)
 have r6 : decide (x.el + draw % x.el ≤ x.since + 1) = false := by simp; omega
 have r7 : (x.el == 0) = false := by simp; omega
 have r8 : ¬ x.el = 0 := by omega
 clear d2 d4 d6 d8 f8 e0 q0
 go_quiet (fail)
 go_wp2_with fail
 refine bE rfl rfl ?_
 have hk := HK2.out
 exact ⟨rfl, H2.out.drewN _, ⟨hk.os, hk.tape, hk.output, hk.size, hk.block⟩⟩
set_option maxRecDepth 100000 in
set_option maxHeartbeats 1600000 in
theorem tick_lead (h : Lone w0 w p x) (hr : x.role = 0) (ht : 0 ≤ x.term ∧ x.term < 4611686018427387904) (he : 1 ≤ x.el ∧ x.el ≤ 1000) (hs : 0 ≤ x.since) (draw : Int) (hd : 0 ≤ draw) (hw : x.since + 1 = x.el + draw % x.el) (hes : x.es = []) (hcm : x.commit = 0) :
  Calls Tryz.prog 13 #[.pointer (some ⟨p, 0, none⟩), .int .u64 draw] w (Elected w0 p x) := by
 have hm0 := Int.emod_nonneg draw (show x.el ≠ 0 by omega)
 have hm1 := Int.emod_lt_of_pos draw (show 0 < x.el by omega)
 have hlt := h.lt
 have d2 : w.cell? ⟨p, 2, none⟩ = some (.int .i64 x.el) := h.cell 2 rfl
 have d4 : w.cell? ⟨p, 4, none⟩ = some (.int .u64 x.term) := h.cell 4 rfl
 have d6 : w.cell? ⟨p, 6, none⟩ = some (.int .i64 x.role) := h.cell 6 rfl
 have d8 : w.cell? ⟨p, 8, none⟩ = some (.int .i64 x.since) := h.cell 8 rfl
 have f8 := h.free 8
 have e0 : IntKind.i64.wrap (x.since + 1) = x.since + 1 := IntWalk.i64_in _ (by omega)
 have q0 : (x.role == 3) = false := by rw [hr]; rfl
 have H2 := hI (h.set { x with since := x.since + 1 } 8 (.int .i64 (x.since + 1)) rfl rfl rfl rfl rfl rfl)
 have HK2 := hI (show Keeps (fun k => k = p) w (w.setCell ⟨p, 8, none⟩ (.int .i64 (x.since + 1))) from (Keeps.refl (fun k => k = p) w).setCell (p := ⟨p, 8, none⟩) (.inl rfl) _)
 have HES := hI hes
 have HCM := hI hcm
 have HW := hI hw
 clear h hr hes hcm hw
 go_enter Tryz.func13, Tryz.ntmps13
 go_wp2_with fail
 generalize w.setCell ⟨p, 8, none⟩ (.int .i64 (x.since + 1)) = W2 at *
 have k2 : W2.cell? ⟨p, 2, none⟩ = some (.int .i64 x.el) := H2.out.cell 2 rfl
 have k4 : W2.cell? ⟨p, 4, none⟩ = some (.int .u64 x.term) := H2.out.cell 4 rfl
 have k8 : W2.cell? ⟨p, 8, none⟩ = some (.int .i64 (x.since + 1)) := H2.out.cell 8 rfl
 have r1 : decide (x.term < 4611686018427387904) = true := by simp; omega
 have r2 : IntKind.u64.wrap x.el = x.el := IntWalk.u64_in _ (by omega)
 have r3 : Int.tmod draw x.el = draw % x.el := Int.tmod_eq_emod_of_nonneg hd
 have r4 : IntKind.i64.wrap (draw % x.el) = draw % x.el := IntWalk.i64_in _ (by omega)
 have r5 : IntKind.i64.wrap (x.el + draw % x.el) = x.el + draw % x.el := IntWalk.i64_in _ (by omega)
 have r6 : decide (x.el + draw % x.el ≤ x.since + 1) = true := by have := HW.out; simp; omega
 have r7 : (x.el == 0) = false := by simp; omega
 have r8 : ¬ x.el = 0 := by omega
 have k0 : W2.cell? ⟨p, 0, none⟩ = some (.int .i64 x.id) := H2.out.cell 0 rfl
 clear d2 d4 d6 d8 f8 e0 q0 HK2
 go_region_held3 (fun w' => w'.cell? ⟨p, 0, none⟩ = some (.int .i64 x.id) ∧ w'.cell? ⟨p, 2, none⟩ = some (.int .i64 x.el) ∧ w'.cell? ⟨p, 4, none⟩ = some (.int .u64 x.term) ∧ w'.cell? ⟨p, 8, none⟩ = some (.int .i64 (x.since + 1))) (first | exact ⟨k0, k2, k4, k8⟩ | exact ⟨l0, l2, l4, l8⟩)
  (first
    | (go_at_call 31; refine (members_lone H2.out.drew).mono ?_; rintro en w3 ⟨a, cap, rfl, hn3⟩; have HN3 := hI hn3; have H3 := hI (H2.out.drew.below hn3.bel); have l0 : w3.cell? ⟨p, 0, none⟩ = some (.int .i64 x.id) := H3.out.cell 0 rfl; have l2 : w3.cell? ⟨p, 2, none⟩ = some (.int .i64 x.el) := H3.out.cell 2 rfl; have l4 : w3.cell? ⟨p, 4, none⟩ = some (.int .u64 x.term) := H3.out.cell 4 rfl; have l8 : w3.cell? ⟨p, 8, none⟩ = some (.int .i64 (x.since + 1)) := H3.out.cell 8 rfl; have hh := has_any w3 a 1 cap [x.id] HN3.out.sl x.id; rw [show decide (x.id ∈ [x.id]) = true by simp] at hh; have HH := hI hh; clear hn3 hh)
    | (go_at_call 30; refine HH.out.mono ?_; rintro en w4 ⟨rfl, rfl⟩))
 clear k0 k2 k4 k8 l0 l2 l4 l8 r1 r2 r3 r4 r5 r6 r7 r8
 go_wp2_with fail
 refine (asks_lone H3.out HES.out HCM.out ht.1 (by show x.term ≤ _; omega)).mono ?_
 rintro en w5 ⟨rfl, tb, tm, r, v, h5⟩
 have H5 := hI h5
 clear h5
 go_wp2_with fail
 refine bE rfl rfl ?_
 exact ⟨rfl, tb, tm, r, v, H5.out⟩
end
end Go.Proofs.YtdjooojpcepleaaGreat.L8

namespace Go.Proofs.YtdjooojpcepleaaGreat.L8
open Go.RowKit Go.Sort
theorem cells4_new (W : World) (a b c d : Value) (T : TypeId) : ∀ j u, [a, b, c, d][j]? = some u → (W.alloc (.cells #[a, b, c, d] T)).cell? ((⟨W.heap.size, 0, none⟩ : Addr).add j) = some u := by
 intro j u hu
 rw [addr_add, Nat.zero_add]
 exact bC (bW _ _) _ (by simpa using hu)
end Go.Proofs.YtdjooojpcepleaaGreat.L8

namespace Go.Proofs.YtdjooojpcepleaaGreat.L8
open Go.RowKit Go.Sort
section
variable {w0 w : World} {p tb tm : Nat} {x : LoneS}
theorem role_lone (h : Lone w0 w p x) : Calls Tryz.prog 17 #[.pointer (some ⟨p, 0, none⟩)] w (Ret (.int .i64 x.role) w) := by
 have d : w.cell? ⟨p, 6, none⟩ = some (.int .i64 x.role) := h.cell 6 rfl
 clear h
 go_enter Tryz.func17, Tryz.ntmps17
 go_wp2
 go_ret
 exact Ret.mk rfl
theorem commit_lone (h : Lone w0 w p x) : Calls Tryz.prog 19 #[.pointer (some ⟨p, 0, none⟩)] w (Ret (.int .u64 x.commit) w) := by
 have d : w.cell? ⟨p, 14, none⟩ = some (.int .u64 x.commit) := h.cell 14 rfl
 clear h
 go_enter Tryz.func19, Tryz.ntmps19
 go_wp2
 go_ret
 exact Ret.mk rfl
theorem last_lone (h : Lone w0 w p x) (n : Nat) (hn : x.es.length = n) : Calls Tryz.prog 21 #[.pointer (some ⟨p, 0, none⟩)] w (RetB (.int .u64 n) w) := by
 have d : w.cell? ⟨p, 9, none⟩ = some (.pointer (some ⟨x.lg, 0, none⟩)) := h.cell 9 rfl
 have hls := last_any w x.lg x.r 0 0 x.es h.log h.ok
 rw [hn, show (0 : Int) + (n : Int) = (n : Int) by omega] at hls
 clear h hn
 go_enter Tryz.func21, Tryz.ntmps21
 go_wp2_with fail
 refine hls.mono ?_
 rintro en w1 ⟨rfl, hb1⟩
 go_wp2_with fail
 go_ret
 exact RetB.mk rfl hb1
end
end Go.Proofs.YtdjooojpcepleaaGreat.L8

namespace Go.Proofs.YtdjooojpcepleaaGreat.L8
open Go.RowKit Go.Sort
theorem follow_nil (w : World) (ix tm : Int) : Calls Tryz.prog 77 #[.int .u64 ix, .int .u64 tm, .slice none 0 0] w (Ret (.int .i64 0) w) := by
 go_enter Tryz.func77, Tryz.ntmps77
 go_wp2
 go_loop [7, 12] (fun b i => b = .bool false ∧ i = .int .i64 0) (fun _ _ => 0)
 case atStart => exact ⟨rfl, rfl⟩
 case round =>
  obtain ⟨rfl, rfl⟩ := hrel
  go_wp2
  go_ret
  exact Ret.mk rfl
theorem known_nil (w : World) (t : Value) : Calls Tryz.prog 78 #[t, .slice none 0 0] w (Ret (.int .i64 0) w) := by
 go_enter Tryz.func78, Tryz.ntmps78
 go_wp2
 go_loop [5, 12] (fun b i => b = .int .i64 0 ∧ i = .int .i64 0) (fun _ _ => 0)
 case atStart => exact ⟨rfl, rfl⟩
 case round =>
  obtain ⟨rfl, rfl⟩ := hrel
  go_wp2
  go_ret
  exact Ret.mk rfl
theorem put_nil (w : World) (t : Nat) (r : Option Nat) (es : List Ent) (h : LogAt w t r 0 0 es) (ok : LogOk 0 0 es) : Calls Tryz.prog 49 #[.pointer (some ⟨t, 0, none⟩), .int .u64 0, .int .u64 0, .slice none 0 0] w (RetB (.tuple #[.int .u64 0, .int .i64 0]) w) := by
 have HT := hI (term_base w t r 0 0 es h ok)
 clear h ok
 go_enter Tryz.func49, Tryz.ntmps49
 go_wp2_with fail
 refine (follow_nil w 0 0).mono ?_
 rintro en w' ⟨rfl, rfl⟩
 go_wp2_with fail
 refine HT.out.mono ?_
 rintro en w1 ⟨rfl, hb1⟩
 have HB1 := hI hb1
 clear hb1
 go_wp2_with fail
 refine (known_nil w1 _).mono ?_
 rintro en w' ⟨rfl, rfl⟩
 go_wp2_with fail
 go_ret2
 exact RetB.mk rfl HB1.out
theorem cloneI_nil (w : World) : Calls Tryz.prog 47 #[.slice none 0 0] w (Ret (.slice none 0 0) w) := by
 have hnil := fun w => Lib.run_eql_slice_nil (P := Tryz.prog) w 37 3 none 0 0 0 0 Tryz.underlying37
 go_enter Tryz.func47, Tryz.ntmps47
 go_wp2
 go_ret
 exact Ret.mk rfl
theorem cloneB_nil (w : World) : Calls Tryz.prog 56 #[.slice none 0 0] w (Ret (.slice none 0 0) w) := by
 have hnil := fun w => Lib.run_eql_slice_nil (P := Tryz.prog) w 38 5 none 0 0 0 0 Tryz.underlying38
 go_enter Tryz.func56, Tryz.ntmps56
 go_wp2
 go_ret
 exact Ret.mk rfl
theorem keep_same {W : World} {a b : Addr} {v u : Value} (h : W.cell? a = some v) (hb : W.cell? b = some u) : (W.setCell a v).cell? b = some u := by
 by_cases e : a = b
 ·subst e
  rw [World.cell?_setCell_same _ _ _ h, ← hb, h]
 ·rw [World.cell?_setCell_other _ _ _ _ e]
  exact hb
theorem keep_sameD {W : World} {a b : Addr} {v u : Value} (h : W.cell? a = some v) (hb : W.cell? b = some u) : (W.setCell a v).drew.cell? b = some u := keep_same h hb
theorem clone_img (w : World) : Calls Tryz.prog 28 #[.agg #[.int .u64 0, .int .u64 0, .slice none 0 0, .slice none 0 0]] w (RetB (.agg #[.int .u64 0, .int .u64 0, .slice none 0 0, .slice none 0 0]) w) := by
 go_enter Tryz.func28, Tryz.ntmps28
 go_wp2_with fail
 obtain ⟨W, hW⟩ : ∃ W, W = (w.alloc (.cells #[.int .u64 0, .int .u64 0, .slice none 0 0, .slice none 0 0] 40)).alloc (.cells #[.int .u64 0, .int .u64 0, .slice none 0 0, .slice none 0 0] 40) := ⟨_, rfl⟩
 have hx : W.heap[w.heap.size]? = some (.cells #[.int .u64 0, .int .u64 0, .slice none 0 0, .slice none 0 0] 40 (0, 0)) := by rw [hW]; exact aheap (bW _ _) _
 have hy : W.heap[w.heap.size + 1]? = some (.cells #[.int .u64 0, .int .u64 0, .slice none 0 0, .slice none 0 0] 40 (0, 0)) := by
  rw [hW]
  have : (w.alloc (.cells #[.int .u64 0, .int .u64 0, .slice none 0 0, .slice none 0 0] 40)).heap.size = w.heap.size + 1 := by simp
  rw [← this]
  exact bW _ _
 have HB : Hid (Below w.heap.size w W) := hI (by rw [hW]; exact (bR.alloc nL _).alloc (by simp) _)
 rw [← hW]
 clear hW
 have c0 := bC hx 0 rfl
 have c1 := bC hx 1 rfl
 have c2 : W.cell? ⟨w.heap.size, 2, none⟩ = some (.slice none 0 0) := bC hx 2 rfl
 have c3 : W.cell? ⟨w.heap.size, 3, none⟩ = some (.slice none 0 0) := bC hx 3 rfl
 have f2 := bF hx 2
 have f3 := bF hx 3
 have y0 := bC hy 0 rfl
 have y1 := bC hy 1 rfl
 have y2 := bC hy 2 rfl
 have y3 := bC hy 3 rfl
 have g0 := bF hy 0
 have g1 := bF hy 1
 have g2 := bF hy 2
 have g3 := bF hy 3
 go_region_held3 (fun w' => w'.cell? ⟨w.heap.size, 2, none⟩ = some (.slice none 0 0) ∧ w'.cell? ⟨w.heap.size, 3, none⟩ = some (.slice none 0 0)) (first | with_reducible exact ⟨c2, c3⟩ | exact (show W.cell? _ = _ ∧ W.cell? _ = _ from ⟨c2, c3⟩) | with_reducible exact ⟨keep_sameD c2 c2, keep_sameD c2 c3⟩ | with_reducible exact ⟨keep_same c2 c2, keep_same c2 c3⟩ | with_reducible exact ⟨keep_sameD (keep_same c2 c3) (keep_same c2 c2), keep_sameD (keep_same c2 c3) (keep_same c2 c3)⟩ | with_reducible exact ⟨keep_same (keep_same c2 c3) (keep_same c2 c2), keep_same (keep_same c2 c3) (keep_same c2 c3)⟩)
  (first
    | (go_at_call 47; refine (cloneI_nil _).mono ?_; rintro en w3 ⟨rfl, rfl⟩)
    | (go_at_call 56; refine (cloneB_nil _).mono ?_; rintro en w3 ⟨rfl, rfl⟩))
 have k0 : ((W.setCell ⟨w.heap.size, 2, none⟩ (.slice none 0 0)).setCell ⟨w.heap.size, 3, none⟩ (.slice none 0 0)).drew.cell? ⟨w.heap.size, 0, none⟩ = some (.int .u64 0) := keep_sameD (keep_same c2 c3) (keep_same c2 c0)
 have k1 : ((W.setCell ⟨w.heap.size, 2, none⟩ (.slice none 0 0)).setCell ⟨w.heap.size, 3, none⟩ (.slice none 0 0)).drew.cell? ⟨w.heap.size, 1, none⟩ = some (.int .u64 0) := keep_sameD (keep_same c2 c3) (keep_same c2 c1)
 have k2 : ((W.setCell ⟨w.heap.size, 2, none⟩ (.slice none 0 0)).setCell ⟨w.heap.size, 3, none⟩ (.slice none 0 0)).drew.cell? ⟨w.heap.size, 2, none⟩ = some (.slice none 0 0) := keep_sameD (keep_same c2 c3) (keep_same c2 c2)
 have k3 : ((W.setCell ⟨w.heap.size, 2, none⟩ (.slice none 0 0)).setCell ⟨w.heap.size, 3, none⟩ (.slice none 0 0)).drew.cell? ⟨w.heap.size, 3, none⟩ = some (.slice none 0 0) := keep_sameD (keep_same c2 c3) (keep_same c2 c3)
 have hy3 : ((W.setCell ⟨w.heap.size, 2, none⟩ (.slice none 0 0)).setCell ⟨w.heap.size, 3, none⟩ (.slice none 0 0)).drew.heap[w.heap.size + 1]? = some (.cells #[.int .u64 0, .int .u64 0, .slice none 0 0, .slice none 0 0] 40 (0, 0)) := bO (bO hy (by simp) _) (by simp) _
 have HB3 : Hid (Below w.heap.size w ((W.setCell ⟨w.heap.size, 2, none⟩ (.slice none 0 0)).setCell ⟨w.heap.size, 3, none⟩ (.slice none 0 0)).drew) := hI (bD ((HB.out.setCell (by simp) _).setCell (by simp) _))
 generalize ((W.setCell ⟨w.heap.size, 2, none⟩ (.slice none 0 0)).setCell ⟨w.heap.size, 3, none⟩ (.slice none 0 0)).drew = W3 at *
 clear y0 y1 y2 y3 g0 g1 g2 g3 c0 c1 c2 c3 f2 f3 hx hy
 have y0 := bC hy3 0 rfl
 have y1 := bC hy3 1 rfl
 have y2 := bC hy3 2 rfl
 have y3 := bC hy3 3 rfl
 have g0 := bF hy3 0
 have g1 := bF hy3 1
 have g2 := bF hy3 2
 have g3 := bF hy3 3
 clear hy3
 go_wp2_with fail
 refine bodyPost_ret (v := .agg #[.int .u64 0, .int .u64 0, .slice none 0 0, .slice none 0 0]) (by simp [results, Tryz.results28, go_sem, y0, y1, y2, y3]) rfl ?_
 exact RetB.mk rfl ((((HB3.out.setCell (by simp) _).setCell (by simp) _).setCell (by simp) _).setCell (by simp) _)
end Go.Proofs.YtdjooojpcepleaaGreat.L8

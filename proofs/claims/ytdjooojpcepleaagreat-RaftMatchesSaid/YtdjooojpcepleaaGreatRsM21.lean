/- raft, any node: asks, Tick. -/
import Derived.Test.YtdjooojpcepleaaGreatRsM20

namespace Go.Proofs.YtdjooojpcepleaaGreat
open Go.RowKit
theorem ask_law {C0 : List Int} {g : Gh En} {n : Nat} {x : NodeS} {X : List En} (h : OkN C0 g n x X) (v : Value) : OkN C0 g n ({ x with since := 0, role := 1, lead := 0, tv := .pointer none, tr := none }.polled v) X :=
 ⟨h.ni.calm 1 (by decide) (by decide) (some (x.memb, yesOf (voteF x.memb [] x.id true))) [], h.i7, h.t0, h.tn, h.c0, h.len, h.memb, h.v0, h.v7, fun e => by simp [NodeS.polled] at e, h.el⟩
set_option maxRecDepth 100000 in
set_option maxHeartbeats 1600000 in
theorem asks_node (w : World) (M F : Nat → Prop) (p : Nat) (x : NodeS) (h : NodeAt w M F p x) (hM : ∀ k, M k → k < w.heap.size) (hl : x.out.length ≤ 800000) (C0 : List Int) (g : Gh En) (n : Nat) (X : List En) (hg : OkG C0 g n) (hN : OkN C0 g n x X) (hn6 : n ≤ 1000) (hXn : X.length + 1 ≤ n) (htn : x.term + 1 ≤ n) :
  Calls Tryz.prog 32 #[.pointer (some ⟨p, 0, none⟩)] w (fun e w' => e = .returned (.tuple #[]) ∧ ActTo C0 g n 14 w M F w' p x) := by
 have hR0 := Rn.start h hM
 have hlt := h.plt
 have d6 : w.cell? ⟨p, 6, none⟩ = some (.int .i64 x.role) := h.cell 6 rfl
 have d7 : w.cell? ⟨p, 7, none⟩ = some (.int .i64 x.lead) := h.cell 7 rfl
 have d8 : w.cell? ⟨p, 8, none⟩ = some (.int .i64 x.since) := h.cell 8 rfl
 have d16 : w.cell? ⟨p, 16, none⟩ = some x.tv := h.cell 16 rfl
 have f6 := h.free 6
 have f7 := h.free 7
 have f8 := h.free 8
 have f16 := h.free 16
 have H2 := hI ((((hR0.set { x with since := 0 } 8 (.int .i64 0) rfl rS).set { x with since := 0, role := 1 } 6 (.int .i64 1) rfl rS).set { x with since := 0, role := 1, lead := 0 } 7 (.int .i64 0) rfl rS).setP { x with since := 0, role := 1, lead := 0, tv := .pointer none, tr := none } 16 (.pointer none) rfl rfl rfl rfl rfl rfl rfl rfl rfl rfl rfl (.inl ⟨rfl, rfl⟩) (.inr ⟨rfl, rfl⟩))
 have HOK := hI hR0.ok.1
 have HN := hI hN
 have HG := hI hg
 have HL := hI hl
 have ht0 := hN.t0
 have hpi := hN.ni.pos
 have hi7 := hN.i7
 have HXN := hI hXn
 clear h hM hR0 hl hg hN hXn
 go_enter Tryz.func32, Tryz.ntmps32
 go_wp2_with fail
 generalize (((w.setCell ⟨p, 8, none⟩ (.int .i64 0)).setCell ⟨p, 6, none⟩ (.int .i64 1)).setCell ⟨p, 7, none⟩ (.int .i64 0)).setCell ⟨p, 16, none⟩ (.pointer none) = W3 at *
 have HPO := hI (poll1_node W3 _ F p _ H2.out.node H2.out.ml HN.out.memb hpi hi7)
 clear d6 d7 d8 d16 f6 f7 f8 f16
 refine HPO.out.mono ?_
 rintro en w4 ⟨st, v, rfl, hn4, hst⟩
 obtain ⟨G4, h4⟩ := H2.out.call hn4
 have H4 := hI h4
 have HA1 : Hid (Acts C0 g n 0 x g ({ x with since := 0, role := 1, lead := 0, tv := .pointer none, tr := none }.polled v) X) := hI (Acts.own HG.out (ask_law HN.out v) rfl ⟨rfl, rfl, rfl, rfl⟩)
 have hw : IntKind.u64.wrap (x.term + 1) = x.term + 1 := IntWalk.u64_in _ (by omega)
 clear hn4 h4 hst HPO
 by_cases hwon : st = 1
 ·have q1 : (st == 1) = true := by simpa using hwon
  have HLD := hI (stands_node w4 _ G4 p _ H4.out.node H4.out.ml HL.out C0 g n X HG.out HA1.out.nok hn6 HXN.out htn)
  go_wp2_with fail
  refine HLD.out.mono ?_
  rintro en w5 ⟨rfl, y, g2, Y, hn5, hA5⟩
  obtain ⟨G5, h5⟩ := H4.out.call hn5
  have H5 := hI h5.to
  have HA5 := hI (HA1.out.trans hA5)
  clear hn5 hA5 h5 HLD
  go_wp2_with fail
  first
   | refine bT rfl rfl ?_
   | refine bE rfl rfl ?_
  exact ⟨rfl, y, g2, Y, H5.out, HA5.out.mono nL (by omega)⟩
 ·have q1 : (st == 1) = false := by simpa using hwon
  have k4 : w4.cell? ⟨p, 4, none⟩ = some (.int .u64 x.term) := H4.out.cell 4 rfl
  have hak := ask_node w4 _ G4 p _ H4.out.node H4.out.ml (by have := HL.out; show x.out.length ≤ 900000; omega) HN.out.memb 0 (x.term + 1)
  have HAK := hI hak
  clear hak
  go_wp2_with fail
  refine HAK.out.mono ?_
  rintro en w5 ⟨rfl, v5, l5, hn5, hl5, hm5⟩
  obtain ⟨G5, h5⟩ := H4.out.call hn5
  have H5 := hI h5
  have HL5 := hI hl5
  have HM5 := hI hm5
  clear hn5 h5 hl5 hm5
  go_wp2_with fail
  refine bE rfl rfl ?_
  refine ⟨rfl, _, g, X, H5.out.to, (HA1.out.trans (j := 7) ⟨Grow.refl _ _, HA1.out.gok, HA1.out.nok.outs _ _ _, ⟨l5, rfl, fun m hm => ?_, HL5.out⟩, ⟨rfl, rfl, rfl, rfl⟩⟩).mono nL (by omega)⟩
  obtain ⟨c, c1, c7, rfl⟩ := HM5.out m hm
  exact HA1.out.nok.askv HOK.out (.inl rfl) (by omega) (by omega) c1 c7
def TickR (C0 : List Int) (g : Gh En) (n : Nat) (w : World) (M F : Nat → Prop) (p : Nat) (x : NodeS) (e : Ending) (w' : World) : Prop := e = .returned (.tuple #[]) ∧ ActTo C0 g n 14 w M F w' p x
set_option maxRecDepth 100000 in
set_option maxHeartbeats 1600000 in
theorem tick_node (w : World) (M F : Nat → Prop) (p : Nat) (x : NodeS) (h : NodeAt w M F p x) (hM : ∀ k, M k → k < w.heap.size) (hl : x.out.length ≤ 800000) (C0 : List Int) (g : Gh En) (n : Nat) (X : List En) (hg : OkG C0 g n) (hN : OkN C0 g n x X) (hn6 : n ≤ 1000) (hXn : X.length + 1 ≤ n) (htn : x.term + 1 ≤ n) (draw : Int) (hd : 0 ≤ draw) :
  Calls Tryz.prog 13 #[.pointer (some ⟨p, 0, none⟩), .int .u64 draw] w (TickR C0 g n w M F p x) := by
 have hR0 := Rn.start h hM
 have hlt := h.plt
 have d6 : w.cell? ⟨p, 6, none⟩ = some (.int .i64 x.role) := h.cell 6 rfl
 have d8 : w.cell? ⟨p, 8, none⟩ = some (.int .i64 x.since) := h.cell 8 rfl
 have f8 := h.free 8
 obtain ⟨s, hs⟩ : ∃ s, s = wrap64 (x.since + 1) := ⟨_, rfl⟩
 have H2 := hI (hR0.set { x with since := s } 8 (.int .i64 s) rfl rS)
 have HN := hI (show OkN C0 g n { x with since := s } X from hN.outs s x.ov x.out)
 have HA0 : Hid (Acts C0 g n 0 x g { x with since := s } X) := hI (Acts.own hg HN.out rfl ⟨rfl, rfl, rfl, rfl⟩)
 have HG := hI hg
 have HL := hI hl
 have ht0 := hN.t0
 have hel := hN.el
 have HXN := hI hXn
 have hml := (mL hN.memb).2.1
 clear h hM hR0 hl hg hN hXn
 have HS := hI hs
 by_cases hr : x.role = 3
 ·have q0 : (x.role == 3) = true := by rw [hr]; rfl
  clear hs
  go_enter Tryz.func13, Tryz.ntmps13
  go_wp2_with fail
  rw [← HS.out]
  generalize w.setCell ⟨p, 8, none⟩ (.int .i64 s) = W2 at *
  have k3 : W2.cell? ⟨p, 3, none⟩ = some (.int .i64 x.be) := H2.out.cell 3 rfl
  have k8 : W2.cell? ⟨p, 8, none⟩ = some (.int .i64 s) := H2.out.cell 8 rfl
  clear d6 d8 f8 q0
  by_cases hb : x.be ≤ s
  ·have q1 : decide (x.be ≤ s) = true := by simpa using hb
   go_quiet (fail)
   have HAL := hI (all_node (W2.drewN nq) _ F p _ (H2.out.drewN nq).node (H2.out.drewN nq).ml (by have := HL.out; show x.out.length ≤ 900000; omega) C0 g n X HN.out (by omega) hr)
   clear k3 k8
   go_wp2_with fail
   refine HAL.out.mono ?_
   rintro en w5 ⟨rfl, v5, l5, hn5, hm5, hl5⟩
   obtain ⟨G5, h5⟩ := (H2.out.drewN nq).call hn5
   have H5 := hI h5.to
   have HA5 := hI (HA0.out.trans (j := 7) ⟨Grow.refl _ _, HA0.out.gok, HA0.out.nok.outs 0 v5 (x.out ++ l5), ⟨l5, rfl, hm5, hl5⟩, ⟨rfl, rfl, rfl, rfl⟩⟩)
   clear hn5 h5 hm5 hl5
   go_wp2_with fail
   refine bE rfl rfl ?_
   exact ⟨rfl, _, g, X, H5.out, HA5.out.mono nL (by omega)⟩
  ·have q1 : decide (x.be ≤ s) = false := by simpa using hb
   go_quiet (fail)
   go_wp2_with fail
   refine bE rfl rfl ?_
   exact ⟨rfl, _, g, X, (H2.out.drewN nq).to, HA0.out.mono nL (by omega)⟩
 ·have q0 : (x.role == 3) = false := by simpa using hr
  clear hs
  go_enter Tryz.func13, Tryz.ntmps13
  go_wp2_with fail
  rw [← HS.out]
  generalize w.setCell ⟨p, 8, none⟩ (.int .i64 s) = W2 at *
  have hm0 := Int.emod_nonneg draw (show x.el ≠ 0 by omega)
  have hm1 := Int.emod_lt_of_pos draw (show 0 < x.el by omega)
  have k0 : W2.cell? ⟨p, 0, none⟩ = some (.int .i64 x.id) := H2.out.cell 0 rfl
  have k2 : W2.cell? ⟨p, 2, none⟩ = some (.int .i64 x.el) := H2.out.cell 2 rfl
  have k4 : W2.cell? ⟨p, 4, none⟩ = some (.int .u64 x.term) := H2.out.cell 4 rfl
  have k8 : W2.cell? ⟨p, 8, none⟩ = some (.int .i64 s) := H2.out.cell 8 rfl
  have r1 : decide (x.term < 4611686018427387904) = true := by simp; omega
  have r2 : IntKind.u64.wrap x.el = x.el := IntWalk.u64_in _ (by omega)
  have r3 : Int.tmod draw x.el = draw % x.el := Int.tmod_eq_emod_of_nonneg hd
  have r4 : IntKind.i64.wrap (draw % x.el) = draw % x.el := IntWalk.i64_in _ (by omega)
  have r5 : IntKind.i64.wrap (x.el + draw % x.el) = x.el + draw % x.el := IntWalk.i64_in _ (by omega)
  have r7 : (x.el == 0) = false := by simp; omega
  have r8 : ¬ x.el = 0 := by omega
  clear d6 d8 f8 q0
  by_cases hw : x.el + draw % x.el ≤ s
  ·have r6 : decide (x.el + draw % x.el ≤ s) = true := by simpa using hw
   have HMB := hI (members_node W2.drew _ F p _ H2.out.drew.node (by show x.mem.length ≤ 1000; omega))
   by_cases hin : x.id ∈ x.memb
   ·have HD : Hid (decide (x.id ∈ x.memb) = true) := hI (by simpa using hin)
    go_region_held3 (fun w' => w'.cell? ⟨p, 0, none⟩ = some (.int .i64 x.id) ∧ w'.cell? ⟨p, 2, none⟩ = some (.int .i64 x.el) ∧ w'.cell? ⟨p, 4, none⟩ = some (.int .u64 x.term) ∧ w'.cell? ⟨p, 8, none⟩ = some (.int .i64 s)) (first | exact ⟨k0, k2, k4, k8⟩ | exact ⟨l0, l2, l4, l8⟩)
     (first
       | (go_at_call 31; refine HMB.out.mono ?_; rintro en w3 ⟨a, cap, rfl, hn3⟩; have H3 := hI (H2.out.drew.below hn3.bel); have l0 : w3.cell? ⟨p, 0, none⟩ = some (.int .i64 x.id) := H3.out.cell 0 rfl; have l2 : w3.cell? ⟨p, 2, none⟩ = some (.int .i64 x.el) := H3.out.cell 2 rfl; have l4 : w3.cell? ⟨p, 4, none⟩ = some (.int .u64 x.term) := H3.out.cell 4 rfl; have l8 : w3.cell? ⟨p, 8, none⟩ = some (.int .i64 s) := H3.out.cell 8 rfl; have hh := has_any w3 a _ cap x.memb hn3.sl x.id; rw [HD.out] at hh; have HH := hI hh; clear hn3 hh)
       | (go_at_call 30; refine HH.out.mono ?_; rintro en w4 ⟨rfl, rfl⟩))
    have HAS := hI (asks_node w3 _ F p _ H3.out.node H3.out.ml HL.out C0 g n X HG.out HN.out hn6 HXN.out htn)
    clear k0 k2 k4 k8 l0 l2 l4 l8 r1 r2 r3 r4 r5 r6 r7 r8
    go_wp2_with fail
    refine HAS.out.mono ?_
    rintro en w5 ⟨rfl, y, g2, Y, hn5, hA5⟩
    obtain ⟨G5, h5⟩ := H3.out.call hn5
    have H5 := hI h5.to
    have HA5 := hI (HA0.out.trans hA5)
    clear hn5 hA5 h5 HAS
    go_wp2_with fail
    refine bE rfl rfl ?_
    exact ⟨rfl, y, g2, Y, H5.out, HA5.out.mono nL (by omega)⟩
   ·have HD : Hid (decide (x.id ∈ x.memb) = false) := hI (by simpa using hin)
    go_region_held3 (fun w' => w'.cell? ⟨p, 0, none⟩ = some (.int .i64 x.id) ∧ w'.cell? ⟨p, 2, none⟩ = some (.int .i64 x.el) ∧ w'.cell? ⟨p, 4, none⟩ = some (.int .u64 x.term) ∧ w'.cell? ⟨p, 8, none⟩ = some (.int .i64 s)) (first | exact ⟨k0, k2, k4, k8⟩ | exact ⟨l0, l2, l4, l8⟩)
     (first
       | (go_at_call 31; refine HMB.out.mono ?_; rintro en w3 ⟨a, cap, rfl, hn3⟩; have H3 := hI (H2.out.drew.below hn3.bel); have l0 : w3.cell? ⟨p, 0, none⟩ = some (.int .i64 x.id) := H3.out.cell 0 rfl; have l2 : w3.cell? ⟨p, 2, none⟩ = some (.int .i64 x.el) := H3.out.cell 2 rfl; have l4 : w3.cell? ⟨p, 4, none⟩ = some (.int .u64 x.term) := H3.out.cell 4 rfl; have l8 : w3.cell? ⟨p, 8, none⟩ = some (.int .i64 s) := H3.out.cell 8 rfl; have hh := has_any w3 a _ cap x.memb hn3.sl x.id; rw [HD.out] at hh; have HH := hI hh; clear hn3 hh)
       | (go_at_call 30; refine HH.out.mono ?_; rintro en w4 ⟨rfl, rfl⟩))
    clear k0 k2 k4 k8 l0 l2 l4 l8 r1 r2 r3 r4 r5 r6 r7 r8
    go_wp2_with fail
    refine bE rfl rfl ?_
    exact ⟨rfl, _, g, X, H3.out.to, HA0.out.mono nL (by omega)⟩
  ·have r6 : decide (x.el + draw % x.el ≤ s) = false := by simpa using hw
   go_quiet (fail)
   go_wp2_with fail
   refine bE rfl rfl ?_
   exact ⟨rfl, _, g, X, (H2.out.drewN nq).to, HA0.out.mono nL (by omega)⟩
end Go.Proofs.YtdjooojpcepleaaGreat

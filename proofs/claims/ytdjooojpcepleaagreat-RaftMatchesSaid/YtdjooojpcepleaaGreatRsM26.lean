/- raft, any node: append: entries come. -/
import Derived.Test.YtdjooojpcepleaaGreatRsM25

namespace Go.Proofs.YtdjooojpcepleaaGreat
open Go.RowKit
open Go.«Sort» (grow)
def PutC (w : World) (t : Nat) (ix tm : Int) (es : List Ent) (i term : Int) (l : List Ent) (ch ec : Int) (w' : World) : Prop :=
 (ec ≠ 0 ∧ Below w.heap.size w w') ∨
 (ec = 0 ∧ ch = 0 ∧ termE ix tm es i = some term ∧ KnownP ix tm es l l.length ∧ Below w.heap.size w w') ∨
 (ec = 0 ∧ termE ix tm es i = some term ∧ ∃ m es' g, m < l.length ∧ KnownP ix tm es l m ∧ ch = i + m + 1 ∧ LogAt w' t (some g) ix tm es' ∧ w.heap.size ≤ g ∧
   es'.map Ent.pl = (es.take ((i - ix).toNat + m)).map Ent.pl ++ (l.drop m).map Ent.pl ∧ (i - ix).toNat + m ≤ es.length ∧ es'.length ≤ 1024 ∧ (∀ x ∈ es', x ∈ es ∨ ∀ k, x.v.ownBlock = some k → w.heap.size ≤ k) ∧ Keeps (fun k => k = t) w w')
theorem PutR.all {w w' : World} {t : Nat} {r : Option Nat} {ix tm : Int} {es : List Ent} {i term : Int} {l : List Ent} {e : Ending} (h : PutR w t r ix tm es i term l e w') :
  ∃ ch ec, e = .returned (.tuple #[.int .u64 ch, .int .i64 ec]) ∧ PutC w t ix tm es i term l ch ec w' ∧ Keeps (fun k => k = t) w w' := by
 rcases h with ⟨c, h1, h2, h3⟩ | ⟨h1, h2, h3, h4⟩ | ⟨h1, m, es', g, h2, h3, h4, h5, h6, h7, h8, h9, h10, h11⟩
 ·exact ⟨0, c, h1, .inl ⟨h2, h3⟩, Keeps.of_belowS h3⟩
 ·exact ⟨0, 0, h3, .inr (.inl ⟨rfl, rfl, h1, h2, h4⟩), Keeps.of_belowS h4⟩
 ·exact ⟨_, 0, h4, .inr (.inr ⟨rfl, h1, m, es', g, h2, h3, rfl, h5, h6, h8, h9, h10, h11, h7⟩), h7⟩
theorem folB_same (x : NodeS) (l : Int) : x.folB x.term l = { x with role := 0, lead := l, pv := .pointer none, pl := none, tv := .pointer none, tr := none } := by unfold NodeS.folB; rw [if_neg (Int.lt_irrefl _)]
theorem OkN.calm0 {C0 : List Int} {g : Gh En} {n : Nat} {x : NodeS} {X : List En} (h : OkN C0 g n x X) (l : Int) : OkN C0 g n { x with role := 0, lead := l, pv := .pointer none, pl := none, tv := .pointer none, tr := none, since := 0 } X :=
 ⟨h.ni.calm 0 (by decide) (by decide) none [], h.i7, h.t0, h.tn, h.c0, h.len, h.memb, h.v0, h.v7, fun e => by simp at e, h.el⟩
theorem ackc_law {C0 : List Int} {g : Gh En} {n : Nat} {x : NodeS} {X : List En} (hg : OkG C0 g n) (h : OkN C0 g n x X) (hr2 : x.role ≠ 2) (hr3 : x.role ≠ 3) (he : g.el x.term.toNat ≠ none) :
  ∃ g', Acts C0 g n 0 x g' x X ∧ g'.A x.id x.term.toNat x.commit.toNat := by
 obtain ⟨g', w1, w2, w3, w4⟩ := h.ni.ackc hg.gi hr2 hr3 he
 exact ⟨g', ⟨w1, ⟨w2, hg.c0⟩, ⟨w3, h.i7, h.t0, h.tn, h.c0, h.len, h.memb, h.v0, h.v7, h.nx, h.el⟩, ⟨[], by simp, (fun q hq => by cases hq), Nat.le_refl _⟩, Stay.refl x⟩, w4⟩
set_option maxRecDepth 100000 in
set_option maxHeartbeats 16000000 in
theorem append_node (w : World) (M F : Nat → Prop) (p : Nat) (x : NodeS) (h : NodeAt w M F p x) (hM : ∀ k, M k → k < w.heap.size) (hl : x.out.length ≤ 800000) (C0 : List Int) (g : Gh En) (n : Nat) (X : List En) (hg : OkG C0 g n) (hN : OkN C0 g n x X) (hn6 : n ≤ 1000) (hXn : X.length + 1 ≤ n) (m : Msg) (hm : MsgOk w M m) (hmo : OkM C0 g n m) (hk : m.kind = 4) (hmt : m.term = x.term) :
  Calls Tryz.prog 41 #[.pointer (some ⟨p, 0, none⟩), m.agg] w (TickR C0 g n w M F p x) := by
 have HMSG := hI hm
 have HMO := hI hmo
 have HKK := hI hk
 have HMTT := hI hmt
 have x0 := hmo.x0
 have xn := hmo.xn
 have l0' := hmo.l0
 have ln' := hmo.ln
 have mc0 := hmo.c0
 have mel := hmo.el
 have HEL := hI (hmo.mi.app hk).1
 have t0 := hmo.t0
 have f1 := hmo.f1
 have f7 := hmo.f7
 have hR0 := Rn.start h hM
 obtain ⟨_, _, ea, ec, hev, _⟩ := hm.ents
 obtain ⟨ma, mc, hmv, _⟩ := hm.mem
 obtain ⟨d, hd, _⟩ := hm.data
 obtain ⟨da, dc, hdv, _⟩ := hd
 obtain ⟨mk, from_, to_, term, mi, logTerm, commit, my, ev, mv, dv, es, mem⟩ := m
 simp only at hev hmv hdv
 subst hev hmv hdv
 have hpl := h.plt
 obtain ⟨Wm, hX⟩ : ∃ Wm, Wm = w.alloc (.cells #[.int .i64 mk, .int .i64 from_, .int .i64 to_, .int .u64 term, .int .u64 mi, .int .u64 logTerm, .int .u64 commit, .bool my, .slice ea es.length ec, .slice ma mem.length mc, .slice da d.length dc] 54) := ⟨_, rfl⟩
 have hbX : Below w.heap.size w Wm := by rw [hX]; exact bR.alloc nL _
 have HXX : Hid (Wm.heap[w.heap.size]? = some (.cells #[.int .i64 mk, .int .i64 from_, .int .i64 to_, .int .u64 term, .int .u64 mi, .int .u64 logTerm, .int .u64 commit, .bool my, .slice ea es.length ec, .slice ma mem.length mc, .slice da d.length dc] 54 (0, 0))) := hI (by rw [hX]; exact bW w _)
 have HRX := hI (hR0.below hbX)
 have HBX := hI hbX
 have HN := hI hN
 have HG := hI hg
 have HL := hI hl
 have HXN := hI hXn
 have ht0 := hN.t0
 have htn0 := hN.tn
 obtain ⟨pq, hpq⟩ := hR0.pvp
 have HPQ := hI hpq
 simp only at *
 have hfx : ¬ F w.heap.size := fun e => absurd (hR0.glt _ e) (Nat.lt_irrefl _)
 have HGB := hI hfx
 have HR0 := hI hR0
 have HMLT := hI hM
 have hc0 := hN.c0
 clear h hM hl hg hN hm hmo hR0 hbX hXn hpq hfx hk hmt
 unfold Msg.agg
 go_enter Tryz.func41, Tryz.ntmps41
 go_wp2_with fail
 rw [← hX]
 clear hX
 have c1 : Wm.cell? ⟨w.heap.size, 1, none⟩ = some (.int .i64 from_) := bC HXX.out 1 rfl
 have n4 : Wm.cell? ⟨p, 4, none⟩ = some (.int .u64 x.term) := HRX.out.cell 4 rfl
 have hfo := follow_node Wm.drew _ F p _ HRX.out.drew.node HRX.out.drew.ml x.term from_
 rw [folB_same] at hfo
 have HFO := hI hfo
 clear hfo
 go_region_held3 (fun w' => w'.cell? ⟨w.heap.size, 1, none⟩ = some (.int .i64 from_) ∧ w'.cell? ⟨p, 4, none⟩ = some (.int .u64 x.term)) (first | exact ⟨c1, n4⟩ | exact ⟨kc1, kn4⟩)
  (first | (go_at_call 37; refine HFO.out.mono ?_; rintro en w1 ⟨rfl, hn1⟩; obtain ⟨G1, h1, hk1, _, hG1⟩ := HRX.out.drew.callK hn1; have H1 := hI h1; have HX1 := hI (hk1.heap HGB.out (show Wm.drew.heap[w.heap.size]? = _ from HXX.out)); have HG1 : Hid (¬ G1 w.heap.size) := hI (fun e => (hG1 _ e).elim HGB.out fun e => Nat.lt_irrefl _ (Nat.lt_of_lt_of_le (heap_lt HXX.out) e)); have kc1 : w1.cell? ⟨w.heap.size, 1, none⟩ = some (.int .i64 from_) := bC HX1.out 1 rfl; have kn4 : w1.cell? ⟨p, 4, none⟩ = some (.int .u64 x.term) := H1.out.cell 4 rfl; clear hn1 h1 hk1 hG1))
 have d8 : w1.cell? ⟨p, 8, none⟩ = some (.int .i64 x.since) := H1.out.cell 8 rfl
 have f8 := H1.out.free 8
 have hpw : w.heap.size ≠ p := by omega
 have H2 := hI (H1.out.set { x with role := 0, lead := from_, pv := .pointer none, pl := none, tv := .pointer none, tr := none, since := 0 } 8 (.int .i64 0) rfl rS)
 have HX2 := hI (bO HX1.out (a := ⟨p, 8, none⟩) hpw (.int .i64 0))
 have HN2 := hI (HN.out.calm0 from_)
 have HA2 : Hid (Acts C0 g n 0 x g { x with role := 0, lead := from_, pv := .pointer none, pl := none, tv := .pointer none, tr := none, since := 0 } X) := hI (Acts.own HG.out HN2.out rfl ⟨rfl, rfl, rfl, rfl⟩)
 clear c1 n4 kc1 kn4
 go_wp2_with fail
 generalize w1.setCell ⟨p, 8, none⟩ (.int .i64 0) = w2 at *
 clear d8 f8
 have c4 : w2.cell? ⟨w.heap.size, 4, none⟩ = some (.int .u64 mi) := bC HX2.out 4 rfl
 have n14 : w2.cell? ⟨p, 14, none⟩ = some (.int .u64 x.commit) := H2.out.cell 14 rfl
 by_cases hci : mi < x.commit
 ·have q1 : decide (mi < x.commit) = true := by simpa using hci
  obtain ⟨g1, hA1, hac⟩ := ackc_law HG.out HN2.out (by show (0 : Int) ≠ 2; decide) (by show (0 : Int) ≠ 3; decide) (by have := HEL.out; simp only [Msg.ms] at this; rw [HMTT.out] at this; exact this)
  have HA1 := hI (HA2.out.trans hA1)
  have HAC := hI hac
  clear hA1 hac
  go_quiet (fail)
  have H3 := hI (H2.out.drewN nq)
  have HX3 : Hid ((w2.drewN nq).heap[w.heap.size]? = _) := hI HX2.out
  generalize w2.drewN nq = w3 at *
  clear c4 n14
  go_wp2_with fail
  obtain ⟨c0, c1, c2, c3, c4, c5, c6, c7, c8, c9, c10⟩ := b11 HX3.out
  have n14 : w3.cell? ⟨p, 14, none⟩ = some (.int .u64 x.commit) := H3.out.cell 14 rfl
  have H3d := hI H3.out.drew
  have hms : MsgOk w3.drew _ _ := HMSG.out.mv_ H3d.out.mv
  have hte := tell_node w3.drew _ _ p _ H3d.out.node H3d.out.ml _ hms (by have := HL.out; show x.out.length ≤ 1000000; omega) 5 true x.commit
  unfold Msg.agg at hte
  have HTL := hI hte
  clear hms hte
  go_region_held3 (fun w' => w'.cell? ⟨w.heap.size, 0, none⟩ = some (.int .i64 mk) ∧ w'.cell? ⟨w.heap.size, 1, none⟩ = some (.int .i64 from_) ∧ w'.cell? ⟨w.heap.size, 2, none⟩ = some (.int .i64 to_) ∧ w'.cell? ⟨w.heap.size, 3, none⟩ = some (.int .u64 term) ∧ w'.cell? ⟨w.heap.size, 4, none⟩ = some (.int .u64 mi) ∧ w'.cell? ⟨w.heap.size, 5, none⟩ = some (.int .u64 logTerm) ∧ w'.cell? ⟨w.heap.size, 6, none⟩ = some (.int .u64 commit) ∧ w'.cell? ⟨w.heap.size, 7, none⟩ = some (.bool my) ∧ w'.cell? ⟨w.heap.size, 8, none⟩ = some (.slice ea es.length ec) ∧ w'.cell? ⟨w.heap.size, 9, none⟩ = some (.slice ma mem.length mc) ∧ w'.cell? ⟨w.heap.size, 10, none⟩ = some (.slice da d.length dc) ∧ w'.cell? ⟨p, 14, none⟩ = some (.int .u64 x.commit)) (first | exact ⟨c0, c1, c2, c3, c4, c5, c6, c7, c8, c9, c10, n14⟩ | exact ⟨kc0, kc1, kc2, kc3, kc4, kc5, kc6, kc7, kc8, kc9, kc10, kn14⟩)
   (first | (go_at_call 38; refine HTL.out.mono ?_; rintro en w5 ⟨rfl, v5, hn5⟩; obtain ⟨G5, h5, hk5, _, _⟩ := H3d.out.callK hn5; have H5 := hI h5; have HX5 := hI (hk5.heap HG1.out (show w3.drew.heap[w.heap.size]? = _ from HX3.out)); have kc0 : w5.cell? ⟨w.heap.size, 0, none⟩ = some (.int .i64 mk) := bC HX5.out 0 rfl; have kc1 : w5.cell? ⟨w.heap.size, 1, none⟩ = some (.int .i64 from_) := bC HX5.out 1 rfl; have kc2 : w5.cell? ⟨w.heap.size, 2, none⟩ = some (.int .i64 to_) := bC HX5.out 2 rfl; have kc3 : w5.cell? ⟨w.heap.size, 3, none⟩ = some (.int .u64 term) := bC HX5.out 3 rfl; have kc4 : w5.cell? ⟨w.heap.size, 4, none⟩ = some (.int .u64 mi) := bC HX5.out 4 rfl; have kc5 : w5.cell? ⟨w.heap.size, 5, none⟩ = some (.int .u64 logTerm) := bC HX5.out 5 rfl; have kc6 : w5.cell? ⟨w.heap.size, 6, none⟩ = some (.int .u64 commit) := bC HX5.out 6 rfl; have kc7 : w5.cell? ⟨w.heap.size, 7, none⟩ = some (.bool my) := bC HX5.out 7 rfl; have kc8 : w5.cell? ⟨w.heap.size, 8, none⟩ = some (.slice ea es.length ec) := bC HX5.out 8 rfl; have kc9 : w5.cell? ⟨w.heap.size, 9, none⟩ = some (.slice ma mem.length mc) := bC HX5.out 9 rfl; have kc10 : w5.cell? ⟨w.heap.size, 10, none⟩ = some (.slice da d.length dc) := bC HX5.out 10 rfl; have kn14 : w5.cell? ⟨p, 14, none⟩ = some (.int .u64 x.commit) := H5.out.cell 14 rfl; clear hn5 h5 hk5))
  clear c0 c1 c2 c3 c4 c5 c6 c7 c8 c9 c10 n14 kc0 kc1 kc2 kc3 kc4 kc5 kc6 kc7 kc8 kc9 kc10 kn14
  go_wp2_with fail
  first
   | refine bT rfl rfl ?_
   | refine bE rfl rfl ?_
  exact ⟨rfl, _, g1, X, H5.out.to, (HA1.out.trans (j := 1) ⟨Grow.refl _ _, HA1.out.gok, HA1.out.nok.outs 0 v5 _, ⟨_, rfl, fun q hq => (by obtain rfl := List.mem_singleton.1 hq; exact HA1.out.nok.tells (.inr (.inr ⟨.inl rfl, fun _ => HAC.out⟩)) (by show 0 ≤ x.term; omega) (by show x.term ≤ (n : Int) + 1; omega) f1 f7 hc0 (by have := HN.out.nums HR0.out.ok.1; have := this.cle; have := HN.out.len; omega)), by simp⟩, ⟨rfl, rfl, rfl, rfl⟩⟩).mono nL (by omega)⟩
 ·have q1 : decide (mi < x.commit) = false := by simpa using hci
  go_quiet (fail)
  have H3 := hI (H2.out.drewN nq)
  have HX3 : Hid ((w2.drewN nq).heap[w.heap.size]? = _) := hI HX2.out
  generalize w2.drewN nq = w3 at *
  clear c4 n14
  go_wp2_with fail
  obtain ⟨-, -, -, -, c4, c5, -, -, c8, -, -⟩ := b11 HX3.out
  have n9 : w3.cell? ⟨p, 9, none⟩ = some (.pointer (some ⟨x.lg, 0, none⟩)) := H3.out.cell 9 rfl
  have H3d := hI H3.out.drew
  have hms := HMSG.out.mv_ H3d.out.mv
  have hpt : Calls Tryz.prog 49 #[.pointer (some ⟨x.lg, 0, none⟩), .int .u64 mi, .int .u64 logTerm, .slice ea es.length ec] w3.drew (PutR w3.drew x.lg x.r x.ix x.tm x.es mi logTerm es) := by
   obtain ⟨S3, hn3⟩ := H3d.out.node
   exact lput_any w3.drew x.lg x.r x.ix x.tm x.es hn3.log hn3.ok hn3.len _ (hn3.fm _ (hn3.sub 0 _ (by omega) hn3.slg)) ea _ ec es hms.ents mi logTerm HMO.out.fol x0 (by omega) ⟨l0', by omega⟩ (by omega)
  have HPT := hI hpt
  have hlgp : p ≠ x.lg ∧ w.heap.size ≠ x.lg := by
   obtain ⟨S3, hn3⟩ := H3d.out.node
   exact ⟨fun e => hn3.sp 0 (by omega) (e ▸ hn3.slg), fun e => HG1.out (e ▸ hn3.sub 0 _ (by omega) hn3.slg)⟩
  have HLG := hI hlgp
  clear hms hpt hlgp
  go_region_held3 (fun w' => w'.cell? ⟨w.heap.size, 4, none⟩ = some (.int .u64 mi) ∧ w'.cell? ⟨w.heap.size, 5, none⟩ = some (.int .u64 logTerm) ∧ w'.cell? ⟨w.heap.size, 8, none⟩ = some (.slice ea es.length ec) ∧ w'.cell? ⟨p, 9, none⟩ = some (.pointer (some ⟨x.lg, 0, none⟩))) (first | exact ⟨c4, c5, c8, n9⟩ | exact ⟨kc4, kc5, kc8, kn9⟩)
   (first | (go_at_call 49; refine HPT.out.mono ?_; rintro en w4 hpr; obtain ⟨ch, er, rfl, hpc, hkp⟩ := hpr.all; have HPC := hI hpc; have HX4 := hI (hkp.heap HLG.out.2 (show w3.drew.heap[w.heap.size]? = _ from HX3.out)); have HP4 := hI (hkp.heap HLG.out.1 (show w3.drew.heap[p]? = _ from H3d.out.node.box)); have kc4 : w4.cell? ⟨w.heap.size, 4, none⟩ = some (.int .u64 mi) := bC HX4.out 4 rfl; have kc5 : w4.cell? ⟨w.heap.size, 5, none⟩ = some (.int .u64 logTerm) := bC HX4.out 5 rfl; have kc8 : w4.cell? ⟨w.heap.size, 8, none⟩ = some (.slice ea es.length ec) := bC HX4.out 8 rfl; have kn9 : w4.cell? ⟨p, 9, none⟩ = some (.pointer (some ⟨x.lg, 0, none⟩)) := bC HP4.out 9 rfl; clear hpr hpc hkp))
  clear c4 c5 c8 n9 kc4 kc5 kc8 kn9 HPT
  rcases HPC.out with ⟨he0, hb4⟩ | ⟨rfl, rfl, hte, hkn, hb4⟩ | ⟨rfl, hte, k, es', gg, hkl, hkn, rfl, hlog, hgg, hpl', hkpl, hlen', hnew, hkp⟩
  ·have q2 : (er != 0) = true := by simpa using he0
   have H4 := hI (H3d.out.below hb4)
   have HLS := hI (last_any w4 x.lg x.r x.ix x.tm x.es H4.out.ok.2.1 H4.out.ok.1)
   have hli0 : 0 ≤ x.ix + (x.es.length : Int) ∧ x.ix + (x.es.length : Int) ≤ n := by
    have h1 := (HN.out.nums HR0.out.ok.1).last
    have h2 := HN.out.len
    have h3 := HR0.out.ok.1.lo
    omega
   generalize x.ix + (x.es.length : Int) = li at *
   generalize lT x.tm x.es = lt at *
   have m9 : w4.cell? ⟨p, 9, none⟩ = some (.pointer (some ⟨x.lg, 0, none⟩)) := H4.out.cell 9 rfl
   have HPC := 0
   clear HPC hb4 he0
   go_wp2_with fail
   refine HLS.out.mono ?_
   rintro en w5 ⟨rfl, hb5⟩
   have H5 := hI (H4.out.below hb5)
   have HX5 := hI (bH hb5 HX4.out (heap_lt HX4.out))
   obtain ⟨c0, c1, c2, c3, c4, c5, c6, c7, c8, c9, c10⟩ := b11 HX5.out
   clear hb5 m9 HLS
   have hms := HMSG.out.mv_ H5.out.mv
   have HTL : Hid (∀ v : Int, Calls Tryz.prog 38 #[.pointer (some ⟨p, 0, none⟩), .int .i64 5, .agg #[.int .i64 mk, .int .i64 from_, .int .i64 to_, .int .u64 term, .int .u64 mi, .int .u64 logTerm, .int .u64 commit, .bool my, .slice ea es.length ec, .slice ma mem.length mc, .slice da d.length dc], .bool false, .int .u64 v] w5 (SentTo w5 _ _ p _ (Msg.bare 5 from_ x.term v 0 0 false))) := hI fun v => tell_node w5 _ _ p _ H5.out.node H5.out.ml _ hms (by have := HL.out; show x.out.length ≤ 1000000; omega) 5 false v
   clear hms
   by_cases h1 : 1 < mi
   ·have e1 : IntKind.u64.wrap (mi - 1) = mi - 1 := IntWalk.u64_in _ (by omega)
    by_cases h2 : mi - 1 < li
    ·skip
     have hx := HTL.out (mi - 1)
     clear HTL
     go_wp2_with fail
     refine hx.mono ?_
     rintro en w6 ⟨rfl, v6, hn6'⟩
     obtain ⟨G6, h6⟩ := H5.out.call hn6'
     have H6 := hI h6.to
     clear hn6' h6 hx
     go_wp2_with fail
     first
      | refine bT rfl rfl ?_
      | refine bE rfl rfl ?_
     exact ⟨rfl, _, g, X, H6.out, (HA2.out.trans (j := 1) ⟨Grow.refl _ _, HG.out, HN2.out.outs 0 v6 _, ⟨_, rfl, fun q hq => (by obtain rfl := List.mem_singleton.1 hq; exact HN2.out.tells (.inr (.inr ⟨.inl rfl, fun e => by cases e⟩)) (by show 0 ≤ x.term; omega) (by show x.term ≤ (n : Int) + 1; omega) f1 f7 (by omega) (by omega)), by simp⟩, ⟨rfl, rfl, rfl, rfl⟩⟩).mono nL (by omega)⟩
    ·skip
     have hx := HTL.out li
     clear HTL
     go_wp2_with fail
     refine hx.mono ?_
     rintro en w6 ⟨rfl, v6, hn6'⟩
     obtain ⟨G6, h6⟩ := H5.out.call hn6'
     have H6 := hI h6.to
     clear hn6' h6 hx
     go_wp2_with fail
     first
      | refine bT rfl rfl ?_
      | refine bE rfl rfl ?_
     exact ⟨rfl, _, g, X, H6.out, (HA2.out.trans (j := 1) ⟨Grow.refl _ _, HG.out, HN2.out.outs 0 v6 _, ⟨_, rfl, fun q hq => (by obtain rfl := List.mem_singleton.1 hq; exact HN2.out.tells (.inr (.inr ⟨.inl rfl, fun e => by cases e⟩)) (by show 0 ≤ x.term; omega) (by show x.term ≤ (n : Int) + 1; omega) f1 f7 (by omega) (by omega)), by simp⟩, ⟨rfl, rfl, rfl, rfl⟩⟩).mono nL (by omega)⟩
   ·have e1 : IntKind.u64.wrap (mi - mi) = 0 := by rw [Int.sub_self]; exact IntWalk.u64_in _ (by omega)
    have e2 : IntKind.u64.wrap 0 = 0 := IntWalk.u64_in _ (by omega)
    by_cases h2 : 0 < li
    ·skip
     have hx := HTL.out 0
     clear HTL
     go_wp2_with fail
     refine hx.mono ?_
     rintro en w6 ⟨rfl, v6, hn6'⟩
     obtain ⟨G6, h6⟩ := H5.out.call hn6'
     have H6 := hI h6.to
     clear hn6' h6 hx
     go_wp2_with fail
     first
      | refine bT rfl rfl ?_
      | refine bE rfl rfl ?_
     exact ⟨rfl, _, g, X, H6.out, (HA2.out.trans (j := 1) ⟨Grow.refl _ _, HG.out, HN2.out.outs 0 v6 _, ⟨_, rfl, fun q hq => (by obtain rfl := List.mem_singleton.1 hq; exact HN2.out.tells (.inr (.inr ⟨.inl rfl, fun e => by cases e⟩)) (by show 0 ≤ x.term; omega) (by show x.term ≤ (n : Int) + 1; omega) f1 f7 (by omega) (by omega)), by simp⟩, ⟨rfl, rfl, rfl, rfl⟩⟩).mono nL (by omega)⟩
    ·skip
     have hx := HTL.out li
     clear HTL
     go_wp2_with fail
     refine hx.mono ?_
     rintro en w6 ⟨rfl, v6, hn6'⟩
     obtain ⟨G6, h6⟩ := H5.out.call hn6'
     have H6 := hI h6.to
     clear hn6' h6 hx
     go_wp2_with fail
     first
      | refine bT rfl rfl ?_
      | refine bE rfl rfl ?_
     exact ⟨rfl, _, g, X, H6.out, (HA2.out.trans (j := 1) ⟨Grow.refl _ _, HG.out, HN2.out.outs 0 v6 _, ⟨_, rfl, fun q hq => (by obtain rfl := List.mem_singleton.1 hq; exact HN2.out.tells (.inr (.inr ⟨.inl rfl, fun e => by cases e⟩)) (by show 0 ≤ x.term; omega) (by show x.term ≤ (n : Int) + 1; omega) f1 f7 (by omega) (by omega)), by simp⟩, ⟨rfl, rfl, rfl, rfl⟩⟩).mono nL (by omega)⟩
  ·have H4 := hI (H3d.out.below hb4)
   obtain ⟨g1, Y, hA1, hac⟩ := put_law HG.out HN2.out HR0.out.ok.1 HMO.out HKK.out HMTT.out (by show (0 : Int) ≠ 2; decide) (by show (0 : Int) ≠ 3; decide) (by show x.commit ≤ mi; omega) hte hkn (r' := x.r) (es' := x.es) (.inl ⟨rfl, rfl⟩) 0 x.stable
   have HA1 := hI (HA2.out.trans hA1)
   have HAC := hI hac
   clear hA1 hac hb4 hte hkn
   have e3 : IntKind.u64.wrap (mi + (es.length : Int)) = mi + (es.length : Int) := IntWalk.u64_in _ (by omega)
   have e4 : IntKind.u64.wrap (es.length : Int) = (es.length : Int) := IntWalk.u64_in _ (by omega)
   have m14 : w4.cell? ⟨p, 14, none⟩ = some (.int .u64 x.commit) := H4.out.cell 14 rfl
   have fr14 := H4.out.free 14
   obtain ⟨-, -, -, -, mc4, -, mc6, -, mc8, -, -⟩ := b11 HX4.out
   have hp4 : p < w4.heap.size := H4.out.plt
   have hx4 : w.heap.size < w4.heap.size := heap_lt HX4.out
   go_wp2_with fail
   clear mc4 mc8 e4
   by_cases h1 : mi + (es.length : Int) < commit
   ·by_cases h2 : x.commit < mi + (es.length : Int)
    ·skip
     have hv : max x.commit (min commit (mi + (es.length : Int))) = mi + (es.length : Int) := by omega
     have HV := hI hv
     clear hv
     go_region
     have H7 := hI ((H4.out.set { x with role := 0, lead := from_, pv := .pointer none, pl := none, tv := .pointer none, tr := none, since := 0, commit := mi + (es.length : Int) } 14 (.int .u64 (mi + (es.length : Int))) rfl rS).drew)
     have HX7 : Hid (((w4.setCell ⟨p, 14, none⟩ (.int .u64 (mi + (es.length : Int)))).drew).heap[w.heap.size]? = _) := hI (bO HX4.out (a := ⟨p, 14, none⟩) hpw (.int .u64 (mi + (es.length : Int))))
     generalize (w4.setCell ⟨p, 14, none⟩ (.int .u64 (mi + (es.length : Int)))).drew = w7 at *
     obtain ⟨c0, c1, c2, c3, c4, c5, c6, c7, c8, c9, c10⟩ := b11 HX7.out
     have hms := HMSG.out.mv_ H7.out.mv
     have hte := tell_node w7 _ _ p _ H7.out.node H7.out.ml _ hms (by have := HL.out; show x.out.length ≤ 1000000; omega) 5 true (mi + (es.length : Int))
     unfold Msg.agg at hte
     have HTL := hI hte
     clear hms hte m14 mc6 fr14
     go_wp2_with fail
     refine HTL.out.mono ?_
     rintro en w8 ⟨rfl, v8, hn8⟩
     obtain ⟨G8, h8⟩ := H7.out.call hn8
     have H8 := hI h8.to
     clear hn8 h8 HTL
     go_wp2_with fail
     refine bE rfl rfl ?_
     have hA1 := HA1.out
     rw [HV.out] at hA1
     exact ⟨rfl, _, g1, Y, H8.out, (hA1.trans (j := 1) ⟨Grow.refl _ _, hA1.gok, hA1.nok.outs 0 v8 _, ⟨_, rfl, fun q hq => (by obtain rfl := List.mem_singleton.1 hq; exact hA1.nok.tells (.inr (.inr ⟨.inl rfl, fun _ => HAC.out⟩)) (by show 0 ≤ x.term; omega) (by show x.term ≤ (n : Int) + 1; omega) f1 f7 (by omega) (by omega)), by simp⟩, ⟨rfl, rfl, rfl, rfl⟩⟩).mono nL (by omega)⟩
    ·skip
     have hv : max x.commit (min commit (mi + (es.length : Int))) = x.commit := by omega
     have HV := hI hv
     clear hv
     go_region
     have H7 := hI ((H4.out.set { x with role := 0, lead := from_, pv := .pointer none, pl := none, tv := .pointer none, tr := none, since := 0, commit := x.commit } 14 (.int .u64 (x.commit)) rfl rS).drew)
     have HX7 : Hid (((w4.setCell ⟨p, 14, none⟩ (.int .u64 (x.commit))).drew).heap[w.heap.size]? = _) := hI (bO HX4.out (a := ⟨p, 14, none⟩) hpw (.int .u64 (x.commit)))
     generalize (w4.setCell ⟨p, 14, none⟩ (.int .u64 (x.commit))).drew = w7 at *
     obtain ⟨c0, c1, c2, c3, c4, c5, c6, c7, c8, c9, c10⟩ := b11 HX7.out
     have hms := HMSG.out.mv_ H7.out.mv
     have hte := tell_node w7 _ _ p _ H7.out.node H7.out.ml _ hms (by have := HL.out; show x.out.length ≤ 1000000; omega) 5 true (mi + (es.length : Int))
     unfold Msg.agg at hte
     have HTL := hI hte
     clear hms hte m14 mc6 fr14
     go_wp2_with fail
     refine HTL.out.mono ?_
     rintro en w8 ⟨rfl, v8, hn8⟩
     obtain ⟨G8, h8⟩ := H7.out.call hn8
     have H8 := hI h8.to
     clear hn8 h8 HTL
     go_wp2_with fail
     refine bE rfl rfl ?_
     have hA1 := HA1.out
     rw [HV.out] at hA1
     exact ⟨rfl, _, g1, Y, H8.out, (hA1.trans (j := 1) ⟨Grow.refl _ _, hA1.gok, hA1.nok.outs 0 v8 _, ⟨_, rfl, fun q hq => (by obtain rfl := List.mem_singleton.1 hq; exact hA1.nok.tells (.inr (.inr ⟨.inl rfl, fun _ => HAC.out⟩)) (by show 0 ≤ x.term; omega) (by show x.term ≤ (n : Int) + 1; omega) f1 f7 (by omega) (by omega)), by simp⟩, ⟨rfl, rfl, rfl, rfl⟩⟩).mono nL (by omega)⟩
   ·by_cases h2 : x.commit < commit
    ·skip
     have hv : max x.commit (min commit (mi + (es.length : Int))) = commit := by omega
     have HV := hI hv
     clear hv
     go_region
     have H7 := hI ((H4.out.set { x with role := 0, lead := from_, pv := .pointer none, pl := none, tv := .pointer none, tr := none, since := 0, commit := commit } 14 (.int .u64 (commit)) rfl rS).drew)
     have HX7 : Hid (((w4.setCell ⟨p, 14, none⟩ (.int .u64 (commit))).drew).heap[w.heap.size]? = _) := hI (bO HX4.out (a := ⟨p, 14, none⟩) hpw (.int .u64 (commit)))
     generalize (w4.setCell ⟨p, 14, none⟩ (.int .u64 (commit))).drew = w7 at *
     obtain ⟨c0, c1, c2, c3, c4, c5, c6, c7, c8, c9, c10⟩ := b11 HX7.out
     have hms := HMSG.out.mv_ H7.out.mv
     have hte := tell_node w7 _ _ p _ H7.out.node H7.out.ml _ hms (by have := HL.out; show x.out.length ≤ 1000000; omega) 5 true (mi + (es.length : Int))
     unfold Msg.agg at hte
     have HTL := hI hte
     clear hms hte m14 mc6 fr14
     go_wp2_with fail
     refine HTL.out.mono ?_
     rintro en w8 ⟨rfl, v8, hn8⟩
     obtain ⟨G8, h8⟩ := H7.out.call hn8
     have H8 := hI h8.to
     clear hn8 h8 HTL
     go_wp2_with fail
     refine bE rfl rfl ?_
     have hA1 := HA1.out
     rw [HV.out] at hA1
     exact ⟨rfl, _, g1, Y, H8.out, (hA1.trans (j := 1) ⟨Grow.refl _ _, hA1.gok, hA1.nok.outs 0 v8 _, ⟨_, rfl, fun q hq => (by obtain rfl := List.mem_singleton.1 hq; exact hA1.nok.tells (.inr (.inr ⟨.inl rfl, fun _ => HAC.out⟩)) (by show 0 ≤ x.term; omega) (by show x.term ≤ (n : Int) + 1; omega) f1 f7 (by omega) (by omega)), by simp⟩, ⟨rfl, rfl, rfl, rfl⟩⟩).mono nL (by omega)⟩
    ·skip
     have hv : max x.commit (min commit (mi + (es.length : Int))) = x.commit := by omega
     have HV := hI hv
     clear hv
     go_region
     have H7 := hI ((H4.out.set { x with role := 0, lead := from_, pv := .pointer none, pl := none, tv := .pointer none, tr := none, since := 0, commit := x.commit } 14 (.int .u64 (x.commit)) rfl rS).drew)
     have HX7 : Hid (((w4.setCell ⟨p, 14, none⟩ (.int .u64 (x.commit))).drew).heap[w.heap.size]? = _) := hI (bO HX4.out (a := ⟨p, 14, none⟩) hpw (.int .u64 (x.commit)))
     generalize (w4.setCell ⟨p, 14, none⟩ (.int .u64 (x.commit))).drew = w7 at *
     obtain ⟨c0, c1, c2, c3, c4, c5, c6, c7, c8, c9, c10⟩ := b11 HX7.out
     have hms := HMSG.out.mv_ H7.out.mv
     have hte := tell_node w7 _ _ p _ H7.out.node H7.out.ml _ hms (by have := HL.out; show x.out.length ≤ 1000000; omega) 5 true (mi + (es.length : Int))
     unfold Msg.agg at hte
     have HTL := hI hte
     clear hms hte m14 mc6 fr14
     go_wp2_with fail
     refine HTL.out.mono ?_
     rintro en w8 ⟨rfl, v8, hn8⟩
     obtain ⟨G8, h8⟩ := H7.out.call hn8
     have H8 := hI h8.to
     clear hn8 h8 HTL
     go_wp2_with fail
     refine bE rfl rfl ?_
     have hA1 := HA1.out
     rw [HV.out] at hA1
     exact ⟨rfl, _, g1, Y, H8.out, (hA1.trans (j := 1) ⟨Grow.refl _ _, hA1.gok, hA1.nok.outs 0 v8 _, ⟨_, rfl, fun q hq => (by obtain rfl := List.mem_singleton.1 hq; exact hA1.nok.tells (.inr (.inr ⟨.inl rfl, fun _ => HAC.out⟩)) (by show 0 ≤ x.term; omega) (by show x.term ≤ (n : Int) + 1; omega) f1 f7 (by omega) (by omega)), by simp⟩, ⟨rfl, rfl, rfl, rfl⟩⟩).mono nL (by omega)⟩
  ·have hige := (termE_le hte).1
   have hkk : mi + (k : Int) = x.ix + (((mi - x.ix).toNat + k : Nat) : Int) := by omega
   obtain ⟨pok, pdl⟩ := put_ok HR0.out.ok.1 HR0.out.ok.2.2 HMO.out.fol l0' hpl' hkpl hkk hlen' (by omega)
   obtain ⟨G4, h4⟩ := H3d.out.relog hlog (hkp.mono fun q _ hq => .inl hq) (fun q hq => by cases hq; exact .inr hgg) hnew pok pdl hlen'
   have H4 := hI h4
   have HTE := hI hte
   have HKN := hI hkn
   have HPL := hI hpl'
   have e5 : IntKind.u64.wrap (mi + (k : Int) + 1 - 1) = mi + k := by rw [show mi + (k : Int) + 1 - 1 = mi + k by omega]; exact IntWalk.u64_in _ (by omega)
   have e6 : IntKind.u64.wrap (mi + (k : Int)) = mi + k := IntWalk.u64_in _ (by omega)
   have q5 : decide (0 < mi + (k : Int) + 1) = true := by simp; omega
   have q6 : (0 : Int) < mi + (k : Int) + 1 := by omega
   clear hige hkk pok pdl h4 hte hkn hpl' hlog hnew hkp hgg hkpl hlen'
   by_cases h0 : mi + (k : Int) < x.stable
   ·skip
    have m20 : w4.cell? ⟨p, 20, none⟩ = some (.int .u64 x.stable) := H4.out.cell 20 rfl
    have f20 := H4.out.free 20
    obtain ⟨g1, Y, hA1, hac⟩ := put_law HG.out HN2.out HR0.out.ok.1 HMO.out HKK.out HMTT.out (by show (0 : Int) ≠ 2; decide) (by show (0 : Int) ≠ 3; decide) (by show x.commit ≤ mi; omega) HTE.out HKN.out (r' := some gg) (es' := es') (.inr ⟨hkl, HPL.out⟩) 0 (mi + (k : Int))
    have HA1 := hI (HA2.out.trans hA1)
    have HAC := hI hac
    have H4b := hI (H4.out.set { x with role := 0, lead := from_, pv := .pointer none, pl := none, tv := .pointer none, tr := none, since := 0, r := some gg, es := es', stable := mi + (k : Int) } 20 (.int .u64 (mi + (k : Int))) rfl rS)
    have HX4b : Hid ((w4.setCell ⟨p, 20, none⟩ (.int .u64 (mi + (k : Int)))).heap[w.heap.size]? = _) := hI (bO HX4.out (a := ⟨p, 20, none⟩) hpw (.int .u64 (mi + (k : Int))))
    clear hA1 hac
    have e3 : IntKind.u64.wrap (mi + (es.length : Int)) = mi + (es.length : Int) := IntWalk.u64_in _ (by omega)
    have e4 : IntKind.u64.wrap (es.length : Int) = (es.length : Int) := IntWalk.u64_in _ (by omega)
    have m14 : w4.cell? ⟨p, 14, none⟩ = some (.int .u64 x.commit) := H4.out.cell 14 rfl
    have fr14 := H4.out.free 14
    obtain ⟨-, -, -, -, mc4, -, mc6, -, mc8, -, -⟩ := b11 HX4.out
    have hp4 : p < w4.heap.size := H4.out.plt
    have hx4 : w.heap.size < w4.heap.size := heap_lt HX4.out
    go_wp2_with fail
    clear mc4 mc8 e4 m20 f20 m14 fr14 mc6 hp4 hx4
    generalize w4.setCell ⟨p, 20, none⟩ (.int .u64 (mi + (k : Int))) = w4b at *
    have m14 : w4b.cell? ⟨p, 14, none⟩ = some (.int .u64 x.commit) := H4b.out.cell 14 rfl
    have fr14 := H4b.out.free 14
    have mc6 : w4b.cell? ⟨w.heap.size, 6, none⟩ = some (.int .u64 commit) := bC HX4b.out 6 rfl
    have hp4 : p < w4b.heap.size := H4b.out.plt
    have hx4 : w.heap.size < w4b.heap.size := heap_lt HX4b.out
    by_cases h1 : mi + (es.length : Int) < commit
    ·by_cases h2 : x.commit < mi + (es.length : Int)
     ·skip
      have hv : max x.commit (min commit (mi + (es.length : Int))) = mi + (es.length : Int) := by omega
      have HV := hI hv
      clear hv
      go_region
      have H7 := hI ((H4b.out.set { x with role := 0, lead := from_, pv := .pointer none, pl := none, tv := .pointer none, tr := none, since := 0, r := some gg, es := es', commit := mi + (es.length : Int), stable := mi + (k : Int) } 14 (.int .u64 (mi + (es.length : Int))) rfl rS).drew)
      have HX7 : Hid (((w4b.setCell ⟨p, 14, none⟩ (.int .u64 (mi + (es.length : Int)))).drew).heap[w.heap.size]? = _) := hI (bO HX4b.out (a := ⟨p, 14, none⟩) hpw (.int .u64 (mi + (es.length : Int))))
      generalize (w4b.setCell ⟨p, 14, none⟩ (.int .u64 (mi + (es.length : Int)))).drew = w7 at *
      obtain ⟨c0, c1, c2, c3, c4, c5, c6, c7, c8, c9, c10⟩ := b11 HX7.out
      have hms := HMSG.out.mv_ H7.out.mv
      have hte := tell_node w7 _ _ p _ H7.out.node H7.out.ml _ hms (by have := HL.out; show x.out.length ≤ 1000000; omega) 5 true (mi + (es.length : Int))
      unfold Msg.agg at hte
      have HTL := hI hte
      clear hms hte m14 mc6 fr14
      go_wp2_with fail
      refine HTL.out.mono ?_
      rintro en w8 ⟨rfl, v8, hn8⟩
      obtain ⟨G8, h8⟩ := H7.out.call hn8
      have H8 := hI h8.to
      clear hn8 h8 HTL
      go_wp2_with fail
      refine bE rfl rfl ?_
      have hA1 := HA1.out
      rw [HV.out] at hA1
      exact ⟨rfl, _, g1, Y, H8.out, (hA1.trans (j := 1) ⟨Grow.refl _ _, hA1.gok, hA1.nok.outs 0 v8 _, ⟨_, rfl, fun q hq => (by obtain rfl := List.mem_singleton.1 hq; exact hA1.nok.tells (.inr (.inr ⟨.inl rfl, fun _ => HAC.out⟩)) (by show 0 ≤ x.term; omega) (by show x.term ≤ (n : Int) + 1; omega) f1 f7 (by omega) (by omega)), by simp⟩, ⟨rfl, rfl, rfl, rfl⟩⟩).mono nL (by omega)⟩
     ·skip
      have hv : max x.commit (min commit (mi + (es.length : Int))) = x.commit := by omega
      have HV := hI hv
      clear hv
      go_region
      have H7 := hI ((H4b.out.set { x with role := 0, lead := from_, pv := .pointer none, pl := none, tv := .pointer none, tr := none, since := 0, r := some gg, es := es', commit := x.commit, stable := mi + (k : Int) } 14 (.int .u64 (x.commit)) rfl rS).drew)
      have HX7 : Hid (((w4b.setCell ⟨p, 14, none⟩ (.int .u64 (x.commit))).drew).heap[w.heap.size]? = _) := hI (bO HX4b.out (a := ⟨p, 14, none⟩) hpw (.int .u64 (x.commit)))
      generalize (w4b.setCell ⟨p, 14, none⟩ (.int .u64 (x.commit))).drew = w7 at *
      obtain ⟨c0, c1, c2, c3, c4, c5, c6, c7, c8, c9, c10⟩ := b11 HX7.out
      have hms := HMSG.out.mv_ H7.out.mv
      have hte := tell_node w7 _ _ p _ H7.out.node H7.out.ml _ hms (by have := HL.out; show x.out.length ≤ 1000000; omega) 5 true (mi + (es.length : Int))
      unfold Msg.agg at hte
      have HTL := hI hte
      clear hms hte m14 mc6 fr14
      go_wp2_with fail
      refine HTL.out.mono ?_
      rintro en w8 ⟨rfl, v8, hn8⟩
      obtain ⟨G8, h8⟩ := H7.out.call hn8
      have H8 := hI h8.to
      clear hn8 h8 HTL
      go_wp2_with fail
      refine bE rfl rfl ?_
      have hA1 := HA1.out
      rw [HV.out] at hA1
      exact ⟨rfl, _, g1, Y, H8.out, (hA1.trans (j := 1) ⟨Grow.refl _ _, hA1.gok, hA1.nok.outs 0 v8 _, ⟨_, rfl, fun q hq => (by obtain rfl := List.mem_singleton.1 hq; exact hA1.nok.tells (.inr (.inr ⟨.inl rfl, fun _ => HAC.out⟩)) (by show 0 ≤ x.term; omega) (by show x.term ≤ (n : Int) + 1; omega) f1 f7 (by omega) (by omega)), by simp⟩, ⟨rfl, rfl, rfl, rfl⟩⟩).mono nL (by omega)⟩
    ·by_cases h2 : x.commit < commit
     ·skip
      have hv : max x.commit (min commit (mi + (es.length : Int))) = commit := by omega
      have HV := hI hv
      clear hv
      go_region
      have H7 := hI ((H4b.out.set { x with role := 0, lead := from_, pv := .pointer none, pl := none, tv := .pointer none, tr := none, since := 0, r := some gg, es := es', commit := commit, stable := mi + (k : Int) } 14 (.int .u64 (commit)) rfl rS).drew)
      have HX7 : Hid (((w4b.setCell ⟨p, 14, none⟩ (.int .u64 (commit))).drew).heap[w.heap.size]? = _) := hI (bO HX4b.out (a := ⟨p, 14, none⟩) hpw (.int .u64 (commit)))
      generalize (w4b.setCell ⟨p, 14, none⟩ (.int .u64 (commit))).drew = w7 at *
      obtain ⟨c0, c1, c2, c3, c4, c5, c6, c7, c8, c9, c10⟩ := b11 HX7.out
      have hms := HMSG.out.mv_ H7.out.mv
      have hte := tell_node w7 _ _ p _ H7.out.node H7.out.ml _ hms (by have := HL.out; show x.out.length ≤ 1000000; omega) 5 true (mi + (es.length : Int))
      unfold Msg.agg at hte
      have HTL := hI hte
      clear hms hte m14 mc6 fr14
      go_wp2_with fail
      refine HTL.out.mono ?_
      rintro en w8 ⟨rfl, v8, hn8⟩
      obtain ⟨G8, h8⟩ := H7.out.call hn8
      have H8 := hI h8.to
      clear hn8 h8 HTL
      go_wp2_with fail
      refine bE rfl rfl ?_
      have hA1 := HA1.out
      rw [HV.out] at hA1
      exact ⟨rfl, _, g1, Y, H8.out, (hA1.trans (j := 1) ⟨Grow.refl _ _, hA1.gok, hA1.nok.outs 0 v8 _, ⟨_, rfl, fun q hq => (by obtain rfl := List.mem_singleton.1 hq; exact hA1.nok.tells (.inr (.inr ⟨.inl rfl, fun _ => HAC.out⟩)) (by show 0 ≤ x.term; omega) (by show x.term ≤ (n : Int) + 1; omega) f1 f7 (by omega) (by omega)), by simp⟩, ⟨rfl, rfl, rfl, rfl⟩⟩).mono nL (by omega)⟩
     ·skip
      have hv : max x.commit (min commit (mi + (es.length : Int))) = x.commit := by omega
      have HV := hI hv
      clear hv
      go_region
      have H7 := hI ((H4b.out.set { x with role := 0, lead := from_, pv := .pointer none, pl := none, tv := .pointer none, tr := none, since := 0, r := some gg, es := es', commit := x.commit, stable := mi + (k : Int) } 14 (.int .u64 (x.commit)) rfl rS).drew)
      have HX7 : Hid (((w4b.setCell ⟨p, 14, none⟩ (.int .u64 (x.commit))).drew).heap[w.heap.size]? = _) := hI (bO HX4b.out (a := ⟨p, 14, none⟩) hpw (.int .u64 (x.commit)))
      generalize (w4b.setCell ⟨p, 14, none⟩ (.int .u64 (x.commit))).drew = w7 at *
      obtain ⟨c0, c1, c2, c3, c4, c5, c6, c7, c8, c9, c10⟩ := b11 HX7.out
      have hms := HMSG.out.mv_ H7.out.mv
      have hte := tell_node w7 _ _ p _ H7.out.node H7.out.ml _ hms (by have := HL.out; show x.out.length ≤ 1000000; omega) 5 true (mi + (es.length : Int))
      unfold Msg.agg at hte
      have HTL := hI hte
      clear hms hte m14 mc6 fr14
      go_wp2_with fail
      refine HTL.out.mono ?_
      rintro en w8 ⟨rfl, v8, hn8⟩
      obtain ⟨G8, h8⟩ := H7.out.call hn8
      have H8 := hI h8.to
      clear hn8 h8 HTL
      go_wp2_with fail
      refine bE rfl rfl ?_
      have hA1 := HA1.out
      rw [HV.out] at hA1
      exact ⟨rfl, _, g1, Y, H8.out, (hA1.trans (j := 1) ⟨Grow.refl _ _, hA1.gok, hA1.nok.outs 0 v8 _, ⟨_, rfl, fun q hq => (by obtain rfl := List.mem_singleton.1 hq; exact hA1.nok.tells (.inr (.inr ⟨.inl rfl, fun _ => HAC.out⟩)) (by show 0 ≤ x.term; omega) (by show x.term ≤ (n : Int) + 1; omega) f1 f7 (by omega) (by omega)), by simp⟩, ⟨rfl, rfl, rfl, rfl⟩⟩).mono nL (by omega)⟩
   ·skip
    have m20 : w4.cell? ⟨p, 20, none⟩ = some (.int .u64 x.stable) := H4.out.cell 20 rfl
    have f20 := H4.out.free 20
    obtain ⟨g1, Y, hA1, hac⟩ := put_law HG.out HN2.out HR0.out.ok.1 HMO.out HKK.out HMTT.out (by show (0 : Int) ≠ 2; decide) (by show (0 : Int) ≠ 3; decide) (by show x.commit ≤ mi; omega) HTE.out HKN.out (r' := some gg) (es' := es') (.inr ⟨hkl, HPL.out⟩) 0 (x.stable)
    have HA1 := hI (HA2.out.trans hA1)
    have HAC := hI hac
    have H4b := hI (H4.out.set { x with role := 0, lead := from_, pv := .pointer none, pl := none, tv := .pointer none, tr := none, since := 0, r := some gg, es := es', stable := x.stable } 20 (.int .u64 (x.stable)) rfl rS)
    have HX4b : Hid ((w4.setCell ⟨p, 20, none⟩ (.int .u64 (x.stable))).heap[w.heap.size]? = _) := hI (bO HX4.out (a := ⟨p, 20, none⟩) hpw (.int .u64 (x.stable)))
    clear hA1 hac
    have e3 : IntKind.u64.wrap (mi + (es.length : Int)) = mi + (es.length : Int) := IntWalk.u64_in _ (by omega)
    have e4 : IntKind.u64.wrap (es.length : Int) = (es.length : Int) := IntWalk.u64_in _ (by omega)
    have m14 : w4.cell? ⟨p, 14, none⟩ = some (.int .u64 x.commit) := H4.out.cell 14 rfl
    have fr14 := H4.out.free 14
    obtain ⟨-, -, -, -, mc4, -, mc6, -, mc8, -, -⟩ := b11 HX4.out
    have hp4 : p < w4.heap.size := H4.out.plt
    have hx4 : w.heap.size < w4.heap.size := heap_lt HX4.out
    go_wp2_with fail
    clear mc4 mc8 e4 m20 f20 m14 fr14 mc6 hp4 hx4
    generalize w4.setCell ⟨p, 20, none⟩ (.int .u64 (x.stable)) = w4b at *
    have m14 : w4b.cell? ⟨p, 14, none⟩ = some (.int .u64 x.commit) := H4b.out.cell 14 rfl
    have fr14 := H4b.out.free 14
    have mc6 : w4b.cell? ⟨w.heap.size, 6, none⟩ = some (.int .u64 commit) := bC HX4b.out 6 rfl
    have hp4 : p < w4b.heap.size := H4b.out.plt
    have hx4 : w.heap.size < w4b.heap.size := heap_lt HX4b.out
    by_cases h1 : mi + (es.length : Int) < commit
    ·by_cases h2 : x.commit < mi + (es.length : Int)
     ·skip
      have hv : max x.commit (min commit (mi + (es.length : Int))) = mi + (es.length : Int) := by omega
      have HV := hI hv
      clear hv
      go_region
      have H7 := hI ((H4b.out.set { x with role := 0, lead := from_, pv := .pointer none, pl := none, tv := .pointer none, tr := none, since := 0, r := some gg, es := es', commit := mi + (es.length : Int), stable := x.stable } 14 (.int .u64 (mi + (es.length : Int))) rfl rS).drew)
      have HX7 : Hid (((w4b.setCell ⟨p, 14, none⟩ (.int .u64 (mi + (es.length : Int)))).drew).heap[w.heap.size]? = _) := hI (bO HX4b.out (a := ⟨p, 14, none⟩) hpw (.int .u64 (mi + (es.length : Int))))
      generalize (w4b.setCell ⟨p, 14, none⟩ (.int .u64 (mi + (es.length : Int)))).drew = w7 at *
      obtain ⟨c0, c1, c2, c3, c4, c5, c6, c7, c8, c9, c10⟩ := b11 HX7.out
      have hms := HMSG.out.mv_ H7.out.mv
      have hte := tell_node w7 _ _ p _ H7.out.node H7.out.ml _ hms (by have := HL.out; show x.out.length ≤ 1000000; omega) 5 true (mi + (es.length : Int))
      unfold Msg.agg at hte
      have HTL := hI hte
      clear hms hte m14 mc6 fr14
      go_wp2_with fail
      refine HTL.out.mono ?_
      rintro en w8 ⟨rfl, v8, hn8⟩
      obtain ⟨G8, h8⟩ := H7.out.call hn8
      have H8 := hI h8.to
      clear hn8 h8 HTL
      go_wp2_with fail
      refine bE rfl rfl ?_
      have hA1 := HA1.out
      rw [HV.out] at hA1
      exact ⟨rfl, _, g1, Y, H8.out, (hA1.trans (j := 1) ⟨Grow.refl _ _, hA1.gok, hA1.nok.outs 0 v8 _, ⟨_, rfl, fun q hq => (by obtain rfl := List.mem_singleton.1 hq; exact hA1.nok.tells (.inr (.inr ⟨.inl rfl, fun _ => HAC.out⟩)) (by show 0 ≤ x.term; omega) (by show x.term ≤ (n : Int) + 1; omega) f1 f7 (by omega) (by omega)), by simp⟩, ⟨rfl, rfl, rfl, rfl⟩⟩).mono nL (by omega)⟩
     ·skip
      have hv : max x.commit (min commit (mi + (es.length : Int))) = x.commit := by omega
      have HV := hI hv
      clear hv
      go_region
      have H7 := hI ((H4b.out.set { x with role := 0, lead := from_, pv := .pointer none, pl := none, tv := .pointer none, tr := none, since := 0, r := some gg, es := es', commit := x.commit, stable := x.stable } 14 (.int .u64 (x.commit)) rfl rS).drew)
      have HX7 : Hid (((w4b.setCell ⟨p, 14, none⟩ (.int .u64 (x.commit))).drew).heap[w.heap.size]? = _) := hI (bO HX4b.out (a := ⟨p, 14, none⟩) hpw (.int .u64 (x.commit)))
      generalize (w4b.setCell ⟨p, 14, none⟩ (.int .u64 (x.commit))).drew = w7 at *
      obtain ⟨c0, c1, c2, c3, c4, c5, c6, c7, c8, c9, c10⟩ := b11 HX7.out
      have hms := HMSG.out.mv_ H7.out.mv
      have hte := tell_node w7 _ _ p _ H7.out.node H7.out.ml _ hms (by have := HL.out; show x.out.length ≤ 1000000; omega) 5 true (mi + (es.length : Int))
      unfold Msg.agg at hte
      have HTL := hI hte
      clear hms hte m14 mc6 fr14
      go_wp2_with fail
      refine HTL.out.mono ?_
      rintro en w8 ⟨rfl, v8, hn8⟩
      obtain ⟨G8, h8⟩ := H7.out.call hn8
      have H8 := hI h8.to
      clear hn8 h8 HTL
      go_wp2_with fail
      refine bE rfl rfl ?_
      have hA1 := HA1.out
      rw [HV.out] at hA1
      exact ⟨rfl, _, g1, Y, H8.out, (hA1.trans (j := 1) ⟨Grow.refl _ _, hA1.gok, hA1.nok.outs 0 v8 _, ⟨_, rfl, fun q hq => (by obtain rfl := List.mem_singleton.1 hq; exact hA1.nok.tells (.inr (.inr ⟨.inl rfl, fun _ => HAC.out⟩)) (by show 0 ≤ x.term; omega) (by show x.term ≤ (n : Int) + 1; omega) f1 f7 (by omega) (by omega)), by simp⟩, ⟨rfl, rfl, rfl, rfl⟩⟩).mono nL (by omega)⟩
    ·by_cases h2 : x.commit < commit
     ·skip
      have hv : max x.commit (min commit (mi + (es.length : Int))) = commit := by omega
      have HV := hI hv
      clear hv
      go_region
      have H7 := hI ((H4b.out.set { x with role := 0, lead := from_, pv := .pointer none, pl := none, tv := .pointer none, tr := none, since := 0, r := some gg, es := es', commit := commit, stable := x.stable } 14 (.int .u64 (commit)) rfl rS).drew)
      have HX7 : Hid (((w4b.setCell ⟨p, 14, none⟩ (.int .u64 (commit))).drew).heap[w.heap.size]? = _) := hI (bO HX4b.out (a := ⟨p, 14, none⟩) hpw (.int .u64 (commit)))
      generalize (w4b.setCell ⟨p, 14, none⟩ (.int .u64 (commit))).drew = w7 at *
      obtain ⟨c0, c1, c2, c3, c4, c5, c6, c7, c8, c9, c10⟩ := b11 HX7.out
      have hms := HMSG.out.mv_ H7.out.mv
      have hte := tell_node w7 _ _ p _ H7.out.node H7.out.ml _ hms (by have := HL.out; show x.out.length ≤ 1000000; omega) 5 true (mi + (es.length : Int))
      unfold Msg.agg at hte
      have HTL := hI hte
      clear hms hte m14 mc6 fr14
      go_wp2_with fail
      refine HTL.out.mono ?_
      rintro en w8 ⟨rfl, v8, hn8⟩
      obtain ⟨G8, h8⟩ := H7.out.call hn8
      have H8 := hI h8.to
      clear hn8 h8 HTL
      go_wp2_with fail
      refine bE rfl rfl ?_
      have hA1 := HA1.out
      rw [HV.out] at hA1
      exact ⟨rfl, _, g1, Y, H8.out, (hA1.trans (j := 1) ⟨Grow.refl _ _, hA1.gok, hA1.nok.outs 0 v8 _, ⟨_, rfl, fun q hq => (by obtain rfl := List.mem_singleton.1 hq; exact hA1.nok.tells (.inr (.inr ⟨.inl rfl, fun _ => HAC.out⟩)) (by show 0 ≤ x.term; omega) (by show x.term ≤ (n : Int) + 1; omega) f1 f7 (by omega) (by omega)), by simp⟩, ⟨rfl, rfl, rfl, rfl⟩⟩).mono nL (by omega)⟩
     ·skip
      have hv : max x.commit (min commit (mi + (es.length : Int))) = x.commit := by omega
      have HV := hI hv
      clear hv
      go_region
      have H7 := hI ((H4b.out.set { x with role := 0, lead := from_, pv := .pointer none, pl := none, tv := .pointer none, tr := none, since := 0, r := some gg, es := es', commit := x.commit, stable := x.stable } 14 (.int .u64 (x.commit)) rfl rS).drew)
      have HX7 : Hid (((w4b.setCell ⟨p, 14, none⟩ (.int .u64 (x.commit))).drew).heap[w.heap.size]? = _) := hI (bO HX4b.out (a := ⟨p, 14, none⟩) hpw (.int .u64 (x.commit)))
      generalize (w4b.setCell ⟨p, 14, none⟩ (.int .u64 (x.commit))).drew = w7 at *
      obtain ⟨c0, c1, c2, c3, c4, c5, c6, c7, c8, c9, c10⟩ := b11 HX7.out
      have hms := HMSG.out.mv_ H7.out.mv
      have hte := tell_node w7 _ _ p _ H7.out.node H7.out.ml _ hms (by have := HL.out; show x.out.length ≤ 1000000; omega) 5 true (mi + (es.length : Int))
      unfold Msg.agg at hte
      have HTL := hI hte
      clear hms hte m14 mc6 fr14
      go_wp2_with fail
      refine HTL.out.mono ?_
      rintro en w8 ⟨rfl, v8, hn8⟩
      obtain ⟨G8, h8⟩ := H7.out.call hn8
      have H8 := hI h8.to
      clear hn8 h8 HTL
      go_wp2_with fail
      refine bE rfl rfl ?_
      have hA1 := HA1.out
      rw [HV.out] at hA1
      exact ⟨rfl, _, g1, Y, H8.out, (hA1.trans (j := 1) ⟨Grow.refl _ _, hA1.gok, hA1.nok.outs 0 v8 _, ⟨_, rfl, fun q hq => (by obtain rfl := List.mem_singleton.1 hq; exact hA1.nok.tells (.inr (.inr ⟨.inl rfl, fun _ => HAC.out⟩)) (by show 0 ≤ x.term; omega) (by show x.term ≤ (n : Int) + 1; omega) f1 f7 (by omega) (by omega)), by simp⟩, ⟨rfl, rfl, rfl, rfl⟩⟩).mono nL (by omega)⟩
end Go.Proofs.YtdjooojpcepleaaGreat

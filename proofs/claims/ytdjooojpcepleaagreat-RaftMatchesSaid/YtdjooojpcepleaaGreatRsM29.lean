/- raft, any node: install: an image comes. -/
import Derived.Test.YtdjooojpcepleaaGreatRsM28

namespace Go.Proofs.YtdjooojpcepleaaGreat
open Go.RowKit
open Go.«Sort» (grow)
theorem LogOk.drop {ix tm : Int} {es : List Ent} (h : LogOk ix tm es) {i t : Int} (hi : termE ix tm es i = some t) (h0 : 0 ≤ t) (h1 : t ≤ 18446744073709551615) : LogOk i t (es.drop (i - ix).toNat) := by
 have hle := termE_le hi
 have hl := h.lo
 have hh := h.hi
 refine ⟨fun k e he => ?_, by omega, by simp only [List.length_drop]; omega, h0, fun e he => h.tms e (List.mem_of_mem_drop he), h1⟩
 rw [List.getElem?_drop] at he
 have := h.ixs _ e he
 omega
theorem LogOk.base {i t : Int} (h0 : 0 ≤ i) (hi : i ≤ 9223372036854775807) (t0 : 0 ≤ t) (t1 : t ≤ 18446744073709551615) : LogOk i t [] :=
 ⟨fun k e he => by simp at he, h0, by simpa using hi, t0, (fun e he => by cases he), t1⟩
set_option maxRecDepth 100000 in
set_option maxHeartbeats 16000000 in
theorem install_node (w : World) (M F : Nat → Prop) (p : Nat) (x : NodeS) (h : NodeAt w M F p x) (hM : ∀ k, M k → k < w.heap.size) (hl : x.out.length ≤ 800000) (C0 : List Int) (g : Gh En) (n : Nat) (X : List En) (hg : OkG C0 g n) (hN : OkN C0 g n x X) (hn6 : n ≤ 1000) (hXn : X.length + 1 ≤ n) (m : Msg) (hm : MsgOk w M m) (hmo : OkM C0 g n m) (hk : m.kind = 6) (hmt : m.term = x.term) (hmb : mB m.mem = true) :
  Calls Tryz.prog 42 #[.pointer (some ⟨p, 0, none⟩), m.agg] w (TickR C0 g n w M F p x) := by
 have HMSG := hI hm
 have HMO := hI hmo
 have HKK := hI hk
 have HMTT := hI hmt
 have HMB := hI hmb
 have hml := (mL hmb).2.1
 have hms0 := hm.mem
 have hmd0 := hm.data
 have x0 := hmo.x0
 have xn := hmo.xn
 have l0' := hmo.l0
 have ln' := hmo.ln
 have HEL := hI (hmo.mi.inst hk).1
 have t0 := hmo.t0
 have f1 := hmo.f1
 have f7 := hmo.f7
 have hR0 := Rn.start h hM
 obtain ⟨_, _, ea, ec, hev, _⟩ := hm.ents
 obtain ⟨ma, mc, hmv, _⟩ := hm.mem
 obtain ⟨d, hd_, hdl_⟩ := hm.data
 obtain ⟨da, dc, hdv, _⟩ := id hd_
 obtain ⟨mk, from_, to_, term, mi, logTerm, commit, my, ev, mv, dv, es, mem⟩ := m
 simp only at hev hmv hdv
 subst hev hmv hdv
 have hpl := h.plt
 obtain ⟨Wm, hX⟩ : ∃ Wm, Wm = w.alloc (.cells #[.int .i64 mk, .int .i64 from_, .int .i64 to_, .int .u64 term, .int .u64 mi, .int .u64 logTerm, .int .u64 commit, .bool my, .slice ea es.length ec, .slice ma mem.length mc, .slice da d.length dc] 54) := ⟨_, rfl⟩
 have hbX : Below w.heap.size w Wm := by rw [hX]; exact bR.alloc nL _
 have HXX : Hid (Wm.heap[w.heap.size]? = some (.cells #[.int .i64 mk, .int .i64 from_, .int .i64 to_, .int .u64 term, .int .u64 mi, .int .u64 logTerm, .int .u64 commit, .bool my, .slice ea es.length ec, .slice ma mem.length mc, .slice da d.length dc] 54 (0, 0))) := hI (by rw [hX]; exact bW w _)
 have HRX := hI (hR0.below hbX)
 have HBX := hI hbX
 have HN := hI hN
 have HG := hI hg
 have HL := hI hl
 have HXN := hI hXn
 have ht0 := hN.t0
 have htn0 := hN.tn
 obtain ⟨pq, hpq⟩ := hR0.pvp
 have HPQ := hI hpq
 simp only at *
 have HMS0 := hI hms0
 have hd1 : Sl u8v w (.slice da d.length dc) d ∧ d.length ≤ 1000 := ⟨hd_, hdl_⟩
 have HDS0 := hI hd1
 have hfx : ¬ F w.heap.size := fun e => absurd (hR0.glt _ e) (Nat.lt_irrefl _)
 have HGB := hI hfx
 have HR0 := hI hR0
 have HMLT := hI hM
 have hc0 := hN.c0
 clear h hM hl hg hN hm hmo hR0 hbX hXn hpq hfx hk hmt hmb hms0 hmd0 hd_ hd1
 unfold Msg.agg
 go_enter Tryz.func42, Tryz.ntmps42
 go_wp2_with fail
 rw [← hX]
 clear hX
 have c1 : Wm.cell? ⟨w.heap.size, 1, none⟩ = some (.int .i64 from_) := bC HXX.out 1 rfl
 have n4 : Wm.cell? ⟨p, 4, none⟩ = some (.int .u64 x.term) := HRX.out.cell 4 rfl
 have hfo := follow_node Wm.drew _ F p _ HRX.out.drew.node HRX.out.drew.ml x.term from_
 rw [folB_same] at hfo
 have HFO := hI hfo
 clear hfo
 go_region_held3 (fun w' => w'.cell? ⟨w.heap.size, 1, none⟩ = some (.int .i64 from_) ∧ w'.cell? ⟨p, 4, none⟩ = some (.int .u64 x.term)) (first | exact ⟨c1, n4⟩ | exact ⟨kc1, kn4⟩)
  (first | (go_at_call 37; refine HFO.out.mono ?_; rintro en w1 ⟨rfl, hn1⟩; obtain ⟨G1, h1, hk1, _, hG1⟩ := HRX.out.drew.callK hn1; have H1 := hI h1; have HX1 := hI (hk1.heap HGB.out (show Wm.drew.heap[w.heap.size]? = _ from HXX.out)); have HK1 := hI hk1; have HG1 : Hid (¬ G1 w.heap.size) := hI (fun e => (hG1 _ e).elim HGB.out fun e => Nat.lt_irrefl _ (Nat.lt_of_lt_of_le (heap_lt HXX.out) e)); have kc1 : w1.cell? ⟨w.heap.size, 1, none⟩ = some (.int .i64 from_) := bC HX1.out 1 rfl; have kn4 : w1.cell? ⟨p, 4, none⟩ = some (.int .u64 x.term) := H1.out.cell 4 rfl; clear hn1 h1 hk1 hG1))
 have d8 : w1.cell? ⟨p, 8, none⟩ = some (.int .i64 x.since) := H1.out.cell 8 rfl
 have f8 := H1.out.free 8
 have hpw : w.heap.size ≠ p := by omega
 have H2 := hI (H1.out.set { x with role := 0, lead := from_, pv := .pointer none, pl := none, tv := .pointer none, tr := none, since := 0 } 8 (.int .i64 0) rfl rS)
 have HX2 := hI (bO HX1.out (a := ⟨p, 8, none⟩) hpw (.int .i64 0))
 have HN2 := hI (HN.out.calm0 from_)
 have HA2 : Hid (Acts C0 g n 0 x g { x with role := 0, lead := from_, pv := .pointer none, pl := none, tv := .pointer none, tr := none, since := 0 } X) := hI (Acts.own HG.out HN2.out rfl ⟨rfl, rfl, rfl, rfl⟩)
 clear c1 n4 kc1 kn4
 go_wp2_with fail
 generalize w1.setCell ⟨p, 8, none⟩ (.int .i64 0) = w2 at *
 clear d8 f8
 have c4 : w2.cell? ⟨w.heap.size, 4, none⟩ = some (.int .u64 mi) := bC HX2.out 4 rfl
 have n14 : w2.cell? ⟨p, 14, none⟩ = some (.int .u64 x.commit) := H2.out.cell 14 rfl
 by_cases hci : mi ≤ x.commit
 ·have q1 : decide (mi ≤ x.commit) = true := by simpa using hci
  obtain ⟨g1, hA1, hac⟩ := ackc_law HG.out HN2.out (by show (0 : Int) ≠ 2; decide) (by show (0 : Int) ≠ 3; decide) (by have := HEL.out; simp only [Msg.ms] at this; rw [HMTT.out] at this; exact this)
  have HA1 := hI (HA2.out.trans hA1)
  have HAC := hI hac
  clear hA1 hac
  go_quiet (fail)
  have H3 := hI (H2.out.drewN nq)
  have HX3 : Hid ((w2.drewN nq).heap[w.heap.size]? = _) := hI HX2.out
  generalize w2.drewN nq = w3 at *
  clear c4 n14
  go_wp2_with fail
  obtain ⟨c0, c1, c2, c3, c4, c5, c6, c7, c8, c9, c10⟩ := b11 HX3.out
  have n14 : w3.cell? ⟨p, 14, none⟩ = some (.int .u64 x.commit) := H3.out.cell 14 rfl
  have H3d := hI H3.out.drew
  have hms : MsgOk w3.drew _ _ := HMSG.out.mv_ H3d.out.mv
  have hte := tell_node w3.drew _ _ p _ H3d.out.node H3d.out.ml _ hms (by have := HL.out; show x.out.length ≤ 1000000; omega) 7 true x.commit
  unfold Msg.agg at hte
  have HTL := hI hte
  clear hms hte
  go_region_held3 (fun w' => w'.cell? ⟨w.heap.size, 0, none⟩ = some (.int .i64 mk) ∧ w'.cell? ⟨w.heap.size, 1, none⟩ = some (.int .i64 from_) ∧ w'.cell? ⟨w.heap.size, 2, none⟩ = some (.int .i64 to_) ∧ w'.cell? ⟨w.heap.size, 3, none⟩ = some (.int .u64 term) ∧ w'.cell? ⟨w.heap.size, 4, none⟩ = some (.int .u64 mi) ∧ w'.cell? ⟨w.heap.size, 5, none⟩ = some (.int .u64 logTerm) ∧ w'.cell? ⟨w.heap.size, 6, none⟩ = some (.int .u64 commit) ∧ w'.cell? ⟨w.heap.size, 7, none⟩ = some (.bool my) ∧ w'.cell? ⟨w.heap.size, 8, none⟩ = some (.slice ea es.length ec) ∧ w'.cell? ⟨w.heap.size, 9, none⟩ = some (.slice ma mem.length mc) ∧ w'.cell? ⟨w.heap.size, 10, none⟩ = some (.slice da d.length dc) ∧ w'.cell? ⟨p, 14, none⟩ = some (.int .u64 x.commit)) (first | exact ⟨c0, c1, c2, c3, c4, c5, c6, c7, c8, c9, c10, n14⟩ | exact ⟨kc0, kc1, kc2, kc3, kc4, kc5, kc6, kc7, kc8, kc9, kc10, kn14⟩)
   (first | (go_at_call 38; refine HTL.out.mono ?_; rintro en w5 ⟨rfl, v5, hn5⟩; obtain ⟨G5, h5, hk5, _, _⟩ := H3d.out.callK hn5; have H5 := hI h5; have HX5 := hI (hk5.heap HG1.out (show w3.drew.heap[w.heap.size]? = _ from HX3.out)); have kc0 : w5.cell? ⟨w.heap.size, 0, none⟩ = some (.int .i64 mk) := bC HX5.out 0 rfl; have kc1 : w5.cell? ⟨w.heap.size, 1, none⟩ = some (.int .i64 from_) := bC HX5.out 1 rfl; have kc2 : w5.cell? ⟨w.heap.size, 2, none⟩ = some (.int .i64 to_) := bC HX5.out 2 rfl; have kc3 : w5.cell? ⟨w.heap.size, 3, none⟩ = some (.int .u64 term) := bC HX5.out 3 rfl; have kc4 : w5.cell? ⟨w.heap.size, 4, none⟩ = some (.int .u64 mi) := bC HX5.out 4 rfl; have kc5 : w5.cell? ⟨w.heap.size, 5, none⟩ = some (.int .u64 logTerm) := bC HX5.out 5 rfl; have kc6 : w5.cell? ⟨w.heap.size, 6, none⟩ = some (.int .u64 commit) := bC HX5.out 6 rfl; have kc7 : w5.cell? ⟨w.heap.size, 7, none⟩ = some (.bool my) := bC HX5.out 7 rfl; have kc8 : w5.cell? ⟨w.heap.size, 8, none⟩ = some (.slice ea es.length ec) := bC HX5.out 8 rfl; have kc9 : w5.cell? ⟨w.heap.size, 9, none⟩ = some (.slice ma mem.length mc) := bC HX5.out 9 rfl; have kc10 : w5.cell? ⟨w.heap.size, 10, none⟩ = some (.slice da d.length dc) := bC HX5.out 10 rfl; have kn14 : w5.cell? ⟨p, 14, none⟩ = some (.int .u64 x.commit) := H5.out.cell 14 rfl; clear hn5 h5 hk5))
  clear c0 c1 c2 c3 c4 c5 c6 c7 c8 c9 c10 n14 kc0 kc1 kc2 kc3 kc4 kc5 kc6 kc7 kc8 kc9 kc10 kn14
  go_wp2_with fail
  first
   | refine bT rfl rfl ?_
   | refine bE rfl rfl ?_
  exact ⟨rfl, _, g1, X, H5.out.to, (HA1.out.trans (j := 1) ⟨Grow.refl _ _, HA1.out.gok, HA1.out.nok.outs 0 v5 _, ⟨_, rfl, fun q hq => (by obtain rfl := List.mem_singleton.1 hq; exact HA1.out.nok.tells (.inr (.inr ⟨.inr rfl, fun _ => HAC.out⟩)) (by show 0 ≤ x.term; omega) (by show x.term ≤ (n : Int) + 1; omega) f1 f7 hc0 (by have := HN.out.nums HR0.out.ok.1; have := this.cle; have := HN.out.len; omega)), by simp⟩, ⟨rfl, rfl, rfl, rfl⟩⟩).mono nL (by omega)⟩
 ·have q1 : decide (mi ≤ x.commit) = false := by simpa using hci
  go_quiet (fail)
  have H3 := hI (H2.out.drewN nq)
  have HX3 : Hid ((w2.drewN nq).heap[w.heap.size]? = _) := hI HX2.out
  generalize w2.drewN nq = w3 at *
  clear c4 n14
  go_wp2_with fail
  have c4 : w3.cell? ⟨w.heap.size, 4, none⟩ = some (.int .u64 mi) := bC HX3.out 4 rfl
  have n9 : w3.cell? ⟨p, 9, none⟩ = some (.pointer (some ⟨x.lg, 0, none⟩)) := H3.out.cell 9 rfl
  have H3d := hI H3.out.drew
  obtain ⟨tx, tc, htc, hterm⟩ := term_all x.ix x.tm x.es HR0.out.ok.1 x.lg x.r mi
  have HTM := hI (hterm w3.drew H3d.out.ok.2.1)
  have HTC := hI htc
  clear hterm htc
  go_region_held3 (fun w' => w'.cell? ⟨w.heap.size, 4, none⟩ = some (.int .u64 mi) ∧ w'.cell? ⟨p, 9, none⟩ = some (.pointer (some ⟨x.lg, 0, none⟩))) (first | exact ⟨c4, n9⟩ | exact ⟨kc4, kn9⟩)
   (first | (go_at_call 52; refine HTM.out.mono ?_; rintro en w4 ⟨rfl, hb4⟩; have H4 := hI (H3d.out.below hb4); have HX4 := hI (bH hb4 (show w3.drew.heap[w.heap.size]? = _ from HX3.out) (heap_lt HX3.out)); have kc4 : w4.cell? ⟨w.heap.size, 4, none⟩ = some (.int .u64 mi) := bC HX4.out 4 rfl; have kn9 : w4.cell? ⟨p, 9, none⟩ = some (.pointer (some ⟨x.lg, 0, none⟩)) := H4.out.cell 9 rfl; clear hb4))
  clear c4 n9 kc4 kn9 HTM
  obtain ⟨-, -, -, -, c4, c5, -, -, -, -, -⟩ := b11 HX4.out
  have n9 : w4.cell? ⟨p, 9, none⟩ = some (.pointer (some ⟨x.lg, 0, none⟩)) := H4.out.cell 9 rfl
  have hms4 : Sl intv w4 (.slice ma mem.length mc) mem := H4.out.mv.sl HMS0.out HMSG.out.imm
  have hds4 : Sl u8v w4 (.slice da d.length dc) d := H4.out.mv.sl HDS0.out.1 HMSG.out.imd
  have hlgp : p ≠ x.lg ∧ w.heap.size ≠ x.lg := by
   obtain ⟨S3, hn3⟩ := H4.out.node
   exact ⟨fun e => hn3.sp 0 (by omega) (e ▸ hn3.slg), fun e => HG1.out (e ▸ hn3.sub 0 _ (by omega) hn3.slg)⟩
  have himM : ∀ k, (Value.slice ma mem.length mc).ownBlock = some k → ¬ (k = x.lg ∨ k = p) := fun k hk e => by
   obtain ⟨S3, hn3⟩ := HR0.out.node
   exact HMSG.out.imm k hk (HR0.out.fm k (e.elim (fun e => e ▸ hn3.sub 0 _ (by omega) hn3.slg) fun e => e ▸ hn3.fp))
  have himD : ∀ k, (Value.slice da d.length dc).ownBlock = some k → ¬ (k = x.lg ∨ k = p) := fun k hk e => by
   obtain ⟨S3, hn3⟩ := HR0.out.node
   exact HMSG.out.imd k hk (HR0.out.fm k (e.elim (fun e => e ▸ hn3.sub 0 _ (by omega) hn3.slg) fun e => e ▸ hn3.fp))
  have HLG := hI hlgp
  have HMS4 := hI hms4
  have HDS4 := hI hds4
  have HIM := hI himM
  have HID := hI himD
  have hes : x.es.length ≤ 1024 := by
   obtain ⟨S3, hn3⟩ := H4.out.node
   exact hn3.len
  have HELN := hI hes
  clear hlgp hms4 hds4 himM himD hes
  by_cases hcut : tc = 0 ∧ tx = logTerm
  ·have q2 : (tc == 0) = true := by simpa using hcut.1
   have q3 : (tx == logTerm) = true := by simpa using hcut.2
   have hti : termE x.ix x.tm x.es mi = some logTerm := by
    rcases HTC.out with ⟨_, h2⟩ | ⟨h1, _⟩
    ·rw [h2, hcut.2]
    ·exfalso; have := hcut.1; omega
   have H4d := hI H4.out.drew
   have HCU := hI (cut_any w4.drew x.lg x.r x.ix x.tm x.es H4d.out.ok.2.1 HR0.out.ok.1 HELN.out mi logTerm hti)
   have HTI := hI hti
   obtain ⟨lg', hlg'⟩ : ∃ lg', lg' = x.lg := ⟨_, rfl⟩
   have HLE := hI hlg'
   obtain ⟨es', hes'⟩ : ∃ es', es' = x.es.drop (mi - x.ix).toNat := ⟨_, rfl⟩
   rw [← hes'] at HCU
   have HESE := hI hes'
   clear hcut hti hlg' hes'
   go_wp2_with fail
   go_region_held3 (fun w' => w'.cell? ⟨w.heap.size, 4, none⟩ = some (.int .u64 mi) ∧ w'.cell? ⟨p, 9, none⟩ = some (.pointer (some ⟨x.lg, 0, none⟩))) (first | exact ⟨c4, n9⟩ | exact ⟨kc4, kn9⟩)
    (first | (go_at_call 54; refine HCU.out.mono ?_; rintro en w6 ⟨r', rfl, hlog, hr', hk6⟩; have HLG6 : Hid (LogAt w6 lg' r' mi logTerm es') := hI (by rw [HLE.out]; exact hlog); have HRN := hI hr'; have HK6' := hI hk6; have HX6 := hI (hk6.heap HLG.out.2 (show w4.drew.heap[w.heap.size]? = _ from HX4.out)); have hp6 := hk6.heap HLG.out.1 (show w4.drew.heap[p]? = _ from H4d.out.node.box); have kc4 : w6.cell? ⟨w.heap.size, 4, none⟩ = some (.int .u64 mi) := bC HX6.out 4 rfl; have kn9 : w6.cell? ⟨p, 9, none⟩ = some (.pointer (some ⟨x.lg, 0, none⟩)) := bC hp6 9 rfl; have HP6 : Hid (w6.heap[p]? = some (.cells (NodeS.cells { x with role := 0, lead := from_, pv := .pointer none, pl := none, tv := .pointer none, tr := none, since := 0, lg := lg' }) 74 (0, 0))) := hI (by rw [HLE.out]; exact hp6); clear hlog hr' hk6 hp6))
   clear c4 c5 n9 kc4 kn9 HCU
   have HK6 : Hid (Keeps (fun k => k = x.lg ∨ k = p) w4 w6) := hI ((Keeps.of_belowS (S := fun k => k = x.lg ∨ k = p) (bD (Below.refl _ w4))).trans (HK6'.out.mono fun k _ e => .inl e))
   have HLN : Hid (lg' = x.lg ∨ w4.heap.size ≤ lg') := hI (.inl HLE.out)
   have HEI : Hid (∀ e ∈ es', e ∈ x.es) := hI (fun e he => by rw [HESE.out] at he; exact List.mem_of_mem_drop he)
   have HES : Hid ((termE x.ix x.tm x.es mi = some logTerm ∧ es' = x.es.drop (mi - x.ix).toNat) ∨ (termE x.ix x.tm x.es mi ≠ some logTerm ∧ es' = [])) := hI (.inl ⟨HTI.out, HESE.out⟩)
   have HOK6 : Hid (LogOk mi logTerm es') := hI (by rw [HESE.out]; exact HR0.out.ok.1.drop HTI.out l0' (by omega))
   have HLE6 : Hid (es'.length ≤ 1024) := hI (by rw [HESE.out, List.length_drop]; have := HELN.out; omega)
   have HMS6 := hI (HMS4.out.kept HK6.out HIM.out)
   have HDS6 := hI (HDS4.out.kept HK6.out HID.out)
   have HLP : Hid (¬ lg' = p ∧ (∀ k, r' = some k → ¬ k = p) ∧ ∀ e ∈ es', ∀ k, e.v.ownBlock = some k → ¬ k = p) := hI (by
     have hpl4 := H4.out.plt
     refine ⟨by rw [HLE.out]; exact fun e => HLG.out.1 e.symm, fun k hk e => ?_, fun e he k hk e2 => ?_⟩
     · have := HRN.out k hk
       have h4 : w4.drew.heap.size = w4.heap.size := rfl
       omega
     · obtain ⟨S3, hn3⟩ := H4.out.node
       exact hn3.ime e (HEI.out e he) k hk (by rw [e2]; exact .inr hn3.fp))
   obtain ⟨-, -, -, -, c4, c5, -, -, -, c9, c10⟩ := b11 HX6.out
   have HCL := hI (clone_img w6 mi logTerm ma mc mem HMS6.out (by omega) da dc d HDS6.out (by have := HDS0.out.2; omega))
   go_wp2_with fail
   refine HCL.out.mono ?_
   rintro en w7 ⟨na, nc, ua, uc, rfl, hb7, hsm, hsd, hnm, hnd⟩
   have HB7 := hI hb7
   have HSM := hI hsm
   have HSD := hI hsd
   have HNM := hI hnm
   have HND := hI hnd
   have HP7 := hI (bH hb7 HP6.out (heap_lt HP6.out))
   have HX7 := hI (bH hb7 HX6.out (heap_lt HX6.out))
   clear hb7 hsm hsd hnm hnd HCL c4 c5 c9 c10
   have z10 := bC HP7.out 10 rfl
   have z11 := bC HP7.out 11 rfl
   have z12 := bC HP7.out 12 rfl
   have z13 := bC HP7.out 13 rfl
   have z14 := bC HP7.out 14 rfl
   have z19 := bC HP7.out 19 rfl
   have z9 := bC HP7.out 9 rfl
   have y10 := bF HP7.out 10
   have y11 := bF HP7.out 11
   have y12 := bF HP7.out 12
   have y13 := bF HP7.out 13
   have y14 := bF HP7.out 14
   have y19 := bF HP7.out 19
   have x4 : w7.cell? ⟨w.heap.size, 4, none⟩ = some (.int .u64 mi) := bC HX7.out 4 rfl
   have hp7 : p < w7.heap.size := heap_lt HP7.out
   have hx7 : w.heap.size < w7.heap.size := heap_lt HX7.out
   simp only [NodeS.cells] at z9 z10 z11 z12 z13 z14 z19
   go_wp2_with fail
   obtain ⟨w8, hW8⟩ : ∃ W, W = ((((((w7.setCell ⟨p, 10, none⟩ (.int .u64 mi)).setCell ⟨p, 11, none⟩ (.int .u64 logTerm)).setCell ⟨p, 12, none⟩ (.slice na mem.length nc)).setCell ⟨p, 13, none⟩ (.slice ua d.length uc)).setCell ⟨p, 14, none⟩ (.int .u64 mi)).setCell ⟨p, 19, none⟩ (.bool true)) := ⟨_, rfl⟩
   rw [← hW8]
   clear z9 z10 z11 z12 z13 z14 z19 y10 y11 y12 y13 y14 y19 x4 hp7 hx7
   have hk78 : Keeps (fun k => k = p) w7 w8 := by
    rw [hW8]
    exact ((((((Keeps.refl (fun k => k = p) w7).setCell (.inl rfl) _).setCell (.inl rfl) _).setCell (.inl rfl) _).setCell (.inl rfl) _).setCell (.inl rfl) _).setCell (.inl rfl) _
   have hbx8 : w8.heap[p]? = some (.cells (NodeS.cells { x with role := 0, lead := from_, pv := .pointer none, pl := none, tv := .pointer none, tr := none, since := 0, lg := lg', r := r', ix := mi, tm := logTerm, es := es', imv := .slice na mem.length nc, mem := mem, idv := .slice ua d.length uc, commit := mi, fresh := true }) 74 (0, 0)) := by
    rw [hW8]
    exact blk_set (blk_set (blk_set (blk_set (blk_set (blk_set HP7.out 10 _) 11 _) 12 _) 13 _) 14 _) 19 _
   have hx8 : w8.heap[w.heap.size]? = _ := hk78.heap hpw HX7.out
   have hpl6 : p < w6.heap.size := heap_lt HP6.out
   have hlg7 : LogAt w8 lg' r' mi logTerm es' := (HLG6.out.below HB7.out).kept hk78 HLP.out.1 HLP.out.2.1 HLP.out.2.2
   have hk48 : Keeps (fun k => k = x.lg ∨ k = p) w4 w8 := (HK6.out.trans (Keeps.of_belowS HB7.out)).trans (hk78.mono fun k _ e => .inr e)
   have hsm8 : Sl intv w8 (.slice na mem.length nc) mem := HSM.out.kept hk78 fun k hk e => by have := HNM.out k hk; omega
   have hsd8 : Sl u8v w8 (.slice ua d.length uc) d := HSD.out.kept hk78 fun k hk e => by have := HND.out k hk; omega
   have hl6 := HLG6.out.lt
   have hr6 := HLG6.out.row_lt
   have hs46 := HK6.out.size
   obtain ⟨G8, h8, _, _⟩ := H4.out.reimg (y := { x with role := 0, lead := from_, pv := .pointer none, pl := none, tv := .pointer none, tr := none, since := 0, lg := lg', r := r', ix := mi, tm := logTerm, es := es', imv := .slice na mem.length nc, mem := mem, idv := .slice ua d.length uc, commit := mi, fresh := true }) hbx8 hk48 hlg7 HLN.out (fun k hk => .inr (HRN.out k hk)) HEI.out HOK6.out (fun e he => HR0.out.ok.2.2 e (HEI.out e he)) HLE6.out hsm8 (fun k hk => ⟨by have := HNM.out k hk; omega, by have := HNM.out k hk; show k ≠ lg'; omega, fun e => by have := HNM.out k hk; have := hr6 k e; omega⟩) hsd8 HDS0.out.2 (fun k hk => ⟨by have := HND.out k hk; omega, by have := HND.out k hk; show k ≠ lg'; omega, fun e => by have := HND.out k hk; have := hr6 k e; omega⟩) rfl rfl rfl rfl rfl rfl
   have H8 := hI h8
   have HX8 := hI hx8
   have HLS := hI (last_any w8 lg' r' mi logTerm es' hlg7 HOK6.out)
   clear hW8 hk78 hbx8 hx8 hpl6 hlg7 hk48 hsm8 hsd8 hl6 hr6 hs46 h8
   generalize mi + (es'.length : Int) = li at *
   generalize lT logTerm es' = lt at *
   refine HLS.out.mono ?_
   rintro en w9 ⟨rfl, hb9⟩
   have H9 := hI (H8.out.below hb9)
   have HX9 := hI (bH hb9 HX8.out (heap_lt HX8.out))
   have m20 : w9.cell? ⟨p, 20, none⟩ = some (.int .u64 x.stable) := H9.out.cell 20 rfl
   have fr20 := H9.out.free 20
   have mc4 : w9.cell? ⟨w.heap.size, 4, none⟩ = some (.int .u64 mi) := bC HX9.out 4 rfl
   have hp9 : p < w9.heap.size := H9.out.plt
   have hx9 : w.heap.size < w9.heap.size := heap_lt HX9.out
   clear hb9 HLS
   go_wp2_with fail
   by_cases h1 : x.stable < mi
   ·by_cases h2 : li < mi
    ·skip
     go_region
     have H10 := hI ((H9.out.set { x with role := 0, lead := from_, pv := .pointer none, pl := none, tv := .pointer none, tr := none, since := 0, lg := lg', r := r', ix := mi, tm := logTerm, es := es', imv := .slice na mem.length nc, mem := mem, idv := .slice ua d.length uc, commit := mi, fresh := true, stable := li } 20 (.int .u64 (li)) rfl rS).drew)
     have HX10 : Hid (((w9.setCell ⟨p, 20, none⟩ (.int .u64 (li))).drew).heap[w.heap.size]? = _) := hI (bO HX9.out (a := ⟨p, 20, none⟩) hpw (.int .u64 (li)))
     generalize (w9.setCell ⟨p, 20, none⟩ (.int .u64 (li))).drew = w10 at *
     obtain ⟨c0, c1, c2, c3, c4, c5, c6, c7, c8, c9, c10⟩ := b11 HX10.out
     obtain ⟨g1, Y, hA1, hac⟩ := install_law HG.out HN2.out HR0.out.ok.1 HMO.out HKK.out HMTT.out (by show (0 : Int) ≠ 2; decide) (by show (0 : Int) ≠ 3; decide) (by show x.commit < mi; omega) HMB.out HES.out 0 (lg := lg') (r' := r') (.slice na mem.length nc) (.slice ua d.length uc) true (li)
     have HA1 := hI (HA2.out.trans hA1)
     have HAC := hI hac
     clear hA1 hac
     have hms := HMSG.out.mv_ H10.out.mv
     have hte := tell_node w10 _ _ p _ H10.out.node H10.out.ml _ hms (by have := HL.out; show x.out.length ≤ 1000000; omega) 7 true mi
     unfold Msg.agg at hte
     have HTL := hI hte
     clear hms hte m20 mc4 fr20
     go_wp2_with fail
     refine HTL.out.mono ?_
     rintro en w11 ⟨rfl, v11, hn11⟩
     obtain ⟨G11, h11⟩ := H10.out.call hn11
     have H11 := hI h11.to
     clear hn11 h11 HTL
     go_wp2_with fail
     refine bE rfl rfl ?_
     have hA1 := HA1.out
     exact ⟨rfl, _, g1, Y, H11.out, (hA1.trans (j := 1) ⟨Grow.refl _ _, hA1.gok, hA1.nok.outs 0 v11 _, ⟨_, rfl, fun q hq => (by obtain rfl := List.mem_singleton.1 hq; exact hA1.nok.tells (.inr (.inr ⟨.inr rfl, fun _ => HAC.out⟩)) (by show 0 ≤ x.term; omega) (by show x.term ≤ (n : Int) + 1; omega) f1 f7 x0 xn), by simp⟩, ⟨rfl, rfl, rfl, rfl⟩⟩).mono nL (by omega)⟩
    ·skip
     go_region
     have H10 := hI ((H9.out.set { x with role := 0, lead := from_, pv := .pointer none, pl := none, tv := .pointer none, tr := none, since := 0, lg := lg', r := r', ix := mi, tm := logTerm, es := es', imv := .slice na mem.length nc, mem := mem, idv := .slice ua d.length uc, commit := mi, fresh := true, stable := mi } 20 (.int .u64 (mi)) rfl rS).drew)
     have HX10 : Hid (((w9.setCell ⟨p, 20, none⟩ (.int .u64 (mi))).drew).heap[w.heap.size]? = _) := hI (bO HX9.out (a := ⟨p, 20, none⟩) hpw (.int .u64 (mi)))
     generalize (w9.setCell ⟨p, 20, none⟩ (.int .u64 (mi))).drew = w10 at *
     obtain ⟨c0, c1, c2, c3, c4, c5, c6, c7, c8, c9, c10⟩ := b11 HX10.out
     obtain ⟨g1, Y, hA1, hac⟩ := install_law HG.out HN2.out HR0.out.ok.1 HMO.out HKK.out HMTT.out (by show (0 : Int) ≠ 2; decide) (by show (0 : Int) ≠ 3; decide) (by show x.commit < mi; omega) HMB.out HES.out 0 (lg := lg') (r' := r') (.slice na mem.length nc) (.slice ua d.length uc) true (mi)
     have HA1 := hI (HA2.out.trans hA1)
     have HAC := hI hac
     clear hA1 hac
     have hms := HMSG.out.mv_ H10.out.mv
     have hte := tell_node w10 _ _ p _ H10.out.node H10.out.ml _ hms (by have := HL.out; show x.out.length ≤ 1000000; omega) 7 true mi
     unfold Msg.agg at hte
     have HTL := hI hte
     clear hms hte m20 mc4 fr20
     go_wp2_with fail
     refine HTL.out.mono ?_
     rintro en w11 ⟨rfl, v11, hn11⟩
     obtain ⟨G11, h11⟩ := H10.out.call hn11
     have H11 := hI h11.to
     clear hn11 h11 HTL
     go_wp2_with fail
     refine bE rfl rfl ?_
     have hA1 := HA1.out
     exact ⟨rfl, _, g1, Y, H11.out, (hA1.trans (j := 1) ⟨Grow.refl _ _, hA1.gok, hA1.nok.outs 0 v11 _, ⟨_, rfl, fun q hq => (by obtain rfl := List.mem_singleton.1 hq; exact hA1.nok.tells (.inr (.inr ⟨.inr rfl, fun _ => HAC.out⟩)) (by show 0 ≤ x.term; omega) (by show x.term ≤ (n : Int) + 1; omega) f1 f7 x0 xn), by simp⟩, ⟨rfl, rfl, rfl, rfl⟩⟩).mono nL (by omega)⟩
   ·by_cases h2 : li < x.stable
    ·skip
     go_region
     have H10 := hI ((H9.out.set { x with role := 0, lead := from_, pv := .pointer none, pl := none, tv := .pointer none, tr := none, since := 0, lg := lg', r := r', ix := mi, tm := logTerm, es := es', imv := .slice na mem.length nc, mem := mem, idv := .slice ua d.length uc, commit := mi, fresh := true, stable := li } 20 (.int .u64 (li)) rfl rS).drew)
     have HX10 : Hid (((w9.setCell ⟨p, 20, none⟩ (.int .u64 (li))).drew).heap[w.heap.size]? = _) := hI (bO HX9.out (a := ⟨p, 20, none⟩) hpw (.int .u64 (li)))
     generalize (w9.setCell ⟨p, 20, none⟩ (.int .u64 (li))).drew = w10 at *
     obtain ⟨c0, c1, c2, c3, c4, c5, c6, c7, c8, c9, c10⟩ := b11 HX10.out
     obtain ⟨g1, Y, hA1, hac⟩ := install_law HG.out HN2.out HR0.out.ok.1 HMO.out HKK.out HMTT.out (by show (0 : Int) ≠ 2; decide) (by show (0 : Int) ≠ 3; decide) (by show x.commit < mi; omega) HMB.out HES.out 0 (lg := lg') (r' := r') (.slice na mem.length nc) (.slice ua d.length uc) true (li)
     have HA1 := hI (HA2.out.trans hA1)
     have HAC := hI hac
     clear hA1 hac
     have hms := HMSG.out.mv_ H10.out.mv
     have hte := tell_node w10 _ _ p _ H10.out.node H10.out.ml _ hms (by have := HL.out; show x.out.length ≤ 1000000; omega) 7 true mi
     unfold Msg.agg at hte
     have HTL := hI hte
     clear hms hte m20 mc4 fr20
     go_wp2_with fail
     refine HTL.out.mono ?_
     rintro en w11 ⟨rfl, v11, hn11⟩
     obtain ⟨G11, h11⟩ := H10.out.call hn11
     have H11 := hI h11.to
     clear hn11 h11 HTL
     go_wp2_with fail
     refine bE rfl rfl ?_
     have hA1 := HA1.out
     exact ⟨rfl, _, g1, Y, H11.out, (hA1.trans (j := 1) ⟨Grow.refl _ _, hA1.gok, hA1.nok.outs 0 v11 _, ⟨_, rfl, fun q hq => (by obtain rfl := List.mem_singleton.1 hq; exact hA1.nok.tells (.inr (.inr ⟨.inr rfl, fun _ => HAC.out⟩)) (by show 0 ≤ x.term; omega) (by show x.term ≤ (n : Int) + 1; omega) f1 f7 x0 xn), by simp⟩, ⟨rfl, rfl, rfl, rfl⟩⟩).mono nL (by omega)⟩
    ·skip
     go_region
     have H10 := hI ((H9.out.set { x with role := 0, lead := from_, pv := .pointer none, pl := none, tv := .pointer none, tr := none, since := 0, lg := lg', r := r', ix := mi, tm := logTerm, es := es', imv := .slice na mem.length nc, mem := mem, idv := .slice ua d.length uc, commit := mi, fresh := true, stable := x.stable } 20 (.int .u64 (x.stable)) rfl rS).drew)
     have HX10 : Hid (((w9.setCell ⟨p, 20, none⟩ (.int .u64 (x.stable))).drew).heap[w.heap.size]? = _) := hI (bO HX9.out (a := ⟨p, 20, none⟩) hpw (.int .u64 (x.stable)))
     generalize (w9.setCell ⟨p, 20, none⟩ (.int .u64 (x.stable))).drew = w10 at *
     obtain ⟨c0, c1, c2, c3, c4, c5, c6, c7, c8, c9, c10⟩ := b11 HX10.out
     obtain ⟨g1, Y, hA1, hac⟩ := install_law HG.out HN2.out HR0.out.ok.1 HMO.out HKK.out HMTT.out (by show (0 : Int) ≠ 2; decide) (by show (0 : Int) ≠ 3; decide) (by show x.commit < mi; omega) HMB.out HES.out 0 (lg := lg') (r' := r') (.slice na mem.length nc) (.slice ua d.length uc) true (x.stable)
     have HA1 := hI (HA2.out.trans hA1)
     have HAC := hI hac
     clear hA1 hac
     have hms := HMSG.out.mv_ H10.out.mv
     have hte := tell_node w10 _ _ p _ H10.out.node H10.out.ml _ hms (by have := HL.out; show x.out.length ≤ 1000000; omega) 7 true mi
     unfold Msg.agg at hte
     have HTL := hI hte
     clear hms hte m20 mc4 fr20
     go_wp2_with fail
     refine HTL.out.mono ?_
     rintro en w11 ⟨rfl, v11, hn11⟩
     obtain ⟨G11, h11⟩ := H10.out.call hn11
     have H11 := hI h11.to
     clear hn11 h11 HTL
     go_wp2_with fail
     refine bE rfl rfl ?_
     have hA1 := HA1.out
     exact ⟨rfl, _, g1, Y, H11.out, (hA1.trans (j := 1) ⟨Grow.refl _ _, hA1.gok, hA1.nok.outs 0 v11 _, ⟨_, rfl, fun q hq => (by obtain rfl := List.mem_singleton.1 hq; exact hA1.nok.tells (.inr (.inr ⟨.inr rfl, fun _ => HAC.out⟩)) (by show 0 ≤ x.term; omega) (by show x.term ≤ (n : Int) + 1; omega) f1 f7 x0 xn), by simp⟩, ⟨rfl, rfl, rfl, rfl⟩⟩).mono nL (by omega)⟩
  ·have q2 : (tc == 0) = false ∨ ((tc == 0) = true ∧ (tx == logTerm) = false) := by
    by_cases h1 : tc = 0
    ·right
     exact ⟨by simpa using h1, by simpa using fun h2 => hcut ⟨h1, h2⟩⟩
    ·left; simpa using h1
   have hti : termE x.ix x.tm x.es mi ≠ some logTerm := by
    rcases HTC.out with ⟨h1, h2⟩ | ⟨_, _, h2⟩
    ·rw [h2]; intro e; exact hcut ⟨h1, Option.some.inj e⟩
    ·rw [h2]; simp
   have HNW := hI (newlog_any w4 mi logTerm)
   have HTI := hI hti
   clear hcut hti
   have hl4 : p < w4.heap.size := H4.out.plt
   rcases q2 with q2 | ⟨q2, q3⟩
   all_goals
    go_wp2_with fail
    refine HNW.out.mono ?_
    rintro en w5 ⟨rfl, hlog, hb5⟩
    have hp5 := bH hb5 H4.out.node.box H4.out.plt
    have HX5 := hI (bH hb5 HX4.out (heap_lt HX4.out))
    have HP5 := hI hp5
    have HB5 := hI hb5
    have HLG5 := hI hlog
    have m9 : w5.cell? ⟨p, 9, none⟩ = some (.pointer (some ⟨x.lg, 0, none⟩)) := bC hp5 9 rfl
    have g9 := bF hp5 9
    have hpx : p ≠ w.heap.size := fun e => hpw e.symm
    obtain ⟨-, -, -, -, c4', c5', -, -, -, c9', c10'⟩ := b11 HX5.out
    have hp5l : p < w5.heap.size := heap_lt HP5.out
    have hx5l : w.heap.size < w5.heap.size := heap_lt HX5.out
    clear hp5 hb5 hlog c4 c5 n9 HNW
    go_wp2_with fail
    have hkp : Keeps (fun k => k = p) w5 (w5.setCell ⟨p, 9, none⟩ (.pointer (some ⟨w4.heap.size, 0, none⟩))) := (Keeps.refl (fun k => k = p) w5).setCell (p := ⟨p, 9, none⟩) (.inl rfl) _
    have HX6 : Hid ((w5.setCell ⟨p, 9, none⟩ (.pointer (some ⟨w4.heap.size, 0, none⟩))).heap[w.heap.size]? = _) := hI (bO HX5.out (a := ⟨p, 9, none⟩) hpw (.pointer (some ⟨w4.heap.size, 0, none⟩)))
    have HP6' : Hid ((w5.setCell ⟨p, 9, none⟩ (.pointer (some ⟨w4.heap.size, 0, none⟩))).heap[p]? = some (.cells (NodeS.cells { x with role := 0, lead := from_, pv := .pointer none, pl := none, tv := .pointer none, tr := none, since := 0, lg := w4.heap.size }) 74 (0, 0))) := hI (blk_set HP5.out 9 _)
    have HLG6' := hI (HLG5.out.kept hkp (show ¬ w4.heap.size = p by omega) (fun k hk => by cases hk) (fun e he => by cases he))
    have HK6 : Hid (Keeps (fun k => k = x.lg ∨ k = p) w4 (w5.setCell ⟨p, 9, none⟩ (.pointer (some ⟨w4.heap.size, 0, none⟩)))) := hI ((Keeps.of_belowS (S := fun k => k = x.lg ∨ k = p) HB5.out).trans (hkp.mono fun k _ e => .inr e))
    clear hkp m9 g9 c4' c5' c9' c10'
    generalize w5.setCell ⟨p, 9, none⟩ (.pointer (some ⟨w4.heap.size, 0, none⟩)) = w6 at *
    obtain ⟨lg', hlg'⟩ : ∃ lg', lg' = w4.heap.size := ⟨_, rfl⟩
    obtain ⟨r', hr'⟩ : ∃ r' : Option Nat, r' = none := ⟨_, rfl⟩
    obtain ⟨es', hes'⟩ : ∃ es' : List Ent, es' = [] := ⟨_, rfl⟩
    have HLG6 : Hid (LogAt w6 lg' r' mi logTerm es') := hI (by rw [hr', hes', hlg']; exact HLG6'.out)
    have HP6 : Hid (w6.heap[p]? = some (.cells (NodeS.cells { x with role := 0, lead := from_, pv := .pointer none, pl := none, tv := .pointer none, tr := none, since := 0, lg := lg' }) 74 (0, 0))) := hI (by rw [hlg']; exact HP6'.out)
    have HRN : Hid (∀ k, r' = some k → w4.heap.size ≤ k) := hI (by rw [hr']; intro k hk; cases hk)
    have HLN : Hid (lg' = x.lg ∨ w4.heap.size ≤ lg') := hI (.inr (by rw [hlg']; exact Nat.le_refl _))
    have HEI : Hid (∀ e ∈ es', e ∈ x.es) := hI (by rw [hes']; intro e he; cases he)
    have HES : Hid ((termE x.ix x.tm x.es mi = some logTerm ∧ es' = x.es.drop (mi - x.ix).toNat) ∨ (termE x.ix x.tm x.es mi ≠ some logTerm ∧ es' = [])) := hI (.inr ⟨HTI.out, hes'⟩)
    have HOK6 : Hid (LogOk mi logTerm es') := hI (by rw [hes']; exact LogOk.base x0 (by omega) l0' (by omega))
    have HLE6 : Hid (es'.length ≤ 1024) := hI (by rw [hes']; simp)
    have HMS6 := hI (HMS4.out.kept HK6.out HIM.out)
    have HDS6 := hI (HDS4.out.kept HK6.out HID.out)
    have HLP : Hid (¬ lg' = p ∧ (∀ k, r' = some k → ¬ k = p) ∧ ∀ e ∈ es', ∀ k, e.v.ownBlock = some k → ¬ k = p) := hI (by
      rw [hlg', hr', hes']
      exact ⟨by omega, (fun k hk => by cases hk), (fun e he => by cases he)⟩)
    clear HP6' HLG6' hlg' hr' hes'
    obtain ⟨-, -, -, -, c4, c5, -, -, -, c9, c10⟩ := b11 HX6.out
    have HCL := hI (clone_img w6 mi logTerm ma mc mem HMS6.out (by omega) da dc d HDS6.out (by have := HDS0.out.2; omega))
    refine HCL.out.mono ?_
    rintro en w7 ⟨na, nc, ua, uc, rfl, hb7, hsm, hsd, hnm, hnd⟩
    have HB7 := hI hb7
    have HSM := hI hsm
    have HSD := hI hsd
    have HNM := hI hnm
    have HND := hI hnd
    have HP7 := hI (bH hb7 HP6.out (heap_lt HP6.out))
    have HX7 := hI (bH hb7 HX6.out (heap_lt HX6.out))
    clear hb7 hsm hsd hnm hnd HCL c4 c5 c9 c10
    have z10 := bC HP7.out 10 rfl
    have z11 := bC HP7.out 11 rfl
    have z12 := bC HP7.out 12 rfl
    have z13 := bC HP7.out 13 rfl
    have z14 := bC HP7.out 14 rfl
    have z19 := bC HP7.out 19 rfl
    have z9 := bC HP7.out 9 rfl
    have y10 := bF HP7.out 10
    have y11 := bF HP7.out 11
    have y12 := bF HP7.out 12
    have y13 := bF HP7.out 13
    have y14 := bF HP7.out 14
    have y19 := bF HP7.out 19
    have x4 : w7.cell? ⟨w.heap.size, 4, none⟩ = some (.int .u64 mi) := bC HX7.out 4 rfl
    have hp7 : p < w7.heap.size := heap_lt HP7.out
    have hx7 : w.heap.size < w7.heap.size := heap_lt HX7.out
    simp only [NodeS.cells] at z9 z10 z11 z12 z13 z14 z19
    go_wp2_with fail
    obtain ⟨w8, hW8⟩ : ∃ W, W = ((((((w7.setCell ⟨p, 10, none⟩ (.int .u64 mi)).setCell ⟨p, 11, none⟩ (.int .u64 logTerm)).setCell ⟨p, 12, none⟩ (.slice na mem.length nc)).setCell ⟨p, 13, none⟩ (.slice ua d.length uc)).setCell ⟨p, 14, none⟩ (.int .u64 mi)).setCell ⟨p, 19, none⟩ (.bool true)) := ⟨_, rfl⟩
    rw [← hW8]
    clear z9 z10 z11 z12 z13 z14 z19 y10 y11 y12 y13 y14 y19 x4 hp7 hx7
    have hk78 : Keeps (fun k => k = p) w7 w8 := by
     rw [hW8]
     exact ((((((Keeps.refl (fun k => k = p) w7).setCell (.inl rfl) _).setCell (.inl rfl) _).setCell (.inl rfl) _).setCell (.inl rfl) _).setCell (.inl rfl) _).setCell (.inl rfl) _
    have hbx8 : w8.heap[p]? = some (.cells (NodeS.cells { x with role := 0, lead := from_, pv := .pointer none, pl := none, tv := .pointer none, tr := none, since := 0, lg := lg', r := r', ix := mi, tm := logTerm, es := es', imv := .slice na mem.length nc, mem := mem, idv := .slice ua d.length uc, commit := mi, fresh := true }) 74 (0, 0)) := by
     rw [hW8]
     exact blk_set (blk_set (blk_set (blk_set (blk_set (blk_set HP7.out 10 _) 11 _) 12 _) 13 _) 14 _) 19 _
    have hx8 : w8.heap[w.heap.size]? = _ := hk78.heap hpw HX7.out
    have hpl6 : p < w6.heap.size := heap_lt HP6.out
    have hlg7 : LogAt w8 lg' r' mi logTerm es' := (HLG6.out.below HB7.out).kept hk78 HLP.out.1 HLP.out.2.1 HLP.out.2.2
    have hk48 : Keeps (fun k => k = x.lg ∨ k = p) w4 w8 := (HK6.out.trans (Keeps.of_belowS HB7.out)).trans (hk78.mono fun k _ e => .inr e)
    have hsm8 : Sl intv w8 (.slice na mem.length nc) mem := HSM.out.kept hk78 fun k hk e => by have := HNM.out k hk; omega
    have hsd8 : Sl u8v w8 (.slice ua d.length uc) d := HSD.out.kept hk78 fun k hk e => by have := HND.out k hk; omega
    have hl6 := HLG6.out.lt
    have hr6 := HLG6.out.row_lt
    have hs46 := HK6.out.size
    obtain ⟨G8, h8, _, _⟩ := H4.out.reimg (y := { x with role := 0, lead := from_, pv := .pointer none, pl := none, tv := .pointer none, tr := none, since := 0, lg := lg', r := r', ix := mi, tm := logTerm, es := es', imv := .slice na mem.length nc, mem := mem, idv := .slice ua d.length uc, commit := mi, fresh := true }) hbx8 hk48 hlg7 HLN.out (fun k hk => .inr (HRN.out k hk)) HEI.out HOK6.out (fun e he => HR0.out.ok.2.2 e (HEI.out e he)) HLE6.out hsm8 (fun k hk => ⟨by have := HNM.out k hk; omega, by have := HNM.out k hk; show k ≠ lg'; omega, fun e => by have := HNM.out k hk; have := hr6 k e; omega⟩) hsd8 HDS0.out.2 (fun k hk => ⟨by have := HND.out k hk; omega, by have := HND.out k hk; show k ≠ lg'; omega, fun e => by have := HND.out k hk; have := hr6 k e; omega⟩) rfl rfl rfl rfl rfl rfl
    have H8 := hI h8
    have HX8 := hI hx8
    have HLS := hI (last_any w8 lg' r' mi logTerm es' hlg7 HOK6.out)
    clear hW8 hk78 hbx8 hx8 hpl6 hlg7 hk48 hsm8 hsd8 hl6 hr6 hs46 h8
    generalize mi + (es'.length : Int) = li at *
    generalize lT logTerm es' = lt at *
    refine HLS.out.mono ?_
    rintro en w9 ⟨rfl, hb9⟩
    have H9 := hI (H8.out.below hb9)
    have HX9 := hI (bH hb9 HX8.out (heap_lt HX8.out))
    have m20 : w9.cell? ⟨p, 20, none⟩ = some (.int .u64 x.stable) := H9.out.cell 20 rfl
    have fr20 := H9.out.free 20
    have mc4 : w9.cell? ⟨w.heap.size, 4, none⟩ = some (.int .u64 mi) := bC HX9.out 4 rfl
    have hp9 : p < w9.heap.size := H9.out.plt
    have hx9 : w.heap.size < w9.heap.size := heap_lt HX9.out
    clear hb9 HLS
    go_wp2_with fail
    by_cases h1 : x.stable < mi
    ·by_cases h2 : li < mi
     ·skip
      go_region
      have H10 := hI ((H9.out.set { x with role := 0, lead := from_, pv := .pointer none, pl := none, tv := .pointer none, tr := none, since := 0, lg := lg', r := r', ix := mi, tm := logTerm, es := es', imv := .slice na mem.length nc, mem := mem, idv := .slice ua d.length uc, commit := mi, fresh := true, stable := li } 20 (.int .u64 (li)) rfl rS).drew)
      have HX10 : Hid (((w9.setCell ⟨p, 20, none⟩ (.int .u64 (li))).drew).heap[w.heap.size]? = _) := hI (bO HX9.out (a := ⟨p, 20, none⟩) hpw (.int .u64 (li)))
      generalize (w9.setCell ⟨p, 20, none⟩ (.int .u64 (li))).drew = w10 at *
      obtain ⟨c0, c1, c2, c3, c4, c5, c6, c7, c8, c9, c10⟩ := b11 HX10.out
      obtain ⟨g1, Y, hA1, hac⟩ := install_law HG.out HN2.out HR0.out.ok.1 HMO.out HKK.out HMTT.out (by show (0 : Int) ≠ 2; decide) (by show (0 : Int) ≠ 3; decide) (by show x.commit < mi; omega) HMB.out HES.out 0 (lg := lg') (r' := r') (.slice na mem.length nc) (.slice ua d.length uc) true (li)
      have HA1 := hI (HA2.out.trans hA1)
      have HAC := hI hac
      clear hA1 hac
      have hms := HMSG.out.mv_ H10.out.mv
      have hte := tell_node w10 _ _ p _ H10.out.node H10.out.ml _ hms (by have := HL.out; show x.out.length ≤ 1000000; omega) 7 true mi
      unfold Msg.agg at hte
      have HTL := hI hte
      clear hms hte m20 mc4 fr20
      go_wp2_with fail
      refine HTL.out.mono ?_
      rintro en w11 ⟨rfl, v11, hn11⟩
      obtain ⟨G11, h11⟩ := H10.out.call hn11
      have H11 := hI h11.to
      clear hn11 h11 HTL
      go_wp2_with fail
      refine bE rfl rfl ?_
      have hA1 := HA1.out
      exact ⟨rfl, _, g1, Y, H11.out, (hA1.trans (j := 1) ⟨Grow.refl _ _, hA1.gok, hA1.nok.outs 0 v11 _, ⟨_, rfl, fun q hq => (by obtain rfl := List.mem_singleton.1 hq; exact hA1.nok.tells (.inr (.inr ⟨.inr rfl, fun _ => HAC.out⟩)) (by show 0 ≤ x.term; omega) (by show x.term ≤ (n : Int) + 1; omega) f1 f7 x0 xn), by simp⟩, ⟨rfl, rfl, rfl, rfl⟩⟩).mono nL (by omega)⟩
     ·skip
      go_region
      have H10 := hI ((H9.out.set { x with role := 0, lead := from_, pv := .pointer none, pl := none, tv := .pointer none, tr := none, since := 0, lg := lg', r := r', ix := mi, tm := logTerm, es := es', imv := .slice na mem.length nc, mem := mem, idv := .slice ua d.length uc, commit := mi, fresh := true, stable := mi } 20 (.int .u64 (mi)) rfl rS).drew)
      have HX10 : Hid (((w9.setCell ⟨p, 20, none⟩ (.int .u64 (mi))).drew).heap[w.heap.size]? = _) := hI (bO HX9.out (a := ⟨p, 20, none⟩) hpw (.int .u64 (mi)))
      generalize (w9.setCell ⟨p, 20, none⟩ (.int .u64 (mi))).drew = w10 at *
      obtain ⟨c0, c1, c2, c3, c4, c5, c6, c7, c8, c9, c10⟩ := b11 HX10.out
      obtain ⟨g1, Y, hA1, hac⟩ := install_law HG.out HN2.out HR0.out.ok.1 HMO.out HKK.out HMTT.out (by show (0 : Int) ≠ 2; decide) (by show (0 : Int) ≠ 3; decide) (by show x.commit < mi; omega) HMB.out HES.out 0 (lg := lg') (r' := r') (.slice na mem.length nc) (.slice ua d.length uc) true (mi)
      have HA1 := hI (HA2.out.trans hA1)
      have HAC := hI hac
      clear hA1 hac
      have hms := HMSG.out.mv_ H10.out.mv
      have hte := tell_node w10 _ _ p _ H10.out.node H10.out.ml _ hms (by have := HL.out; show x.out.length ≤ 1000000; omega) 7 true mi
      unfold Msg.agg at hte
      have HTL := hI hte
      clear hms hte m20 mc4 fr20
      go_wp2_with fail
      refine HTL.out.mono ?_
      rintro en w11 ⟨rfl, v11, hn11⟩
      obtain ⟨G11, h11⟩ := H10.out.call hn11
      have H11 := hI h11.to
      clear hn11 h11 HTL
      go_wp2_with fail
      refine bE rfl rfl ?_
      have hA1 := HA1.out
      exact ⟨rfl, _, g1, Y, H11.out, (hA1.trans (j := 1) ⟨Grow.refl _ _, hA1.gok, hA1.nok.outs 0 v11 _, ⟨_, rfl, fun q hq => (by obtain rfl := List.mem_singleton.1 hq; exact hA1.nok.tells (.inr (.inr ⟨.inr rfl, fun _ => HAC.out⟩)) (by show 0 ≤ x.term; omega) (by show x.term ≤ (n : Int) + 1; omega) f1 f7 x0 xn), by simp⟩, ⟨rfl, rfl, rfl, rfl⟩⟩).mono nL (by omega)⟩
    ·by_cases h2 : li < x.stable
     ·skip
      go_region
      have H10 := hI ((H9.out.set { x with role := 0, lead := from_, pv := .pointer none, pl := none, tv := .pointer none, tr := none, since := 0, lg := lg', r := r', ix := mi, tm := logTerm, es := es', imv := .slice na mem.length nc, mem := mem, idv := .slice ua d.length uc, commit := mi, fresh := true, stable := li } 20 (.int .u64 (li)) rfl rS).drew)
      have HX10 : Hid (((w9.setCell ⟨p, 20, none⟩ (.int .u64 (li))).drew).heap[w.heap.size]? = _) := hI (bO HX9.out (a := ⟨p, 20, none⟩) hpw (.int .u64 (li)))
      generalize (w9.setCell ⟨p, 20, none⟩ (.int .u64 (li))).drew = w10 at *
      obtain ⟨c0, c1, c2, c3, c4, c5, c6, c7, c8, c9, c10⟩ := b11 HX10.out
      obtain ⟨g1, Y, hA1, hac⟩ := install_law HG.out HN2.out HR0.out.ok.1 HMO.out HKK.out HMTT.out (by show (0 : Int) ≠ 2; decide) (by show (0 : Int) ≠ 3; decide) (by show x.commit < mi; omega) HMB.out HES.out 0 (lg := lg') (r' := r') (.slice na mem.length nc) (.slice ua d.length uc) true (li)
      have HA1 := hI (HA2.out.trans hA1)
      have HAC := hI hac
      clear hA1 hac
      have hms := HMSG.out.mv_ H10.out.mv
      have hte := tell_node w10 _ _ p _ H10.out.node H10.out.ml _ hms (by have := HL.out; show x.out.length ≤ 1000000; omega) 7 true mi
      unfold Msg.agg at hte
      have HTL := hI hte
      clear hms hte m20 mc4 fr20
      go_wp2_with fail
      refine HTL.out.mono ?_
      rintro en w11 ⟨rfl, v11, hn11⟩
      obtain ⟨G11, h11⟩ := H10.out.call hn11
      have H11 := hI h11.to
      clear hn11 h11 HTL
      go_wp2_with fail
      refine bE rfl rfl ?_
      have hA1 := HA1.out
      exact ⟨rfl, _, g1, Y, H11.out, (hA1.trans (j := 1) ⟨Grow.refl _ _, hA1.gok, hA1.nok.outs 0 v11 _, ⟨_, rfl, fun q hq => (by obtain rfl := List.mem_singleton.1 hq; exact hA1.nok.tells (.inr (.inr ⟨.inr rfl, fun _ => HAC.out⟩)) (by show 0 ≤ x.term; omega) (by show x.term ≤ (n : Int) + 1; omega) f1 f7 x0 xn), by simp⟩, ⟨rfl, rfl, rfl, rfl⟩⟩).mono nL (by omega)⟩
     ·skip
      go_region
      have H10 := hI ((H9.out.set { x with role := 0, lead := from_, pv := .pointer none, pl := none, tv := .pointer none, tr := none, since := 0, lg := lg', r := r', ix := mi, tm := logTerm, es := es', imv := .slice na mem.length nc, mem := mem, idv := .slice ua d.length uc, commit := mi, fresh := true, stable := x.stable } 20 (.int .u64 (x.stable)) rfl rS).drew)
      have HX10 : Hid (((w9.setCell ⟨p, 20, none⟩ (.int .u64 (x.stable))).drew).heap[w.heap.size]? = _) := hI (bO HX9.out (a := ⟨p, 20, none⟩) hpw (.int .u64 (x.stable)))
      generalize (w9.setCell ⟨p, 20, none⟩ (.int .u64 (x.stable))).drew = w10 at *
      obtain ⟨c0, c1, c2, c3, c4, c5, c6, c7, c8, c9, c10⟩ := b11 HX10.out
      obtain ⟨g1, Y, hA1, hac⟩ := install_law HG.out HN2.out HR0.out.ok.1 HMO.out HKK.out HMTT.out (by show (0 : Int) ≠ 2; decide) (by show (0 : Int) ≠ 3; decide) (by show x.commit < mi; omega) HMB.out HES.out 0 (lg := lg') (r' := r') (.slice na mem.length nc) (.slice ua d.length uc) true (x.stable)
      have HA1 := hI (HA2.out.trans hA1)
      have HAC := hI hac
      clear hA1 hac
      have hms := HMSG.out.mv_ H10.out.mv
      have hte := tell_node w10 _ _ p _ H10.out.node H10.out.ml _ hms (by have := HL.out; show x.out.length ≤ 1000000; omega) 7 true mi
      unfold Msg.agg at hte
      have HTL := hI hte
      clear hms hte m20 mc4 fr20
      go_wp2_with fail
      refine HTL.out.mono ?_
      rintro en w11 ⟨rfl, v11, hn11⟩
      obtain ⟨G11, h11⟩ := H10.out.call hn11
      have H11 := hI h11.to
      clear hn11 h11 HTL
      go_wp2_with fail
      refine bE rfl rfl ?_
      have hA1 := HA1.out
      exact ⟨rfl, _, g1, Y, H11.out, (hA1.trans (j := 1) ⟨Grow.refl _ _, hA1.gok, hA1.nok.outs 0 v11 _, ⟨_, rfl, fun q hq => (by obtain rfl := List.mem_singleton.1 hq; exact hA1.nok.tells (.inr (.inr ⟨.inr rfl, fun _ => HAC.out⟩)) (by show 0 ≤ x.term; omega) (by show x.term ≤ (n : Int) + 1; omega) f1 f7 x0 xn), by simp⟩, ⟨rfl, rfl, rfl, rfl⟩⟩).mono nL (by omega)⟩
end Go.Proofs.YtdjooojpcepleaaGreat

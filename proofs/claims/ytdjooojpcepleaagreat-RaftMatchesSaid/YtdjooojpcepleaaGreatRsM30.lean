/- raft, any node: Step: a message comes. -/
import Derived.Test.YtdjooojpcepleaaGreatRsM29

namespace Go.Proofs.YtdjooojpcepleaaGreat
open Go.RowKit
open Go.«Sort» (grow)
set_option maxRecDepth 100000 in
set_option maxHeartbeats 16000000 in
theorem step_node (w : World) (M F : Nat → Prop) (p : Nat) (x : NodeS) (h : NodeAt w M F p x) (hM : ∀ k, M k → k < w.heap.size) (hl : x.out.length ≤ 800000) (C0 : List Int) (g : Gh En) (n N : Nat) (X : List En) (hnN : N = n + 1) (hg0 : OkG C0 g n) (hN0 : OkN C0 g n x X) (hn6 : N ≤ 1000) (m : Msg) (hm : MsgOk w M m) (hmo0 : OkM C0 g n m) (hto : m.to_ = x.id) :
  Calls Tryz.prog 16 #[.pointer (some ⟨p, 0, none⟩), m.agg] w (TickR C0 g N w M F p x) := by
 have hg : OkG C0 g N := hg0.mono (by omega)
 have hN : OkN C0 g N x X := hN0.mono (by omega)
 have hmo : OkM C0 g N m := hmo0.mono (by omega)
 have hXn : X.length + 1 ≤ N := by have := hN0.len; omega
 have htn1 : x.term + 1 ≤ N := by have := hN0.tn; omega
 have hmtn : m.term ≤ N := by have := hmo0.tn; omega
 have hmk0 := hmo.k0
 have hmk7 := hmo.k7
 have hel := hmo.el
 have x0 := hmo.x0
 have xn := hmo.xn
 have HMSG := hI hm
 have HMO := hI hmo
 have HTO := hI hto
 have hri := fun W (hW : Below w.heap.size w W) => right_node W M F p x (h.below hW) (fun k hk => Nat.lt_of_lt_of_le (hM k hk) hW.size) m (hm.mv_ (Mv.below M hW)) hmk0 hmk7 hmo.f1 hmo.f7 hto hmo.t0 (by omega) x0 (by omega) (by omega)
 clear hg0 hN0 hmo0 hnN
 have t0 := hmo.t0
 have f1 := hmo.f1
 have f7 := hmo.f7
 have hR0 := Rn.start h hM
 obtain ⟨_, _, ea, ec, hev, _⟩ := hm.ents
 obtain ⟨ma, mc, hmv, _⟩ := hm.mem
 obtain ⟨d, hd, _⟩ := hm.data
 obtain ⟨da, dc, hdv, _⟩ := hd
 obtain ⟨mk, from_, to_, term, mi, logTerm, commit, my, ev, mv, dv, es, mem⟩ := m
 simp only at hev hmv hdv
 subst hev hmv hdv
 have hpl := h.plt
 obtain ⟨Wm, hX⟩ : ∃ Wm, Wm = w.alloc (.cells #[.int .i64 mk, .int .i64 from_, .int .i64 to_, .int .u64 term, .int .u64 mi, .int .u64 logTerm, .int .u64 commit, .bool my, .slice ea es.length ec, .slice ma mem.length mc, .slice da d.length dc] 54) := ⟨_, rfl⟩
 have hbX : Below w.heap.size w Wm := by rw [hX]; exact bR.alloc nL _
 have HXX : Hid (Wm.heap[w.heap.size]? = some (.cells #[.int .i64 mk, .int .i64 from_, .int .i64 to_, .int .u64 term, .int .u64 mi, .int .u64 logTerm, .int .u64 commit, .bool my, .slice ea es.length ec, .slice ma mem.length mc, .slice da d.length dc] 54 (0, 0))) := hI (by rw [hX]; exact bW w _)
 have HRX := hI (hR0.below hbX)
 have HBX := hI hbX
 have HN := hI hN
 have HG := hI hg
 have HL := hI hl
 have HXN := hI hXn
 have ht0 := hN.t0
 have htn0 := hN.tn
 obtain ⟨pq, hpq⟩ := hR0.pvp
 have HPQ := hI hpq
 simp only at *
 have HTN := hI htn1
 have HMTN := hI hmtn
 have hfx : ¬ F w.heap.size := fun e => absurd (hR0.glt _ e) (Nat.lt_irrefl _)
 have HGB := hI hfx
 have HR0 := hI hR0
 have HRI := hI (hri Wm hbX)
 have hkk : mk = 0 ∨ mk = 1 ∨ mk = 2 ∨ mk = 3 ∨ mk = 4 ∨ mk = 5 ∨ mk = 6 ∨ mk = 7 := by omega
 clear h hM hl hg hN hm hmo hR0 hbX hXn hpq hfx hto hri hmk0 hmk7 htn1 hmtn hel
 unfold Msg.agg at HRI
 unfold Msg.agg
 go_enter Tryz.func16, Tryz.ntmps16
 go_wp2_with fail
 rw [← hX]
 clear hX
 refine HRI.out.mono ?_
 rintro en w1 ⟨b, rfl, hb1, hb⟩
 have HB := hI hb
 have HR1 := hI (HRX.out.below hb1)
 have HX1 := hI (bH hb1 HXX.out (heap_lt HXX.out))
 clear hb1 hb HRI
 cases b
 ·go_wp2_with fail
  first
   | refine bT rfl rfl ?_
   | refine bE rfl rfl ?_
  exact ⟨rfl, _, g, X, HR1.out.to, (Acts.own HG.out HN.out rfl (Stay.refl x)).mono nL (by omega)⟩
 ·obtain ⟨hfi, h6⟩ := HB.out rfl
  have HFI := hI hfi
  have H6 := hI h6
  clear hfi h6 HB
  rcases hkk with rfl | rfl | rfl | rfl | rfl | rfl | rfl | rfl
  ·skip
   obtain ⟨c0, c1, c2, c3, c4, c5, c6, c7, c8, c9, c10⟩ := b11 HX1.out
   have HH := hI (askPre_node w1 _ _ p _ HR1.out.node HR1.out.ml (HL.out) C0 g N X HG.out HN.out _ (HMSG.out.mv_ HR1.out.mv) HMO.out)
   unfold Msg.agg at HH
   go_wp2_with fail
   refine HH.out.mono ?_
   rintro en w5 ⟨rfl, y, g5, Y5, hn5, hA5⟩
   obtain ⟨G5, h5⟩ := HR1.out.call hn5
   have H5 := hI h5.to
   have HA5 := hI hA5
   clear hn5 hA5 h5 HH
   go_wp2_with fail
   first
    | refine bT rfl rfl ?_
    | refine bE rfl rfl ?_
   exact ⟨rfl, y, g5, Y5, H5.out, HA5.out.mono nL (by omega)⟩
  ·skip
   obtain ⟨c0, c1, c2, c3, c4, c5, c6, c7, c8, c9, c10⟩ := b11 HX1.out
   have HH := hI (tellPre_node w1 _ _ p _ HR1.out.node HR1.out.ml (HL.out) C0 g N X HG.out HN.out hn6 HXN.out _ (HMSG.out.mv_ HR1.out.mv) HMO.out HTN.out HMTN.out)
   unfold Msg.agg at HH
   go_wp2_with fail
   refine HH.out.mono ?_
   rintro en w5 ⟨rfl, y, g5, Y5, hn5, hA5⟩
   obtain ⟨G5, h5⟩ := HR1.out.call hn5
   have H5 := hI h5.to
   have HA5 := hI hA5
   clear hn5 hA5 h5 HH
   go_wp2_with fail
   first
    | refine bT rfl rfl ?_
    | refine bE rfl rfl ?_
   exact ⟨rfl, y, g5, Y5, H5.out, HA5.out.mono nL (by omega)⟩
  ·skip
   obtain ⟨c0, -, -, c3, -, -, -, -, -, -, -⟩ := b11 HX1.out
   have n4 : w1.cell? ⟨p, 4, none⟩ = some (.int .u64 x.term) := HR1.out.cell 4 rfl
   by_cases hgt : x.term < term
   ·have q1 : decide (x.term < term) = true := by simpa using hgt
    have HGT := hI hgt
    clear hgt
    go_wp2_with fail
    go_quiet (fail)
    have HR2 := hI (HR1.out.drewN nq)
    have HX2 : Hid ((w1.drewN nq).heap[w.heap.size]? = _) := hI HX1.out
    generalize w1.drewN nq = w2 at *
    clear c0 c3 n4 q1
    have c3 : w2.cell? ⟨w.heap.size, 3, none⟩ = some (.int .u64 term) := bC HX2.out 3 rfl
    have HFO := hI (follow_node w2 _ _ p _ HR2.out.node HR2.out.ml term 0)
    go_wp2_with fail
    refine HFO.out.mono ?_
    rintro en w3 ⟨rfl, hn3⟩
    obtain ⟨G3, h3, hk3, _, _⟩ := HR2.out.callK hn3
    have HX3 := hI (hk3.heap HGB.out HX2.out)
    have HA0 : Hid (Acts C0 g N 0 x g (x.folB term 0) X) := hI (Acts.own HG.out (HN.out.folB (Int.le_of_lt HGT.out) HMTN.out 0) (folB_out _ _ _) (folB_stay _ _ _))
    obtain ⟨x1, hx1⟩ : ∃ x1, x1 = x.folB term 0 := ⟨_, rfl⟩
    have HT1 : Hid (x1.term = term) := hI (by rw [hx1]; unfold NodeS.folB; rw [if_pos HGT.out])
    rw [← hx1] at h3
    have HA1 : Hid (Acts C0 g N 0 x g x1 X) := hI (by rw [hx1]; exact HA0.out)
    have HO1 : Hid (x1.out = x.out) := hI (by rw [hx1]; exact folB_out _ _ _)
    have HI1 : Hid (x1.id = x.id) := hI (HA1.out.stay.id)
    have HN1 : Hid (OkN C0 g N x1 X) := hI HA1.out.nok
    have H3 := hI h3
    clear hn3 h3 hk3 hx1 HA0 HFO c3
    obtain ⟨ec0, ec1, ec2, ec3, ec4, ec5, ec6, ec7, ec8, ec9, ec10⟩ := b11 HX3.out
    have en6 : w3.cell? ⟨p, 6, none⟩ = some (.int .i64 x1.role) := H3.out.cell 6 rfl
    have HH := hI (askVote_node w3 _ _ p _ H3.out.node H3.out.ml (by rw [HO1.out]; exact HL.out) C0 g N X HG.out HN1.out hn6 HXN.out _ (HMSG.out.mv_ H3.out.mv) HMO.out rfl HT1.out.symm (by rw [HI1.out]; exact HFI.out))
    unfold Msg.agg at HH
    go_wp2_with fail
    refine HH.out.mono ?_
    rintro en w5 ⟨rfl, y, g5, Y5, hn5, hA5⟩
    obtain ⟨G5, h5⟩ := H3.out.call hn5
    have H5 := hI h5.to
    have HA5 := hI hA5
    clear hn5 hA5 h5 HH
    go_wp2_with fail
    first
     | refine bT rfl rfl ?_
     | refine bE rfl rfl ?_
    exact ⟨rfl, y, g5, Y5, H5.out, (HA1.out.trans HA5.out).mono nL (by omega)⟩
   ·have q1 : decide (x.term < term) = false := by simpa using hgt
    by_cases hlt : term < x.term
    ·have q2 : decide (term < x.term) = true := by simpa using hlt
     clear hgt hlt
     go_wp2_with fail
     go_quiet (fail)
     have HR2 := hI (HR1.out.drewN nq)
     have HX2 : Hid ((w1.drewN nq).heap[w.heap.size]? = _) := hI HX1.out
     generalize w1.drewN nq = w2 at *
     clear c0 c3 n4 q1
     have c3 : w2.cell? ⟨w.heap.size, 3, none⟩ = some (.int .u64 term) := bC HX2.out 3 rfl
     have n4 : w2.cell? ⟨p, 4, none⟩ = some (.int .u64 x.term) := HR2.out.cell 4 rfl
     go_wp2_with fail
     go_quiet (fail)
     have HR3 := hI (HR2.out.drewN nq)
     have HX3 : Hid ((w2.drewN nq).heap[w.heap.size]? = _) := hI HX2.out
     generalize w2.drewN nq = w3 at *
     clear c3 n4 q2
     go_wp2_with fail
     first
      | refine bT rfl rfl ?_
      | refine bE rfl rfl ?_
     exact ⟨rfl, _, g, X, HR3.out.to, (Acts.own HG.out HN.out rfl (Stay.refl x)).mono nL (by omega)⟩
    ·have q2 : decide (term < x.term) = false := by simpa using hlt
     have HT1 : Hid (x.term = term) := hI (by omega)
     clear hgt hlt
     go_wp2_with fail
     go_quiet (fail)
     have HR2 := hI (HR1.out.drewN nq)
     have HX2 : Hid ((w1.drewN nq).heap[w.heap.size]? = _) := hI HX1.out
     generalize w1.drewN nq = w2 at *
     clear c0 c3 n4 q1
     have c3 : w2.cell? ⟨w.heap.size, 3, none⟩ = some (.int .u64 term) := bC HX2.out 3 rfl
     have n4 : w2.cell? ⟨p, 4, none⟩ = some (.int .u64 x.term) := HR2.out.cell 4 rfl
     go_wp2_with fail
     go_quiet (fail)
     have H3 := hI (HR2.out.drewN nq)
     have HX3 : Hid ((w2.drewN nq).heap[w.heap.size]? = _) := hI HX2.out
     generalize w2.drewN nq = w3 at *
     clear c3 n4 q2
     have HA1 : Hid (Acts C0 g N 0 x g x X) := hI (Acts.own HG.out HN.out rfl (Stay.refl x))
     have HO1 : Hid (x.out = x.out) := hI rfl
     have HI1 : Hid (x.id = x.id) := hI rfl
     have HN1 : Hid (OkN C0 g N x X) := HN
     obtain ⟨ec0, ec1, ec2, ec3, ec4, ec5, ec6, ec7, ec8, ec9, ec10⟩ := b11 HX3.out
     have en6 : w3.cell? ⟨p, 6, none⟩ = some (.int .i64 x.role) := H3.out.cell 6 rfl
     have HH := hI (askVote_node w3 _ _ p _ H3.out.node H3.out.ml (by rw [HO1.out]; exact HL.out) C0 g N X HG.out HN1.out hn6 HXN.out _ (HMSG.out.mv_ H3.out.mv) HMO.out rfl HT1.out.symm (by rw [HI1.out]; exact HFI.out))
     unfold Msg.agg at HH
     go_wp2_with fail
     refine HH.out.mono ?_
     rintro en w5 ⟨rfl, y, g5, Y5, hn5, hA5⟩
     obtain ⟨G5, h5⟩ := H3.out.call hn5
     have H5 := hI h5.to
     have HA5 := hI hA5
     clear hn5 hA5 h5 HH
     go_wp2_with fail
     first
      | refine bT rfl rfl ?_
      | refine bE rfl rfl ?_
     exact ⟨rfl, y, g5, Y5, H5.out, (HA1.out.trans HA5.out).mono nL (by omega)⟩
  ·skip
   obtain ⟨c0, -, -, c3, -, -, -, -, -, -, -⟩ := b11 HX1.out
   have n4 : w1.cell? ⟨p, 4, none⟩ = some (.int .u64 x.term) := HR1.out.cell 4 rfl
   by_cases hgt : x.term < term
   ·have q1 : decide (x.term < term) = true := by simpa using hgt
    have HGT := hI hgt
    clear hgt
    go_wp2_with fail
    go_quiet (fail)
    have HR2 := hI (HR1.out.drewN nq)
    have HX2 : Hid ((w1.drewN nq).heap[w.heap.size]? = _) := hI HX1.out
    generalize w1.drewN nq = w2 at *
    clear c0 c3 n4 q1
    have c3 : w2.cell? ⟨w.heap.size, 3, none⟩ = some (.int .u64 term) := bC HX2.out 3 rfl
    have HFO := hI (follow_node w2 _ _ p _ HR2.out.node HR2.out.ml term 0)
    go_wp2_with fail
    refine HFO.out.mono ?_
    rintro en w3 ⟨rfl, hn3⟩
    obtain ⟨G3, h3, hk3, _, _⟩ := HR2.out.callK hn3
    have HX3 := hI (hk3.heap HGB.out HX2.out)
    have HA0 : Hid (Acts C0 g N 0 x g (x.folB term 0) X) := hI (Acts.own HG.out (HN.out.folB (Int.le_of_lt HGT.out) HMTN.out 0) (folB_out _ _ _) (folB_stay _ _ _))
    obtain ⟨x1, hx1⟩ : ∃ x1, x1 = x.folB term 0 := ⟨_, rfl⟩
    have HT1 : Hid (x1.term = term) := hI (by rw [hx1]; unfold NodeS.folB; rw [if_pos HGT.out])
    rw [← hx1] at h3
    have HA1 : Hid (Acts C0 g N 0 x g x1 X) := hI (by rw [hx1]; exact HA0.out)
    have HO1 : Hid (x1.out = x.out) := hI (by rw [hx1]; exact folB_out _ _ _)
    have HI1 : Hid (x1.id = x.id) := hI (HA1.out.stay.id)
    have HN1 : Hid (OkN C0 g N x1 X) := hI HA1.out.nok
    have H3 := hI h3
    clear hn3 h3 hk3 hx1 HA0 HFO c3
    obtain ⟨ec0, ec1, ec2, ec3, ec4, ec5, ec6, ec7, ec8, ec9, ec10⟩ := b11 HX3.out
    have en6 : w3.cell? ⟨p, 6, none⟩ = some (.int .i64 x1.role) := H3.out.cell 6 rfl
    have HH := hI (tellVote_node w3 _ _ p _ H3.out.node H3.out.ml (by rw [HO1.out]; exact HL.out) C0 g N X HG.out HN1.out hn6 HXN.out _ (HMSG.out.mv_ H3.out.mv) HMO.out rfl HT1.out.symm (by rw [HI1.out]; exact HTO.out))
    unfold Msg.agg at HH
    go_wp2_with fail
    refine HH.out.mono ?_
    rintro en w5 ⟨rfl, y, g5, Y5, hn5, hA5⟩
    obtain ⟨G5, h5⟩ := H3.out.call hn5
    have H5 := hI h5.to
    have HA5 := hI hA5
    clear hn5 hA5 h5 HH
    go_wp2_with fail
    first
     | refine bT rfl rfl ?_
     | refine bE rfl rfl ?_
    exact ⟨rfl, y, g5, Y5, H5.out, (HA1.out.trans HA5.out).mono nL (by omega)⟩
   ·have q1 : decide (x.term < term) = false := by simpa using hgt
    by_cases hlt : term < x.term
    ·have q2 : decide (term < x.term) = true := by simpa using hlt
     clear hgt hlt
     go_wp2_with fail
     go_quiet (fail)
     have HR2 := hI (HR1.out.drewN nq)
     have HX2 : Hid ((w1.drewN nq).heap[w.heap.size]? = _) := hI HX1.out
     generalize w1.drewN nq = w2 at *
     clear c0 c3 n4 q1
     have c3 : w2.cell? ⟨w.heap.size, 3, none⟩ = some (.int .u64 term) := bC HX2.out 3 rfl
     have n4 : w2.cell? ⟨p, 4, none⟩ = some (.int .u64 x.term) := HR2.out.cell 4 rfl
     go_wp2_with fail
     go_quiet (fail)
     have HR3 := hI (HR2.out.drewN nq)
     have HX3 : Hid ((w2.drewN nq).heap[w.heap.size]? = _) := hI HX2.out
     generalize w2.drewN nq = w3 at *
     clear c3 n4 q2
     go_wp2_with fail
     first
      | refine bT rfl rfl ?_
      | refine bE rfl rfl ?_
     exact ⟨rfl, _, g, X, HR3.out.to, (Acts.own HG.out HN.out rfl (Stay.refl x)).mono nL (by omega)⟩
    ·have q2 : decide (term < x.term) = false := by simpa using hlt
     have HT1 : Hid (x.term = term) := hI (by omega)
     clear hgt hlt
     go_wp2_with fail
     go_quiet (fail)
     have HR2 := hI (HR1.out.drewN nq)
     have HX2 : Hid ((w1.drewN nq).heap[w.heap.size]? = _) := hI HX1.out
     generalize w1.drewN nq = w2 at *
     clear c0 c3 n4 q1
     have c3 : w2.cell? ⟨w.heap.size, 3, none⟩ = some (.int .u64 term) := bC HX2.out 3 rfl
     have n4 : w2.cell? ⟨p, 4, none⟩ = some (.int .u64 x.term) := HR2.out.cell 4 rfl
     go_wp2_with fail
     go_quiet (fail)
     have H3 := hI (HR2.out.drewN nq)
     have HX3 : Hid ((w2.drewN nq).heap[w.heap.size]? = _) := hI HX2.out
     generalize w2.drewN nq = w3 at *
     clear c3 n4 q2
     have HA1 : Hid (Acts C0 g N 0 x g x X) := hI (Acts.own HG.out HN.out rfl (Stay.refl x))
     have HO1 : Hid (x.out = x.out) := hI rfl
     have HI1 : Hid (x.id = x.id) := hI rfl
     have HN1 : Hid (OkN C0 g N x X) := HN
     obtain ⟨ec0, ec1, ec2, ec3, ec4, ec5, ec6, ec7, ec8, ec9, ec10⟩ := b11 HX3.out
     have en6 : w3.cell? ⟨p, 6, none⟩ = some (.int .i64 x.role) := H3.out.cell 6 rfl
     have HH := hI (tellVote_node w3 _ _ p _ H3.out.node H3.out.ml (by rw [HO1.out]; exact HL.out) C0 g N X HG.out HN1.out hn6 HXN.out _ (HMSG.out.mv_ H3.out.mv) HMO.out rfl HT1.out.symm (by rw [HI1.out]; exact HTO.out))
     unfold Msg.agg at HH
     go_wp2_with fail
     refine HH.out.mono ?_
     rintro en w5 ⟨rfl, y, g5, Y5, hn5, hA5⟩
     obtain ⟨G5, h5⟩ := H3.out.call hn5
     have H5 := hI h5.to
     have HA5 := hI hA5
     clear hn5 hA5 h5 HH
     go_wp2_with fail
     first
      | refine bT rfl rfl ?_
      | refine bE rfl rfl ?_
     exact ⟨rfl, y, g5, Y5, H5.out, (HA1.out.trans HA5.out).mono nL (by omega)⟩
  ·skip
   obtain ⟨c0, -, -, c3, -, -, -, -, -, -, -⟩ := b11 HX1.out
   have n4 : w1.cell? ⟨p, 4, none⟩ = some (.int .u64 x.term) := HR1.out.cell 4 rfl
   by_cases hgt : x.term < term
   ·have q1 : decide (x.term < term) = true := by simpa using hgt
    have HGT := hI hgt
    clear hgt
    go_wp2_with fail
    go_quiet (fail)
    have HR2 := hI (HR1.out.drewN nq)
    have HX2 : Hid ((w1.drewN nq).heap[w.heap.size]? = _) := hI HX1.out
    generalize w1.drewN nq = w2 at *
    clear c0 c3 n4 q1
    have c3 : w2.cell? ⟨w.heap.size, 3, none⟩ = some (.int .u64 term) := bC HX2.out 3 rfl
    have HFO := hI (follow_node w2 _ _ p _ HR2.out.node HR2.out.ml term 0)
    go_wp2_with fail
    refine HFO.out.mono ?_
    rintro en w3 ⟨rfl, hn3⟩
    obtain ⟨G3, h3, hk3, _, _⟩ := HR2.out.callK hn3
    have HX3 := hI (hk3.heap HGB.out HX2.out)
    have HA0 : Hid (Acts C0 g N 0 x g (x.folB term 0) X) := hI (Acts.own HG.out (HN.out.folB (Int.le_of_lt HGT.out) HMTN.out 0) (folB_out _ _ _) (folB_stay _ _ _))
    obtain ⟨x1, hx1⟩ : ∃ x1, x1 = x.folB term 0 := ⟨_, rfl⟩
    have HT1 : Hid (x1.term = term) := hI (by rw [hx1]; unfold NodeS.folB; rw [if_pos HGT.out])
    rw [← hx1] at h3
    have HA1 : Hid (Acts C0 g N 0 x g x1 X) := hI (by rw [hx1]; exact HA0.out)
    have HO1 : Hid (x1.out = x.out) := hI (by rw [hx1]; exact folB_out _ _ _)
    have HI1 : Hid (x1.id = x.id) := hI (HA1.out.stay.id)
    have HN1 : Hid (OkN C0 g N x1 X) := hI HA1.out.nok
    have H3 := hI h3
    clear hn3 h3 hk3 hx1 HA0 HFO c3
    obtain ⟨ec0, ec1, ec2, ec3, ec4, ec5, ec6, ec7, ec8, ec9, ec10⟩ := b11 HX3.out
    have en6 : w3.cell? ⟨p, 6, none⟩ = some (.int .i64 x1.role) := H3.out.cell 6 rfl
    by_cases hr3 : x1.role = 3
    ·have q3 : (x1.role == 3) = true := by simpa using hr3
     go_wp2_with fail
     first
      | refine bT rfl rfl ?_
      | refine bE rfl rfl ?_
     exact ⟨rfl, _, g, X, H3.out.to, HA1.out.mono nL (by omega)⟩
    ·have q3 : (x1.role == 3) = false := by simpa using hr3
     clear hr3
     have HH := hI (append_node w3 _ _ p _ H3.out.node H3.out.ml (by rw [HO1.out]; exact HL.out) C0 g N X HG.out HN1.out hn6 HXN.out _ (HMSG.out.mv_ H3.out.mv) HMO.out rfl HT1.out.symm)
     unfold Msg.agg at HH
     go_wp2_with fail
     refine HH.out.mono ?_
     rintro en w5 ⟨rfl, y, g5, Y5, hn5, hA5⟩
     obtain ⟨G5, h5⟩ := H3.out.call hn5
     have H5 := hI h5.to
     have HA5 := hI hA5
     clear hn5 hA5 h5 HH
     go_wp2_with fail
     first
      | refine bT rfl rfl ?_
      | refine bE rfl rfl ?_
     exact ⟨rfl, y, g5, Y5, H5.out, (HA1.out.trans HA5.out).mono nL (by omega)⟩
   ·have q1 : decide (x.term < term) = false := by simpa using hgt
    by_cases hlt : term < x.term
    ·have q2 : decide (term < x.term) = true := by simpa using hlt
     clear hgt hlt
     go_wp2_with fail
     go_quiet (fail)
     have HR2 := hI (HR1.out.drewN nq)
     have HX2 : Hid ((w1.drewN nq).heap[w.heap.size]? = _) := hI HX1.out
     generalize w1.drewN nq = w2 at *
     clear c0 c3 n4 q1
     have c3 : w2.cell? ⟨w.heap.size, 3, none⟩ = some (.int .u64 term) := bC HX2.out 3 rfl
     have n4 : w2.cell? ⟨p, 4, none⟩ = some (.int .u64 x.term) := HR2.out.cell 4 rfl
     go_wp2_with fail
     go_quiet (fail)
     have HR3 := hI (HR2.out.drewN nq)
     have HX3 : Hid ((w2.drewN nq).heap[w.heap.size]? = _) := hI HX2.out
     generalize w2.drewN nq = w3 at *
     clear c3 n4 q2
     obtain ⟨c0, c1, c2, c3, c4, c5, c6, c7, c8, c9, c10⟩ := b11 HX3.out
     have hms := HMSG.out.mv_ HR3.out.mv
     have hte := tell_node w3 _ _ p _ HR3.out.node HR3.out.ml _ hms (by have := HL.out; show x.out.length ≤ 1000000; omega) 5 false 0
     unfold Msg.agg at hte
     have HTL := hI hte
     clear hms hte
     go_wp2_with fail
     refine HTL.out.mono ?_
     rintro en w5 ⟨rfl, v5, hn5⟩
     obtain ⟨G5, h5⟩ := HR3.out.call hn5
     have H5 := hI h5.to
     clear hn5 h5 HTL
     go_wp2_with fail
     first
      | refine bT rfl rfl ?_
      | refine bE rfl rfl ?_
     exact ⟨rfl, _, g, X, H5.out, (Acts.mono (k := 1) (j := 14) ⟨Grow.refl _ _, HG.out, HN.out.outs x.since v5 _, ⟨_, rfl, fun q hq => (by obtain rfl := List.mem_singleton.1 hq; exact HN.out.tells (.inr (.inr ⟨.inl rfl, fun e => by cases e⟩)) ht0 (by have := htn0; omega) f1 f7 (Int.le_refl _) (by omega)), by simp⟩, ⟨rfl, rfl, rfl, rfl⟩⟩ nL (by omega))⟩
    ·have q2 : decide (term < x.term) = false := by simpa using hlt
     have HT1 : Hid (x.term = term) := hI (by omega)
     clear hgt hlt
     go_wp2_with fail
     go_quiet (fail)
     have HR2 := hI (HR1.out.drewN nq)
     have HX2 : Hid ((w1.drewN nq).heap[w.heap.size]? = _) := hI HX1.out
     generalize w1.drewN nq = w2 at *
     clear c0 c3 n4 q1
     have c3 : w2.cell? ⟨w.heap.size, 3, none⟩ = some (.int .u64 term) := bC HX2.out 3 rfl
     have n4 : w2.cell? ⟨p, 4, none⟩ = some (.int .u64 x.term) := HR2.out.cell 4 rfl
     go_wp2_with fail
     go_quiet (fail)
     have H3 := hI (HR2.out.drewN nq)
     have HX3 : Hid ((w2.drewN nq).heap[w.heap.size]? = _) := hI HX2.out
     generalize w2.drewN nq = w3 at *
     clear c3 n4 q2
     have HA1 : Hid (Acts C0 g N 0 x g x X) := hI (Acts.own HG.out HN.out rfl (Stay.refl x))
     have HO1 : Hid (x.out = x.out) := hI rfl
     have HI1 : Hid (x.id = x.id) := hI rfl
     have HN1 : Hid (OkN C0 g N x X) := HN
     obtain ⟨ec0, ec1, ec2, ec3, ec4, ec5, ec6, ec7, ec8, ec9, ec10⟩ := b11 HX3.out
     have en6 : w3.cell? ⟨p, 6, none⟩ = some (.int .i64 x.role) := H3.out.cell 6 rfl
     by_cases hr3 : x.role = 3
     ·have q3 : (x.role == 3) = true := by simpa using hr3
      go_wp2_with fail
      first
       | refine bT rfl rfl ?_
       | refine bE rfl rfl ?_
      exact ⟨rfl, _, g, X, H3.out.to, HA1.out.mono nL (by omega)⟩
     ·have q3 : (x.role == 3) = false := by simpa using hr3
      clear hr3
      have HH := hI (append_node w3 _ _ p _ H3.out.node H3.out.ml (by rw [HO1.out]; exact HL.out) C0 g N X HG.out HN1.out hn6 HXN.out _ (HMSG.out.mv_ H3.out.mv) HMO.out rfl HT1.out.symm)
      unfold Msg.agg at HH
      go_wp2_with fail
      refine HH.out.mono ?_
      rintro en w5 ⟨rfl, y, g5, Y5, hn5, hA5⟩
      obtain ⟨G5, h5⟩ := H3.out.call hn5
      have H5 := hI h5.to
      have HA5 := hI hA5
      clear hn5 hA5 h5 HH
      go_wp2_with fail
      first
       | refine bT rfl rfl ?_
       | refine bE rfl rfl ?_
      exact ⟨rfl, y, g5, Y5, H5.out, (HA1.out.trans HA5.out).mono nL (by omega)⟩
  ·skip
   obtain ⟨c0, -, -, c3, -, -, -, -, -, -, -⟩ := b11 HX1.out
   have n4 : w1.cell? ⟨p, 4, none⟩ = some (.int .u64 x.term) := HR1.out.cell 4 rfl
   by_cases hgt : x.term < term
   ·have q1 : decide (x.term < term) = true := by simpa using hgt
    have HGT := hI hgt
    clear hgt
    go_wp2_with fail
    go_quiet (fail)
    have HR2 := hI (HR1.out.drewN nq)
    have HX2 : Hid ((w1.drewN nq).heap[w.heap.size]? = _) := hI HX1.out
    generalize w1.drewN nq = w2 at *
    clear c0 c3 n4 q1
    have c3 : w2.cell? ⟨w.heap.size, 3, none⟩ = some (.int .u64 term) := bC HX2.out 3 rfl
    have HFO := hI (follow_node w2 _ _ p _ HR2.out.node HR2.out.ml term 0)
    go_wp2_with fail
    refine HFO.out.mono ?_
    rintro en w3 ⟨rfl, hn3⟩
    obtain ⟨G3, h3, hk3, _, _⟩ := HR2.out.callK hn3
    have HX3 := hI (hk3.heap HGB.out HX2.out)
    have HA0 : Hid (Acts C0 g N 0 x g (x.folB term 0) X) := hI (Acts.own HG.out (HN.out.folB (Int.le_of_lt HGT.out) HMTN.out 0) (folB_out _ _ _) (folB_stay _ _ _))
    obtain ⟨x1, hx1⟩ : ∃ x1, x1 = x.folB term 0 := ⟨_, rfl⟩
    have HT1 : Hid (x1.term = term) := hI (by rw [hx1]; unfold NodeS.folB; rw [if_pos HGT.out])
    rw [← hx1] at h3
    have HA1 : Hid (Acts C0 g N 0 x g x1 X) := hI (by rw [hx1]; exact HA0.out)
    have HO1 : Hid (x1.out = x.out) := hI (by rw [hx1]; exact folB_out _ _ _)
    have HI1 : Hid (x1.id = x.id) := hI (HA1.out.stay.id)
    have HN1 : Hid (OkN C0 g N x1 X) := hI HA1.out.nok
    have H3 := hI h3
    clear hn3 h3 hk3 hx1 HA0 HFO c3
    obtain ⟨ec0, ec1, ec2, ec3, ec4, ec5, ec6, ec7, ec8, ec9, ec10⟩ := b11 HX3.out
    have en6 : w3.cell? ⟨p, 6, none⟩ = some (.int .i64 x1.role) := H3.out.cell 6 rfl
    have HH := hI (told_node w3 _ _ p _ H3.out.node H3.out.ml (by rw [HO1.out]; exact HL.out) C0 g N X HG.out HN1.out hn6 HXN.out _ (HMSG.out.mv_ H3.out.mv) HMO.out (.inl rfl) HT1.out.symm)
    unfold Msg.agg at HH
    go_wp2_with fail
    refine HH.out.mono ?_
    rintro en w5 ⟨rfl, y, g5, Y5, hn5, hA5⟩
    obtain ⟨G5, h5⟩ := H3.out.call hn5
    have H5 := hI h5.to
    have HA5 := hI hA5
    clear hn5 hA5 h5 HH
    go_wp2_with fail
    first
     | refine bT rfl rfl ?_
     | refine bE rfl rfl ?_
    exact ⟨rfl, y, g5, Y5, H5.out, (HA1.out.trans HA5.out).mono nL (by omega)⟩
   ·have q1 : decide (x.term < term) = false := by simpa using hgt
    by_cases hlt : term < x.term
    ·have q2 : decide (term < x.term) = true := by simpa using hlt
     clear hgt hlt
     go_wp2_with fail
     go_quiet (fail)
     have HR2 := hI (HR1.out.drewN nq)
     have HX2 : Hid ((w1.drewN nq).heap[w.heap.size]? = _) := hI HX1.out
     generalize w1.drewN nq = w2 at *
     clear c0 c3 n4 q1
     have c3 : w2.cell? ⟨w.heap.size, 3, none⟩ = some (.int .u64 term) := bC HX2.out 3 rfl
     have n4 : w2.cell? ⟨p, 4, none⟩ = some (.int .u64 x.term) := HR2.out.cell 4 rfl
     go_wp2_with fail
     go_quiet (fail)
     have HR3 := hI (HR2.out.drewN nq)
     have HX3 : Hid ((w2.drewN nq).heap[w.heap.size]? = _) := hI HX2.out
     generalize w2.drewN nq = w3 at *
     clear c3 n4 q2
     go_wp2_with fail
     first
      | refine bT rfl rfl ?_
      | refine bE rfl rfl ?_
     exact ⟨rfl, _, g, X, HR3.out.to, (Acts.own HG.out HN.out rfl (Stay.refl x)).mono nL (by omega)⟩
    ·have q2 : decide (term < x.term) = false := by simpa using hlt
     have HT1 : Hid (x.term = term) := hI (by omega)
     clear hgt hlt
     go_wp2_with fail
     go_quiet (fail)
     have HR2 := hI (HR1.out.drewN nq)
     have HX2 : Hid ((w1.drewN nq).heap[w.heap.size]? = _) := hI HX1.out
     generalize w1.drewN nq = w2 at *
     clear c0 c3 n4 q1
     have c3 : w2.cell? ⟨w.heap.size, 3, none⟩ = some (.int .u64 term) := bC HX2.out 3 rfl
     have n4 : w2.cell? ⟨p, 4, none⟩ = some (.int .u64 x.term) := HR2.out.cell 4 rfl
     go_wp2_with fail
     go_quiet (fail)
     have H3 := hI (HR2.out.drewN nq)
     have HX3 : Hid ((w2.drewN nq).heap[w.heap.size]? = _) := hI HX2.out
     generalize w2.drewN nq = w3 at *
     clear c3 n4 q2
     have HA1 : Hid (Acts C0 g N 0 x g x X) := hI (Acts.own HG.out HN.out rfl (Stay.refl x))
     have HO1 : Hid (x.out = x.out) := hI rfl
     have HI1 : Hid (x.id = x.id) := hI rfl
     have HN1 : Hid (OkN C0 g N x X) := HN
     obtain ⟨ec0, ec1, ec2, ec3, ec4, ec5, ec6, ec7, ec8, ec9, ec10⟩ := b11 HX3.out
     have en6 : w3.cell? ⟨p, 6, none⟩ = some (.int .i64 x.role) := H3.out.cell 6 rfl
     have HH := hI (told_node w3 _ _ p _ H3.out.node H3.out.ml (by rw [HO1.out]; exact HL.out) C0 g N X HG.out HN1.out hn6 HXN.out _ (HMSG.out.mv_ H3.out.mv) HMO.out (.inl rfl) HT1.out.symm)
     unfold Msg.agg at HH
     go_wp2_with fail
     refine HH.out.mono ?_
     rintro en w5 ⟨rfl, y, g5, Y5, hn5, hA5⟩
     obtain ⟨G5, h5⟩ := H3.out.call hn5
     have H5 := hI h5.to
     have HA5 := hI hA5
     clear hn5 hA5 h5 HH
     go_wp2_with fail
     first
      | refine bT rfl rfl ?_
      | refine bE rfl rfl ?_
     exact ⟨rfl, y, g5, Y5, H5.out, (HA1.out.trans HA5.out).mono nL (by omega)⟩
  ·skip
   obtain ⟨c0, -, -, c3, -, -, -, -, -, -, -⟩ := b11 HX1.out
   have n4 : w1.cell? ⟨p, 4, none⟩ = some (.int .u64 x.term) := HR1.out.cell 4 rfl
   by_cases hgt : x.term < term
   ·have q1 : decide (x.term < term) = true := by simpa using hgt
    have HGT := hI hgt
    clear hgt
    go_wp2_with fail
    go_quiet (fail)
    have HR2 := hI (HR1.out.drewN nq)
    have HX2 : Hid ((w1.drewN nq).heap[w.heap.size]? = _) := hI HX1.out
    generalize w1.drewN nq = w2 at *
    clear c0 c3 n4 q1
    have c3 : w2.cell? ⟨w.heap.size, 3, none⟩ = some (.int .u64 term) := bC HX2.out 3 rfl
    have HFO := hI (follow_node w2 _ _ p _ HR2.out.node HR2.out.ml term 0)
    go_wp2_with fail
    refine HFO.out.mono ?_
    rintro en w3 ⟨rfl, hn3⟩
    obtain ⟨G3, h3, hk3, _, _⟩ := HR2.out.callK hn3
    have HX3 := hI (hk3.heap HGB.out HX2.out)
    have HA0 : Hid (Acts C0 g N 0 x g (x.folB term 0) X) := hI (Acts.own HG.out (HN.out.folB (Int.le_of_lt HGT.out) HMTN.out 0) (folB_out _ _ _) (folB_stay _ _ _))
    obtain ⟨x1, hx1⟩ : ∃ x1, x1 = x.folB term 0 := ⟨_, rfl⟩
    have HT1 : Hid (x1.term = term) := hI (by rw [hx1]; unfold NodeS.folB; rw [if_pos HGT.out])
    rw [← hx1] at h3
    have HA1 : Hid (Acts C0 g N 0 x g x1 X) := hI (by rw [hx1]; exact HA0.out)
    have HO1 : Hid (x1.out = x.out) := hI (by rw [hx1]; exact folB_out _ _ _)
    have HI1 : Hid (x1.id = x.id) := hI (HA1.out.stay.id)
    have HN1 : Hid (OkN C0 g N x1 X) := hI HA1.out.nok
    have H3 := hI h3
    clear hn3 h3 hk3 hx1 HA0 HFO c3
    obtain ⟨ec0, ec1, ec2, ec3, ec4, ec5, ec6, ec7, ec8, ec9, ec10⟩ := b11 HX3.out
    have en6 : w3.cell? ⟨p, 6, none⟩ = some (.int .i64 x1.role) := H3.out.cell 6 rfl
    by_cases hr3 : x1.role = 3
    ·have q3 : (x1.role == 3) = true := by simpa using hr3
     go_wp2_with fail
     first
      | refine bT rfl rfl ?_
      | refine bE rfl rfl ?_
     exact ⟨rfl, _, g, X, H3.out.to, HA1.out.mono nL (by omega)⟩
    ·have q3 : (x1.role == 3) = false := by simpa using hr3
     clear hr3
     have HH := hI (install_node w3 _ _ p _ H3.out.node H3.out.ml (by rw [HO1.out]; exact HL.out) C0 g N X HG.out HN1.out hn6 HXN.out _ (HMSG.out.mv_ H3.out.mv) HMO.out rfl HT1.out.symm (H6.out (by first | exact rfl | trivial)))
     unfold Msg.agg at HH
     go_wp2_with fail
     refine HH.out.mono ?_
     rintro en w5 ⟨rfl, y, g5, Y5, hn5, hA5⟩
     obtain ⟨G5, h5⟩ := H3.out.call hn5
     have H5 := hI h5.to
     have HA5 := hI hA5
     clear hn5 hA5 h5 HH
     go_wp2_with fail
     first
      | refine bT rfl rfl ?_
      | refine bE rfl rfl ?_
     exact ⟨rfl, y, g5, Y5, H5.out, (HA1.out.trans HA5.out).mono nL (by omega)⟩
   ·have q1 : decide (x.term < term) = false := by simpa using hgt
    by_cases hlt : term < x.term
    ·have q2 : decide (term < x.term) = true := by simpa using hlt
     clear hgt hlt
     go_wp2_with fail
     go_quiet (fail)
     have HR2 := hI (HR1.out.drewN nq)
     have HX2 : Hid ((w1.drewN nq).heap[w.heap.size]? = _) := hI HX1.out
     generalize w1.drewN nq = w2 at *
     clear c0 c3 n4 q1
     have c3 : w2.cell? ⟨w.heap.size, 3, none⟩ = some (.int .u64 term) := bC HX2.out 3 rfl
     have n4 : w2.cell? ⟨p, 4, none⟩ = some (.int .u64 x.term) := HR2.out.cell 4 rfl
     go_wp2_with fail
     go_quiet (fail)
     have HR3 := hI (HR2.out.drewN nq)
     have HX3 : Hid ((w2.drewN nq).heap[w.heap.size]? = _) := hI HX2.out
     generalize w2.drewN nq = w3 at *
     clear c3 n4 q2
     obtain ⟨c0, c1, c2, c3, c4, c5, c6, c7, c8, c9, c10⟩ := b11 HX3.out
     have hms := HMSG.out.mv_ HR3.out.mv
     have hte := tell_node w3 _ _ p _ HR3.out.node HR3.out.ml _ hms (by have := HL.out; show x.out.length ≤ 1000000; omega) 5 false 0
     unfold Msg.agg at hte
     have HTL := hI hte
     clear hms hte
     go_wp2_with fail
     refine HTL.out.mono ?_
     rintro en w5 ⟨rfl, v5, hn5⟩
     obtain ⟨G5, h5⟩ := HR3.out.call hn5
     have H5 := hI h5.to
     clear hn5 h5 HTL
     go_wp2_with fail
     first
      | refine bT rfl rfl ?_
      | refine bE rfl rfl ?_
     exact ⟨rfl, _, g, X, H5.out, (Acts.mono (k := 1) (j := 14) ⟨Grow.refl _ _, HG.out, HN.out.outs x.since v5 _, ⟨_, rfl, fun q hq => (by obtain rfl := List.mem_singleton.1 hq; exact HN.out.tells (.inr (.inr ⟨.inl rfl, fun e => by cases e⟩)) ht0 (by have := htn0; omega) f1 f7 (Int.le_refl _) (by omega)), by simp⟩, ⟨rfl, rfl, rfl, rfl⟩⟩ nL (by omega))⟩
    ·have q2 : decide (term < x.term) = false := by simpa using hlt
     have HT1 : Hid (x.term = term) := hI (by omega)
     clear hgt hlt
     go_wp2_with fail
     go_quiet (fail)
     have HR2 := hI (HR1.out.drewN nq)
     have HX2 : Hid ((w1.drewN nq).heap[w.heap.size]? = _) := hI HX1.out
     generalize w1.drewN nq = w2 at *
     clear c0 c3 n4 q1
     have c3 : w2.cell? ⟨w.heap.size, 3, none⟩ = some (.int .u64 term) := bC HX2.out 3 rfl
     have n4 : w2.cell? ⟨p, 4, none⟩ = some (.int .u64 x.term) := HR2.out.cell 4 rfl
     go_wp2_with fail
     go_quiet (fail)
     have H3 := hI (HR2.out.drewN nq)
     have HX3 : Hid ((w2.drewN nq).heap[w.heap.size]? = _) := hI HX2.out
     generalize w2.drewN nq = w3 at *
     clear c3 n4 q2
     have HA1 : Hid (Acts C0 g N 0 x g x X) := hI (Acts.own HG.out HN.out rfl (Stay.refl x))
     have HO1 : Hid (x.out = x.out) := hI rfl
     have HI1 : Hid (x.id = x.id) := hI rfl
     have HN1 : Hid (OkN C0 g N x X) := HN
     obtain ⟨ec0, ec1, ec2, ec3, ec4, ec5, ec6, ec7, ec8, ec9, ec10⟩ := b11 HX3.out
     have en6 : w3.cell? ⟨p, 6, none⟩ = some (.int .i64 x.role) := H3.out.cell 6 rfl
     by_cases hr3 : x.role = 3
     ·have q3 : (x.role == 3) = true := by simpa using hr3
      go_wp2_with fail
      first
       | refine bT rfl rfl ?_
       | refine bE rfl rfl ?_
      exact ⟨rfl, _, g, X, H3.out.to, HA1.out.mono nL (by omega)⟩
     ·have q3 : (x.role == 3) = false := by simpa using hr3
      clear hr3
      have HH := hI (install_node w3 _ _ p _ H3.out.node H3.out.ml (by rw [HO1.out]; exact HL.out) C0 g N X HG.out HN1.out hn6 HXN.out _ (HMSG.out.mv_ H3.out.mv) HMO.out rfl HT1.out.symm (H6.out (by first | exact rfl | trivial)))
      unfold Msg.agg at HH
      go_wp2_with fail
      refine HH.out.mono ?_
      rintro en w5 ⟨rfl, y, g5, Y5, hn5, hA5⟩
      obtain ⟨G5, h5⟩ := H3.out.call hn5
      have H5 := hI h5.to
      have HA5 := hI hA5
      clear hn5 hA5 h5 HH
      go_wp2_with fail
      first
       | refine bT rfl rfl ?_
       | refine bE rfl rfl ?_
      exact ⟨rfl, y, g5, Y5, H5.out, (HA1.out.trans HA5.out).mono nL (by omega)⟩
  ·skip
   obtain ⟨c0, -, -, c3, -, -, -, -, -, -, -⟩ := b11 HX1.out
   have n4 : w1.cell? ⟨p, 4, none⟩ = some (.int .u64 x.term) := HR1.out.cell 4 rfl
   by_cases hgt : x.term < term
   ·have q1 : decide (x.term < term) = true := by simpa using hgt
    have HGT := hI hgt
    clear hgt
    go_wp2_with fail
    go_quiet (fail)
    have HR2 := hI (HR1.out.drewN nq)
    have HX2 : Hid ((w1.drewN nq).heap[w.heap.size]? = _) := hI HX1.out
    generalize w1.drewN nq = w2 at *
    clear c0 c3 n4 q1
    have c3 : w2.cell? ⟨w.heap.size, 3, none⟩ = some (.int .u64 term) := bC HX2.out 3 rfl
    have HFO := hI (follow_node w2 _ _ p _ HR2.out.node HR2.out.ml term 0)
    go_wp2_with fail
    refine HFO.out.mono ?_
    rintro en w3 ⟨rfl, hn3⟩
    obtain ⟨G3, h3, hk3, _, _⟩ := HR2.out.callK hn3
    have HX3 := hI (hk3.heap HGB.out HX2.out)
    have HA0 : Hid (Acts C0 g N 0 x g (x.folB term 0) X) := hI (Acts.own HG.out (HN.out.folB (Int.le_of_lt HGT.out) HMTN.out 0) (folB_out _ _ _) (folB_stay _ _ _))
    obtain ⟨x1, hx1⟩ : ∃ x1, x1 = x.folB term 0 := ⟨_, rfl⟩
    have HT1 : Hid (x1.term = term) := hI (by rw [hx1]; unfold NodeS.folB; rw [if_pos HGT.out])
    rw [← hx1] at h3
    have HA1 : Hid (Acts C0 g N 0 x g x1 X) := hI (by rw [hx1]; exact HA0.out)
    have HO1 : Hid (x1.out = x.out) := hI (by rw [hx1]; exact folB_out _ _ _)
    have HI1 : Hid (x1.id = x.id) := hI (HA1.out.stay.id)
    have HN1 : Hid (OkN C0 g N x1 X) := hI HA1.out.nok
    have H3 := hI h3
    clear hn3 h3 hk3 hx1 HA0 HFO c3
    obtain ⟨ec0, ec1, ec2, ec3, ec4, ec5, ec6, ec7, ec8, ec9, ec10⟩ := b11 HX3.out
    have en6 : w3.cell? ⟨p, 6, none⟩ = some (.int .i64 x1.role) := H3.out.cell 6 rfl
    have HH := hI (told_node w3 _ _ p _ H3.out.node H3.out.ml (by rw [HO1.out]; exact HL.out) C0 g N X HG.out HN1.out hn6 HXN.out _ (HMSG.out.mv_ H3.out.mv) HMO.out (.inr rfl) HT1.out.symm)
    unfold Msg.agg at HH
    go_wp2_with fail
    refine HH.out.mono ?_
    rintro en w5 ⟨rfl, y, g5, Y5, hn5, hA5⟩
    obtain ⟨G5, h5⟩ := H3.out.call hn5
    have H5 := hI h5.to
    have HA5 := hI hA5
    clear hn5 hA5 h5 HH
    go_wp2_with fail
    first
     | refine bT rfl rfl ?_
     | refine bE rfl rfl ?_
    exact ⟨rfl, y, g5, Y5, H5.out, (HA1.out.trans HA5.out).mono nL (by omega)⟩
   ·have q1 : decide (x.term < term) = false := by simpa using hgt
    by_cases hlt : term < x.term
    ·have q2 : decide (term < x.term) = true := by simpa using hlt
     clear hgt hlt
     go_wp2_with fail
     go_quiet (fail)
     have HR2 := hI (HR1.out.drewN nq)
     have HX2 : Hid ((w1.drewN nq).heap[w.heap.size]? = _) := hI HX1.out
     generalize w1.drewN nq = w2 at *
     clear c0 c3 n4 q1
     have c3 : w2.cell? ⟨w.heap.size, 3, none⟩ = some (.int .u64 term) := bC HX2.out 3 rfl
     have n4 : w2.cell? ⟨p, 4, none⟩ = some (.int .u64 x.term) := HR2.out.cell 4 rfl
     go_wp2_with fail
     go_quiet (fail)
     have HR3 := hI (HR2.out.drewN nq)
     have HX3 : Hid ((w2.drewN nq).heap[w.heap.size]? = _) := hI HX2.out
     generalize w2.drewN nq = w3 at *
     clear c3 n4 q2
     go_wp2_with fail
     first
      | refine bT rfl rfl ?_
      | refine bE rfl rfl ?_
     exact ⟨rfl, _, g, X, HR3.out.to, (Acts.own HG.out HN.out rfl (Stay.refl x)).mono nL (by omega)⟩
    ·have q2 : decide (term < x.term) = false := by simpa using hlt
     have HT1 : Hid (x.term = term) := hI (by omega)
     clear hgt hlt
     go_wp2_with fail
     go_quiet (fail)
     have HR2 := hI (HR1.out.drewN nq)
     have HX2 : Hid ((w1.drewN nq).heap[w.heap.size]? = _) := hI HX1.out
     generalize w1.drewN nq = w2 at *
     clear c0 c3 n4 q1
     have c3 : w2.cell? ⟨w.heap.size, 3, none⟩ = some (.int .u64 term) := bC HX2.out 3 rfl
     have n4 : w2.cell? ⟨p, 4, none⟩ = some (.int .u64 x.term) := HR2.out.cell 4 rfl
     go_wp2_with fail
     go_quiet (fail)
     have H3 := hI (HR2.out.drewN nq)
     have HX3 : Hid ((w2.drewN nq).heap[w.heap.size]? = _) := hI HX2.out
     generalize w2.drewN nq = w3 at *
     clear c3 n4 q2
     have HA1 : Hid (Acts C0 g N 0 x g x X) := hI (Acts.own HG.out HN.out rfl (Stay.refl x))
     have HO1 : Hid (x.out = x.out) := hI rfl
     have HI1 : Hid (x.id = x.id) := hI rfl
     have HN1 : Hid (OkN C0 g N x X) := HN
     obtain ⟨ec0, ec1, ec2, ec3, ec4, ec5, ec6, ec7, ec8, ec9, ec10⟩ := b11 HX3.out
     have en6 : w3.cell? ⟨p, 6, none⟩ = some (.int .i64 x.role) := H3.out.cell 6 rfl
     have HH := hI (told_node w3 _ _ p _ H3.out.node H3.out.ml (by rw [HO1.out]; exact HL.out) C0 g N X HG.out HN1.out hn6 HXN.out _ (HMSG.out.mv_ H3.out.mv) HMO.out (.inr rfl) HT1.out.symm)
     unfold Msg.agg at HH
     go_wp2_with fail
     refine HH.out.mono ?_
     rintro en w5 ⟨rfl, y, g5, Y5, hn5, hA5⟩
     obtain ⟨G5, h5⟩ := H3.out.call hn5
     have H5 := hI h5.to
     have HA5 := hI hA5
     clear hn5 hA5 h5 HH
     go_wp2_with fail
     first
      | refine bT rfl rfl ?_
      | refine bE rfl rfl ?_
     exact ⟨rfl, y, g5, Y5, H5.out, (HA1.out.trans HA5.out).mono nL (by omega)⟩
end Go.Proofs.YtdjooojpcepleaaGreat

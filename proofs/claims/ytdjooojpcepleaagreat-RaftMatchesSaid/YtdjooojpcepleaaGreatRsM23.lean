/- raft, any node: a vote comes: tellVote, tellPre. -/
import Derived.Test.YtdjooojpcepleaaGreatRsM22

namespace Go.Proofs.YtdjooojpcepleaaGreat
open Go.RowKit
open Go.«Sort» (grow)
set_option maxRecDepth 100000 in
set_option maxHeartbeats 8000000 in
theorem tellVote_node (w : World) (M F : Nat → Prop) (p : Nat) (x : NodeS) (h : NodeAt w M F p x) (hM : ∀ k, M k → k < w.heap.size) (hl : x.out.length ≤ 800000) (C0 : List Int) (g : Gh En) (n : Nat) (X : List En) (hg : OkG C0 g n) (hN : OkN C0 g n x X) (hn6 : n ≤ 1000) (hXn : X.length + 1 ≤ n) (m : Msg) (hm : MsgOk w M m) (hmo : OkM C0 g n m) (hk : m.kind = 3) (hmt : m.term = x.term) (hto : m.to_ = x.id) :
  Calls Tryz.prog 40 #[.pointer (some ⟨p, 0, none⟩), m.agg] w (TickR C0 g n w M F p x) := by
 have HCT := hI (count_law hN m.from_ m.yes fun _ hy => by
   have := hmo.mi.vote hk hy
   simp only [Msg.ms] at this
   rwa [hmt, hto] at this)
 have t0 := hmo.t0
 have f1 := hmo.f1
 have f7 := hmo.f7
 have hR0 := Rn.start h hM
 obtain ⟨_, _, ea, ec, hev, _⟩ := hm.ents
 obtain ⟨ma, mc, hmv, _⟩ := hm.mem
 obtain ⟨d, hd, _⟩ := hm.data
 obtain ⟨da, dc, hdv, _⟩ := hd
 obtain ⟨mk, from_, to_, term, mi, logTerm, commit, my, ev, mv, dv, es, mem⟩ := m
 simp only at hev hmv hdv
 subst hev hmv hdv
 have hpl := h.plt
 obtain ⟨Wm, hX⟩ : ∃ Wm, Wm = w.alloc (.cells #[.int .i64 mk, .int .i64 from_, .int .i64 to_, .int .u64 term, .int .u64 mi, .int .u64 logTerm, .int .u64 commit, .bool my, .slice ea es.length ec, .slice ma mem.length mc, .slice da d.length dc] 54) := ⟨_, rfl⟩
 have hbX : Below w.heap.size w Wm := by rw [hX]; exact bR.alloc nL _
 have HXX : Hid (Wm.heap[w.heap.size]? = some (.cells #[.int .i64 mk, .int .i64 from_, .int .i64 to_, .int .u64 term, .int .u64 mi, .int .u64 logTerm, .int .u64 commit, .bool my, .slice ea es.length ec, .slice ma mem.length mc, .slice da d.length dc] 54 (0, 0))) := hI (by rw [hX]; exact bW w _)
 have HRX := hI (hR0.below hbX)
 have HBX := hI hbX
 have HN := hI hN
 have HG := hI hg
 have HL := hI hl
 have HXN := hI hXn
 have ht0 := hN.t0
 have htn0 := hN.tn
 obtain ⟨pq, hpq⟩ := hR0.pvp
 have HPQ := hI hpq
 simp only at *
 have hfx : ¬ F w.heap.size := fun e => absurd (hR0.glt _ e) (Nat.lt_irrefl _)
 have HGB := hI hfx
 have HR0 := hI hR0
 clear h hM hl hg hN hm hmo hR0 hbX hXn hk hmt hto hpq hfx
 unfold Msg.agg
 have d6 : w.cell? ⟨p, 6, none⟩ = some (.int .i64 x.role) := HR0.out.cell 6 rfl
 by_cases hr : x.role = 2
 ·have q0 : (x.role != 2) = false := by rw [hr]; rfl
  have HRR := hI hr
  clear hr
  go_enter Tryz.func40, Tryz.ntmps40
  go_wp2_with fail
  rw [← hX]
  clear hX d6
  have k15 : Wm.cell? ⟨p, 15, none⟩ = some (.pointer pq) := by rw [← HPQ.out]; exact HRX.out.cell 15 rfl
  obtain ⟨-, kc1, -, -, -, -, -, kc7, -, -, -⟩ := b11 HXX.out
  have hvo := HRX.out.drew.voted from_ f1 f7 my
  rw [HPQ.out] at hvo
  have HVO := hI hvo
  clear hvo
  go_region_held3 (fun w' => w'.cell? ⟨p, 15, none⟩ = some (.pointer pq) ∧ w'.cell? ⟨w.heap.size, 1, none⟩ = some (.int .i64 from_) ∧ w'.cell? ⟨w.heap.size, 7, none⟩ = some (.bool my)) (first | exact ⟨k15, kc1, kc7⟩ | exact ⟨j15, jc1, jc7⟩)
   (first | (go_at_call 67; refine HVO.out.mono ?_; rintro en w4 ⟨⟨vb, rfl⟩, G4, h4, hk4, hG4⟩; have H4 := hI h4; have HX4 := hI (hk4.heap HGB.out (show Wm.drew.heap[w.heap.size]? = _ from HXX.out)); have j15 : w4.cell? ⟨p, 15, none⟩ = some (.pointer pq) := (by rw [← HPQ.out]; exact h4.cell 15 rfl); have jc1 : w4.cell? ⟨w.heap.size, 1, none⟩ = some (.int .i64 from_) := bC HX4.out 1 rfl; have jc7 : w4.cell? ⟨w.heap.size, 7, none⟩ = some (.bool my) := bC HX4.out 7 rfl; clear h4 hk4 hG4))
  have hst := H4.out.stateX
  have hst' : Calls Tryz.prog 68 #[.pointer pq] w4 (StateX w4 (x.counted from_ my).pl) := by rw [← HPQ.out]; exact hst
  have HST := hI hst'
  have HA4 : Hid (Acts C0 g n 0 x g (x.counted from_ my) X) := hI (Acts.own HG.out HCT.out rfl ⟨rfl, rfl, rfl, rfl⟩)
  clear k15 kc1 kc7 jc1 jc7 hst hst'
  go_wp2_with fail
  refine HST.out.mono ?_
  rintro en w5 ⟨hb5, r, rfl, hr5, hwon⟩
  have H5 := hI (H4.out.below hb5)
  have HWO := hI hwon
  clear hb5 hwon HST j15
  by_cases hr1 : r = 1
  ·subst hr1
   obtain ⟨pm, vl, hpl4, hmaj⟩ := HWO.out rfl
   have HLD := hI (leads_node w5 _ G4 p _ H5.out.node H5.out.ml HL.out C0 g n X HG.out HCT.out hn6 HXN.out HRR.out pm vl hpl4 hmaj)
   clear hr5 hpl4 hmaj
   go_wp2_with fail
   refine HLD.out.mono ?_
   rintro en w6 ⟨rfl, y, g2, Y, hn6', hA6⟩
   obtain ⟨G6, h6⟩ := H5.out.call hn6'
   have H6 := hI h6.to
   have HA6 := hI (HA4.out.trans hA6)
   clear hn6' hA6 h6 HLD
   go_wp2_with fail
   refine bE rfl rfl ?_
   exact ⟨rfl, y, g2, Y, H6.out, HA6.out.mono nL (by omega)⟩
  ·have q1 : (r == 1) = false := by simpa using hr1
   by_cases hr2 : r = 2
   ·subst hr2
    have k4 : w5.cell? ⟨p, 4, none⟩ = some (.int .u64 x.term) := H5.out.cell 4 rfl
    have HFO := hI (follow_node w5 _ G4 p _ H5.out.node H5.out.ml x.term 0)
    clear hr5 hr1
    go_wp2_with fail
    refine HFO.out.mono ?_
    rintro en w6 ⟨rfl, hn6'⟩
    obtain ⟨G6, h6⟩ := H5.out.call hn6'
    have H6 := hI h6.to
    clear hn6' h6 HFO
    go_wp2_with fail
    refine bE rfl rfl ?_
    exact ⟨rfl, _, g, X, H6.out, (HA4.out.trans (Acts.own HG.out (HCT.out.folB (Int.le_refl _) htn0 0) (folB_out _ _ _) (folB_stay _ _ _))).mono nL (by omega)⟩
   ·have q2 : (r == 2) = false := by simpa using hr2
    clear hr5
    go_wp2_with fail
    refine bE rfl rfl ?_
    exact ⟨rfl, _, g, X, H5.out.to, HA4.out.mono nL (by omega)⟩
 ·have q0 : (x.role != 2) = true := by simpa using hr
  go_enter Tryz.func40, Tryz.ntmps40
  go_wp2_with fail
  rw [← hX]
  first
   | refine bT rfl rfl ?_
   | refine bE rfl rfl ?_
  exact ⟨rfl, _, g, X, HRX.out.to, (Acts.own HG.out HN.out rfl (Stay.refl x)).mono nL (by omega)⟩
set_option maxRecDepth 100000 in
set_option maxHeartbeats 16000000 in
theorem tellPre_node (w : World) (M F : Nat → Prop) (p : Nat) (x : NodeS) (h : NodeAt w M F p x) (hM : ∀ k, M k → k < w.heap.size) (hl : x.out.length ≤ 800000) (C0 : List Int) (g : Gh En) (n : Nat) (X : List En) (hg : OkG C0 g n) (hN : OkN C0 g n x X) (hn6 : n ≤ 1000) (hXn : X.length + 1 ≤ n) (m : Msg) (hm : MsgOk w M m) (hmo : OkM C0 g n m) (htn : x.term + 1 ≤ n) (hmt : m.term ≤ n) :
  Calls Tryz.prog 36 #[.pointer (some ⟨p, 0, none⟩), m.agg] w (TickR C0 g n w M F p x) := by
 have HCC := hI (fun (hr : x.role = 1) => count_law hN m.from_ m.yes fun h2 => by omega)
 have t0 := hmo.t0
 have f1 := hmo.f1
 have f7 := hmo.f7
 have hR0 := Rn.start h hM
 obtain ⟨_, _, ea, ec, hev, _⟩ := hm.ents
 obtain ⟨ma, mc, hmv, _⟩ := hm.mem
 obtain ⟨d, hd, _⟩ := hm.data
 obtain ⟨da, dc, hdv, _⟩ := hd
 obtain ⟨mk, from_, to_, term, mi, logTerm, commit, my, ev, mv, dv, es, mem⟩ := m
 simp only at hev hmv hdv
 subst hev hmv hdv
 have hpl := h.plt
 obtain ⟨Wm, hX⟩ : ∃ Wm, Wm = w.alloc (.cells #[.int .i64 mk, .int .i64 from_, .int .i64 to_, .int .u64 term, .int .u64 mi, .int .u64 logTerm, .int .u64 commit, .bool my, .slice ea es.length ec, .slice ma mem.length mc, .slice da d.length dc] 54) := ⟨_, rfl⟩
 have hbX : Below w.heap.size w Wm := by rw [hX]; exact bR.alloc nL _
 have HXX : Hid (Wm.heap[w.heap.size]? = some (.cells #[.int .i64 mk, .int .i64 from_, .int .i64 to_, .int .u64 term, .int .u64 mi, .int .u64 logTerm, .int .u64 commit, .bool my, .slice ea es.length ec, .slice ma mem.length mc, .slice da d.length dc] 54 (0, 0))) := hI (by rw [hX]; exact bW w _)
 have HRX := hI (hR0.below hbX)
 have HBX := hI hbX
 have HN := hI hN
 have HG := hI hg
 have HL := hI hl
 have HXN := hI hXn
 have ht0 := hN.t0
 have htn0 := hN.tn
 obtain ⟨pq, hpq⟩ := hR0.pvp
 have HPQ := hI hpq
 simp only at *
 have hfx : ¬ F w.heap.size := fun e => absurd (hR0.glt _ e) (Nat.lt_irrefl _)
 have HGB := hI hfx
 have HR0 := hI hR0
 have HTN := hI htn
 have HMT := hI hmt
 have hw : IntKind.u64.wrap (x.term + 1) = x.term + 1 := IntWalk.u64_in _ (by omega)
 clear h hM hl hg hN hm hmo hR0 hbX hXn hpq hfx hmt
 unfold Msg.agg
 have hcase : (my = false ∧ decide (x.term < term) = true) ∨ (my = false ∧ decide (x.term < term) = false ∧ (x.role == 1) = false) ∨ (my = true ∧ (x.role == 1) = false) ∨ (my = false ∧ decide (x.term < term) = false ∧ (x.role == 1) = true) ∨ (my = true ∧ (x.role == 1) = true ∧ (term == x.term + 1) = false) ∨ (my = true ∧ (x.role == 1) = true ∧ (term == x.term + 1) = true) := by
  cases my <;> cases decide (x.term < term) <;> cases (x.role == 1) <;> cases (term == x.term + 1) <;> simp
 rcases hcase with ⟨rfl, q1⟩ | ⟨rfl, q1, q2⟩ | ⟨rfl, q2⟩ | ⟨rfl, q1, q2⟩ | ⟨rfl, q2, q3⟩ | ⟨rfl, q2, q3⟩
 ·skip
  go_enter Tryz.func36, Tryz.ntmps36
  go_wp2_with fail
  rw [← hX]
  clear hX
  obtain ⟨-, -, -, c3, -, -, -, c7, -, -, -⟩ := r11 HXX.out
  have n4 : ∀ dz oz, (grow (redrawn Wm dz) oz).cell? ⟨p, 4, none⟩ = some (.int .u64 x.term) := cell_regrown (HRX.out.cell 4 rfl)
  have lw := heap_lt HXX.out
  have lp := HRX.out.plt
  refine wp_region_quiet_below (by kernel_rfl) (by kernel_rfl) ?_
  iterate 13 (quiet_step (fail))
  refine wpQuiet_nil ?_
  intro w3 hw'
  have HB3 : Hid (Below Wm.heap.size Wm w3) := hI (by
    obtain ⟨⟨dq, osq⟩, hw''⟩ := hw'
    subst hw''
    exact below_regrown Wm dq osq)
  clear hw'
  have HX3 := hI (bH HB3.out HXX.out (heap_lt HXX.out))
  have HR3 := hI (HRX.out.below HB3.out)
  clear c3 c7 n4 lw lp
  try simp only [Act.put, sA, sS, sZ]
  have e3 : w3.cell? ⟨w.heap.size, 3, none⟩ = some (.int .u64 term) := bC HX3.out 3 rfl
  have HFO := hI (follow_node w3 _ F p _ HR3.out.node HR3.out.ml term 0)
  have hlt : x.term < term := by simpa using q1
  have HLT := hI hlt
  clear q1 hlt
  go_wp2_with fail
  refine HFO.out.mono ?_
  rintro en w6 ⟨rfl, hn6'⟩
  obtain ⟨G6, h6⟩ := HR3.out.call hn6'
  have H6 := hI h6.to
  clear hn6' h6 HFO
  go_wp2_with fail
  first
   | refine bT rfl rfl ?_
   | refine bE rfl rfl ?_
  exact ⟨rfl, _, g, X, H6.out, (Acts.own HG.out (HN.out.folB (by have := HLT.out; omega) HMT.out 0) (folB_out _ _ _) (folB_stay _ _ _)).mono nL (by omega)⟩
 ·skip
  have q2' : (x.role != 1) = !(x.role == 1) := rfl
  rw [q2] at q2'
  go_enter Tryz.func36, Tryz.ntmps36
  go_wp2_with fail
  rw [← hX]
  clear hX
  obtain ⟨-, -, -, c3, -, -, -, c7, -, -, -⟩ := r11 HXX.out
  have n4 : ∀ dz oz, (grow (redrawn Wm dz) oz).cell? ⟨p, 4, none⟩ = some (.int .u64 x.term) := cell_regrown (HRX.out.cell 4 rfl)
  have lw := heap_lt HXX.out
  have lp := HRX.out.plt
  refine wp_region_quiet_below (by kernel_rfl) (by kernel_rfl) ?_
  iterate 13 (quiet_step (fail))
  refine wpQuiet_nil ?_
  intro w3 hw'
  have HB3 : Hid (Below Wm.heap.size Wm w3) := hI (by
    obtain ⟨⟨dq, osq⟩, hw''⟩ := hw'
    subst hw''
    exact below_regrown Wm dq osq)
  clear hw'
  have HX3 := hI (bH HB3.out HXX.out (heap_lt HXX.out))
  have HR3 := hI (HRX.out.below HB3.out)
  clear c3 c7 n4 lw lp
  try simp only [Act.put, sA, sS, sZ]
  go_wp2_with fail
  obtain ⟨-, -, -, rc3, -, -, -, rc7, -, -, -⟩ := r11 HX3.out
  have rn4 : ∀ dz oz, (grow (redrawn w3 dz) oz).cell? ⟨p, 4, none⟩ = some (.int .u64 x.term) := cell_regrown (HR3.out.cell 4 rfl)
  have rn6 : ∀ dz oz, (grow (redrawn w3 dz) oz).cell? ⟨p, 6, none⟩ = some (.int .i64 x.role) := cell_regrown (HR3.out.cell 6 rfl)
  have rlw := heap_lt HX3.out
  have rlp := HR3.out.plt
  refine wp_region_quiet_below (by kernel_rfl) (by kernel_rfl) ?_
  iterate 6 (quiet_step (fail))
  iterate 12 (with_reducible refine wQ (by kernel_rfl) ?_)
  simp only [Act.put, sA, sS, sZ]
  iterate 2 (quiet_step (fail))
  refine wpQuiet_nil ?_
  intro w6 hw'
  have HB6 : Hid (Below w3.heap.size w3 w6) := hI (by
    obtain ⟨⟨dq, osq⟩, hw''⟩ := hw'
    subst hw''
    exact below_regrown w3 dq osq)
  clear hw'
  have HX6 := hI (bH HB6.out HX3.out (heap_lt HX3.out))
  have HR6 := hI (HR3.out.below HB6.out)
  clear rc3 rc7 rn4 rn6 rlw rlp
  try simp only [Act.put, sA, sS, sZ]
  go_wp2_with fail
  first
   | refine bT rfl rfl ?_
   | refine bE rfl rfl ?_
  exact ⟨rfl, _, g, X, HR6.out.to, (Acts.own HG.out HN.out rfl (Stay.refl x)).mono nL (by omega)⟩
 ·skip
  have q2' : (x.role != 1) = !(x.role == 1) := rfl
  rw [q2] at q2'
  go_enter Tryz.func36, Tryz.ntmps36
  go_wp2_with fail
  rw [← hX]
  clear hX
  obtain ⟨-, -, -, c3, -, -, -, c7, -, -, -⟩ := r11 HXX.out
  have n4 : ∀ dz oz, (grow (redrawn Wm dz) oz).cell? ⟨p, 4, none⟩ = some (.int .u64 x.term) := cell_regrown (HRX.out.cell 4 rfl)
  have lw := heap_lt HXX.out
  have lp := HRX.out.plt
  refine wp_region_quiet_below (by kernel_rfl) (by kernel_rfl) ?_
  iterate 4 (quiet_step (fail))
  iterate 7 (with_reducible refine wQ (by kernel_rfl) ?_)
  simp only [Act.put, sA, sS, sZ]
  iterate 2 (quiet_step (fail))
  refine wpQuiet_nil ?_
  intro w3 hw'
  have HB3 : Hid (Below Wm.heap.size Wm w3) := hI (by
    obtain ⟨⟨dq, osq⟩, hw''⟩ := hw'
    subst hw''
    exact below_regrown Wm dq osq)
  clear hw'
  have HX3 := hI (bH HB3.out HXX.out (heap_lt HXX.out))
  have HR3 := hI (HRX.out.below HB3.out)
  clear c3 c7 n4 lw lp
  try simp only [Act.put, sA, sS, sZ]
  go_wp2_with fail
  obtain ⟨-, -, -, rc3, -, -, -, rc7, -, -, -⟩ := r11 HX3.out
  have rn4 : ∀ dz oz, (grow (redrawn w3 dz) oz).cell? ⟨p, 4, none⟩ = some (.int .u64 x.term) := cell_regrown (HR3.out.cell 4 rfl)
  have rn6 : ∀ dz oz, (grow (redrawn w3 dz) oz).cell? ⟨p, 6, none⟩ = some (.int .i64 x.role) := cell_regrown (HR3.out.cell 6 rfl)
  have rlw := heap_lt HX3.out
  have rlp := HR3.out.plt
  refine wp_region_quiet_below (by kernel_rfl) (by kernel_rfl) ?_
  iterate 6 (quiet_step (fail))
  iterate 12 (with_reducible refine wQ (by kernel_rfl) ?_)
  simp only [Act.put, sA, sS, sZ]
  iterate 2 (quiet_step (fail))
  refine wpQuiet_nil ?_
  intro w6 hw'
  have HB6 : Hid (Below w3.heap.size w3 w6) := hI (by
    obtain ⟨⟨dq, osq⟩, hw''⟩ := hw'
    subst hw''
    exact below_regrown w3 dq osq)
  clear hw'
  have HX6 := hI (bH HB6.out HX3.out (heap_lt HX3.out))
  have HR6 := hI (HR3.out.below HB6.out)
  clear rc3 rc7 rn4 rn6 rlw rlp
  try simp only [Act.put, sA, sS, sZ]
  go_wp2_with fail
  first
   | refine bT rfl rfl ?_
   | refine bE rfl rfl ?_
  exact ⟨rfl, _, g, X, HR6.out.to, (Acts.own HG.out HN.out rfl (Stay.refl x)).mono nL (by omega)⟩
 ·skip
  have q2' : (x.role != 1) = !(x.role == 1) := rfl
  rw [q2] at q2'
  go_enter Tryz.func36, Tryz.ntmps36
  go_wp2_with fail
  rw [← hX]
  clear hX
  obtain ⟨-, -, -, c3, -, -, -, c7, -, -, -⟩ := r11 HXX.out
  have n4 : ∀ dz oz, (grow (redrawn Wm dz) oz).cell? ⟨p, 4, none⟩ = some (.int .u64 x.term) := cell_regrown (HRX.out.cell 4 rfl)
  have lw := heap_lt HXX.out
  have lp := HRX.out.plt
  refine wp_region_quiet_below (by kernel_rfl) (by kernel_rfl) ?_
  iterate 13 (quiet_step (fail))
  refine wpQuiet_nil ?_
  intro w3 hw'
  have HB3 : Hid (Below Wm.heap.size Wm w3) := hI (by
    obtain ⟨⟨dq, osq⟩, hw''⟩ := hw'
    subst hw''
    exact below_regrown Wm dq osq)
  clear hw'
  have HX3 := hI (bH HB3.out HXX.out (heap_lt HXX.out))
  have HR3 := hI (HRX.out.below HB3.out)
  clear c3 c7 n4 lw lp
  try simp only [Act.put, sA, sS, sZ]
  go_wp2_with fail
  obtain ⟨-, -, -, rc3, -, -, -, rc7, -, -, -⟩ := r11 HX3.out
  have rn4 : ∀ dz oz, (grow (redrawn w3 dz) oz).cell? ⟨p, 4, none⟩ = some (.int .u64 x.term) := cell_regrown (HR3.out.cell 4 rfl)
  have rn6 : ∀ dz oz, (grow (redrawn w3 dz) oz).cell? ⟨p, 6, none⟩ = some (.int .i64 x.role) := cell_regrown (HR3.out.cell 6 rfl)
  have rlw := heap_lt HX3.out
  have rlp := HR3.out.plt
  refine wp_region_quiet_below (by kernel_rfl) (by kernel_rfl) ?_
  iterate 9 (quiet_step (fail))
  iterate 8 (with_reducible refine wQ (by kernel_rfl) ?_)
  simp only [Act.put, sA, sS, sZ]
  iterate 3 (quiet_step (fail))
  refine wpQuiet_nil ?_
  intro w6 hw'
  have HB6 : Hid (Below w3.heap.size w3 w6) := hI (by
    obtain ⟨⟨dq, osq⟩, hw''⟩ := hw'
    subst hw''
    exact below_regrown w3 dq osq)
  clear hw'
  have HX6 := hI (bH HB6.out HX3.out (heap_lt HX3.out))
  have HR6 := hI (HR3.out.below HB6.out)
  clear rc3 rc7 rn4 rn6 rlw rlp
  try simp only [Act.put, sA, sS, sZ]
  have hr1 : x.role = 1 := by simpa using q2
  have HCT := hI (HCC.out hr1)
  clear hr1 q2 q2'
  go_wp2_with fail
  have k15 : w6.cell? ⟨p, 15, none⟩ = some (.pointer pq) := by rw [← HPQ.out]; exact HR6.out.cell 15 rfl
  obtain ⟨-, kc1, -, -, -, -, -, kc7, -, -, -⟩ := b11 HX6.out
  have hvo := HR6.out.drew.voted from_ f1 f7 false
  rw [HPQ.out] at hvo
  have HVO := hI hvo
  clear hvo
  go_region_held3 (fun w' => w'.cell? ⟨p, 15, none⟩ = some (.pointer pq) ∧ w'.cell? ⟨w.heap.size, 1, none⟩ = some (.int .i64 from_) ∧ w'.cell? ⟨w.heap.size, 7, none⟩ = some (.bool false)) (first | exact ⟨k15, kc1, kc7⟩ | exact ⟨j15, jc1, jc7⟩)
   (first | (go_at_call 67; refine HVO.out.mono ?_; rintro en w4 ⟨⟨vb, rfl⟩, G4, h4, hk4, hG4⟩; have H4 := hI h4; have HX4 := hI (hk4.heap HGB.out (show w6.drew.heap[w.heap.size]? = _ from HX6.out)); have j15 : w4.cell? ⟨p, 15, none⟩ = some (.pointer pq) := (by rw [← HPQ.out]; exact h4.cell 15 rfl); have jc1 : w4.cell? ⟨w.heap.size, 1, none⟩ = some (.int .i64 from_) := bC HX4.out 1 rfl; have jc7 : w4.cell? ⟨w.heap.size, 7, none⟩ = some (.bool false) := bC HX4.out 7 rfl; clear h4 hk4 hG4))
  have hst := H4.out.stateX
  have hst' : Calls Tryz.prog 68 #[.pointer pq] w4 (StateX w4 (x.counted from_ false).pl) := by rw [← HPQ.out]; exact hst
  have HST := hI hst'
  have HA4 : Hid (Acts C0 g n 0 x g (x.counted from_ false) X) := hI (Acts.own HG.out HCT.out rfl ⟨rfl, rfl, rfl, rfl⟩)
  clear k15 kc1 kc7 jc1 jc7 hst hst'
  go_wp2_with fail
  refine HST.out.mono ?_
  rintro en w5 ⟨hb5, r, rfl, hr5, hwon⟩
  have H5 := hI (H4.out.below hb5)
  have HWO := hI hwon
  clear hb5 hwon HST j15
  by_cases hr1 : r = 1
  ·subst hr1
   obtain ⟨pm, vl, hpl4, hmaj⟩ := HWO.out rfl
   have HLD := hI (stands_node w5 _ G4 p _ H5.out.node H5.out.ml HL.out C0 g n X HG.out HCT.out hn6 HXN.out HTN.out)
   clear hr5 hpl4 hmaj
   go_wp2_with fail
   refine HLD.out.mono ?_
   rintro en w6 ⟨rfl, y, g2, Y, hn6', hA6⟩
   obtain ⟨G6, h6⟩ := H5.out.call hn6'
   have H6 := hI h6.to
   have HA6 := hI (HA4.out.trans hA6)
   clear hn6' hA6 h6 HLD
   go_wp2_with fail
   refine bE rfl rfl ?_
   exact ⟨rfl, y, g2, Y, H6.out, HA6.out.mono nL (by omega)⟩
  ·have q1 : (r == 1) = false := by simpa using hr1
   by_cases hr2 : r = 2
   ·subst hr2
    have k4 : w5.cell? ⟨p, 4, none⟩ = some (.int .u64 x.term) := H5.out.cell 4 rfl
    have HFO := hI (follow_node w5 _ G4 p _ H5.out.node H5.out.ml x.term 0)
    clear hr5 hr1
    go_wp2_with fail
    refine HFO.out.mono ?_
    rintro en w6 ⟨rfl, hn6'⟩
    obtain ⟨G6, h6⟩ := H5.out.call hn6'
    have H6 := hI h6.to
    clear hn6' h6 HFO
    go_wp2_with fail
    refine bE rfl rfl ?_
    exact ⟨rfl, _, g, X, H6.out, (HA4.out.trans (Acts.own HG.out (HCT.out.folB (Int.le_refl _) htn0 0) (folB_out _ _ _) (folB_stay _ _ _))).mono nL (by omega)⟩
   ·have q2 : (r == 2) = false := by simpa using hr2
    clear hr5
    go_wp2_with fail
    refine bE rfl rfl ?_
    exact ⟨rfl, _, g, X, H5.out.to, HA4.out.mono nL (by omega)⟩
 ·skip
  have q2' : (x.role != 1) = !(x.role == 1) := rfl
  rw [q2] at q2'
  have q3' : (term != x.term + 1) = !(term == x.term + 1) := rfl
  rw [q3] at q3'
  go_enter Tryz.func36, Tryz.ntmps36
  go_wp2_with fail
  rw [← hX]
  clear hX
  obtain ⟨-, -, -, c3, -, -, -, c7, -, -, -⟩ := r11 HXX.out
  have n4 : ∀ dz oz, (grow (redrawn Wm dz) oz).cell? ⟨p, 4, none⟩ = some (.int .u64 x.term) := cell_regrown (HRX.out.cell 4 rfl)
  have lw := heap_lt HXX.out
  have lp := HRX.out.plt
  refine wp_region_quiet_below (by kernel_rfl) (by kernel_rfl) ?_
  iterate 4 (quiet_step (fail))
  iterate 7 (with_reducible refine wQ (by kernel_rfl) ?_)
  simp only [Act.put, sA, sS, sZ]
  iterate 2 (quiet_step (fail))
  refine wpQuiet_nil ?_
  intro w3 hw'
  have HB3 : Hid (Below Wm.heap.size Wm w3) := hI (by
    obtain ⟨⟨dq, osq⟩, hw''⟩ := hw'
    subst hw''
    exact below_regrown Wm dq osq)
  clear hw'
  have HX3 := hI (bH HB3.out HXX.out (heap_lt HXX.out))
  have HR3 := hI (HRX.out.below HB3.out)
  clear c3 c7 n4 lw lp
  try simp only [Act.put, sA, sS, sZ]
  go_wp2_with fail
  obtain ⟨-, -, -, rc3, -, -, -, rc7, -, -, -⟩ := r11 HX3.out
  have rn4 : ∀ dz oz, (grow (redrawn w3 dz) oz).cell? ⟨p, 4, none⟩ = some (.int .u64 x.term) := cell_regrown (HR3.out.cell 4 rfl)
  have rn6 : ∀ dz oz, (grow (redrawn w3 dz) oz).cell? ⟨p, 6, none⟩ = some (.int .i64 x.role) := cell_regrown (HR3.out.cell 6 rfl)
  have rlw := heap_lt HX3.out
  have rlp := HR3.out.plt
  refine wp_region_quiet_below (by kernel_rfl) (by kernel_rfl) ?_
  iterate 20 (quiet_step (fail))
  refine wpQuiet_nil ?_
  intro w6 hw'
  have HB6 : Hid (Below w3.heap.size w3 w6) := hI (by
    obtain ⟨⟨dq, osq⟩, hw''⟩ := hw'
    subst hw''
    exact below_regrown w3 dq osq)
  clear hw'
  have HX6 := hI (bH HB6.out HX3.out (heap_lt HX3.out))
  have HR6 := hI (HR3.out.below HB6.out)
  clear rc3 rc7 rn4 rn6 rlw rlp
  try simp only [Act.put, sA, sS, sZ]
  go_wp2_with fail
  first
   | refine bT rfl rfl ?_
   | refine bE rfl rfl ?_
  exact ⟨rfl, _, g, X, HR6.out.to, (Acts.own HG.out HN.out rfl (Stay.refl x)).mono nL (by omega)⟩
 ·skip
  have q2' : (x.role != 1) = !(x.role == 1) := rfl
  rw [q2] at q2'
  have q3' : (term != x.term + 1) = !(term == x.term + 1) := rfl
  rw [q3] at q3'
  go_enter Tryz.func36, Tryz.ntmps36
  go_wp2_with fail
  rw [← hX]
  clear hX
  obtain ⟨-, -, -, c3, -, -, -, c7, -, -, -⟩ := r11 HXX.out
  have n4 : ∀ dz oz, (grow (redrawn Wm dz) oz).cell? ⟨p, 4, none⟩ = some (.int .u64 x.term) := cell_regrown (HRX.out.cell 4 rfl)
  have lw := heap_lt HXX.out
  have lp := HRX.out.plt
  refine wp_region_quiet_below (by kernel_rfl) (by kernel_rfl) ?_
  iterate 4 (quiet_step (fail))
  iterate 7 (with_reducible refine wQ (by kernel_rfl) ?_)
  simp only [Act.put, sA, sS, sZ]
  iterate 2 (quiet_step (fail))
  refine wpQuiet_nil ?_
  intro w3 hw'
  have HB3 : Hid (Below Wm.heap.size Wm w3) := hI (by
    obtain ⟨⟨dq, osq⟩, hw''⟩ := hw'
    subst hw''
    exact below_regrown Wm dq osq)
  clear hw'
  have HX3 := hI (bH HB3.out HXX.out (heap_lt HXX.out))
  have HR3 := hI (HRX.out.below HB3.out)
  clear c3 c7 n4 lw lp
  try simp only [Act.put, sA, sS, sZ]
  go_wp2_with fail
  obtain ⟨-, -, -, rc3, -, -, -, rc7, -, -, -⟩ := r11 HX3.out
  have rn4 : ∀ dz oz, (grow (redrawn w3 dz) oz).cell? ⟨p, 4, none⟩ = some (.int .u64 x.term) := cell_regrown (HR3.out.cell 4 rfl)
  have rn6 : ∀ dz oz, (grow (redrawn w3 dz) oz).cell? ⟨p, 6, none⟩ = some (.int .i64 x.role) := cell_regrown (HR3.out.cell 6 rfl)
  have rlw := heap_lt HX3.out
  have rlp := HR3.out.plt
  refine wp_region_quiet_below (by kernel_rfl) (by kernel_rfl) ?_
  iterate 20 (quiet_step (fail))
  refine wpQuiet_nil ?_
  intro w6 hw'
  have HB6 : Hid (Below w3.heap.size w3 w6) := hI (by
    obtain ⟨⟨dq, osq⟩, hw''⟩ := hw'
    subst hw''
    exact below_regrown w3 dq osq)
  clear hw'
  have HX6 := hI (bH HB6.out HX3.out (heap_lt HX3.out))
  have HR6 := hI (HR3.out.below HB6.out)
  clear rc3 rc7 rn4 rn6 rlw rlp
  try simp only [Act.put, sA, sS, sZ]
  clear q3 q3'
  have hr1 : x.role = 1 := by simpa using q2
  have HCT := hI (HCC.out hr1)
  clear hr1 q2 q2'
  go_wp2_with fail
  have k15 : w6.cell? ⟨p, 15, none⟩ = some (.pointer pq) := by rw [← HPQ.out]; exact HR6.out.cell 15 rfl
  obtain ⟨-, kc1, -, -, -, -, -, kc7, -, -, -⟩ := b11 HX6.out
  have hvo := HR6.out.drew.voted from_ f1 f7 true
  rw [HPQ.out] at hvo
  have HVO := hI hvo
  clear hvo
  go_region_held3 (fun w' => w'.cell? ⟨p, 15, none⟩ = some (.pointer pq) ∧ w'.cell? ⟨w.heap.size, 1, none⟩ = some (.int .i64 from_) ∧ w'.cell? ⟨w.heap.size, 7, none⟩ = some (.bool true)) (first | exact ⟨k15, kc1, kc7⟩ | exact ⟨j15, jc1, jc7⟩)
   (first | (go_at_call 67; refine HVO.out.mono ?_; rintro en w4 ⟨⟨vb, rfl⟩, G4, h4, hk4, hG4⟩; have H4 := hI h4; have HX4 := hI (hk4.heap HGB.out (show w6.drew.heap[w.heap.size]? = _ from HX6.out)); have j15 : w4.cell? ⟨p, 15, none⟩ = some (.pointer pq) := (by rw [← HPQ.out]; exact h4.cell 15 rfl); have jc1 : w4.cell? ⟨w.heap.size, 1, none⟩ = some (.int .i64 from_) := bC HX4.out 1 rfl; have jc7 : w4.cell? ⟨w.heap.size, 7, none⟩ = some (.bool true) := bC HX4.out 7 rfl; clear h4 hk4 hG4))
  have hst := H4.out.stateX
  have hst' : Calls Tryz.prog 68 #[.pointer pq] w4 (StateX w4 (x.counted from_ true).pl) := by rw [← HPQ.out]; exact hst
  have HST := hI hst'
  have HA4 : Hid (Acts C0 g n 0 x g (x.counted from_ true) X) := hI (Acts.own HG.out HCT.out rfl ⟨rfl, rfl, rfl, rfl⟩)
  clear k15 kc1 kc7 jc1 jc7 hst hst'
  go_wp2_with fail
  refine HST.out.mono ?_
  rintro en w5 ⟨hb5, r, rfl, hr5, hwon⟩
  have H5 := hI (H4.out.below hb5)
  have HWO := hI hwon
  clear hb5 hwon HST j15
  by_cases hr1 : r = 1
  ·subst hr1
   obtain ⟨pm, vl, hpl4, hmaj⟩ := HWO.out rfl
   have HLD := hI (stands_node w5 _ G4 p _ H5.out.node H5.out.ml HL.out C0 g n X HG.out HCT.out hn6 HXN.out HTN.out)
   clear hr5 hpl4 hmaj
   go_wp2_with fail
   refine HLD.out.mono ?_
   rintro en w6 ⟨rfl, y, g2, Y, hn6', hA6⟩
   obtain ⟨G6, h6⟩ := H5.out.call hn6'
   have H6 := hI h6.to
   have HA6 := hI (HA4.out.trans hA6)
   clear hn6' hA6 h6 HLD
   go_wp2_with fail
   refine bE rfl rfl ?_
   exact ⟨rfl, y, g2, Y, H6.out, HA6.out.mono nL (by omega)⟩
  ·have q1 : (r == 1) = false := by simpa using hr1
   by_cases hr2 : r = 2
   ·subst hr2
    have k4 : w5.cell? ⟨p, 4, none⟩ = some (.int .u64 x.term) := H5.out.cell 4 rfl
    have HFO := hI (follow_node w5 _ G4 p _ H5.out.node H5.out.ml x.term 0)
    clear hr5 hr1
    go_wp2_with fail
    refine HFO.out.mono ?_
    rintro en w6 ⟨rfl, hn6'⟩
    obtain ⟨G6, h6⟩ := H5.out.call hn6'
    have H6 := hI h6.to
    clear hn6' h6 HFO
    go_wp2_with fail
    refine bE rfl rfl ?_
    exact ⟨rfl, _, g, X, H6.out, (HA4.out.trans (Acts.own HG.out (HCT.out.folB (Int.le_refl _) htn0 0) (folB_out _ _ _) (folB_stay _ _ _))).mono nL (by omega)⟩
   ·have q2 : (r == 2) = false := by simpa using hr2
    clear hr5
    go_wp2_with fail
    refine bE rfl rfl ?_
    exact ⟨rfl, _, g, X, H5.out.to, HA4.out.mono nL (by omega)⟩
end Go.Proofs.YtdjooojpcepleaaGreat

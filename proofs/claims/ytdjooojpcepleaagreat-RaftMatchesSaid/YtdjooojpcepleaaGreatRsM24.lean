/- raft, any node: askVote. -/
import Derived.Test.YtdjooojpcepleaaGreatRsM23

namespace Go.Proofs.YtdjooojpcepleaaGreat
open Go.RowKit
open Go.«Sort» (grow)
theorem grant_law {C0 : List Int} {g : Gh En} {n : Nat} {x : NodeS} {X : List En} (hg : OkG C0 g n) (h : OkN C0 g n x X) (hok : LogOk x.ix x.tm x.es) {m : Msg} (hmo : OkM C0 g n m) (hk : m.kind = 2) (hmt : m.term = x.term) (hne : m.from_ ≠ x.id) (hr : x.role ≠ 3) (hv : x.vote = 0 ∨ x.vote = m.from_) (hy : x.yng m = true) (hd : Bool) :
  ∃ g', Acts C0 g n 0 x g' { x with hard := hd, vote := m.from_, since := 0 } X ∧ g'.vt x.id x.term.toNat m.from_ := by
 obtain ⟨L, h1, h2, h3⟩ := hmo.mi.ask hk
 have hl := h.last_term hok
 have hn := (h.nums hok).last
 have hlt := hok.lastT
 have hx0 := hmo.x0
 have hl0 := hmo.l0
 have hf1 := hmo.f1
 simp only [Msg.ms] at h1 h2 h3
 rw [hmt] at h1
 have hu : UpTo En.tm L X := by
  unfold NodeS.yng at hy
  simp only [Bool.or_eq_true, decide_eq_true_eq, Bool.and_eq_true, beq_iff_eq] at hy
  rcases hy with hy | ⟨hy, hy2⟩
  ·left; rw [hl, h3]; omega
  ·right; exact ⟨by rw [hl, h3, hy], by omega⟩
 obtain ⟨g', w1, w2, w3, w4⟩ := h.ni.grant hg.gi (c := m.from_) (by omega) hne hv h1 hu hr
 exact ⟨g', ⟨w1, ⟨w2, hg.c0⟩, ⟨w3, h.i7, h.t0, h.tn, h.c0, h.len, h.memb, by show 0 ≤ m.from_; omega, hmo.f7, fun e => absurd e hr, h.el⟩, ⟨[], by simp, (fun q hq => by cases hq), Nat.le_refl _⟩, ⟨rfl, rfl, rfl, rfl⟩⟩, w4⟩
set_option maxRecDepth 100000 in
set_option maxHeartbeats 16000000 in
theorem askVote_node (w : World) (M F : Nat → Prop) (p : Nat) (x : NodeS) (h : NodeAt w M F p x) (hM : ∀ k, M k → k < w.heap.size) (hl : x.out.length ≤ 800000) (C0 : List Int) (g : Gh En) (n : Nat) (X : List En) (hg : OkG C0 g n) (hN : OkN C0 g n x X) (hn6 : n ≤ 1000) (hXn : X.length + 1 ≤ n) (m : Msg) (hm : MsgOk w M m) (hmo : OkM C0 g n m) (hk : m.kind = 2) (hmt : m.term = x.term) (hne : m.from_ ≠ x.id) :
  Calls Tryz.prog 39 #[.pointer (some ⟨p, 0, none⟩), m.agg] w (TickR C0 g n w M F p x) := by
 have hym := fun W (hW : Below w.heap.size w W) => younger_node W M F p x (h.below hW) m (hm.mv_ (Mv.below M hW))
 have HGR := hI (fun hr hv hy hd => grant_law hg hN (Rn.start h hM).ok.1 hmo hk hmt hne hr hv hy hd)
 have t0 := hmo.t0
 have f1 := hmo.f1
 have f7 := hmo.f7
 have hR0 := Rn.start h hM
 obtain ⟨_, _, ea, ec, hev, _⟩ := hm.ents
 obtain ⟨ma, mc, hmv, _⟩ := hm.mem
 obtain ⟨d, hd, _⟩ := hm.data
 obtain ⟨da, dc, hdv, _⟩ := hd
 obtain ⟨mk, from_, to_, term, mi, logTerm, commit, my, ev, mv, dv, es, mem⟩ := m
 simp only at hev hmv hdv
 subst hev hmv hdv
 have hpl := h.plt
 obtain ⟨Wm, hX⟩ : ∃ Wm, Wm = w.alloc (.cells #[.int .i64 mk, .int .i64 from_, .int .i64 to_, .int .u64 term, .int .u64 mi, .int .u64 logTerm, .int .u64 commit, .bool my, .slice ea es.length ec, .slice ma mem.length mc, .slice da d.length dc] 54) := ⟨_, rfl⟩
 have hbX : Below w.heap.size w Wm := by rw [hX]; exact bR.alloc nL _
 have HXX : Hid (Wm.heap[w.heap.size]? = some (.cells #[.int .i64 mk, .int .i64 from_, .int .i64 to_, .int .u64 term, .int .u64 mi, .int .u64 logTerm, .int .u64 commit, .bool my, .slice ea es.length ec, .slice ma mem.length mc, .slice da d.length dc] 54 (0, 0))) := hI (by rw [hX]; exact bW w _)
 have HRX := hI (hR0.below hbX)
 have HBX := hI hbX
 have HN := hI hN
 have HG := hI hg
 have HL := hI hl
 have HXN := hI hXn
 have ht0 := hN.t0
 have htn0 := hN.tn
 obtain ⟨pq, hpq⟩ := hR0.pvp
 have HPQ := hI hpq
 simp only at *
 obtain ⟨yg, hyg⟩ : ∃ yg, yg = x.yng ⟨mk, from_, to_, term, mi, logTerm, commit, my, .slice ea es.length ec, .slice ma mem.length mc, .slice da d.length dc, es, mem⟩ := ⟨_, rfl⟩
 have HY : Hid (∀ W, Below w.heap.size w W → Calls Tryz.prog 65 #[.pointer (some ⟨p, 0, none⟩), .agg #[.int .i64 mk, .int .i64 from_, .int .i64 to_, .int .u64 term, .int .u64 mi, .int .u64 logTerm, .int .u64 commit, .bool my, .slice ea es.length ec, .slice ma mem.length mc, .slice da d.length dc]] W (RetB (.bool yg) W)) := hI (by rw [hyg]; exact hym)
 have HYG := hI hyg
 have hfx : ¬ F w.heap.size := fun e => absurd (hR0.glt _ e) (Nat.lt_irrefl _)
 have HGB := hI hfx
 have HR0 := hI hR0
 clear h hM hl hg hN hm hmo hR0 hbX hXn hpq hfx hym hyg hk hmt hne
 unfold Msg.agg
 have HQ : Hid (∀ dz oz, Calls Tryz.prog 65 #[.pointer (some ⟨p, 0, none⟩), .agg #[.int .i64 mk, .int .i64 from_, .int .i64 to_, .int .u64 term, .int .u64 mi, .int .u64 logTerm, .int .u64 commit, .bool my, .slice ea es.length ec, .slice ma mem.length mc, .slice da d.length dc]] (grow (redrawn Wm dz) oz) (fun e w'' => e = .returned (.bool yg) ∧ ∃ p : Regrown, w'' = grow (redrawn Wm p.d) p.os)) := hI fun dz oz => Calls.regrown_of ((HY.out _ (HBX.out.trans ((below_regrown Wm dz oz).mono HBX.out.size))).mono (by rintro e w' ⟨h1, h2⟩; exact ⟨h1, h2⟩))
 have hcase : ((x.vote == 0) = false ∧ (x.vote == from_) = false) ∨ ((x.vote == 0) = true ∧ (x.role == 3) = true) ∨ ((x.vote == 0) = true ∧ (x.role == 3) = false ∧ yg = false) ∨ ((x.vote == 0) = true ∧ (x.role == 3) = false ∧ yg = true) ∨
   ((x.vote == 0) = false ∧ (x.vote == from_) = true ∧ (x.role == 3) = true) ∨ ((x.vote == 0) = false ∧ (x.vote == from_) = true ∧ (x.role == 3) = false ∧ yg = false) ∨ ((x.vote == 0) = false ∧ (x.vote == from_) = true ∧ (x.role == 3) = false ∧ yg = true) := by
  cases (x.vote == 0) <;> cases (x.vote == from_) <;> cases (x.role == 3) <;> cases yg <;> simp
 rcases hcase with ⟨v1, v2⟩ | ⟨v1, q2⟩ | ⟨v1, q2, rfl⟩ | ⟨v1, q2, rfl⟩ | ⟨v1, v2, q2⟩ | ⟨v1, v2, q2, rfl⟩ | ⟨v1, v2, q2, rfl⟩
 ·skip
  go_enter Tryz.func39, Tryz.ntmps39
  go_wp2_with fail
  rw [← hX]
  clear hX
  have c1 : ∀ dz oz, (grow (redrawn Wm dz) oz).cell? ⟨w.heap.size, 1, none⟩ = some (.int .i64 from_) := cell_regrown (bC HXX.out 1 rfl)
  have n5 : ∀ dz oz, (grow (redrawn Wm dz) oz).cell? ⟨p, 5, none⟩ = some (.int .i64 x.vote) := cell_regrown (HRX.out.cell 5 rfl)
  have n6 : ∀ dz oz, (grow (redrawn Wm dz) oz).cell? ⟨p, 6, none⟩ = some (.int .i64 x.role) := cell_regrown (HRX.out.cell 6 rfl)
  have lw := heap_lt HXX.out
  have lp := HRX.out.plt
  refine wp_region_quiet_below (by kernel_rfl) (by kernel_rfl) ?_
  iterate 15 (quiet_step (first | (with_reducible exact HQ.out _ _)))
  iterate 5 (with_reducible refine wQ (by kernel_rfl) ?_)
  simp only [Act.put, sA, sS, sZ]
  iterate 2 (quiet_step (first | (with_reducible exact HQ.out _ _)))
  iterate 3 (with_reducible refine wQ (by kernel_rfl) ?_)
  simp only [Act.put, sA, sS, sZ]
  iterate 2 (quiet_step (first | (with_reducible exact HQ.out _ _)))
  refine wpQuiet_nil ?_
  intro w3 hw'
  have HB3 : Hid (Below Wm.heap.size Wm w3) := hI (by
    obtain ⟨⟨dq, osq⟩, hw''⟩ := hw'
    subst hw''
    exact below_regrown Wm dq osq)
  clear hw'
  have HX3 := hI (bH HB3.out HXX.out (heap_lt HXX.out))
  have HR3 := hI (HRX.out.below HB3.out)
  clear c1 n5 n6 lw lp
  try simp only [Act.put, sA, sS, sZ]
  go_wp2_with fail
  have s1 : w3.cell? ⟨w.heap.size, 1, none⟩ = some (.int .i64 from_) := bC HX3.out 1 rfl
  have s4 : w3.cell? ⟨p, 4, none⟩ = some (.int .u64 x.term) := HR3.out.cell 4 rfl
  have hs := send_node w3.drew _ _ p _ HR3.out.drew.node HR3.out.drew.ml (Msg.bare 3 from_ x.term 0 0 0 false) (MsgOk.bare _ _ _ _ _ _ _ _ _) (by have := HL.out; show x.out.length ≤ 1000000; omega)
  unfold Msg.agg Msg.bare at hs
  have HSE := hI hs
  clear hs
  go_region_held3 (fun w' => w'.cell? ⟨w.heap.size, 1, none⟩ = some (.int .i64 from_) ∧ w'.cell? ⟨p, 4, none⟩ = some (.int .u64 x.term)) (first | exact ⟨s1, s4⟩ | exact ⟨z1, z4⟩)
   (first | (go_at_call 66; refine HSE.out.mono ?_; rintro en w9 ⟨rfl, v9, hn9⟩; obtain ⟨G9, h9, hk9, _, _⟩ := HR3.out.drew.callK hn9; have H9 := hI h9; have HX9 := hI (hk9.heap HGB.out (show w3.drew.heap[w.heap.size]? = _ from HX3.out)); have z4 : w9.cell? ⟨p, 4, none⟩ = some (.int .u64 x.term) := h9.cell 4 rfl; have z1 : w9.cell? ⟨w.heap.size, 1, none⟩ = some (.int .i64 from_) := bC HX9.out 1 rfl; clear hn9 h9 hk9))
  go_wp2_with fail
  refine bE rfl rfl ?_
  exact ⟨rfl, _, g, X, H9.out.to, Grow.refl _ _, HG.out, HN.out.outs x.since v9 _, ⟨_, rfl, fun q hq => (by obtain rfl := List.mem_singleton.1 hq; exact HN.out.tells (.inr (.inl ⟨rfl, fun e => by cases e⟩)) (by show 0 ≤ x.term; omega) (by show x.term ≤ (n : Int) + 1; omega) f1 f7 (Int.le_refl _) (by omega)), by simp⟩, ⟨rfl, rfl, rfl, rfl⟩⟩
 ·skip
  have l0 : x.vote = 0 := by simpa using v1
  have LL := hI l0
  clear v1 l0
  have q2' : (x.role != 3) = !(x.role == 3) := rfl
  rw [q2] at q2'
  go_enter Tryz.func39, Tryz.ntmps39
  go_wp2_with fail
  rw [← hX]
  clear hX
  have c1 : ∀ dz oz, (grow (redrawn Wm dz) oz).cell? ⟨w.heap.size, 1, none⟩ = some (.int .i64 from_) := cell_regrown (bC HXX.out 1 rfl)
  have n5 : ∀ dz oz, (grow (redrawn Wm dz) oz).cell? ⟨p, 5, none⟩ = some (.int .i64 0) := cell_regrown (by rw [← LL.out]; exact HRX.out.cell 5 rfl)
  have n6 : ∀ dz oz, (grow (redrawn Wm dz) oz).cell? ⟨p, 6, none⟩ = some (.int .i64 x.role) := cell_regrown (HRX.out.cell 6 rfl)
  have lw := heap_lt HXX.out
  have lp := HRX.out.plt
  refine wp_region_quiet_below (by kernel_rfl) (by kernel_rfl) ?_
  iterate 6 (quiet_step (first | (with_reducible exact HQ.out _ _)))
  iterate 7 (with_reducible refine wQ (by kernel_rfl) ?_)
  simp only [Act.put, sA, sS, sZ]
  iterate 2 (quiet_step (first | (with_reducible exact HQ.out _ _)))
  iterate 7 (quiet_step (first | (with_reducible exact HQ.out _ _)))
  iterate 3 (with_reducible refine wQ (by kernel_rfl) ?_)
  simp only [Act.put, sA, sS, sZ]
  iterate 2 (quiet_step (first | (with_reducible exact HQ.out _ _)))
  refine wpQuiet_nil ?_
  intro w3 hw'
  have HB3 : Hid (Below Wm.heap.size Wm w3) := hI (by
    obtain ⟨⟨dq, osq⟩, hw''⟩ := hw'
    subst hw''
    exact below_regrown Wm dq osq)
  clear hw'
  have HX3 := hI (bH HB3.out HXX.out (heap_lt HXX.out))
  have HR3 := hI (HRX.out.below HB3.out)
  clear c1 n5 n6 lw lp
  try simp only [Act.put, sA, sS, sZ]
  go_wp2_with fail
  have s1 : w3.cell? ⟨w.heap.size, 1, none⟩ = some (.int .i64 from_) := bC HX3.out 1 rfl
  have s4 : w3.cell? ⟨p, 4, none⟩ = some (.int .u64 x.term) := HR3.out.cell 4 rfl
  have hs := send_node w3.drew _ _ p _ HR3.out.drew.node HR3.out.drew.ml (Msg.bare 3 from_ x.term 0 0 0 false) (MsgOk.bare _ _ _ _ _ _ _ _ _) (by have := HL.out; show x.out.length ≤ 1000000; omega)
  unfold Msg.agg Msg.bare at hs
  have HSE := hI hs
  clear hs
  go_region_held3 (fun w' => w'.cell? ⟨w.heap.size, 1, none⟩ = some (.int .i64 from_) ∧ w'.cell? ⟨p, 4, none⟩ = some (.int .u64 x.term)) (first | exact ⟨s1, s4⟩ | exact ⟨z1, z4⟩)
   (first | (go_at_call 66; refine HSE.out.mono ?_; rintro en w9 ⟨rfl, v9, hn9⟩; obtain ⟨G9, h9, hk9, _, _⟩ := HR3.out.drew.callK hn9; have H9 := hI h9; have HX9 := hI (hk9.heap HGB.out (show w3.drew.heap[w.heap.size]? = _ from HX3.out)); have z4 : w9.cell? ⟨p, 4, none⟩ = some (.int .u64 x.term) := h9.cell 4 rfl; have z1 : w9.cell? ⟨w.heap.size, 1, none⟩ = some (.int .i64 from_) := bC HX9.out 1 rfl; clear hn9 h9 hk9))
  go_wp2_with fail
  refine bE rfl rfl ?_
  exact ⟨rfl, _, g, X, H9.out.to, Grow.refl _ _, HG.out, HN.out.outs x.since v9 _, ⟨_, rfl, fun q hq => (by obtain rfl := List.mem_singleton.1 hq; exact HN.out.tells (.inr (.inl ⟨rfl, fun e => by cases e⟩)) (by show 0 ≤ x.term; omega) (by show x.term ≤ (n : Int) + 1; omega) f1 f7 (Int.le_refl _) (by omega)), by simp⟩, ⟨rfl, rfl, rfl, rfl⟩⟩
 ·skip
  have l0 : x.vote = 0 := by simpa using v1
  have LL := hI l0
  clear v1 l0
  have q2' : (x.role != 3) = !(x.role == 3) := rfl
  rw [q2] at q2'
  go_enter Tryz.func39, Tryz.ntmps39
  go_wp2_with fail
  rw [← hX]
  clear hX
  obtain ⟨c0, c1, c2, c3, c4, c5, c6, c7, c8, c9, c10⟩ := r11 HXX.out
  have n5 : ∀ dz oz, (grow (redrawn Wm dz) oz).cell? ⟨p, 5, none⟩ = some (.int .i64 0) := cell_regrown (by rw [← LL.out]; exact HRX.out.cell 5 rfl)
  have n6 : ∀ dz oz, (grow (redrawn Wm dz) oz).cell? ⟨p, 6, none⟩ = some (.int .i64 x.role) := cell_regrown (HRX.out.cell 6 rfl)
  have lw := heap_lt HXX.out
  have lp := HRX.out.plt
  refine wp_region_quiet_below (by kernel_rfl) (by kernel_rfl) ?_
  iterate 6 (quiet_step (first | (with_reducible exact HQ.out _ _)))
  iterate 7 (with_reducible refine wQ (by kernel_rfl) ?_)
  simp only [Act.put, sA, sS, sZ]
  iterate 2 (quiet_step (first | (with_reducible exact HQ.out _ _)))
  iterate 12 (quiet_step (first | (with_reducible exact HQ.out _ _)))
  refine wpQuiet_nil ?_
  intro w3 hw'
  have HB3 : Hid (Below Wm.heap.size Wm w3) := hI (by
    obtain ⟨⟨dq, osq⟩, hw''⟩ := hw'
    subst hw''
    exact below_regrown Wm dq osq)
  clear hw'
  have HX3 := hI (bH HB3.out HXX.out (heap_lt HXX.out))
  have HR3 := hI (HRX.out.below HB3.out)
  clear c0 c1 c2 c3 c4 c5 c6 c7 c8 c9 c10 n5 n6 lw lp
  try simp only [Act.put, sA, sS, sZ]
  go_wp2_with fail
  have s1 : w3.cell? ⟨w.heap.size, 1, none⟩ = some (.int .i64 from_) := bC HX3.out 1 rfl
  have s4 : w3.cell? ⟨p, 4, none⟩ = some (.int .u64 x.term) := HR3.out.cell 4 rfl
  have hs := send_node w3.drew _ _ p _ HR3.out.drew.node HR3.out.drew.ml (Msg.bare 3 from_ x.term 0 0 0 false) (MsgOk.bare _ _ _ _ _ _ _ _ _) (by have := HL.out; show x.out.length ≤ 1000000; omega)
  unfold Msg.agg Msg.bare at hs
  have HSE := hI hs
  clear hs
  go_region_held3 (fun w' => w'.cell? ⟨w.heap.size, 1, none⟩ = some (.int .i64 from_) ∧ w'.cell? ⟨p, 4, none⟩ = some (.int .u64 x.term)) (first | exact ⟨s1, s4⟩ | exact ⟨z1, z4⟩)
   (first | (go_at_call 66; refine HSE.out.mono ?_; rintro en w9 ⟨rfl, v9, hn9⟩; obtain ⟨G9, h9, hk9, _, _⟩ := HR3.out.drew.callK hn9; have H9 := hI h9; have HX9 := hI (hk9.heap HGB.out (show w3.drew.heap[w.heap.size]? = _ from HX3.out)); have z4 : w9.cell? ⟨p, 4, none⟩ = some (.int .u64 x.term) := h9.cell 4 rfl; have z1 : w9.cell? ⟨w.heap.size, 1, none⟩ = some (.int .i64 from_) := bC HX9.out 1 rfl; clear hn9 h9 hk9))
  go_wp2_with fail
  refine bE rfl rfl ?_
  exact ⟨rfl, _, g, X, H9.out.to, Grow.refl _ _, HG.out, HN.out.outs x.since v9 _, ⟨_, rfl, fun q hq => (by obtain rfl := List.mem_singleton.1 hq; exact HN.out.tells (.inr (.inl ⟨rfl, fun e => by cases e⟩)) (by show 0 ≤ x.term; omega) (by show x.term ≤ (n : Int) + 1; omega) f1 f7 (Int.le_refl _) (by omega)), by simp⟩, ⟨rfl, rfl, rfl, rfl⟩⟩
 ·skip
  have l0 : x.vote = 0 := by simpa using v1
  have LL := hI l0
  clear v1 l0
  have q2' : (x.role != 3) = !(x.role == 3) := rfl
  rw [q2] at q2'
  go_enter Tryz.func39, Tryz.ntmps39
  go_wp2_with fail
  rw [← hX]
  clear hX
  obtain ⟨c0, c1, c2, c3, c4, c5, c6, c7, c8, c9, c10⟩ := r11 HXX.out
  have n5 : ∀ dz oz, (grow (redrawn Wm dz) oz).cell? ⟨p, 5, none⟩ = some (.int .i64 0) := cell_regrown (by rw [← LL.out]; exact HRX.out.cell 5 rfl)
  have n6 : ∀ dz oz, (grow (redrawn Wm dz) oz).cell? ⟨p, 6, none⟩ = some (.int .i64 x.role) := cell_regrown (HRX.out.cell 6 rfl)
  have lw := heap_lt HXX.out
  have lp := HRX.out.plt
  refine wp_region_quiet_below (by kernel_rfl) (by kernel_rfl) ?_
  iterate 6 (quiet_step (first | (with_reducible exact HQ.out _ _)))
  iterate 7 (with_reducible refine wQ (by kernel_rfl) ?_)
  simp only [Act.put, sA, sS, sZ]
  iterate 2 (quiet_step (first | (with_reducible exact HQ.out _ _)))
  iterate 12 (quiet_step (first | (with_reducible exact HQ.out _ _)))
  refine wpQuiet_nil ?_
  intro w3 hw'
  have HB3 : Hid (Below Wm.heap.size Wm w3) := hI (by
    obtain ⟨⟨dq, osq⟩, hw''⟩ := hw'
    subst hw''
    exact below_regrown Wm dq osq)
  clear hw'
  have HX3 := hI (bH HB3.out HXX.out (heap_lt HXX.out))
  have HR3 := hI (HRX.out.below HB3.out)
  clear c0 c1 c2 c3 c4 c5 c6 c7 c8 c9 c10 n5 n6 lw lp
  try simp only [Act.put, sA, sS, sZ]
  have hrn : x.role ≠ 3 := by simpa using q2
  have hvv : x.vote = 0 ∨ x.vote = from_ := .inl LL.out
  obtain ⟨hd, hhd⟩ : ∃ hd, hd = (x.hard || (x.vote != from_)) := ⟨_, rfl⟩
  obtain ⟨g1, hA1, hvt⟩ := HGR.out hrn hvv HYG.out.symm hd
  have HA1 := hI hA1
  have HVT := hI hvt
  have HHD := hI hhd
  clear hrn hvv hA1 hvt hhd
  go_wp2_with fail
  obtain ⟨hb, hhb⟩ : ∃ hb, x.hard = hb := ⟨_, rfl⟩
  have HHB := hI hhb
  clear hhb
  have rc1 : ∀ dz oz, (grow (redrawn w3 dz) oz).cell? ⟨w.heap.size, 1, none⟩ = some (.int .i64 from_) := cell_regrown (bC HX3.out 1 rfl)
  have rn5 : ∀ dz oz, (grow (redrawn w3 dz) oz).cell? ⟨p, 5, none⟩ = some (.int .i64 x.vote) := cell_regrown (HR3.out.cell 5 rfl)
  have rn18 : ∀ dz oz, (grow (redrawn w3 dz) oz).cell? ⟨p, 18, none⟩ = some (.bool hb) := cell_regrown (by rw [← HHB.out]; exact HR3.out.cell 18 rfl)
  have rlw := heap_lt HX3.out
  have rlp := HR3.out.plt
  cases hb
  ·skip
   refine region_quiet_tail 16 (by kernel_rfl) (by kernel_rfl) ?_
   simp only [List.take_succ_cons, List.take_zero, List.drop_succ_cons, List.drop_zero]
   iterate 16 (quiet_step (fail))
   refine wpQuiet_nil ?_
   intro w6 hw'
   have HB6 : Hid (Below w3.heap.size w3 w6) := hI (by
     obtain ⟨⟨dq, osq⟩, hw''⟩ := hw'
     subst hw''
     exact below_regrown w3 dq osq)
   clear hw'
   have HX6 := hI (bH HB6.out HX3.out (heap_lt HX3.out))
   have HR6 := hI (HR3.out.below HB6.out)
   have HVL : Hid (hd = (x.vote != from_)) := hI (by rw [HHD.out, HHB.out]; rfl)
   have u18 := HR6.out.cell 18 rfl
   have v18 := HR6.out.free 18
   have u5 : w6.cell? ⟨p, 5, none⟩ = some (.int .i64 x.vote) := HR6.out.cell 5 rfl
   have v5 := HR6.out.free 5
   have u8 : w6.cell? ⟨p, 8, none⟩ = some (.int .i64 x.since) := HR6.out.cell 8 rfl
   have v8 := HR6.out.free 8
   have uc1 : w6.cell? ⟨w.heap.size, 1, none⟩ = some (.int .i64 from_) := bC HX6.out 1 rfl
   have hpw : w.heap.size ≠ p := by omega
   have H7 := hI (((HR6.out.set { x with hard := x.vote != from_ } 18 (.bool (x.vote != from_)) rfl rS).set { x with hard := x.vote != from_, vote := from_ } 5 (.int .i64 from_) rfl rS).set { x with hard := x.vote != from_, vote := from_, since := 0 } 8 (.int .i64 0) rfl rS)
   have HX7 := hI (bO (bO (bO HX6.out (a := ⟨p, 18, none⟩) hpw (.bool (x.vote != from_))) (a := ⟨p, 5, none⟩) hpw (.int .i64 from_)) (a := ⟨p, 8, none⟩) hpw (.int .i64 0))
   clear rc1 rn5 rn18 rlw rlp
   try simp only [Act.put, sA, sS, sZ]
   go_wp2_with fail
   generalize ((w6.setCell ⟨p, 18, none⟩ (.bool (x.vote != from_))).setCell ⟨p, 5, none⟩ (.int .i64 from_)).setCell ⟨p, 8, none⟩ (.int .i64 0) = W7 at *
   clear u18 v18 u5 v5 u8 v8 uc1
   have s1 : W7.cell? ⟨w.heap.size, 1, none⟩ = some (.int .i64 from_) := bC HX7.out 1 rfl
   have s4 : W7.cell? ⟨p, 4, none⟩ = some (.int .u64 x.term) := H7.out.cell 4 rfl
   have hs := send_node W7.drew _ _ p _ H7.out.drew.node H7.out.drew.ml (Msg.bare 3 from_ x.term 0 0 0 true) (MsgOk.bare _ _ _ _ _ _ _ _ _) (by have := HL.out; show x.out.length ≤ 1000000; omega)
   unfold Msg.agg Msg.bare at hs
   have HSE := hI hs
   clear hs
   go_region_held3 (fun w' => w'.cell? ⟨w.heap.size, 1, none⟩ = some (.int .i64 from_) ∧ w'.cell? ⟨p, 4, none⟩ = some (.int .u64 x.term)) (first | exact ⟨s1, s4⟩ | exact ⟨z1, z4⟩)
    (first | (go_at_call 66; refine HSE.out.mono ?_; rintro en w9 ⟨rfl, v9, hn9⟩; obtain ⟨G9, h9, hk9, _, _⟩ := H7.out.drew.callK hn9; have H9 := hI h9; have HX9 := hI (hk9.heap HGB.out (show W7.drew.heap[w.heap.size]? = _ from HX7.out)); have z4 : w9.cell? ⟨p, 4, none⟩ = some (.int .u64 x.term) := h9.cell 4 rfl; have z1 : w9.cell? ⟨w.heap.size, 1, none⟩ = some (.int .i64 from_) := bC HX9.out 1 rfl; clear hn9 h9 hk9))
   go_wp2_with fail
   refine bE rfl rfl ?_
   have hA1 := HA1.out
   rw [HVL.out] at hA1
   exact ⟨rfl, _, g1, X, H9.out.to, (hA1.trans (j := 1) ⟨Grow.refl _ _, hA1.gok, hA1.nok.outs 0 v9 _, ⟨_, rfl, fun q hq => (by obtain rfl := List.mem_singleton.1 hq; exact hA1.nok.tells (.inr (.inl ⟨rfl, fun _ => HVT.out⟩)) (by show 0 ≤ x.term; omega) (by show x.term ≤ (n : Int) + 1; omega) f1 f7 (Int.le_refl _) (by omega)), by simp⟩, ⟨rfl, rfl, rfl, rfl⟩⟩).mono nL (by omega)⟩
  ·skip
   refine region_quiet_tail 16 (by kernel_rfl) (by kernel_rfl) ?_
   simp only [List.take_succ_cons, List.take_zero, List.drop_succ_cons, List.drop_zero]
   iterate 6 (quiet_step (fail))
   iterate 7 (with_reducible refine wQ (by kernel_rfl) ?_)
   simp only [Act.put, sA, sS, sZ]
   iterate 3 (quiet_step (fail))
   refine wpQuiet_nil ?_
   intro w6 hw'
   have HB6 : Hid (Below w3.heap.size w3 w6) := hI (by
     obtain ⟨⟨dq, osq⟩, hw''⟩ := hw'
     subst hw''
     exact below_regrown w3 dq osq)
   clear hw'
   have HX6 := hI (bH HB6.out HX3.out (heap_lt HX3.out))
   have HR6 := hI (HR3.out.below HB6.out)
   have HVL : Hid (hd = (true)) := hI (by rw [HHD.out, HHB.out]; rfl)
   have u18 := HR6.out.cell 18 rfl
   have v18 := HR6.out.free 18
   have u5 : w6.cell? ⟨p, 5, none⟩ = some (.int .i64 x.vote) := HR6.out.cell 5 rfl
   have v5 := HR6.out.free 5
   have u8 : w6.cell? ⟨p, 8, none⟩ = some (.int .i64 x.since) := HR6.out.cell 8 rfl
   have v8 := HR6.out.free 8
   have uc1 : w6.cell? ⟨w.heap.size, 1, none⟩ = some (.int .i64 from_) := bC HX6.out 1 rfl
   have hpw : w.heap.size ≠ p := by omega
   have H7 := hI (((HR6.out.set { x with hard := true } 18 (.bool (true)) rfl rS).set { x with hard := true, vote := from_ } 5 (.int .i64 from_) rfl rS).set { x with hard := true, vote := from_, since := 0 } 8 (.int .i64 0) rfl rS)
   have HX7 := hI (bO (bO (bO HX6.out (a := ⟨p, 18, none⟩) hpw (.bool (true))) (a := ⟨p, 5, none⟩) hpw (.int .i64 from_)) (a := ⟨p, 8, none⟩) hpw (.int .i64 0))
   clear rc1 rn5 rn18 rlw rlp
   try simp only [Act.put, sA, sS, sZ]
   go_wp2_with fail
   generalize ((w6.setCell ⟨p, 18, none⟩ (.bool (true))).setCell ⟨p, 5, none⟩ (.int .i64 from_)).setCell ⟨p, 8, none⟩ (.int .i64 0) = W7 at *
   clear u18 v18 u5 v5 u8 v8 uc1
   have s1 : W7.cell? ⟨w.heap.size, 1, none⟩ = some (.int .i64 from_) := bC HX7.out 1 rfl
   have s4 : W7.cell? ⟨p, 4, none⟩ = some (.int .u64 x.term) := H7.out.cell 4 rfl
   have hs := send_node W7.drew _ _ p _ H7.out.drew.node H7.out.drew.ml (Msg.bare 3 from_ x.term 0 0 0 true) (MsgOk.bare _ _ _ _ _ _ _ _ _) (by have := HL.out; show x.out.length ≤ 1000000; omega)
   unfold Msg.agg Msg.bare at hs
   have HSE := hI hs
   clear hs
   go_region_held3 (fun w' => w'.cell? ⟨w.heap.size, 1, none⟩ = some (.int .i64 from_) ∧ w'.cell? ⟨p, 4, none⟩ = some (.int .u64 x.term)) (first | exact ⟨s1, s4⟩ | exact ⟨z1, z4⟩)
    (first | (go_at_call 66; refine HSE.out.mono ?_; rintro en w9 ⟨rfl, v9, hn9⟩; obtain ⟨G9, h9, hk9, _, _⟩ := H7.out.drew.callK hn9; have H9 := hI h9; have HX9 := hI (hk9.heap HGB.out (show W7.drew.heap[w.heap.size]? = _ from HX7.out)); have z4 : w9.cell? ⟨p, 4, none⟩ = some (.int .u64 x.term) := h9.cell 4 rfl; have z1 : w9.cell? ⟨w.heap.size, 1, none⟩ = some (.int .i64 from_) := bC HX9.out 1 rfl; clear hn9 h9 hk9))
   go_wp2_with fail
   refine bE rfl rfl ?_
   have hA1 := HA1.out
   rw [HVL.out] at hA1
   exact ⟨rfl, _, g1, X, H9.out.to, (hA1.trans (j := 1) ⟨Grow.refl _ _, hA1.gok, hA1.nok.outs 0 v9 _, ⟨_, rfl, fun q hq => (by obtain rfl := List.mem_singleton.1 hq; exact hA1.nok.tells (.inr (.inl ⟨rfl, fun _ => HVT.out⟩)) (by show 0 ≤ x.term; omega) (by show x.term ≤ (n : Int) + 1; omega) f1 f7 (Int.le_refl _) (by omega)), by simp⟩, ⟨rfl, rfl, rfl, rfl⟩⟩).mono nL (by omega)⟩
 ·skip
  have q2' : (x.role != 3) = !(x.role == 3) := rfl
  rw [q2] at q2'
  go_enter Tryz.func39, Tryz.ntmps39
  go_wp2_with fail
  rw [← hX]
  clear hX
  have c1 : ∀ dz oz, (grow (redrawn Wm dz) oz).cell? ⟨w.heap.size, 1, none⟩ = some (.int .i64 from_) := cell_regrown (bC HXX.out 1 rfl)
  have n5 : ∀ dz oz, (grow (redrawn Wm dz) oz).cell? ⟨p, 5, none⟩ = some (.int .i64 x.vote) := cell_regrown (HRX.out.cell 5 rfl)
  have n6 : ∀ dz oz, (grow (redrawn Wm dz) oz).cell? ⟨p, 6, none⟩ = some (.int .i64 x.role) := cell_regrown (HRX.out.cell 6 rfl)
  have lw := heap_lt HXX.out
  have lp := HRX.out.plt
  refine wp_region_quiet_below (by kernel_rfl) (by kernel_rfl) ?_
  iterate 15 (quiet_step (first | (with_reducible exact HQ.out _ _)))
  iterate 7 (quiet_step (first | (with_reducible exact HQ.out _ _)))
  iterate 3 (with_reducible refine wQ (by kernel_rfl) ?_)
  simp only [Act.put, sA, sS, sZ]
  iterate 2 (quiet_step (first | (with_reducible exact HQ.out _ _)))
  refine wpQuiet_nil ?_
  intro w3 hw'
  have HB3 : Hid (Below Wm.heap.size Wm w3) := hI (by
    obtain ⟨⟨dq, osq⟩, hw''⟩ := hw'
    subst hw''
    exact below_regrown Wm dq osq)
  clear hw'
  have HX3 := hI (bH HB3.out HXX.out (heap_lt HXX.out))
  have HR3 := hI (HRX.out.below HB3.out)
  clear c1 n5 n6 lw lp
  try simp only [Act.put, sA, sS, sZ]
  go_wp2_with fail
  have s1 : w3.cell? ⟨w.heap.size, 1, none⟩ = some (.int .i64 from_) := bC HX3.out 1 rfl
  have s4 : w3.cell? ⟨p, 4, none⟩ = some (.int .u64 x.term) := HR3.out.cell 4 rfl
  have hs := send_node w3.drew _ _ p _ HR3.out.drew.node HR3.out.drew.ml (Msg.bare 3 from_ x.term 0 0 0 false) (MsgOk.bare _ _ _ _ _ _ _ _ _) (by have := HL.out; show x.out.length ≤ 1000000; omega)
  unfold Msg.agg Msg.bare at hs
  have HSE := hI hs
  clear hs
  go_region_held3 (fun w' => w'.cell? ⟨w.heap.size, 1, none⟩ = some (.int .i64 from_) ∧ w'.cell? ⟨p, 4, none⟩ = some (.int .u64 x.term)) (first | exact ⟨s1, s4⟩ | exact ⟨z1, z4⟩)
   (first | (go_at_call 66; refine HSE.out.mono ?_; rintro en w9 ⟨rfl, v9, hn9⟩; obtain ⟨G9, h9, hk9, _, _⟩ := HR3.out.drew.callK hn9; have H9 := hI h9; have HX9 := hI (hk9.heap HGB.out (show w3.drew.heap[w.heap.size]? = _ from HX3.out)); have z4 : w9.cell? ⟨p, 4, none⟩ = some (.int .u64 x.term) := h9.cell 4 rfl; have z1 : w9.cell? ⟨w.heap.size, 1, none⟩ = some (.int .i64 from_) := bC HX9.out 1 rfl; clear hn9 h9 hk9))
  go_wp2_with fail
  refine bE rfl rfl ?_
  exact ⟨rfl, _, g, X, H9.out.to, Grow.refl _ _, HG.out, HN.out.outs x.since v9 _, ⟨_, rfl, fun q hq => (by obtain rfl := List.mem_singleton.1 hq; exact HN.out.tells (.inr (.inl ⟨rfl, fun e => by cases e⟩)) (by show 0 ≤ x.term; omega) (by show x.term ≤ (n : Int) + 1; omega) f1 f7 (Int.le_refl _) (by omega)), by simp⟩, ⟨rfl, rfl, rfl, rfl⟩⟩
 ·skip
  have q2' : (x.role != 3) = !(x.role == 3) := rfl
  rw [q2] at q2'
  go_enter Tryz.func39, Tryz.ntmps39
  go_wp2_with fail
  rw [← hX]
  clear hX
  obtain ⟨c0, c1, c2, c3, c4, c5, c6, c7, c8, c9, c10⟩ := r11 HXX.out
  have n5 : ∀ dz oz, (grow (redrawn Wm dz) oz).cell? ⟨p, 5, none⟩ = some (.int .i64 x.vote) := cell_regrown (HRX.out.cell 5 rfl)
  have n6 : ∀ dz oz, (grow (redrawn Wm dz) oz).cell? ⟨p, 6, none⟩ = some (.int .i64 x.role) := cell_regrown (HRX.out.cell 6 rfl)
  have lw := heap_lt HXX.out
  have lp := HRX.out.plt
  refine wp_region_quiet_below (by kernel_rfl) (by kernel_rfl) ?_
  iterate 15 (quiet_step (first | (with_reducible exact HQ.out _ _)))
  iterate 12 (quiet_step (first | (with_reducible exact HQ.out _ _)))
  refine wpQuiet_nil ?_
  intro w3 hw'
  have HB3 : Hid (Below Wm.heap.size Wm w3) := hI (by
    obtain ⟨⟨dq, osq⟩, hw''⟩ := hw'
    subst hw''
    exact below_regrown Wm dq osq)
  clear hw'
  have HX3 := hI (bH HB3.out HXX.out (heap_lt HXX.out))
  have HR3 := hI (HRX.out.below HB3.out)
  clear c0 c1 c2 c3 c4 c5 c6 c7 c8 c9 c10 n5 n6 lw lp
  try simp only [Act.put, sA, sS, sZ]
  go_wp2_with fail
  have s1 : w3.cell? ⟨w.heap.size, 1, none⟩ = some (.int .i64 from_) := bC HX3.out 1 rfl
  have s4 : w3.cell? ⟨p, 4, none⟩ = some (.int .u64 x.term) := HR3.out.cell 4 rfl
  have hs := send_node w3.drew _ _ p _ HR3.out.drew.node HR3.out.drew.ml (Msg.bare 3 from_ x.term 0 0 0 false) (MsgOk.bare _ _ _ _ _ _ _ _ _) (by have := HL.out; show x.out.length ≤ 1000000; omega)
  unfold Msg.agg Msg.bare at hs
  have HSE := hI hs
  clear hs
  go_region_held3 (fun w' => w'.cell? ⟨w.heap.size, 1, none⟩ = some (.int .i64 from_) ∧ w'.cell? ⟨p, 4, none⟩ = some (.int .u64 x.term)) (first | exact ⟨s1, s4⟩ | exact ⟨z1, z4⟩)
   (first | (go_at_call 66; refine HSE.out.mono ?_; rintro en w9 ⟨rfl, v9, hn9⟩; obtain ⟨G9, h9, hk9, _, _⟩ := HR3.out.drew.callK hn9; have H9 := hI h9; have HX9 := hI (hk9.heap HGB.out (show w3.drew.heap[w.heap.size]? = _ from HX3.out)); have z4 : w9.cell? ⟨p, 4, none⟩ = some (.int .u64 x.term) := h9.cell 4 rfl; have z1 : w9.cell? ⟨w.heap.size, 1, none⟩ = some (.int .i64 from_) := bC HX9.out 1 rfl; clear hn9 h9 hk9))
  go_wp2_with fail
  refine bE rfl rfl ?_
  exact ⟨rfl, _, g, X, H9.out.to, Grow.refl _ _, HG.out, HN.out.outs x.since v9 _, ⟨_, rfl, fun q hq => (by obtain rfl := List.mem_singleton.1 hq; exact HN.out.tells (.inr (.inl ⟨rfl, fun e => by cases e⟩)) (by show 0 ≤ x.term; omega) (by show x.term ≤ (n : Int) + 1; omega) f1 f7 (Int.le_refl _) (by omega)), by simp⟩, ⟨rfl, rfl, rfl, rfl⟩⟩
 ·skip
  have l0 : x.vote = from_ := by simpa using v2
  have LL := hI l0
  clear l0
  have q2' : (x.role != 3) = !(x.role == 3) := rfl
  rw [q2] at q2'
  go_enter Tryz.func39, Tryz.ntmps39
  go_wp2_with fail
  rw [← hX]
  clear hX
  obtain ⟨c0, c1, c2, c3, c4, c5, c6, c7, c8, c9, c10⟩ := r11 HXX.out
  have n5 : ∀ dz oz, (grow (redrawn Wm dz) oz).cell? ⟨p, 5, none⟩ = some (.int .i64 x.vote) := cell_regrown (HRX.out.cell 5 rfl)
  have n6 : ∀ dz oz, (grow (redrawn Wm dz) oz).cell? ⟨p, 6, none⟩ = some (.int .i64 x.role) := cell_regrown (HRX.out.cell 6 rfl)
  have lw := heap_lt HXX.out
  have lp := HRX.out.plt
  refine wp_region_quiet_below (by kernel_rfl) (by kernel_rfl) ?_
  iterate 15 (quiet_step (first | (with_reducible exact HQ.out _ _)))
  iterate 12 (quiet_step (first | (with_reducible exact HQ.out _ _)))
  refine wpQuiet_nil ?_
  intro w3 hw'
  have HB3 : Hid (Below Wm.heap.size Wm w3) := hI (by
    obtain ⟨⟨dq, osq⟩, hw''⟩ := hw'
    subst hw''
    exact below_regrown Wm dq osq)
  clear hw'
  have HX3 := hI (bH HB3.out HXX.out (heap_lt HXX.out))
  have HR3 := hI (HRX.out.below HB3.out)
  clear c0 c1 c2 c3 c4 c5 c6 c7 c8 c9 c10 n5 n6 lw lp
  try simp only [Act.put, sA, sS, sZ]
  have hrn : x.role ≠ 3 := by simpa using q2
  have hvv : x.vote = 0 ∨ x.vote = from_ := .inr LL.out
  obtain ⟨hd, hhd⟩ : ∃ hd, hd = (x.hard || (x.vote != from_)) := ⟨_, rfl⟩
  obtain ⟨g1, hA1, hvt⟩ := HGR.out hrn hvv HYG.out.symm hd
  have HA1 := hI hA1
  have HVT := hI hvt
  have HHD := hI hhd
  clear hrn hvv hA1 hvt hhd
  go_wp2_with fail
  obtain ⟨hb, hhb⟩ : ∃ hb, x.hard = hb := ⟨_, rfl⟩
  have HHB := hI hhb
  clear hhb
  have rc1 : ∀ dz oz, (grow (redrawn w3 dz) oz).cell? ⟨w.heap.size, 1, none⟩ = some (.int .i64 from_) := cell_regrown (bC HX3.out 1 rfl)
  have rn5 : ∀ dz oz, (grow (redrawn w3 dz) oz).cell? ⟨p, 5, none⟩ = some (.int .i64 x.vote) := cell_regrown (HR3.out.cell 5 rfl)
  have rn18 : ∀ dz oz, (grow (redrawn w3 dz) oz).cell? ⟨p, 18, none⟩ = some (.bool hb) := cell_regrown (by rw [← HHB.out]; exact HR3.out.cell 18 rfl)
  have rlw := heap_lt HX3.out
  have rlp := HR3.out.plt
  cases hb
  ·skip
   refine region_quiet_tail 16 (by kernel_rfl) (by kernel_rfl) ?_
   simp only [List.take_succ_cons, List.take_zero, List.drop_succ_cons, List.drop_zero]
   iterate 16 (quiet_step (fail))
   refine wpQuiet_nil ?_
   intro w6 hw'
   have HB6 : Hid (Below w3.heap.size w3 w6) := hI (by
     obtain ⟨⟨dq, osq⟩, hw''⟩ := hw'
     subst hw''
     exact below_regrown w3 dq osq)
   clear hw'
   have HX6 := hI (bH HB6.out HX3.out (heap_lt HX3.out))
   have HR6 := hI (HR3.out.below HB6.out)
   have HVL : Hid (hd = (x.vote != from_)) := hI (by rw [HHD.out, HHB.out]; rfl)
   have u18 := HR6.out.cell 18 rfl
   have v18 := HR6.out.free 18
   have u5 : w6.cell? ⟨p, 5, none⟩ = some (.int .i64 x.vote) := HR6.out.cell 5 rfl
   have v5 := HR6.out.free 5
   have u8 : w6.cell? ⟨p, 8, none⟩ = some (.int .i64 x.since) := HR6.out.cell 8 rfl
   have v8 := HR6.out.free 8
   have uc1 : w6.cell? ⟨w.heap.size, 1, none⟩ = some (.int .i64 from_) := bC HX6.out 1 rfl
   have hpw : w.heap.size ≠ p := by omega
   have H7 := hI (((HR6.out.set { x with hard := x.vote != from_ } 18 (.bool (x.vote != from_)) rfl rS).set { x with hard := x.vote != from_, vote := from_ } 5 (.int .i64 from_) rfl rS).set { x with hard := x.vote != from_, vote := from_, since := 0 } 8 (.int .i64 0) rfl rS)
   have HX7 := hI (bO (bO (bO HX6.out (a := ⟨p, 18, none⟩) hpw (.bool (x.vote != from_))) (a := ⟨p, 5, none⟩) hpw (.int .i64 from_)) (a := ⟨p, 8, none⟩) hpw (.int .i64 0))
   clear rc1 rn5 rn18 rlw rlp
   try simp only [Act.put, sA, sS, sZ]
   go_wp2_with fail
   generalize ((w6.setCell ⟨p, 18, none⟩ (.bool (x.vote != from_))).setCell ⟨p, 5, none⟩ (.int .i64 from_)).setCell ⟨p, 8, none⟩ (.int .i64 0) = W7 at *
   clear u18 v18 u5 v5 u8 v8 uc1
   have s1 : W7.cell? ⟨w.heap.size, 1, none⟩ = some (.int .i64 from_) := bC HX7.out 1 rfl
   have s4 : W7.cell? ⟨p, 4, none⟩ = some (.int .u64 x.term) := H7.out.cell 4 rfl
   have hs := send_node W7.drew _ _ p _ H7.out.drew.node H7.out.drew.ml (Msg.bare 3 from_ x.term 0 0 0 true) (MsgOk.bare _ _ _ _ _ _ _ _ _) (by have := HL.out; show x.out.length ≤ 1000000; omega)
   unfold Msg.agg Msg.bare at hs
   have HSE := hI hs
   clear hs
   go_region_held3 (fun w' => w'.cell? ⟨w.heap.size, 1, none⟩ = some (.int .i64 from_) ∧ w'.cell? ⟨p, 4, none⟩ = some (.int .u64 x.term)) (first | exact ⟨s1, s4⟩ | exact ⟨z1, z4⟩)
    (first | (go_at_call 66; refine HSE.out.mono ?_; rintro en w9 ⟨rfl, v9, hn9⟩; obtain ⟨G9, h9, hk9, _, _⟩ := H7.out.drew.callK hn9; have H9 := hI h9; have HX9 := hI (hk9.heap HGB.out (show W7.drew.heap[w.heap.size]? = _ from HX7.out)); have z4 : w9.cell? ⟨p, 4, none⟩ = some (.int .u64 x.term) := h9.cell 4 rfl; have z1 : w9.cell? ⟨w.heap.size, 1, none⟩ = some (.int .i64 from_) := bC HX9.out 1 rfl; clear hn9 h9 hk9))
   go_wp2_with fail
   refine bE rfl rfl ?_
   have hA1 := HA1.out
   rw [HVL.out] at hA1
   exact ⟨rfl, _, g1, X, H9.out.to, (hA1.trans (j := 1) ⟨Grow.refl _ _, hA1.gok, hA1.nok.outs 0 v9 _, ⟨_, rfl, fun q hq => (by obtain rfl := List.mem_singleton.1 hq; exact hA1.nok.tells (.inr (.inl ⟨rfl, fun _ => HVT.out⟩)) (by show 0 ≤ x.term; omega) (by show x.term ≤ (n : Int) + 1; omega) f1 f7 (Int.le_refl _) (by omega)), by simp⟩, ⟨rfl, rfl, rfl, rfl⟩⟩).mono nL (by omega)⟩
  ·skip
   refine region_quiet_tail 16 (by kernel_rfl) (by kernel_rfl) ?_
   simp only [List.take_succ_cons, List.take_zero, List.drop_succ_cons, List.drop_zero]
   iterate 6 (quiet_step (fail))
   iterate 7 (with_reducible refine wQ (by kernel_rfl) ?_)
   simp only [Act.put, sA, sS, sZ]
   iterate 3 (quiet_step (fail))
   refine wpQuiet_nil ?_
   intro w6 hw'
   have HB6 : Hid (Below w3.heap.size w3 w6) := hI (by
     obtain ⟨⟨dq, osq⟩, hw''⟩ := hw'
     subst hw''
     exact below_regrown w3 dq osq)
   clear hw'
   have HX6 := hI (bH HB6.out HX3.out (heap_lt HX3.out))
   have HR6 := hI (HR3.out.below HB6.out)
   have HVL : Hid (hd = (true)) := hI (by rw [HHD.out, HHB.out]; rfl)
   have u18 := HR6.out.cell 18 rfl
   have v18 := HR6.out.free 18
   have u5 : w6.cell? ⟨p, 5, none⟩ = some (.int .i64 x.vote) := HR6.out.cell 5 rfl
   have v5 := HR6.out.free 5
   have u8 : w6.cell? ⟨p, 8, none⟩ = some (.int .i64 x.since) := HR6.out.cell 8 rfl
   have v8 := HR6.out.free 8
   have uc1 : w6.cell? ⟨w.heap.size, 1, none⟩ = some (.int .i64 from_) := bC HX6.out 1 rfl
   have hpw : w.heap.size ≠ p := by omega
   have H7 := hI (((HR6.out.set { x with hard := true } 18 (.bool (true)) rfl rS).set { x with hard := true, vote := from_ } 5 (.int .i64 from_) rfl rS).set { x with hard := true, vote := from_, since := 0 } 8 (.int .i64 0) rfl rS)
   have HX7 := hI (bO (bO (bO HX6.out (a := ⟨p, 18, none⟩) hpw (.bool (true))) (a := ⟨p, 5, none⟩) hpw (.int .i64 from_)) (a := ⟨p, 8, none⟩) hpw (.int .i64 0))
   clear rc1 rn5 rn18 rlw rlp
   try simp only [Act.put, sA, sS, sZ]
   go_wp2_with fail
   generalize ((w6.setCell ⟨p, 18, none⟩ (.bool (true))).setCell ⟨p, 5, none⟩ (.int .i64 from_)).setCell ⟨p, 8, none⟩ (.int .i64 0) = W7 at *
   clear u18 v18 u5 v5 u8 v8 uc1
   have s1 : W7.cell? ⟨w.heap.size, 1, none⟩ = some (.int .i64 from_) := bC HX7.out 1 rfl
   have s4 : W7.cell? ⟨p, 4, none⟩ = some (.int .u64 x.term) := H7.out.cell 4 rfl
   have hs := send_node W7.drew _ _ p _ H7.out.drew.node H7.out.drew.ml (Msg.bare 3 from_ x.term 0 0 0 true) (MsgOk.bare _ _ _ _ _ _ _ _ _) (by have := HL.out; show x.out.length ≤ 1000000; omega)
   unfold Msg.agg Msg.bare at hs
   have HSE := hI hs
   clear hs
   go_region_held3 (fun w' => w'.cell? ⟨w.heap.size, 1, none⟩ = some (.int .i64 from_) ∧ w'.cell? ⟨p, 4, none⟩ = some (.int .u64 x.term)) (first | exact ⟨s1, s4⟩ | exact ⟨z1, z4⟩)
    (first | (go_at_call 66; refine HSE.out.mono ?_; rintro en w9 ⟨rfl, v9, hn9⟩; obtain ⟨G9, h9, hk9, _, _⟩ := H7.out.drew.callK hn9; have H9 := hI h9; have HX9 := hI (hk9.heap HGB.out (show W7.drew.heap[w.heap.size]? = _ from HX7.out)); have z4 : w9.cell? ⟨p, 4, none⟩ = some (.int .u64 x.term) := h9.cell 4 rfl; have z1 : w9.cell? ⟨w.heap.size, 1, none⟩ = some (.int .i64 from_) := bC HX9.out 1 rfl; clear hn9 h9 hk9))
   go_wp2_with fail
   refine bE rfl rfl ?_
   have hA1 := HA1.out
   rw [HVL.out] at hA1
   exact ⟨rfl, _, g1, X, H9.out.to, (hA1.trans (j := 1) ⟨Grow.refl _ _, hA1.gok, hA1.nok.outs 0 v9 _, ⟨_, rfl, fun q hq => (by obtain rfl := List.mem_singleton.1 hq; exact hA1.nok.tells (.inr (.inl ⟨rfl, fun _ => HVT.out⟩)) (by show 0 ≤ x.term; omega) (by show x.term ≤ (n : Int) + 1; omega) f1 f7 (Int.le_refl _) (by omega)), by simp⟩, ⟨rfl, rfl, rfl, rfl⟩⟩).mono nL (by omega)⟩
end Go.Proofs.YtdjooojpcepleaaGreat

/- raft, any node: a message comes: askPre, tellPre, askVote, tellVote. -/
import Derived.Test.YtdjooojpcepleaaGreatRsM21

namespace Go.Proofs.YtdjooojpcepleaaGreat
open Go.RowKit
open Go.«Sort» (grow)
theorem b11 {w : World} {b : Nat} {t : TypeId} {f : Nat × Nat} {v0 v1 v2 v3 v4 v5 v6 v7 v8 v9 v10 : Value} (h : w.heap[b]? = some (.cells #[v0, v1, v2, v3, v4, v5, v6, v7, v8, v9, v10] t f)) : w.cell? ⟨b, 0, none⟩ = some v0 ∧ w.cell? ⟨b, 1, none⟩ = some v1 ∧ w.cell? ⟨b, 2, none⟩ = some v2 ∧ w.cell? ⟨b, 3, none⟩ = some v3 ∧ w.cell? ⟨b, 4, none⟩ = some v4 ∧ w.cell? ⟨b, 5, none⟩ = some v5 ∧ w.cell? ⟨b, 6, none⟩ = some v6 ∧ w.cell? ⟨b, 7, none⟩ = some v7 ∧ w.cell? ⟨b, 8, none⟩ = some v8 ∧ w.cell? ⟨b, 9, none⟩ = some v9 ∧ w.cell? ⟨b, 10, none⟩ = some v10 := ⟨bC h 0 rfl, bC h 1 rfl, bC h 2 rfl, bC h 3 rfl, bC h 4 rfl, bC h 5 rfl, bC h 6 rfl, bC h 7 rfl, bC h 8 rfl, bC h 9 rfl, bC h 10 rfl⟩
theorem r11 {w : World} {b : Nat} {t : TypeId} {f : Nat × Nat} {v0 v1 v2 v3 v4 v5 v6 v7 v8 v9 v10 : Value} (h : w.heap[b]? = some (.cells #[v0, v1, v2, v3, v4, v5, v6, v7, v8, v9, v10] t f)) : (∀ d o, (grow (redrawn w d) o).cell? ⟨b, 0, none⟩ = some v0) ∧ (∀ d o, (grow (redrawn w d) o).cell? ⟨b, 1, none⟩ = some v1) ∧ (∀ d o, (grow (redrawn w d) o).cell? ⟨b, 2, none⟩ = some v2) ∧ (∀ d o, (grow (redrawn w d) o).cell? ⟨b, 3, none⟩ = some v3) ∧ (∀ d o, (grow (redrawn w d) o).cell? ⟨b, 4, none⟩ = some v4) ∧ (∀ d o, (grow (redrawn w d) o).cell? ⟨b, 5, none⟩ = some v5) ∧ (∀ d o, (grow (redrawn w d) o).cell? ⟨b, 6, none⟩ = some v6) ∧ (∀ d o, (grow (redrawn w d) o).cell? ⟨b, 7, none⟩ = some v7) ∧ (∀ d o, (grow (redrawn w d) o).cell? ⟨b, 8, none⟩ = some v8) ∧ (∀ d o, (grow (redrawn w d) o).cell? ⟨b, 9, none⟩ = some v9) ∧ (∀ d o, (grow (redrawn w d) o).cell? ⟨b, 10, none⟩ = some v10) := ⟨cell_regrown (bC h 0 rfl), cell_regrown (bC h 1 rfl), cell_regrown (bC h 2 rfl), cell_regrown (bC h 3 rfl), cell_regrown (bC h 4 rfl), cell_regrown (bC h 5 rfl), cell_regrown (bC h 6 rfl), cell_regrown (bC h 7 rfl), cell_regrown (bC h 8 rfl), cell_regrown (bC h 9 rfl), cell_regrown (bC h 10 rfl)⟩
theorem rballot_vote_nil (w : World) (c : Int) (yes : Bool) : Calls Tryz.prog 67 #[.pointer none, .int .i64 c, .bool yes] w (Ret (.bool false) w) := by
 have hr : Calls Tryz.prog 92 #[.pointer none] w (Ret (.bool false) w) := by
  go_enter Tryz.func92, Tryz.ntmps92
  go_wp2
  go_ret
  exact Ret.mk rfl
 go_enter Tryz.func67, Tryz.ntmps67
 go_wp2_with fail
 refine hr.mono ?_
 rintro e w' ⟨rfl, rfl⟩
 go_wp2_with fail
 go_ret
 exact Ret.mk rfl
theorem rballot_state_nil (w : World) : Calls Tryz.prog 68 #[.pointer none] w (Ret (.int .i64 2) w) := by
 have hr : Calls Tryz.prog 92 #[.pointer none] w (Ret (.bool false) w) := by
  go_enter Tryz.func92, Tryz.ntmps92
  go_wp2
  go_ret
  exact Ret.mk rfl
 go_enter Tryz.func68, Tryz.ntmps68
 go_wp2_with fail
 refine hr.mono ?_
 rintro e w' ⟨rfl, rfl⟩
 go_wp2_with fail
 go_ret
 exact Ret.mk rfl
def NodeS.counted (x : NodeS) (c : Int) (yes : Bool) : NodeS := { x with pl := x.pl.map fun q => (q.1, voteF q.1 q.2 c yes) }
theorem Rn.voted {w0 w : World} {M0 F0 G : Nat → Prop} {p : Nat} {x : NodeS} (h : Rn w0 M0 F0 G w p x) (c : Int) (h1 : 1 ≤ c) (h7 : c ≤ 7) (yes : Bool) :
  Calls Tryz.prog 67 #[x.pv, .int .i64 c, .bool yes] w (fun e w' => (∃ b : Bool, e = .returned (.bool b)) ∧ ∃ G', Rn w0 M0 F0 G' w' p (x.counted c yes) ∧ Keeps G w w' ∧ ∀ k, G' k → G k ∨ w.heap.size ≤ k) := by
 cases ho : x.pl with
 | some q =>
  obtain ⟨S, hn⟩ := h.node
  have hb := hn.bal
  rw [ho] at hb
  refine (rballot_vote w _ (S 2) x.pv q.1 q.2 hb (fun k hk => hn.fm k (hn.sub 2 k (by omega) hk)) c h1 h7 yes).mono ?_
  rintro e w' ⟨he, hb', hk'⟩
  refine ⟨he, ?_⟩
  have hk : Keeps (fun k => S 2 k ∨ k = p) w w' := hk'.mono fun k _ e => .inl e
  have hT : ∀ k, S 2 k → S 2 k ∨ (w.heap.size ≤ k ∧ k < w'.heap.size) := fun k e => .inl e
  have hN := hn.partBal (T := S 2) (w' := w') (y := { x with pl := some (q.1, voteF q.1 q.2 c yes) }) hT hk (by exact hk'.heap (hn.sp 2 (by omega)) hn.box)
   (hb'.mv (M' := fun k => (M0 k ∨ G k) ∨ S 2 k) ⟨Keeps.refl _ w', fun k e => e.elim .inl fun e => .inl (hn.fm k (hn.sub 2 k (by omega) e))⟩ (Keeps.refl (fun _ => False) w') fun _ _ h => h)
   rfl rfl rfl rfl rfl rfl rfl rfl rfl rfl rfl rfl
  obtain ⟨G', h1, h2, _, h4⟩ := h.callK (hn.to (by omega) hT hk hN)
  unfold NodeS.counted
  rw [ho]
  exact ⟨G', h1, h2, h4⟩
 | none =>
  obtain ⟨S, hn⟩ := h.node
  have hb := hn.bal
  rw [ho] at hb
  have hb' : x.pv = .pointer none := hb
  rw [hb']
  refine (rballot_vote_nil w c yes).mono ?_
  rintro e w' ⟨rfl, rfl⟩
  refine ⟨⟨false, rfl⟩, G, ?_, Keeps.refl _ _, fun k hk => .inl hk⟩
  unfold NodeS.counted
  rw [ho]
  have : ({ x with pl := none } : NodeS) = x := by rw [← ho]
  show Rn w0 M0 F0 G w p { x with pl := none }
  rw [this]
  exact h
def StateX (w : World) (o : Option (List Int × List (Int × Bool))) (e : Ending) (w' : World) : Prop :=
 Below w.heap.size w w' ∧ ∃ r : Int, e = .returned (.int .i64 r) ∧ (r = 0 ∨ r = 1 ∨ r = 2) ∧ (r = 1 → ∃ pm l, o = some (pm, l) ∧ pm.length < 2 * (yesOf l).length)
theorem Rn.stateX {w0 w : World} {M0 F0 G : Nat → Prop} {p : Nat} {x : NodeS} (h : Rn w0 M0 F0 G w p x) : Calls Tryz.prog 68 #[x.pv] w (StateX w x.pl) := by
 obtain ⟨S, hn⟩ := h.node
 have hb := hn.bal
 cases ho : x.pl with
 | some q =>
  rw [ho] at hb
  refine (rballot_state w _ (S 2) x.pv q.1 q.2 hb).mono ?_
  rintro e w' ⟨h1, r, h2, h3, h4⟩
  exact ⟨h1, r, h2, h3, fun e => ⟨q.1, q.2, rfl, h4 e⟩⟩
 | none =>
  rw [ho] at hb
  have hb' : x.pv = .pointer none := hb
  rw [hb']
  refine (rballot_state_nil w).mono ?_
  rintro e w' ⟨rfl, rfl⟩
  exact ⟨bR, 2, rfl, .inr (.inr rfl), fun e => by omega⟩
section
variable {C0 : List Int} {g : Gh En} {n : Nat} {x : NodeS} {X : List En}
theorem yes_vote {mem : List Int} {l : List (Int × Bool)} {c : Int} {yes : Bool} : yesOf (voteF mem l c yes) = yesOf l ∨ (yesOf (voteF mem l c yes) = yesOf l ++ [c] ∧ c ∉ yesOf l ∧ c ∈ mem ∧ yes = true) := by
 unfold voteF
 by_cases h : c ∈ mem ∧ aget c l = none
 ·rw [if_pos h]
  cases yes
  ·left; simp [yesOf]
  ·right
   refine ⟨by simp [yesOf], fun e => ?_, h.1, rfl⟩
   have h2 := aget_none.1 h.2
   apply h2
   unfold yesOf at e
   obtain ⟨q, hq, e⟩ := List.mem_map.1 e
   have := (List.mem_filter.1 hq).1
   rw [← e]
   exact List.mem_map.2 ⟨q, this, rfl⟩
 ·rw [if_neg h]; left; rfl
theorem count_law (h : OkN C0 g n x X) (c : Int) (yes : Bool) (hv : x.role = 2 → yes = true → g.vt c x.term.toNat x.id) : OkN C0 g n (x.counted c yes) X := by
 unfold NodeS.counted
 cases ho : x.pl with
 | none =>
  have : ({ x with pl := none } : NodeS) = x := by rw [← ho]
  show OkN C0 g n { x with pl := none } X
  rw [this]
  exact h
 | some q =>
  have hp : x.nd.poll = some (q.1, yesOf q.2) := by simp only [NodeS.nd, ho, Option.map_some]
  have hni := h.ni.count hp (x := c) (zs := yesOf (voteF q.1 q.2 c yes)) (by
    rcases yes_vote (mem := q.1) (l := q.2) (c := c) (yes := yes) with e | ⟨e1, e2, e3, e4⟩
    · exact .inl e
    · exact .inr ⟨e1, e2, e3, fun hr => hv hr e4⟩)
  exact ⟨hni, h.i7, h.t0, h.tn, h.c0, h.len, h.memb, h.v0, h.v7, h.nx, h.el⟩
theorem OkN.tells (h : OkN C0 g n x X) {kind c t i : Int} {yes : Bool} (hk : kind = 1 ∨ (kind = 3 ∧ (yes = true → g.vt x.id t.toNat c)) ∨ ((kind = 5 ∨ kind = 7) ∧ (yes = true → g.A x.id t.toNat i.toNat))) (t0 : 0 ≤ t) (tn : t ≤ n + 1) (h1 : 1 ≤ c) (h7 : c ≤ 7) (i0 : 0 ≤ i) (hi : i ≤ n) :
  OkM C0 g n { Msg.bare kind c t i 0 0 yes with from_ := x.id } := by
 have hp := h.ni.pos
 refine ⟨?_, by simp only [Msg.bare]; omega, by simp only [Msg.bare]; omega, hp, h.i7, h1, h7, t0, tn, i0, hi, Int.le_refl _, by simp only [Msg.bare]; omega, Int.le_refl _, fun k e he => by simp [Msg.bare] at he, by simp only [Msg.bare, List.length_nil]; omega⟩
 rcases hk with rfl | ⟨rfl, hv⟩ | ⟨hk, hv⟩
 ·exact MI.plain (fun e => by simp [Msg.bare, Msg.ms] at e) (fun e => by simp [Msg.bare, Msg.ms] at e) (fun e => by simp [Msg.bare, Msg.ms] at e) (fun e => by simp [Msg.bare, Msg.ms] at e) (fun e => by simp [Msg.bare, Msg.ms] at e)
 ·exact MI.plain (fun e => by simp [Msg.bare, Msg.ms] at e) (fun e => by simp [Msg.bare, Msg.ms] at e) (fun e => by simp [Msg.bare, Msg.ms] at e) (fun _ e => hv e) (fun e => by simp [Msg.bare, Msg.ms] at e)
 ·rcases hk with rfl | rfl
  ·exact MI.plain (fun e => by simp [Msg.bare, Msg.ms] at e) (fun e => by simp [Msg.bare, Msg.ms] at e) (fun e => by simp [Msg.bare, Msg.ms] at e) (fun e => by simp [Msg.bare, Msg.ms] at e) (fun _ e => hv e)
  ·exact MI.plain (fun e => by simp [Msg.bare, Msg.ms] at e) (fun e => by simp [Msg.bare, Msg.ms] at e) (fun e => by simp [Msg.bare, Msg.ms] at e) (fun e => by simp [Msg.bare, Msg.ms] at e) (fun _ e => hv e)
end
set_option maxRecDepth 100000 in
set_option maxHeartbeats 16000000 in
theorem askPre_node (w : World) (M F : Nat → Prop) (p : Nat) (x : NodeS) (h : NodeAt w M F p x) (hM : ∀ k, M k → k < w.heap.size) (hl : x.out.length ≤ 800000) (C0 : List Int) (g : Gh En) (n : Nat) (X : List En) (hg : OkG C0 g n) (hN : OkN C0 g n x X) (m : Msg) (hm : MsgOk w M m) (hmo : OkM C0 g n m) :
  Calls Tryz.prog 35 #[.pointer (some ⟨p, 0, none⟩), m.agg] w (TickR C0 g n w M F p x) := by
 have hym := fun W (hW : Below w.heap.size w W) => younger_node W M F p x (h.below hW) m (hm.mv_ (Mv.below M hW))
 have t0 := hmo.t0
 have tn := hmo.tn
 have f1 := hmo.f1
 have f7 := hmo.f7
 have hR0 := Rn.start h hM
 obtain ⟨_, _, ea, ec, hev, _⟩ := hm.ents
 obtain ⟨ma, mc, hmv, _⟩ := hm.mem
 obtain ⟨d, hd, _⟩ := hm.data
 obtain ⟨da, dc, hdv, _⟩ := hd
 obtain ⟨mk, from_, to_, term, mi, logTerm, commit, my, ev, mv, dv, es, mem⟩ := m
 simp only at hev hmv hdv
 subst hev hmv hdv
 have hpl := h.plt
 obtain ⟨yg, hyg⟩ : ∃ yg, yg = x.yng ⟨mk, from_, to_, term, mi, logTerm, commit, my, .slice ea es.length ec, .slice ma mem.length mc, .slice da d.length dc, es, mem⟩ := ⟨_, rfl⟩
 have HY : Hid (∀ W, Below w.heap.size w W → Calls Tryz.prog 65 #[.pointer (some ⟨p, 0, none⟩), .agg #[.int .i64 mk, .int .i64 from_, .int .i64 to_, .int .u64 term, .int .u64 mi, .int .u64 logTerm, .int .u64 commit, .bool my, .slice ea es.length ec, .slice ma mem.length mc, .slice da d.length dc]] W (RetB (.bool yg) W)) := hI (by rw [hyg]; exact hym)
 obtain ⟨Wm, hX⟩ : ∃ Wm, Wm = w.alloc (.cells #[.int .i64 mk, .int .i64 from_, .int .i64 to_, .int .u64 term, .int .u64 mi, .int .u64 logTerm, .int .u64 commit, .bool my, .slice ea es.length ec, .slice ma mem.length mc, .slice da d.length dc] 54) := ⟨_, rfl⟩
 have hbX : Below w.heap.size w Wm := by rw [hX]; exact bR.alloc nL _
 have HXX : Hid (Wm.heap[w.heap.size]? = some (.cells #[.int .i64 mk, .int .i64 from_, .int .i64 to_, .int .u64 term, .int .u64 mi, .int .u64 logTerm, .int .u64 commit, .bool my, .slice ea es.length ec, .slice ma mem.length mc, .slice da d.length dc] 54 (0, 0))) := hI (by rw [hX]; exact bW w _)
 have HRX := hI (hR0.below hbX)
 have HBX := hI hbX
 have HN := hI hN
 have HG := hI hg
 have HL := hI hl
 have ht0 := hN.t0
 have htn := hN.tn
 have HS : Hid (∀ (G : Nat → Prop) (W : World) (t : Int) (yes : Bool), Rn w M F G W p x → 0 ≤ t → t ≤ n + 1 → Calls Tryz.prog 66 #[.pointer (some ⟨p, 0, none⟩), (Msg.bare 1 from_ t 0 0 0 yes).agg] W (TickR C0 g n w M F p x)) := hI fun G W t yes hr h1 h2 => by
  refine (send_node W _ G p x hr.node hr.ml _ (MsgOk.bare _ _ _ _ _ _ _ _ _) (by omega)).mono ?_
  rintro e w' ⟨rfl, v, hn⟩
  obtain ⟨G', h'⟩ := hr.call hn
  exact ⟨rfl, _, g, X, h'.to, Grow.refl _ _, hg, hN.outs x.since v _, ⟨_, rfl, fun q hq => (by obtain rfl := List.mem_singleton.1 hq; exact hN.tells (.inl rfl) h1 h2 f1 f7 (Int.le_refl _) (by omega)), by simp⟩, ⟨rfl, rfl, rfl, rfl⟩⟩
 unfold Msg.agg Msg.bare at HS
 clear h hM hl hg hN hm hmo hym hyg hR0 hbX
 unfold Msg.agg
 have HQ : Hid (∀ dz oz, Calls Tryz.prog 65 #[.pointer (some ⟨p, 0, none⟩), .agg #[.int .i64 mk, .int .i64 from_, .int .i64 to_, .int .u64 term, .int .u64 mi, .int .u64 logTerm, .int .u64 commit, .bool my, .slice ea es.length ec, .slice ma mem.length mc, .slice da d.length dc]] (grow (redrawn Wm dz) oz) (fun e w'' => e = .returned (.bool yg) ∧ ∃ p : Regrown, w'' = grow (redrawn Wm p.d) p.os)) := hI fun dz oz => Calls.regrown_of ((HY.out _ (HBX.out.trans ((below_regrown Wm dz oz).mono HBX.out.size))).mono (by rintro e w' ⟨h1, h2⟩; exact ⟨h1, h2⟩))
 have hcase : decide (x.term < term) = false ∨ (decide (x.term < term) = true ∧ yg = false) ∨ (decide (x.term < term) = true ∧ yg = true ∧ (x.role == 3) = true) ∨ (decide (x.term < term) = true ∧ yg = true ∧ (x.role == 3) = false ∧ (x.lead == 0) = true) ∨ (decide (x.term < term) = true ∧ yg = true ∧ (x.role == 3) = false ∧ (x.lead == 0) = false ∧ decide (x.el ≤ x.since) = true) ∨ (decide (x.term < term) = true ∧ yg = true ∧ (x.role == 3) = false ∧ (x.lead == 0) = false ∧ decide (x.el ≤ x.since) = false) := by
  cases decide (x.term < term) <;> cases yg <;> cases (x.role == 3) <;> cases (x.lead == 0) <;> cases decide (x.el ≤ x.since) <;> simp
 rcases hcase with q1 | ⟨q1, rfl⟩ | ⟨q1, rfl, q2⟩ | ⟨q1, rfl, q2, q3⟩ | ⟨q1, rfl, q2, q3, q4⟩ | ⟨q1, rfl, q2, q3, q4⟩
 ·skip
  go_enter Tryz.func35, Tryz.ntmps35
  go_wp2_with fail
  rw [← hX]
  clear hX
  obtain ⟨c0, c1, c2, c3, c4, c5, c6, c7, c8, c9, c10⟩ := r11 HXX.out
  have n2 : ∀ dz oz, (grow (redrawn Wm dz) oz).cell? ⟨p, 2, none⟩ = some (.int .i64 x.el) := cell_regrown (HRX.out.cell 2 rfl)
  have n4 : ∀ dz oz, (grow (redrawn Wm dz) oz).cell? ⟨p, 4, none⟩ = some (.int .u64 x.term) := cell_regrown (HRX.out.cell 4 rfl)
  have n6 : ∀ dz oz, (grow (redrawn Wm dz) oz).cell? ⟨p, 6, none⟩ = some (.int .i64 x.role) := cell_regrown (HRX.out.cell 6 rfl)
  have n7 : ∀ dz oz, (grow (redrawn Wm dz) oz).cell? ⟨p, 7, none⟩ = some (.int .i64 x.lead) := cell_regrown (HRX.out.cell 7 rfl)
  have n8 : ∀ dz oz, (grow (redrawn Wm dz) oz).cell? ⟨p, 8, none⟩ = some (.int .i64 x.since) := cell_regrown (HRX.out.cell 8 rfl)
  have lw := heap_lt HXX.out
  have lp := HRX.out.plt
  refine wp_region_quiet_below (by kernel_rfl) (by kernel_rfl) ?_
  iterate 8 (quiet_step (first | (with_reducible exact HQ.out _ _)))
  iterate 3 (with_reducible refine wQ (by kernel_rfl) ?_)
  simp only [Act.put, sA, sS, sZ]
  iterate 2 (quiet_step (first | (with_reducible exact HQ.out _ _)))
  iterate 5 (with_reducible refine wQ (by kernel_rfl) ?_)
  simp only [Act.put, sA, sS, sZ]
  iterate 2 (quiet_step (first | (with_reducible exact HQ.out _ _)))
  iterate 17 (with_reducible refine wQ (by kernel_rfl) ?_)
  simp only [Act.put, sA, sS, sZ]
  iterate 2 (quiet_step (first | (with_reducible exact HQ.out _ _)))
  refine wpQuiet_nil ?_
  intro w3 hw'
  have HB3 : Hid (Below Wm.heap.size Wm w3) := hI (by
    obtain ⟨⟨dq, osq⟩, hw''⟩ := hw'
    subst hw''
    exact below_regrown Wm dq osq)
  clear hw'
  have HX3 := hI (bH HB3.out HXX.out (heap_lt HXX.out))
  have HR3 := hI (HRX.out.below HB3.out)
  clear c0 c1 c2 c3 c4 c5 c6 c7 c8 c9 c10 n2 n4 n6 n7 n8 lw lp
  obtain ⟨-, c1, -, c3, -, -, -, -, -, -, -⟩ := b11 HX3.out
  have n4 : w3.cell? ⟨p, 4, none⟩ = some (.int .u64 x.term) := HR3.out.cell 4 rfl
  have hs := HS.out _ w3 x.term false HR3.out (by omega) (by omega)
  try simp only [Act.put]
  go_wp2_with fail
  refine hs.mono ?_
  rintro en w5 ⟨rfl, hk⟩
  go_wp2_with fail
  refine bE rfl rfl ?_
  exact ⟨rfl, hk⟩
 ·skip
  go_enter Tryz.func35, Tryz.ntmps35
  go_wp2_with fail
  rw [← hX]
  clear hX
  obtain ⟨c0, c1, c2, c3, c4, c5, c6, c7, c8, c9, c10⟩ := r11 HXX.out
  have n2 : ∀ dz oz, (grow (redrawn Wm dz) oz).cell? ⟨p, 2, none⟩ = some (.int .i64 x.el) := cell_regrown (HRX.out.cell 2 rfl)
  have n4 : ∀ dz oz, (grow (redrawn Wm dz) oz).cell? ⟨p, 4, none⟩ = some (.int .u64 x.term) := cell_regrown (HRX.out.cell 4 rfl)
  have n6 : ∀ dz oz, (grow (redrawn Wm dz) oz).cell? ⟨p, 6, none⟩ = some (.int .i64 x.role) := cell_regrown (HRX.out.cell 6 rfl)
  have n7 : ∀ dz oz, (grow (redrawn Wm dz) oz).cell? ⟨p, 7, none⟩ = some (.int .i64 x.lead) := cell_regrown (HRX.out.cell 7 rfl)
  have n8 : ∀ dz oz, (grow (redrawn Wm dz) oz).cell? ⟨p, 8, none⟩ = some (.int .i64 x.since) := cell_regrown (HRX.out.cell 8 rfl)
  have lw := heap_lt HXX.out
  have lp := HRX.out.plt
  refine wp_region_quiet_below (by kernel_rfl) (by kernel_rfl) ?_
  iterate 13 (quiet_step (first | (with_reducible exact HQ.out _ _)))
  iterate 5 (with_reducible refine wQ (by kernel_rfl) ?_)
  simp only [Act.put, sA, sS, sZ]
  iterate 2 (quiet_step (first | (with_reducible exact HQ.out _ _)))
  iterate 17 (with_reducible refine wQ (by kernel_rfl) ?_)
  simp only [Act.put, sA, sS, sZ]
  iterate 2 (quiet_step (first | (with_reducible exact HQ.out _ _)))
  refine wpQuiet_nil ?_
  intro w3 hw'
  have HB3 : Hid (Below Wm.heap.size Wm w3) := hI (by
    obtain ⟨⟨dq, osq⟩, hw''⟩ := hw'
    subst hw''
    exact below_regrown Wm dq osq)
  clear hw'
  have HX3 := hI (bH HB3.out HXX.out (heap_lt HXX.out))
  have HR3 := hI (HRX.out.below HB3.out)
  clear c0 c1 c2 c3 c4 c5 c6 c7 c8 c9 c10 n2 n4 n6 n7 n8 lw lp
  obtain ⟨-, c1, -, c3, -, -, -, -, -, -, -⟩ := b11 HX3.out
  have n4 : w3.cell? ⟨p, 4, none⟩ = some (.int .u64 x.term) := HR3.out.cell 4 rfl
  have hs := HS.out _ w3 x.term false HR3.out (by omega) (by omega)
  try simp only [Act.put]
  go_wp2_with fail
  refine hs.mono ?_
  rintro en w5 ⟨rfl, hk⟩
  go_wp2_with fail
  refine bE rfl rfl ?_
  exact ⟨rfl, hk⟩
 ·skip
  have q2' : (x.role != 3) = !(x.role == 3) := rfl
  rw [q2] at q2'
  go_enter Tryz.func35, Tryz.ntmps35
  go_wp2_with fail
  rw [← hX]
  clear hX
  obtain ⟨c0, c1, c2, c3, c4, c5, c6, c7, c8, c9, c10⟩ := r11 HXX.out
  have n2 : ∀ dz oz, (grow (redrawn Wm dz) oz).cell? ⟨p, 2, none⟩ = some (.int .i64 x.el) := cell_regrown (HRX.out.cell 2 rfl)
  have n4 : ∀ dz oz, (grow (redrawn Wm dz) oz).cell? ⟨p, 4, none⟩ = some (.int .u64 x.term) := cell_regrown (HRX.out.cell 4 rfl)
  have n6 : ∀ dz oz, (grow (redrawn Wm dz) oz).cell? ⟨p, 6, none⟩ = some (.int .i64 x.role) := cell_regrown (HRX.out.cell 6 rfl)
  have n7 : ∀ dz oz, (grow (redrawn Wm dz) oz).cell? ⟨p, 7, none⟩ = some (.int .i64 x.lead) := cell_regrown (HRX.out.cell 7 rfl)
  have n8 : ∀ dz oz, (grow (redrawn Wm dz) oz).cell? ⟨p, 8, none⟩ = some (.int .i64 x.since) := cell_regrown (HRX.out.cell 8 rfl)
  have lw := heap_lt HXX.out
  have lp := HRX.out.plt
  refine wp_region_quiet_below (by kernel_rfl) (by kernel_rfl) ?_
  iterate 20 (quiet_step (first | (with_reducible exact HQ.out _ _)))
  iterate 17 (with_reducible refine wQ (by kernel_rfl) ?_)
  simp only [Act.put, sA, sS, sZ]
  iterate 2 (quiet_step (first | (with_reducible exact HQ.out _ _)))
  refine wpQuiet_nil ?_
  intro w3 hw'
  have HB3 : Hid (Below Wm.heap.size Wm w3) := hI (by
    obtain ⟨⟨dq, osq⟩, hw''⟩ := hw'
    subst hw''
    exact below_regrown Wm dq osq)
  clear hw'
  have HX3 := hI (bH HB3.out HXX.out (heap_lt HXX.out))
  have HR3 := hI (HRX.out.below HB3.out)
  clear c0 c1 c2 c3 c4 c5 c6 c7 c8 c9 c10 n2 n4 n6 n7 n8 lw lp
  obtain ⟨-, c1, -, c3, -, -, -, -, -, -, -⟩ := b11 HX3.out
  have n4 : w3.cell? ⟨p, 4, none⟩ = some (.int .u64 x.term) := HR3.out.cell 4 rfl
  have hs := HS.out _ w3 x.term false HR3.out (by omega) (by omega)
  try simp only [Act.put]
  go_wp2_with fail
  refine hs.mono ?_
  rintro en w5 ⟨rfl, hk⟩
  go_wp2_with fail
  refine bE rfl rfl ?_
  exact ⟨rfl, hk⟩
 ·skip
  have q2' : (x.role != 3) = !(x.role == 3) := rfl
  rw [q2] at q2'
  have l0 : x.lead = 0 := by simpa using q3
  clear q3
  have LL := hI l0
  clear l0
  go_enter Tryz.func35, Tryz.ntmps35
  go_wp2_with fail
  rw [← hX]
  clear hX
  obtain ⟨c0, c1, c2, c3, c4, c5, c6, c7, c8, c9, c10⟩ := r11 HXX.out
  have n2 : ∀ dz oz, (grow (redrawn Wm dz) oz).cell? ⟨p, 2, none⟩ = some (.int .i64 x.el) := cell_regrown (HRX.out.cell 2 rfl)
  have n4 : ∀ dz oz, (grow (redrawn Wm dz) oz).cell? ⟨p, 4, none⟩ = some (.int .u64 x.term) := cell_regrown (HRX.out.cell 4 rfl)
  have n6 : ∀ dz oz, (grow (redrawn Wm dz) oz).cell? ⟨p, 6, none⟩ = some (.int .i64 x.role) := cell_regrown (HRX.out.cell 6 rfl)
  have n7 : ∀ dz oz, (grow (redrawn Wm dz) oz).cell? ⟨p, 7, none⟩ = some (.int .i64 0) := cell_regrown (by rw [← LL.out]; exact HRX.out.cell 7 rfl)
  have n8 : ∀ dz oz, (grow (redrawn Wm dz) oz).cell? ⟨p, 8, none⟩ = some (.int .i64 x.since) := cell_regrown (HRX.out.cell 8 rfl)
  have lw := heap_lt HXX.out
  have lp := HRX.out.plt
  refine wp_region_quiet_below (by kernel_rfl) (by kernel_rfl) ?_
  iterate 26 (quiet_step (first | (with_reducible exact HQ.out _ _)))
  iterate 10 (with_reducible refine wQ (by kernel_rfl) ?_)
  simp only [Act.put, sA, sS, sZ]
  iterate 3 (quiet_step (first | (with_reducible exact HQ.out _ _)))
  refine wpQuiet_nil ?_
  intro w3 hw'
  have HB3 : Hid (Below Wm.heap.size Wm w3) := hI (by
    obtain ⟨⟨dq, osq⟩, hw''⟩ := hw'
    subst hw''
    exact below_regrown Wm dq osq)
  clear hw'
  have HX3 := hI (bH HB3.out HXX.out (heap_lt HXX.out))
  have HR3 := hI (HRX.out.below HB3.out)
  clear c0 c1 c2 c3 c4 c5 c6 c7 c8 c9 c10 n2 n4 n6 n7 n8 lw lp
  obtain ⟨-, c1, -, c3, -, -, -, -, -, -, -⟩ := b11 HX3.out
  have n4 : w3.cell? ⟨p, 4, none⟩ = some (.int .u64 x.term) := HR3.out.cell 4 rfl
  have hs := HS.out _ w3 term true HR3.out (by omega) (by omega)
  try simp only [Act.put]
  go_wp2_with fail
  refine hs.mono ?_
  rintro en w5 ⟨rfl, hk⟩
  go_wp2_with fail
  refine bE rfl rfl ?_
  exact ⟨rfl, hk⟩
 ·skip
  have q2' : (x.role != 3) = !(x.role == 3) := rfl
  rw [q2] at q2'
  go_enter Tryz.func35, Tryz.ntmps35
  go_wp2_with fail
  rw [← hX]
  clear hX
  obtain ⟨c0, c1, c2, c3, c4, c5, c6, c7, c8, c9, c10⟩ := r11 HXX.out
  have n2 : ∀ dz oz, (grow (redrawn Wm dz) oz).cell? ⟨p, 2, none⟩ = some (.int .i64 x.el) := cell_regrown (HRX.out.cell 2 rfl)
  have n4 : ∀ dz oz, (grow (redrawn Wm dz) oz).cell? ⟨p, 4, none⟩ = some (.int .u64 x.term) := cell_regrown (HRX.out.cell 4 rfl)
  have n6 : ∀ dz oz, (grow (redrawn Wm dz) oz).cell? ⟨p, 6, none⟩ = some (.int .i64 x.role) := cell_regrown (HRX.out.cell 6 rfl)
  have n7 : ∀ dz oz, (grow (redrawn Wm dz) oz).cell? ⟨p, 7, none⟩ = some (.int .i64 x.lead) := cell_regrown (HRX.out.cell 7 rfl)
  have n8 : ∀ dz oz, (grow (redrawn Wm dz) oz).cell? ⟨p, 8, none⟩ = some (.int .i64 x.since) := cell_regrown (HRX.out.cell 8 rfl)
  have lw := heap_lt HXX.out
  have lp := HRX.out.plt
  refine wp_region_quiet_below (by kernel_rfl) (by kernel_rfl) ?_
  iterate 39 (quiet_step (first | (with_reducible exact HQ.out _ _)))
  refine wpQuiet_nil ?_
  intro w3 hw'
  have HB3 : Hid (Below Wm.heap.size Wm w3) := hI (by
    obtain ⟨⟨dq, osq⟩, hw''⟩ := hw'
    subst hw''
    exact below_regrown Wm dq osq)
  clear hw'
  have HX3 := hI (bH HB3.out HXX.out (heap_lt HXX.out))
  have HR3 := hI (HRX.out.below HB3.out)
  clear c0 c1 c2 c3 c4 c5 c6 c7 c8 c9 c10 n2 n4 n6 n7 n8 lw lp
  obtain ⟨-, c1, -, c3, -, -, -, -, -, -, -⟩ := b11 HX3.out
  have n4 : w3.cell? ⟨p, 4, none⟩ = some (.int .u64 x.term) := HR3.out.cell 4 rfl
  have hs := HS.out _ w3 term true HR3.out (by omega) (by omega)
  try simp only [Act.put]
  go_wp2_with fail
  refine hs.mono ?_
  rintro en w5 ⟨rfl, hk⟩
  go_wp2_with fail
  refine bE rfl rfl ?_
  exact ⟨rfl, hk⟩
 ·skip
  have q2' : (x.role != 3) = !(x.role == 3) := rfl
  rw [q2] at q2'
  go_enter Tryz.func35, Tryz.ntmps35
  go_wp2_with fail
  rw [← hX]
  clear hX
  obtain ⟨c0, c1, c2, c3, c4, c5, c6, c7, c8, c9, c10⟩ := r11 HXX.out
  have n2 : ∀ dz oz, (grow (redrawn Wm dz) oz).cell? ⟨p, 2, none⟩ = some (.int .i64 x.el) := cell_regrown (HRX.out.cell 2 rfl)
  have n4 : ∀ dz oz, (grow (redrawn Wm dz) oz).cell? ⟨p, 4, none⟩ = some (.int .u64 x.term) := cell_regrown (HRX.out.cell 4 rfl)
  have n6 : ∀ dz oz, (grow (redrawn Wm dz) oz).cell? ⟨p, 6, none⟩ = some (.int .i64 x.role) := cell_regrown (HRX.out.cell 6 rfl)
  have n7 : ∀ dz oz, (grow (redrawn Wm dz) oz).cell? ⟨p, 7, none⟩ = some (.int .i64 x.lead) := cell_regrown (HRX.out.cell 7 rfl)
  have n8 : ∀ dz oz, (grow (redrawn Wm dz) oz).cell? ⟨p, 8, none⟩ = some (.int .i64 x.since) := cell_regrown (HRX.out.cell 8 rfl)
  have lw := heap_lt HXX.out
  have lp := HRX.out.plt
  refine wp_region_quiet_below (by kernel_rfl) (by kernel_rfl) ?_
  iterate 39 (quiet_step (first | (with_reducible exact HQ.out _ _)))
  refine wpQuiet_nil ?_
  intro w3 hw'
  have HB3 : Hid (Below Wm.heap.size Wm w3) := hI (by
    obtain ⟨⟨dq, osq⟩, hw''⟩ := hw'
    subst hw''
    exact below_regrown Wm dq osq)
  clear hw'
  have HX3 := hI (bH HB3.out HXX.out (heap_lt HXX.out))
  have HR3 := hI (HRX.out.below HB3.out)
  clear c0 c1 c2 c3 c4 c5 c6 c7 c8 c9 c10 n2 n4 n6 n7 n8 lw lp
  obtain ⟨-, c1, -, c3, -, -, -, -, -, -, -⟩ := b11 HX3.out
  have n4 : w3.cell? ⟨p, 4, none⟩ = some (.int .u64 x.term) := HR3.out.cell 4 rfl
  have hs := HS.out _ w3 x.term false HR3.out (by omega) (by omega)
  try simp only [Act.put]
  go_wp2_with fail
  refine hs.mono ?_
  rintro en w5 ⟨rfl, hk⟩
  go_wp2_with fail
  refine bE rfl rfl ?_
  exact ⟨rfl, hk⟩
end Go.Proofs.YtdjooojpcepleaaGreat

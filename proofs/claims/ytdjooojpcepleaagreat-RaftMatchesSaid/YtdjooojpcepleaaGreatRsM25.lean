/- raft, any node: told. -/
import Derived.Test.YtdjooojpcepleaaGreatRsM24

namespace Go.Proofs.YtdjooojpcepleaaGreat
section
open Go.RowKit
open Go.«Sort» (grow)
def NodeS.tred (x : NodeS) (o : Option (List (Int × (Int × Int)))) : NodeS := { x with tr := o }
theorem Rn.trkd {w0 w w' : World} {M0 F0 G : Nat → Prop} {p : Nat} {x : NodeS} (h : Rn w0 M0 F0 G w p x) {S : Nat → Nat → Prop} (hn : NodeIn w (fun k => M0 k ∨ G k) G S p x) {o : Option (List (Int × (Int × Int)))} (ht : TrkP w' (S 3) x.tv o) (hk' : Keeps (S 3) w w') :
  ∃ G', Rn w0 M0 F0 G' w' p (x.tred o) ∧ Keeps G w w' ∧ ∀ k, G' k → G k ∨ w.heap.size ≤ k := by
 have hk : Keeps (fun k => S 3 k ∨ k = p) w w' := hk'.mono fun k _ e => .inl e
 have hT : ∀ k, S 3 k → S 3 k ∨ (w.heap.size ≤ k ∧ k < w'.heap.size) := fun k e => .inl e
 have hN := hn.partTrk (T := S 3) (w' := w') (y := { x with tr := o }) hT hk (by exact hk'.heap (hn.sp 3 (by omega)) hn.box) ht rfl rfl rfl rfl rfl rfl rfl rfl rfl rfl rfl rfl
 obtain ⟨G', a, b, _, c⟩ := h.callK (hn.to (by omega) hT hk hN)
 exact ⟨G', a, b, c⟩
theorem Rn.yes {w0 w : World} {M0 F0 G : Nat → Prop} {p : Nat} {x : NodeS} (h : Rn w0 M0 F0 G w p x) (c : Int) (h1 : 1 ≤ c) (h7 : c ≤ 7) (i : Int) (i0 : 0 ≤ i) (i1 : i ≤ 18446744073709551615) :
  Calls Tryz.prog 72 #[x.tv, .int .i64 c, .int .u64 i] w (fun e w' => e = .returned (.bool (yesR x.tr c i)) ∧ ∃ G', Rn w0 M0 F0 G' w' p (x.tred (yesT x.tr c i)) ∧ Keeps G w w' ∧ ∀ k, G' k → G k ∨ w.heap.size ≤ k) := by
 obtain ⟨S, hn⟩ := h.node
 refine (rtrk_yes w (S 3) x.tv x.tr hn.trk c h1 h7 i i0 i1).mono ?_
 rintro e w' ⟨he, ht, hk⟩
 exact ⟨he, h.trkd hn ht hk⟩
theorem Rn.no_ {w0 w : World} {M0 F0 G : Nat → Prop} {p : Nat} {x : NodeS} (h : Rn w0 M0 F0 G w p x) (c : Int) (h1 : 1 ≤ c) (h7 : c ≤ 7) (i : Int) (i0 : 0 ≤ i) (i1 : i ≤ 18446744073709551615) :
  Calls Tryz.prog 70 #[x.tv, .int .i64 c, .int .u64 i] w (fun e w' => (∃ b : Bool, e = .returned (.bool b)) ∧ ∃ G', Rn w0 M0 F0 G' w' p (x.tred (noT x.tr c i)) ∧ Keeps G w w' ∧ ∀ k, G' k → G k ∨ w.heap.size ≤ k) := by
 obtain ⟨S, hn⟩ := h.node
 refine (rtrk_no w (S 3) x.tv x.tr hn.trk c h1 h7 i i0 i1).mono ?_
 rintro e w' ⟨he, ht, hk⟩
 exact ⟨he, h.trkd hn ht hk⟩
theorem Rn.tvp {w0 w : World} {M0 F0 G : Nat → Prop} {p : Nat} {x : NodeS} (h : Rn w0 M0 F0 G w p x) : ∃ q, x.tv = .pointer q := by
 obtain ⟨S, hn⟩ := h.node
 have hb := hn.trk
 cases ho : x.tr with
 | none => rw [ho] at hb; exact ⟨_, hb⟩
 | some q =>
  rw [ho] at hb
  obtain ⟨b, m, h, _⟩ := hb
  exact ⟨_, h⟩
section
variable {C0 : List Int} {g : Gh En} {n : Nat} {x : NodeS} {X : List En}
theorem told_law (h : OkN C0 g n x X) {o : Option (List (Int × (Int × Int)))} (ho : ∀ q ∈ o.getD [], (∃ q' ∈ x.tr.getD [], q.1 = q'.1 ∧ q.2.1 = q'.2.1 ∧ q.2.2 ≤ q'.2.2) ∨ (g.A q.1 x.term.toNat q.2.1.toNat ∧ q.2.2 ≤ (X.length : Int) + 1)) (hr : x.role = 3) : OkN C0 g n { x with tr := o } X := by
 refine ⟨h.ni.told (trkOf o) (fun _ c k hk => ?_), h.i7, h.t0, h.tn, h.c0, h.len, h.memb, h.v0, h.v7, fun _ q hq => ?_, h.el⟩
 ·unfold trkOf at hk
  obtain ⟨q, hq, e⟩ := List.mem_map.1 hk
  injection e with e1 e2
  subst e1 e2
  rcases ho q hq with ⟨q', h1, h2, h3, _⟩ | ⟨h1, _⟩
  ·right; left
   simp only [NodeS.nd, trkOf]
   exact List.mem_map.2 ⟨q', h1, by rw [h2, h3]⟩
  ·exact .inr (.inr h1)
 ·rcases ho q hq with ⟨q', h1, _, _, h4⟩ | ⟨_, h1⟩
  ·have := h.nx hr q' h1; omega
  ·exact h1
theorem yes_law (h : OkN C0 g n x X) (hr : x.role = 3) {c i : Int} (i0 : 0 ≤ i) (hi : i ≤ X.length) (hX : X.length ≤ 1000) (ha : g.A c x.term.toNat i.toNat) : OkN C0 g n { x with tr := yesT x.tr c i } X := by
 refine told_law h (fun q hq => ?_) hr
 unfold yesT at hq
 cases ht : tget x.tr c with
 | none => rw [ht] at hq; exact .inl ⟨q, hq, rfl, rfl, Int.le_refl _⟩
 | some y =>
  rw [ht] at hq
  simp only at hq
  split at hq
  ·exact .inl ⟨q, hq, rfl, rfl, Int.le_refl _⟩
  ·obtain ⟨l, hl, hy⟩ : ∃ l, x.tr = some l ∧ (c, y) ∈ l := by
    cases ho : x.tr with
    | none => rw [ho] at ht; cases ht
    | some l => rw [ho] at ht; exact ⟨l, rfl, aget_some_mem ht⟩
   rw [hl] at hq
   simp only [Option.map_some, Option.getD_some] at hq
   rcases aset_mem hq with hq | rfl
   ·exact .inl ⟨q, by rw [hl]; exact hq, rfl, rfl, Int.le_refl _⟩
   ·right
    have hnx := h.nx hr (c, y) (by rw [hl]; exact hy)
    have hab := aboveF_small i0 (by omega)
    exact ⟨ha, by simp only at hnx ⊢; rw [hab]; omega⟩
theorem no_law (h : OkN C0 g n x X) (hr : x.role = 3) {c i : Int} : OkN C0 g n { x with tr := noT x.tr c i } X := by
 refine told_law h (fun q hq => ?_) hr
 unfold noT at hq
 cases ht : tget x.tr c with
 | none => rw [ht] at hq; exact .inl ⟨q, hq, rfl, rfl, Int.le_refl _⟩
 | some y =>
  rw [ht] at hq
  simp only at hq
  split at hq
  ·exact .inl ⟨q, hq, rfl, rfl, Int.le_refl _⟩
  ·rename_i hlt
   obtain ⟨l, hl, hy⟩ : ∃ l, x.tr = some l ∧ (c, y) ∈ l := by
    cases ho : x.tr with
    | none => rw [ho] at ht; cases ht
    | some l => rw [ho] at ht; exact ⟨l, rfl, aget_some_mem ht⟩
   rw [hl] at hq
   simp only [Option.map_some, Option.getD_some] at hq
   rcases aset_mem hq with hq | rfl
   ·exact .inl ⟨q, by rw [hl]; exact hq, rfl, rfl, Int.le_refl _⟩
   ·exact .inl ⟨(c, y), by rw [hl]; exact hy, rfl, rfl, by simp only at hlt ⊢; omega⟩
end
set_option maxRecDepth 100000 in
set_option maxHeartbeats 16000000 in
theorem told_node (w : World) (M F : Nat → Prop) (p : Nat) (x : NodeS) (h : NodeAt w M F p x) (hM : ∀ k, M k → k < w.heap.size) (hl : x.out.length ≤ 800000) (C0 : List Int) (g : Gh En) (n : Nat) (X : List En) (hg : OkG C0 g n) (hN : OkN C0 g n x X) (hn6 : n ≤ 1000) (hXn : X.length + 1 ≤ n) (m : Msg) (hm : MsgOk w M m) (hmo : OkM C0 g n m) (hk : m.kind = 5 ∨ m.kind = 7) (hmt : m.term = x.term) :
  Calls Tryz.prog 43 #[.pointer (some ⟨p, 0, none⟩), m.agg] w (TickR C0 g n w M F p x) := by
 have HTE := hI (fun (hy : m.yes = true) => by
   have := hmo.mi.tell hk hy
   simp only [Msg.ms] at this
   rwa [hmt] at this)
 have x0 := hmo.x0
 have xn := hmo.xn
 have t0 := hmo.t0
 have f1 := hmo.f1
 have f7 := hmo.f7
 have hR0 := Rn.start h hM
 obtain ⟨_, _, ea, ec, hev, _⟩ := hm.ents
 obtain ⟨ma, mc, hmv, _⟩ := hm.mem
 obtain ⟨d, hd, _⟩ := hm.data
 obtain ⟨da, dc, hdv, _⟩ := hd
 obtain ⟨mk, from_, to_, term, mi, logTerm, commit, my, ev, mv, dv, es, mem⟩ := m
 simp only at hev hmv hdv
 subst hev hmv hdv
 have hpl := h.plt
 obtain ⟨Wm, hX⟩ : ∃ Wm, Wm = w.alloc (.cells #[.int .i64 mk, .int .i64 from_, .int .i64 to_, .int .u64 term, .int .u64 mi, .int .u64 logTerm, .int .u64 commit, .bool my, .slice ea es.length ec, .slice ma mem.length mc, .slice da d.length dc] 54) := ⟨_, rfl⟩
 have hbX : Below w.heap.size w Wm := by rw [hX]; exact bR.alloc nL _
 have HXX : Hid (Wm.heap[w.heap.size]? = some (.cells #[.int .i64 mk, .int .i64 from_, .int .i64 to_, .int .u64 term, .int .u64 mi, .int .u64 logTerm, .int .u64 commit, .bool my, .slice ea es.length ec, .slice ma mem.length mc, .slice da d.length dc] 54 (0, 0))) := hI (by rw [hX]; exact bW w _)
 have HRX := hI (hR0.below hbX)
 have HBX := hI hbX
 have HN := hI hN
 have HG := hI hg
 have HL := hI hl
 have HXN := hI hXn
 have ht0 := hN.t0
 have htn0 := hN.tn
 obtain ⟨pq, hpq⟩ := hR0.pvp
 have HPQ := hI hpq
 simp only at *
 have hfx : ¬ F w.heap.size := fun e => absurd (hR0.glt _ e) (Nat.lt_irrefl _)
 have HGB := hI hfx
 have HR0 := hI hR0
 obtain ⟨tq, htq⟩ := hR0.tvp
 have HTQ := hI htq
 have hlast := (hN.nums hR0.ok.1).last
 have hlen := hN.len
 have HLS := hI (last_any Wm x.lg x.r x.ix x.tm x.es (hR0.below hbX).ok.2.1 hR0.ok.1)
 have d9 : w.cell? ⟨p, 9, none⟩ = some (.pointer (some ⟨x.lg, 0, none⟩)) := hR0.cell 9 rfl
 have HOK := hI hR0.ok.1
 obtain ⟨li, hli⟩ : ∃ li, li = x.ix + (x.es.length : Int) := ⟨_, rfl⟩
 have hlx : li = X.length := by omega
 have HLX := hI hlx
 rw [← hli] at HLS
 generalize lT x.tm x.es = lt at *
 clear h hM hl hg hN hm hmo hR0 hbX hXn hpq hfx hk hmt htq hlast hli hlx
 unfold Msg.agg
 have hcase : (x.role == 3) = false ∨ ((x.role == 3) = true ∧ my = false) ∨ ((x.role == 3) = true ∧ my = true ∧ decide (li < mi) = true) ∨ ((x.role == 3) = true ∧ my = true ∧ decide (li < mi) = false) := by
  cases (x.role == 3) <;> cases my <;> cases decide (li < mi) <;> simp
 rcases hcase with q2 | ⟨q2, rfl⟩ | ⟨q2, rfl, q3⟩ | ⟨q2, rfl, q3⟩
 ·skip
  have q2' : (x.role != 3) = !(x.role == 3) := rfl
  rw [q2] at q2'
  go_enter Tryz.func43, Tryz.ntmps43
  go_wp2_with fail
  rw [← hX]
  clear hX d9
  refine HLS.out.mono ?_
  rintro en w1 ⟨rfl, hb1⟩
  have HX1 := hI (bH hb1 HXX.out (heap_lt HXX.out))
  have HR1 := hI (HRX.out.below hb1)
  have d6 : w1.cell? ⟨p, 6, none⟩ = some (.int .i64 x.role) := HR1.out.cell 6 rfl
  have hz1 : w.heap.size < w1.heap.size := heap_lt HX1.out
  clear hb1 HLS
  go_wp2_with fail
  first
   | refine bT rfl rfl ?_
   | refine bE rfl rfl ?_
  exact ⟨rfl, _, g, X, HR1.out.to, (Acts.own HG.out HN.out rfl (Stay.refl x)).mono nL (by omega)⟩
 ·skip
  have q2' : (x.role != 3) = !(x.role == 3) := rfl
  rw [q2] at q2'
  have hr3 : x.role = 3 := by simpa using q2
  have HRR := hI hr3
  clear hr3 q2
  go_enter Tryz.func43, Tryz.ntmps43
  go_wp2_with fail
  rw [← hX]
  clear hX d9
  refine HLS.out.mono ?_
  rintro en w1 ⟨rfl, hb1⟩
  have HX1 := hI (bH hb1 HXX.out (heap_lt HXX.out))
  have HR1 := hI (HRX.out.below hb1)
  have d6 : w1.cell? ⟨p, 6, none⟩ = some (.int .i64 x.role) := HR1.out.cell 6 rfl
  have hz1 : w.heap.size < w1.heap.size := heap_lt HX1.out
  clear hb1 HLS
  have d7 : w1.cell? ⟨w.heap.size, 7, none⟩ = some (.bool false) := bC HX1.out 7 rfl
  go_wp2_with fail
  clear d6 d7
  obtain ⟨-, c1, -, -, c4, -, -, -, -, -, -⟩ := b11 HX1.out
  have n16 : w1.cell? ⟨p, 16, none⟩ = some (.pointer tq) := (by rw [← HTQ.out]; exact HR1.out.cell 16 rfl)
  have hno := HR1.out.drew.no_ from_ f1 f7 mi x0 (by omega)
  rw [HTQ.out] at hno
  have HNO := hI hno
  clear hno
  go_region_held3 (fun w' => w'.cell? ⟨w.heap.size, 1, none⟩ = some (.int .i64 from_) ∧ w'.cell? ⟨w.heap.size, 4, none⟩ = some (.int .u64 mi) ∧ w'.cell? ⟨p, 16, none⟩ = some (.pointer tq)) (first | exact ⟨c1, c4, n16⟩ | exact ⟨kc1, kc4, kn16⟩)
   (first | (go_at_call 70; refine HNO.out.mono ?_; rintro en w4 ⟨⟨vb, rfl⟩, G4, h4, hk4, hG4⟩; have H4 := hI h4; have HX4 := hI (hk4.heap HGB.out (show w1.drew.heap[w.heap.size]? = _ from HX1.out)); have HG4 : Hid (¬ G4 w.heap.size) := hI (fun e => (hG4 _ e).elim HGB.out fun e => Nat.lt_irrefl _ (Nat.lt_of_lt_of_le hz1 e)); have kc1 : w4.cell? ⟨w.heap.size, 1, none⟩ = some (.int .i64 from_) := bC HX4.out 1 rfl; have kc4 : w4.cell? ⟨w.heap.size, 4, none⟩ = some (.int .u64 mi) := bC HX4.out 4 rfl; have kn16 : w4.cell? ⟨p, 16, none⟩ = some (.pointer tq) := (by rw [← HTQ.out]; exact H4.out.cell 16 rfl); clear h4 hk4 hG4))
  have HC4 : Hid (OkN C0 g n (x.tred (noT x.tr from_ mi)) X) := hI (no_law HN.out HRR.out)
  have hhas : Calls Tryz.prog 71 #[.pointer tq, .int .i64 from_] w4.drew (RetB (.bool (tget (noT x.tr from_ mi) from_).isSome) w4.drew) := by
   obtain ⟨S4, hn4⟩ := H4.out.drew.node
   have := rtrk_has w4.drew (S4 3) _ _ hn4.trk from_ f1 f7
   rw [← HTQ.out]
   exact this
  have HHA := hI hhas
  clear c1 c4 n16 hhas
  generalize (tget (noT x.tr from_ mi) from_).isSome = hs at *
  go_wp2_with fail
  go_region_held3 (fun w' => w'.cell? ⟨w.heap.size, 1, none⟩ = some (.int .i64 from_) ∧ w'.cell? ⟨p, 16, none⟩ = some (.pointer tq)) (first | exact ⟨kc1, kn16⟩ | exact ⟨jc1, jn16⟩)
   (first | (go_at_call 71; refine HHA.out.mono ?_; rintro en w5 ⟨rfl, hb5⟩; have H5 := hI (H4.out.drew.below hb5); have HX5 := hI (bH hb5 (show w4.drew.heap[w.heap.size]? = _ from HX4.out) (heap_lt HX4.out)); have jc1 : w5.cell? ⟨w.heap.size, 1, none⟩ = some (.int .i64 from_) := bC HX5.out 1 rfl; have jn16 : w5.cell? ⟨p, 16, none⟩ = some (.pointer tq) := (by rw [← HTQ.out]; exact H5.out.cell 16 rfl); clear hb5))
  have HA5 : Hid (Acts C0 g n 0 x g (x.tred (noT x.tr from_ mi)) X) := hI (Acts.own HG.out HC4.out rfl ⟨rfl, rfl, rfl, rfl⟩)
  have HTO := hI (to_node w5 _ G4 p _ H5.out.node H5.out.ml (by have := HL.out; show x.out.length ≤ 1000000; omega) C0 g n X HC4.out (by omega) HRR.out from_ f1 f7)
  clear kc1 kc4 kn16 jn16
  cases hs
  ·go_wp2_with fail
   first
    | refine bT rfl rfl ?_
    | refine bE rfl rfl ?_
   exact ⟨rfl, _, g, X, H5.out.to, HA5.out.mono nL (by omega)⟩
  ·go_wp2_with fail
   refine HTO.out.mono ?_
   rintro en w6 ⟨rfl, v6, m6, hn6', hm6⟩
   obtain ⟨G6, h6⟩ := H5.out.call hn6'
   have H6 := hI h6.to
   have HM6 := hI hm6
   clear hn6' h6 hm6 HTO
   go_wp2_with fail
   first
    | refine bT rfl rfl ?_
    | refine bE rfl rfl ?_
   exact ⟨rfl, _, g, X, H6.out, (HA5.out.trans (j := 1) ⟨Grow.refl _ _, HG.out, HC4.out.outs x.since v6 _, ⟨[m6], rfl, fun q hq => (by obtain rfl := List.mem_singleton.1 hq; exact HM6.out), by simp⟩, ⟨rfl, rfl, rfl, rfl⟩⟩).mono nL (by omega)⟩
 ·skip
  have q2' : (x.role != 3) = !(x.role == 3) := rfl
  rw [q2] at q2'
  have hr3 : x.role = 3 := by simpa using q2
  have HRR := hI hr3
  clear hr3 q2
  go_enter Tryz.func43, Tryz.ntmps43
  go_wp2_with fail
  rw [← hX]
  clear hX d9
  refine HLS.out.mono ?_
  rintro en w1 ⟨rfl, hb1⟩
  have HX1 := hI (bH hb1 HXX.out (heap_lt HXX.out))
  have HR1 := hI (HRX.out.below hb1)
  have d6 : w1.cell? ⟨p, 6, none⟩ = some (.int .i64 x.role) := HR1.out.cell 6 rfl
  have hz1 : w.heap.size < w1.heap.size := heap_lt HX1.out
  clear hb1 HLS
  have d7 : w1.cell? ⟨w.heap.size, 7, none⟩ = some (.bool true) := bC HX1.out 7 rfl
  go_wp2_with fail
  clear d6 d7
  have rc4 : ∀ dz oz, (grow (redrawn w1 dz) oz).cell? ⟨w.heap.size, 4, none⟩ = some (.int .u64 mi) := cell_regrown (bC HX1.out 4 rfl)
  have rlw := heap_lt HX1.out
  have rlp := HR1.out.plt
  refine wp_region_quiet_below (by kernel_rfl) (by kernel_rfl) ?_
  iterate 5 (quiet_step (fail))
  iterate 10 (with_reducible refine wQ (by kernel_rfl) ?_)
  simp only [Act.put, sA, sS, sZ]
  iterate 2 (quiet_step (fail))
  refine wpQuiet_nil ?_
  intro w3 hw'
  have HB3 : Hid (Below w1.heap.size w1 w3) := hI (by
    obtain ⟨⟨dq, osq⟩, hw''⟩ := hw'
    subst hw''
    exact below_regrown w1 dq osq)
  clear hw'
  have HR3 := hI (HR1.out.below HB3.out)
  clear rc4 rlw rlp
  try simp only [Act.put, sA, sS, sZ]
  go_wp2_with fail
  first
   | refine bT rfl rfl ?_
   | refine bE rfl rfl ?_
  exact ⟨rfl, _, g, X, HR3.out.to, (Acts.own HG.out HN.out rfl (Stay.refl x)).mono nL (by omega)⟩
 ·skip
  have q2' : (x.role != 3) = !(x.role == 3) := rfl
  rw [q2] at q2'
  have hr3 : x.role = 3 := by simpa using q2
  have HRR := hI hr3
  clear hr3 q2
  go_enter Tryz.func43, Tryz.ntmps43
  go_wp2_with fail
  rw [← hX]
  clear hX d9
  refine HLS.out.mono ?_
  rintro en w1 ⟨rfl, hb1⟩
  have HX1 := hI (bH hb1 HXX.out (heap_lt HXX.out))
  have HR1 := hI (HRX.out.below hb1)
  have d6 : w1.cell? ⟨p, 6, none⟩ = some (.int .i64 x.role) := HR1.out.cell 6 rfl
  have hz1 : w.heap.size < w1.heap.size := heap_lt HX1.out
  clear hb1 HLS
  have d7 : w1.cell? ⟨w.heap.size, 7, none⟩ = some (.bool true) := bC HX1.out 7 rfl
  go_wp2_with fail
  clear d6 d7
  obtain ⟨-, c1, -, -, c4, -, -, -, -, -, -⟩ := b11 HX1.out
  have n16 : w1.cell? ⟨p, 16, none⟩ = some (.pointer tq) := (by rw [← HTQ.out]; exact HR1.out.cell 16 rfl)
  have hye := HR1.out.drew.yes from_ f1 f7 mi x0 (by omega)
  rw [HTQ.out] at hye
  generalize yesR x.tr from_ mi = yr at *
  have HYE := hI hye
  clear hye
  go_region_held3 (fun w' => w'.cell? ⟨w.heap.size, 1, none⟩ = some (.int .i64 from_) ∧ w'.cell? ⟨w.heap.size, 4, none⟩ = some (.int .u64 mi) ∧ w'.cell? ⟨p, 16, none⟩ = some (.pointer tq)) (first | exact ⟨c1, c4, n16⟩ | exact ⟨kc1, kc4, kn16⟩)
   (first | (go_at_call 72; refine HYE.out.mono ?_; rintro en w4 ⟨rfl, G4, h4, hk4, hG4⟩; have H4 := hI h4; have HX4 := hI (hk4.heap HGB.out (show w1.drew.heap[w.heap.size]? = _ from HX1.out)); have HG4 : Hid (¬ G4 w.heap.size) := hI (fun e => (hG4 _ e).elim HGB.out fun e => Nat.lt_irrefl _ (Nat.lt_of_lt_of_le hz1 e)); have kc1 : w4.cell? ⟨w.heap.size, 1, none⟩ = some (.int .i64 from_) := bC HX4.out 1 rfl; have kc4 : w4.cell? ⟨w.heap.size, 4, none⟩ = some (.int .u64 mi) := bC HX4.out 4 rfl; have kn16 : w4.cell? ⟨p, 16, none⟩ = some (.pointer tq) := (by rw [← HTQ.out]; exact H4.out.cell 16 rfl); clear h4 hk4 hG4))
  have hmi : ¬ li < mi := by simpa using q3
  have HC4 : Hid (OkN C0 g n (x.tred (yesT x.tr from_ mi)) X) := hI (yes_law HN.out HRR.out x0 (by have := HLX.out; omega) (by omega) (HTE.out (by first | exact rfl | trivial)))
  have HA4 : Hid (Acts C0 g n 0 x g (x.tred (yesT x.tr from_ mi)) X) := hI (Acts.own HG.out HC4.out rfl ⟨rfl, rfl, rfl, rfl⟩)
  clear c1 c4 n16 q3 hmi
  cases yr
  ·go_wp2_with fail
   first
    | refine bT rfl rfl ?_
    | refine bE rfl rfl ?_
   exact ⟨rfl, _, g, X, H4.out.to, HA4.out.mono nL (by omega)⟩
  ·have hnx : Calls Tryz.prog 73 #[.pointer tq, .int .i64 from_] w4.drew (Ret (.int .u64 (((tget (yesT x.tr from_ mi) from_).map (·.2)).getD 0)) w4.drew) := by
    obtain ⟨S4, hn4⟩ := H4.out.drew.node
    have := rtrk_next w4.drew (S4 3) _ _ hn4.trk from_ f1 f7
    rw [← HTQ.out]
    exact this
   generalize ((tget (yesT x.tr from_ mi) from_).map (·.2)).getD 0 = nx at *
   have HNX := hI hnx
   clear hnx
   by_cases hle : nx ≤ li
   ·have q5 : decide (nx ≤ li) = true := by simpa using hle
    go_wp2_with fail
    go_region_held3 (fun w' => w'.cell? ⟨w.heap.size, 1, none⟩ = some (.int .i64 from_) ∧ w'.cell? ⟨p, 16, none⟩ = some (.pointer tq)) (first | exact ⟨kc1, kn16⟩)
     (first | (go_at_call 73; refine HNX.out.mono ?_; rintro en w5 ⟨rfl, rfl⟩))
    have H5 := hI H4.out.drew
    have jc1 : w4.drew.cell? ⟨w.heap.size, 1, none⟩ = some (.int .i64 from_) := kc1
    generalize w4.drew = w5 at *
    clear kc1 kc4 kn16
    have HTO := hI (to_node w5 _ G4 p _ H5.out.node H5.out.ml (by have := HL.out; show x.out.length ≤ 1000000; omega) C0 g n X HC4.out (by omega) HRR.out from_ f1 f7)
    clear hle
    go_wp2_with fail
    refine HTO.out.mono ?_
    rintro en w6 ⟨rfl, v6, m6, hn6', hm6⟩
    obtain ⟨G6, h6⟩ := H5.out.call hn6'
    have H6 := hI h6
    have HA6 := hI (HA4.out.trans (j := 1) ⟨Grow.refl _ _, HG.out, HC4.out.outs x.since v6 (x.out ++ [m6]), ⟨[m6], rfl, fun q hq => (by obtain rfl := List.mem_singleton.1 hq; exact hm6), by simp⟩, ⟨rfl, rfl, rfl, rfl⟩⟩)
    have HAG := hI (agree_node w6 _ G6 p _ H6.out.node H6.out.ml (by have := HL.out; show (x.out ++ [m6]).length ≤ 900000; simp; omega) C0 g n X HG.out HA6.out.nok (by omega) HRR.out)
    clear hn6' h6 hm6 HTO jc1
    go_wp2_with fail
    refine HAG.out.mono ?_
    rintro en w7 ⟨rfl, y, g3, Y, hn7, hA7⟩
    obtain ⟨G7, h7⟩ := H6.out.call hn7
    have H7 := hI h7.to
    have HA7 := hI (HA6.out.trans hA7)
    clear hn7 hA7 h7 HAG
    go_wp2_with fail
    refine bE rfl rfl ?_
    exact ⟨rfl, y, g3, Y, H7.out, HA7.out.mono nL (by omega)⟩
   ·have q5 : decide (nx ≤ li) = false := by simpa using hle
    go_wp2_with fail
    go_region_held3 (fun w' => w'.cell? ⟨w.heap.size, 1, none⟩ = some (.int .i64 from_) ∧ w'.cell? ⟨p, 16, none⟩ = some (.pointer tq)) (first | exact ⟨kc1, kn16⟩)
     (first | (go_at_call 73; refine HNX.out.mono ?_; rintro en w5 ⟨rfl, rfl⟩))
    have H5 := hI H4.out.drew
    have jc1 : w4.drew.cell? ⟨w.heap.size, 1, none⟩ = some (.int .i64 from_) := kc1
    generalize w4.drew = w5 at *
    clear kc1 kc4 kn16
    have HAG := hI (agree_node w5 _ G4 p _ H5.out.node H5.out.ml (by have := HL.out; show x.out.length ≤ 900000; omega) C0 g n X HG.out HC4.out (by omega) HRR.out)
    clear hle jc1
    go_wp2_with fail
    refine HAG.out.mono ?_
    rintro en w7 ⟨rfl, y, g3, Y, hn7, hA7⟩
    obtain ⟨G7, h7⟩ := H5.out.call hn7
    have H7 := hI h7.to
    have HA7 := hI (HA4.out.trans hA7)
    clear hn7 hA7 h7 HAG
    go_wp2_with fail
    refine bE rfl rfl ?_
    exact ⟨rfl, y, g3, Y, H7.out, HA7.out.mono nL (by omega)⟩
end
section
open Go.RowKit
theorem fol_pos {i t : Int} {l : List Ent} (h : FolOk i t l) (ht : 0 ≤ t) : ∀ (k : Nat) (e : Ent), l[k]? = some e → 0 ≤ e.tm
 | 0, e, he => by
  have := (h 0 e he).2.1
  simp only [List.take_zero] at this
  have h0 : lT t ([] : List Ent) = t := rfl
  rw [h0] at this
  omega
 | k + 1, e, he => by
  have hk := (List.getElem?_eq_some_iff.1 he).1
  obtain ⟨e2, he2⟩ : ∃ e2, l[k]? = some e2 := ⟨l[k]'(by omega), by simp⟩
  have h1 := fol_pos h ht k e2 he2
  have h2 := (h (k + 1) e he).2.1
  rw [lastTm_take he2] at h2
  omega
section
variable {ix tm i term : Int} {es l es' : List Ent} {kp k : Nat}
theorem put_get (hp : es'.map Ent.pl = (es.take kp).map Ent.pl ++ (l.drop k).map Ent.pl) (hkl : kp ≤ es.length) {j : Nat} {e : Ent} (he : es'[j]? = some e) :
  (j < kp ∧ ∃ e', es[j]? = some e' ∧ e'.pl = e.pl) ∨ (kp ≤ j ∧ ∃ e', l[k + (j - kp)]? = some e' ∧ e'.pl = e.pl) := by
 have h1 : (es'.map Ent.pl)[j]? = some e.pl := by rw [List.getElem?_map, he]; rfl
 have hl : ((es.take kp).map Ent.pl).length = kp := by simp; omega
 rw [hp] at h1
 rcases Nat.lt_or_ge j kp with h | h
 ·left
  rw [List.getElem?_append_left (by omega), List.getElem?_map, List.getElem?_take, if_pos h] at h1
  cases he' : es[j]? with
  | none => rw [he'] at h1; cases h1
  | some e' => rw [he'] at h1; exact ⟨h, e', rfl, Option.some.inj h1⟩
 ·right
  rw [List.getElem?_append_right (by omega), hl, List.getElem?_map, List.getElem?_drop] at h1
  cases he' : l[k + (j - kp)]? with
  | none => rw [he'] at h1; cases h1
  | some e' => rw [he'] at h1; exact ⟨h, e', rfl, Option.some.inj h1⟩
theorem put_ok (hok : LogOk ix tm es) (hd : ∀ e ∈ es, e.d.length ≤ 900) (hf : FolOk i term l) (ht : 0 ≤ term) (hp : es'.map Ent.pl = (es.take kp).map Ent.pl ++ (l.drop k).map Ent.pl) (hkl : kp ≤ es.length) (hik : i + k = ix + kp) (hlen : es'.length ≤ 1024) (hhi : ix ≤ 1000000) :
  LogOk ix tm es' ∧ ∀ e ∈ es', e.d.length ≤ 900 := by
 have key : ∀ (j : Nat) (e : Ent), es'[j]? = some e → e.ix = ix + (j : Int) + 1 ∧ (0 ≤ e.tm ∧ e.tm ≤ 18446744073709551615) ∧ e.d.length ≤ 900 := by
  intro j e he
  rcases put_get hp hkl he with ⟨h, e', h1, h2⟩ | ⟨h, e', h1, h2⟩
  ·unfold Ent.pl at h2
   simp only [Prod.mk.injEq] at h2
   have a := hok.ixs j e' h1
   have b := hok.tms e' (List.mem_of_getElem? h1)
   have c := hd e' (List.mem_of_getElem? h1)
   rw [h2.1] at a
   rw [h2.2.1] at b
   rw [h2.2.2.2] at c
   exact ⟨a, b, c⟩
  ·unfold Ent.pl at h2
   simp only [Prod.mk.injEq] at h2
   obtain ⟨a, _, b, c⟩ := hf _ e' h1
   have b0 := fol_pos hf ht _ e' h1
   rw [h2.1] at a
   rw [h2.2.1] at b b0
   rw [h2.2.2.2] at c
   exact ⟨by omega, ⟨b0, b⟩, c⟩
 refine ⟨⟨fun j e he => (key j e he).1, hok.lo, by omega, hok.tmlo, fun e he => ?_, hok.tmhi⟩, fun e he => ?_⟩
 ·obtain ⟨j, hj⟩ := List.getElem?_of_mem he
  exact (key j e hj).2.1
 ·obtain ⟨j, hj⟩ := List.getElem?_of_mem he
  exact (key j e hj).2.2
end
section
variable {C0 : List Int} {g : Gh En} {n : Nat} {x : NodeS} {X : List En}
theorem msg_term {m : Msg} (h : OkM C0 g n m) (hk : m.kind = 4) {q : Nat} {e : Ent} (he : m.es[q]? = some e) : tmAt En.tm (g.LL m.term.toNat) (m.index.toNat + (q + 1)) = e.tm.toNat := by
 obtain ⟨_, _, _, d, _, _⟩ := h.mi.app hk
 simp only [Msg.ms] at d
 have h1 : (m.es.map Ent.en)[q]? = some e.en := by rw [List.getElem?_map, he]; rfl
 rw [d, List.getElem?_take] at h1
 split at h1
 ·rw [List.getElem?_drop] at h1
  unfold tmAt
  rw [if_neg (by omega), show m.index.toNat + (q + 1) - 1 = m.index.toNat + q by omega, h1]
  rfl
 ·cases h1
theorem OkN.termSome (h : OkN C0 g n x X) (hok : LogOk x.ix x.tm x.es) {i : Int} (h1 : x.ix ≤ i) (h2 : i ≤ X.length) : ∃ t, termE x.ix x.tm x.es i = some t := by
 have hn := (h.nums hok).last
 unfold termE
 split
 ·exact ⟨_, rfl⟩
 ·rename_i hne
  rw [if_pos (by omega)]
  obtain ⟨e, he⟩ : ∃ e, x.es[(i - x.ix - 1).toNat]? = some e := ⟨x.es[(i - x.ix - 1).toNat]'(by omega), by simp⟩
  exact ⟨e.tm, by rw [he]; rfl⟩
theorem put_law (hg : OkG C0 g n) (h : OkN C0 g n x X) (hok : LogOk x.ix x.tm x.es) {m : Msg} (hmo : OkM C0 g n m) (hk4 : m.kind = 4) (hmt : m.term = x.term) (hr2 : x.role ≠ 2) (hr3 : x.role ≠ 3) (hci : x.commit ≤ m.index)
  (hte : termE x.ix x.tm x.es m.index = some m.logTerm) {k : Nat} (hkn : KnownP x.ix x.tm x.es m.es k) {r' : Option Nat} {es' : List Ent} (hes : (k = m.es.length ∧ es' = x.es) ∨ (k < m.es.length ∧ es'.map Ent.pl = (x.es.take ((m.index - x.ix).toNat + k)).map Ent.pl ++ (m.es.drop k).map Ent.pl)) (since stable : Int) :
  ∃ g' Y, Acts C0 g n 0 x g' { x with since := since, r := r', es := es', commit := max x.commit (min m.commit (m.index + m.es.length)), stable := stable } Y ∧ g'.A x.id x.term.toNat (m.index + m.es.length).toNat := by
 have ht := h.termE_ hok hte
 have hnm := h.nums hok
 have hx0 := hmo.x0
 have hc0 := h.c0
 have hmc := hmo.c0
 have hel := hmo.el
 have hix := hok.lo
 have hfp := fol_pos hmo.fol hmo.l0
 obtain ⟨hk1, hk2, hk3⟩ := hkn
 have emt : m.term.toNat = x.term.toNat := by rw [hmt]
 obtain ⟨g', Y, w1, w2, w3, w4, w5⟩ := h.ni.put hg.gi hr2 hr3 hmo.mi hk4 (by simp only [Msg.ms, NodeS.nd]; exact emt) (by simp only [Msg.ms, NodeS.nd]; omega) (by simp only [Msg.ms]; exact ht.2.2.1) (by simp only [Msg.ms]; exact ht.2.1)
  (k := k) (by simp only [Msg.ms, List.length_map]; exact hk1)
  (fun j j1 jk => by
    obtain ⟨q, rfl⟩ : ∃ q, j = q + 1 := ⟨j - 1, by omega⟩
    obtain ⟨e, he⟩ : ∃ e, m.es[q]? = some e := ⟨m.es[q]'(by omega), by simp⟩
    have h1 := h.termE_ hok (hk2 q e (by omega) he)
    have h2 := (hmo.fol q e he).1
    have h3 := msg_term hmo hk4 he
    simp only [Msg.ms]
    rw [h3, show m.index.toNat + (q + 1) = e.ix.toNat by omega]
    exact ⟨h1.2.2.1, h1.2.1⟩)
  (fun hkl hle => by
    simp only [Msg.ms, List.length_map] at hkl hle ⊢
    obtain ⟨e, he⟩ : ∃ e, m.es[k]? = some e := ⟨m.es[k]'(by omega), by simp⟩
    have h2 := (hmo.fol k e he).1
    have h3 := msg_term hmo hk4 he
    obtain ⟨t, htt⟩ := h.termSome hok (i := e.ix) (by have := hnm.ixle; omega) (by omega)
    have h1 := h.termE_ hok htt
    have hne := hk3 e he
    rw [show m.index.toNat + k + 1 = m.index.toNat + (k + 1) by omega, h3, show m.index.toNat + (k + 1) = e.ix.toNat by omega, h1.2.1]
    intro e1
    have := hfp k e he
    apply hne
    rw [htt]
    congr 1
    have := h1.1
    omega)
 simp only [Msg.ms, List.length_map] at w3 w4 w5
 have hY : Y.length ≤ n := by
  rw [w3]
  split
  ·exact h.len
  ·rw [List.length_append, List.length_take, List.length_drop, List.length_map]; omega
 refine ⟨g', Y, ⟨w1, ⟨w2, hg.c0⟩, ⟨?_, h.i7, h.t0, h.tn, by show 0 ≤ max x.commit _; omega, hY, h.memb, h.v0, h.v7, fun e => absurd e hr3, h.el⟩, ⟨[], by simp, (fun q hq => by cases hq), Nat.le_refl _⟩, ⟨rfl, rfl, rfl, rfl⟩⟩, ?_⟩
 ·have e1 : es'.map Ent.en = if k = m.es.length then x.nd.ents else x.nd.ents.take (m.index.toNat + k - x.nd.base) ++ (m.es.map Ent.en).drop k := by
   rcases hes with ⟨a, b⟩ | ⟨a, b⟩
   ·rw [if_pos a, b]; rfl
   ·rw [if_neg (by omega)]
    have hb : x.ix ≤ m.index := by have := hnm.ixle; omega
    have h2 : es'.map Ent.pl = (x.es.take ((m.index - x.ix).toNat + k) ++ m.es.drop k).map Ent.pl := by rw [b, List.map_append]
    rw [pl_en h2, List.map_append, List.map_take, List.map_drop]
    simp only [NodeS.nd]
    rw [show m.index.toNat + k - x.ix.toNat = (m.index - x.ix).toNat + k by omega]
  have e2 : (max x.commit (min m.commit (m.index + m.es.length))).toNat = max x.nd.commit (min m.commit.toNat (m.index.toNat + m.es.length)) := by simp only [NodeS.nd]; omega
  show NI En.tm cfE C0 g' x.id (NodeS.nd { x with since := since, r := r', es := es', commit := max x.commit (min m.commit (m.index + m.es.length)), stable := stable }) Y
  have e3 : NodeS.nd { x with since := since, r := r', es := es', commit := max x.commit (min m.commit (m.index + m.es.length)), stable := stable } = { x.nd with ents := es'.map Ent.en, commit := (max x.commit (min m.commit (m.index + m.es.length))).toNat } := rfl
  rw [e3, e1, e2]
  exact w4
 ·rw [emt] at w5
  rw [show (m.index + (m.es.length : Int)).toNat = m.index.toNat + m.es.length by omega]
  exact w5
end
end
end Go.Proofs.YtdjooojpcepleaaGreat

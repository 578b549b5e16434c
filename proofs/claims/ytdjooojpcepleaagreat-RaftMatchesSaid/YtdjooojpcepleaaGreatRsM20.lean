/- raft, any node: a new track, a new ballot, a log that has grown; an election, plainly. -/
import Derived.Test.YtdjooojpcepleaaGreatRsM19
import Derived.Deep.RegionHeld3

namespace Go.Proofs.YtdjooojpcepleaaGreat
section
open Go.RowKit
section
variable {w0 w w' w1 : World} {M0 F0 G : Nat → Prop} {p : Nat} {x y : NodeS}
theorem TrkP.lts {S : Nat → Prop} {v : Value} {l : List (Int × (Int × Int))} (h : TrkP w S v (some l)) : TrkP w (fun k => S k ∧ k < w.heap.size) v (some l) := by
 obtain ⟨b, m, h1, h2, h3, h4, h5, h6⟩ := h
 exact ⟨b, m, h1, h2, h3, ⟨h4, heap_lt h2⟩, ⟨h5, h3.lt⟩, h6⟩
theorem Rn.newTrk (h : Rn w0 M0 F0 G w p x) (hb : Below w.heap.size w w1) {v : Value} {l : List (Int × (Int × Int))} (ht : TrkP w1 (fun k => w.heap.size ≤ k) v (some l)) :
  ∃ G', Rn w0 M0 F0 G' (w1.setCell ⟨p, 16, none⟩ v) p { x with tv := v, tr := some l } := by
 obtain ⟨S, hn⟩ := h.node
 have hk : Keeps (fun k => S 3 k ∨ k = p) w (w1.setCell ⟨p, 16, none⟩ v) := (Keeps.of_belowS (S := fun k => S 3 k ∨ k = p) hb).setCell (p := ⟨p, 16, none⟩) (.inl (.inr rfl)) v
 have hT : ∀ k, (w.heap.size ≤ k ∧ k < w1.heap.size) → S 3 k ∨ (w.heap.size ≤ k ∧ k < (w1.setCell ⟨p, 16, none⟩ v).heap.size) := fun k hk => .inr ⟨hk.1, by simpa using hk.2⟩
 have hpl := h.plt
 have hN := hn.partTrk (T := fun k => w.heap.size ≤ k ∧ k < w1.heap.size) (w' := w1.setCell ⟨p, 16, none⟩ v) (y := { x with tv := v, tr := some l }) hT hk (by exact blk_set (bH hb hn.box hpl) 16 _)
  (ht.lts.kept ((Keeps.refl (fun k => k = p) w1).setCell (p := ⟨p, 16, none⟩) (.inl rfl) v) fun k hk e => by have := hk.1; omega)
  rfl rfl rfl rfl rfl rfl rfl rfl rfl rfl rfl rfl
 exact h.call (hn.to (by omega) hT hk hN)
theorem Rn.newBal (h : Rn w0 M0 F0 G w p x) (hb : Below w.heap.size w w1) {v : Value} {T : Nat → Prop} {q : List Int × List (Int × Bool)} (hT : ∀ k, T k → w.heap.size ≤ k ∧ k < w1.heap.size) (hbal : BalP w1 (fun k => (M0 k ∨ G k) ∨ T k) T v (some q)) :
  ∃ G', Rn w0 M0 F0 G' (w1.setCell ⟨p, 15, none⟩ v) p { x with pv := v, pl := some q } := by
 obtain ⟨S, hn⟩ := h.node
 have hk : Keeps (fun k => S 2 k ∨ k = p) w (w1.setCell ⟨p, 15, none⟩ v) := (Keeps.of_belowS (S := fun k => S 2 k ∨ k = p) hb).setCell (p := ⟨p, 15, none⟩) (.inl (.inr rfl)) v
 have hT' : ∀ k, T k → S 2 k ∨ (w.heap.size ≤ k ∧ k < (w1.setCell ⟨p, 15, none⟩ v).heap.size) := fun k hk => .inr ⟨(hT k hk).1, by simpa using (hT k hk).2⟩
 have hpl := h.plt
 have hgp := h.fp
 have hN := hn.partBal (T := T) (w' := w1.setCell ⟨p, 15, none⟩ v) (y := { x with pv := v, pl := some q }) hT' hk (by exact blk_set (bH hb hn.box hpl) 15 _)
  (hbal.mv (Mv.keep ((Keeps.refl (fun k => k = p) w1).setCell (p := ⟨p, 15, none⟩) (.inl rfl) v) fun k e => e ▸ .inl (.inr hgp)) ((Keeps.refl (fun k => k = p) w1).setCell (p := ⟨p, 15, none⟩) (.inl rfl) v) fun k hk e => by have := (hT k hk).1; omega)
  rfl rfl rfl rfl rfl rfl rfl rfl rfl rfl rfl rfl
 exact h.call (hn.to (by omega) hT' hk hN)
theorem Rn.relog (h : Rn w0 M0 F0 G w p x) {r' : Option Nat} {es' : List Ent} (hlog : LogAt w' x.lg r' x.ix x.tm es') (hk : Keeps (fun k => k = x.lg ∨ x.r = some k) w w') (hr : ∀ k, r' = some k → x.r = some k ∨ w.heap.size ≤ k)
  (hes : ∀ e ∈ es', e ∈ x.es ∨ ∀ k, e.v.ownBlock = some k → w.heap.size ≤ k) (hok : LogOk x.ix x.tm es') (hdl : ∀ e ∈ es', e.d.length ≤ 900) (hlen : es'.length ≤ 1024) :
  ∃ G', Rn w0 M0 F0 G' w' p { x with r := r', es := es' } := by
 obtain ⟨S, hn⟩ := h.node
 obtain ⟨T, hT⟩ : ∃ T : Nat → Prop, T = fun k => k = x.lg ∨ x.r = some k ∨ r' = some k := ⟨_, rfl⟩
 have hS : ∀ k, (k = x.lg ∨ x.r = some k) → S 0 k := fun k e => e.elim (fun e => e ▸ hn.slg) (hn.srow k)
 have hk' : Keeps (fun k => S 0 k ∨ k = p) w w' := hk.mono fun k _ e => .inl (hS k e)
 have hTT : ∀ k, T k → S 0 k ∨ (w.heap.size ≤ k ∧ k < w'.heap.size) := fun k e => by
  rw [hT] at e
  rcases e with e | e | e
  ·exact .inl (hS k (.inl e))
  ·exact .inl (hS k (.inr e))
  ·rcases hr k e with e' | e'
   ·exact .inl (hS k (.inr e'))
   ·exact .inr ⟨e', hlog.row_lt k e⟩
 have hpS : ¬ (p = x.lg ∨ x.r = some p) := fun e => hn.sp 0 (by omega) (hS p e)
 have hN := hn.partLog (T := T) (w' := w') (y := { x with r := r', es := es' }) hTT hk' (by exact hk.heap hpS hn.box) hlog (by rw [hT]; exact .inl rfl) (fun k e => by rw [hT]; exact .inr (.inr e))
  (fun e he k hk2 e2 => by
    obtain ⟨d1, d2⟩ := (hlog.data e he).2 k hk2
    rw [hT] at e2
    rcases hes e he with h1 | h1
    · rcases e2 with e2 | e2 | e2 | e2
      · exact hn.ime e h1 k hk2 e2
      · exact d1 e2
      · exact ((hn.log.data e h1).2 k hk2).2 e2
      · exact d2 e2
    · have := h1 k hk2
      rcases e2 with e2 | e2 | e2 | e2
      · have := h.ml k e2; omega
      · exact d1 e2
      · have := hn.log.row_lt k e2; omega
      · exact d2 e2) hok hdl hlen rfl rfl rfl rfl rfl rfl rfl rfl rfl
 exact h.call (hn.to (by omega) hTT hk' hN)
end
theorem hcf_ok : ∀ e K, cfE e = some K → K.Nodup := cfE_nodup
section
variable {C0 : List Int} {g : Gh En} {n : Nat} {x : NodeS} {X : List En}
theorem add_law (hg : OkG C0 g n) (h : OkN C0 g n x X) (_ : LogOk x.ix x.tm x.es) (hr : x.role = 3) {e : Ent} (he : e.tm = x.term) (hln : X.length + 1 ≤ n)
  (hc : ∀ K, cfE e.en = some K → tmAt En.tm X x.commit.toNat = x.term.toNat ∧ (∀ k, cfAt cfE X k ≠ none → k ≤ x.commit.toNat) ∧ Near (confOf cfE C0 X) K) {r' : Option Nat} {tv : Value} {l : List (Int × (Int × Int))} (hl : ∀ q ∈ l, (∃ l0, x.tr = some l0 ∧ q ∈ l0) ∨ q.2.1 = 0) (hl2 : ∀ q ∈ l, q.2.2 ≤ (X.length : Int) + 2) :
  ∃ g', Acts C0 g n 0 x g' { x with r := r', es := x.es ++ [e], tv := tv, tr := some l } (X ++ [e.en]) := by
 have h0 := h.t0
 have he' : En.tm e.en = x.nd.term := by simp only [Ent.en, NodeS.nd]; rw [he]
 obtain ⟨g', w1, w2, w3⟩ := h.ni.add hg.gi hcf_ok hg.c0 hr he' hc (trkOf (some l)) (fun c k hk => by
   simp only [trkOf, Option.getD_some] at hk
   obtain ⟨q, hq, e⟩ := List.mem_map.1 hk
   injection e with e1 e2
   subst e1 e2
   rcases hl q hq with ⟨l0, h1, h2⟩ | h1
   · right
     simp only [NodeS.nd, trkOf, h1, Option.getD_some]
     exact List.mem_map.2 ⟨q, h2, rfl⟩
   · left; rw [h1]; rfl)
 refine ⟨g', w1, ⟨w2, hg.c0⟩, ⟨?_, h.i7, h.t0, h.tn, h.c0, by simp; omega, h.memb, h.v0, h.v7, fun _ q hq => by simp only [Option.getD_some] at hq; have := hl2 q hq; simp; omega, h.el⟩, ⟨[], by simp, (fun m hm => by cases hm), Nat.le_refl _⟩, ⟨rfl, rfl, rfl, rfl⟩⟩
 have e2 : (x.es ++ [e]).map Ent.en = x.es.map Ent.en ++ [e.en] := by simp
 have w3' := w3
 simp only [NodeS.nd] at w3' ⊢
 rw [e2]
 exact w3'
theorem elect_law (hg : OkG C0 g n) (h : OkN C0 g n x X) (hr : x.role = 2) {pm : List Int} {l : List (Int × Bool)} (hp : x.pl = some (pm, l)) (hw : pm.length < 2 * (yesOf l).length) (tv : Value) (tl : List (Int × (Int × Int))) (ht : ∀ q ∈ tl, q.2.1 = 0) (ht2 : ∀ q ∈ tl, q.2.2 ≤ (X.length : Int) + 1) (lead since : Int) :
  ∃ g', Acts C0 g n 0 x g' { x with since := since, role := 3, lead := lead, pv := .pointer none, pl := none, tv := tv, tr := some tl } X := by
 obtain ⟨g', w1, w2, w3⟩ := h.ni.elect hg.gi hcf_ok hg.c0 hr (pm := pm) (ys := yesOf l) (by simp only [NodeS.nd, hp, Option.map_some]) hw (trkOf (some tl)) (fun c k hk => by
   simp only [trkOf, Option.getD_some] at hk
   obtain ⟨q, hq, e⟩ := List.mem_map.1 hk
   injection e with e1 e2
   rw [← e2, ht q hq]; rfl)
 exact ⟨g', w1, ⟨w2, hg.c0⟩, ⟨w3, h.i7, h.t0, h.tn, h.c0, h.len, h.memb, h.v0, h.v7, fun _ q hq => ht2 q hq, h.el⟩, ⟨[], by simp, (fun m hm => by cases hm), Nat.le_refl _⟩, ⟨rfl, rfl, rfl, rfl⟩⟩
theorem LogOk.snoc {ix tm : Int} {es : List Ent} (h : LogOk ix tm es) {e : Ent} (h1 : e.ix = ix + es.length + 1) (h2 : 0 ≤ e.tm ∧ e.tm ≤ 18446744073709551615) (h3 : ix + es.length + 1 ≤ 9223372036854775807) : LogOk ix tm (es ++ [e]) := by
 refine ⟨fun k a ha => ?_, h.lo, by simp; omega, h.tmlo, fun a ha => ?_, h.tmhi⟩
 ·rcases Nat.lt_or_ge k es.length with hl | hl
  ·rw [List.getElem?_append_left hl] at ha
   exact h.ixs k a ha
  ·rw [List.getElem?_append_right hl] at ha
   rcases Nat.eq_zero_or_pos (k - es.length) with h0 | h0
   ·rw [h0] at ha
    simp at ha
    subst ha
    rw [h1]
    omega
   ·rw [List.getElem?_eq_none (by simp; omega)] at ha
    cases ha
 ·rcases List.mem_append.1 ha with ha | ha
  ·exact h.tms a ha
  ·obtain rfl := List.mem_singleton.1 ha
   exact h2
end
end
section
open Go.RowKit
theorem nothB_len : nothB.length ≤ 900 := by
 have hn0 : (numB 0).length ≤ 10 := numB_len10 (by omega)
 unfold nothB
 simp only [List.length_append]
 omega
theorem Rn.ok {w0 w : World} {M0 F0 G : Nat → Prop} {p : Nat} {x : NodeS} (h : Rn w0 M0 F0 G w p x) : LogOk x.ix x.tm x.es ∧ LogAt w x.lg x.r x.ix x.tm x.es ∧ (∀ e ∈ x.es, e.d.length ≤ 900) := by
 obtain ⟨S, hn⟩ := h.node
 exact ⟨hn.ok, hn.log, hn.dl⟩
theorem Rn.added {w0 w w' : World} {M0 F0 G : Nat → Prop} {p : Nat} {x : NodeS} (h : Rn w0 M0 F0 G w p x) {r' : Option Nat} {term : Int} {cf : Bool} {v : Value} {d : List UInt8}
  (hl : LogAt w' x.lg r' x.ix x.tm (x.es ++ [⟨x.ix + x.es.length + 1, term, cf, v, d⟩])) (hk : Keeps (fun k => k = x.lg ∨ x.r = some k) w w') (hv : ∀ k, v.ownBlock = some k → w.heap.size ≤ k) (hr : r' = x.r ∨ ∃ k, r' = some k ∧ w.heap.size ≤ k)
  (hn : x.es.length < 1024) (ht : 0 ≤ term ∧ term ≤ 18446744073709551615) (hd : d.length ≤ 900) (hi : x.ix + x.es.length + 1 ≤ 9223372036854775807) :
  ∃ G', Rn w0 M0 F0 G' w' p { x with r := r', es := x.es ++ [⟨x.ix + x.es.length + 1, term, cf, v, d⟩] } := by
 refine h.relog hl hk (fun k hk2 => ?_) (fun e he => ?_) (h.ok.1.snoc rfl ht hi) (fun e he => ?_) (by simp; omega)
 ·rcases hr with e | ⟨j, e, hj⟩
  ·exact .inl (e ▸ hk2)
  ·rw [e] at hk2; cases hk2; exact .inr hj
 ·rcases List.mem_append.1 he with he | he
  ·exact .inl he
  ·obtain rfl := List.mem_singleton.1 he
   exact .inr hv
 ·rcases List.mem_append.1 he with he | he
  ·exact h.ok.2.2 e he
  ·obtain rfl := List.mem_singleton.1 he
   exact hd
set_option maxRecDepth 100000 in
set_option maxHeartbeats 1600000 in
theorem leads_node (w : World) (M F : Nat → Prop) (p : Nat) (x : NodeS) (h : NodeAt w M F p x) (hM : ∀ k, M k → k < w.heap.size) (hl : x.out.length ≤ 800000) (C0 : List Int) (g : Gh En) (n : Nat) (X : List En) (hg : OkG C0 g n) (hN : OkN C0 g n x X) (hn6 : n ≤ 1000) (hXn : X.length + 1 ≤ n) (hr : x.role = 2)
  (pm : List Int) (vl : List (Int × Bool)) (hpl : x.pl = some (pm, vl)) (hw : pm.length < 2 * (yesOf vl).length) :
  Calls Tryz.prog 69 #[.pointer (some ⟨p, 0, none⟩)] w (fun e w' => e = .returned (.tuple #[]) ∧ ActTo C0 g n 14 w M F w' p x) := by
 have hR0 := Rn.start h hM
 have hok := hR0.ok
 have hnum := hN.nums hok.1
 have hlast := hnum.last
 have hix0 := hok.1.lo
 have htm := hN.last_term hok.1
 have htl := hok.1.lastT
 have hnl := hN.ni.last
 have hX := hN.len
 have ht0 := hN.t0
 have htn := hN.tn
 have HTL : Hid (lT x.tm x.es ≤ x.term) := hI (by rw [htm] at hnl; simp only [NodeS.nd] at hnl; omega)
 have HLS := hI (last_any w x.lg x.r x.ix x.tm x.es hok.2.1 hok.1)
 have c9 : w.cell? ⟨p, 9, none⟩ = some (.pointer (some ⟨x.lg, 0, none⟩)) := h.cell 9 rfl
 have HR0 := hI hR0
 have HN := hI hN
 have HG := hI hg
 have HL := hI hl
 have HW := hI hw
 have HPL := hI hpl
 have HOK := hI hok
 have hml := (mL hN.memb).2.1
 have hml2 := (mL (memb_ok hN.memb)).2.1
 have HO := hI (oth_ok hN.memb)
 have hle : x.es.length < 1024 := by omega
 have hli : x.ix + x.es.length + 1 ≤ 9223372036854775807 := by omega
 have HLA := hI hlast
 have hlb : x.ix + (x.es.length : Int) ≤ 1000 := by omega
 clear h hM hl hg hN hw hpl hR0 hok hnum htm htl hnl hlast
 generalize hltg : lT x.tm x.es = lt at *
 have HLTG := hI hltg
 clear hltg
 go_enter Tryz.func69, Tryz.ntmps69
 go_wp2_with fail
 refine HLS.out.mono ?_
 rintro en w1 ⟨rfl, hb1⟩
 have H1 := hI (HR0.out.below hb1)
 have d0 : w1.cell? ⟨p, 0, none⟩ = some (.int .i64 x.id) := H1.out.cell 0 rfl
 have d8 : w1.cell? ⟨p, 8, none⟩ = some (.int .i64 x.since) := H1.out.cell 8 rfl
 have d6 : w1.cell? ⟨p, 6, none⟩ = some (.int .i64 x.role) := H1.out.cell 6 rfl
 have d7 : w1.cell? ⟨p, 7, none⟩ = some (.int .i64 x.lead) := H1.out.cell 7 rfl
 have d15 : w1.cell? ⟨p, 15, none⟩ = some x.pv := H1.out.cell 15 rfl
 have f8 := H1.out.free 8
 have f6 := H1.out.free 6
 have f7 := H1.out.free 7
 have f15 := H1.out.free 15
 clear hb1 c9
 have H2 := hI ((((H1.out.set { x with since := 0 } 8 (.int .i64 0) rfl rS).set { x with since := 0, role := 3 } 6 (.int .i64 3) rfl rS).set { x with since := 0, role := 3, lead := x.id } 7 (.int .i64 x.id) rfl rS).setP { x with since := 0, role := 3, lead := x.id, pv := .pointer none, pl := none } 15 (.pointer none) rfl rfl rfl rfl rfl rfl rfl rfl rfl rfl rfl (.inr ⟨rfl, rfl⟩) (.inl ⟨rfl, rfl⟩))
 go_wp2_with fail
 generalize (((w1.setCell ⟨p, 8, none⟩ (.int .i64 0)).setCell ⟨p, 6, none⟩ (.int .i64 3)).setCell ⟨p, 7, none⟩ (.int .i64 x.id)).setCell ⟨p, 15, none⟩ (.pointer none) = W2 at *
 clear d0 d8 d6 d7 d15 f8 f6 f7 f15
 have hot0 := others_node _ _ _ p _ H2.out.node (by show x.mem.length ≤ 1000; omega) (by show x.memb.length ≤ 1000; omega)
 have hot : Calls Tryz.prog 57 #[.pointer (some ⟨p, 0, none⟩)] W2 (NewL W2 x.oth) := hot0
 refine hot.mono ?_
 rintro en w3 ⟨a, cap, rfl, hb3, hs3, _⟩
 have H3 := hI (H2.out.below hb3)
 have hnt := rtrk_new w3 a _ cap x.oth hs3 HO.out.2 (by have := HO.out.1; omega) (x.ix + x.es.length) (by omega) (by omega)
 have HNT := hI hnt
 clear hb3 hs3 hot hot0 hnt
 go_wp2_with fail
 refine HNT.out.mono ?_
 rintro en w4 ⟨tv, tl, rfl, ht4, hb4, hq4⟩
 have H4 := hI (H3.out.below hb4)
 have f16 := H4.out.free 16
 have d16 : w4.cell? ⟨p, 16, none⟩ = some x.tv := H4.out.cell 16 rfl
 obtain ⟨G5, h5⟩ := H3.out.newTrk hb4 ht4
 have H5 := hI h5
 have HQ4 := hI hq4
 obtain ⟨tb, htb⟩ : ∃ tb, tv = .pointer tb := by
  obtain ⟨b, m, h, _⟩ := ht4
  exact ⟨_, h⟩
 subst htb
 clear ht4 hb4 h5 hq4 HNT
 go_wp2_with fail
 generalize w4.setCell ⟨p, 16, none⟩ (.pointer tb) = W5 at *
 clear f16 d16
 have e9 : W5.cell? ⟨p, 9, none⟩ = some (.pointer (some ⟨x.lg, 0, none⟩)) := H5.out.cell 9 rfl
 have e4 : W5.cell? ⟨p, 4, none⟩ = some (.int .u64 x.term) := H5.out.cell 4 rfl
 go_region_held3 (fun w' => w'.cell? ⟨p, 9, none⟩ = some (.pointer (some ⟨x.lg, 0, none⟩)) ∧ w'.cell? ⟨p, 4, none⟩ = some (.int .u64 x.term)) (first | exact ⟨e9, e4⟩ | exact ⟨f9, f4⟩ | exact ⟨g9, g4⟩)
  (first
    | (go_at_call 96; refine (nothing_any _).mono ?_; rintro en w6 ⟨a6, c6, rfl, hb6, hs6⟩; have H6 := hI (H5.out.drew.below hb6); have HS6 := hI hs6; have f9 : w6.cell? ⟨p, 9, none⟩ = some (.pointer (some ⟨x.lg, 0, none⟩)) := H6.out.cell 9 rfl; have f4 : w6.cell? ⟨p, 4, none⟩ = some (.int .u64 x.term) := H6.out.cell 4 rfl; clear hb6 hs6)
    | (go_at_call 75; refine (add_any w6 x.lg x.r x.ix x.tm x.es H6.out.ok.2.1 HOK.out.1 x.term false _ nothB (.inl HS6.out) (by rw [HLTG.out]; exact HTL.out) hle nothB_len).mono ?_; rintro en w7 ⟨v, r', rfl, hl7, hk7, hv7, hr7⟩; obtain ⟨G7, h7⟩ := H6.out.added hl7 hk7 hv7 hr7 hle ⟨ht0, (by omega)⟩ nothB_len hli; have H7 := hI h7; have g9 : w7.cell? ⟨p, 9, none⟩ = some (.pointer (some ⟨x.lg, 0, none⟩)) := H7.out.cell 9 rfl; have g4 : w7.cell? ⟨p, 4, none⟩ = some (.int .u64 x.term) := H7.out.cell 4 rfl; clear hl7 hk7 hv7 hr7 h7))
 clear e9 e4 f9 f4 g9 g4
 have hlast := HLA.out
 obtain ⟨g1, hA1⟩ := elect_law HG.out HN.out hr HPL.out HW.out (.pointer tb) tl (fun q hq => by rw [HQ4.out q hq]) (fun q hq => by rw [HQ4.out q hq]; simp only; rw [aboveF_small (by omega) (by omega)]; omega) x.id 0
 obtain ⟨g2, hA2⟩ := add_law hA1.gok hA1.nok HOK.out.1 rfl (e := ⟨x.ix + x.es.length + 1, x.term, false, v, nothB⟩) rfl hXn (fun K hK => by simp [cfE, Ent.en] at hK) (r' := r') (tv := .pointer tb) (l := tl) (fun q hq => .inr (by rw [HQ4.out q hq])) (fun q hq => by rw [HQ4.out q hq]; simp only; rw [aboveF_small (by omega) (by omega)]; omega)
 have HA2 := hI (hA1.trans hA2)
 have HALL := hI (all_node w7 _ G7 p _ H7.out.node H7.out.ml (by have := HL.out; show x.out.length ≤ 900000; omega) C0 g2 n _ HA2.out.nok (by omega) rfl)
 clear hA1 hA2 hlast
 go_wp2_with fail
 refine HALL.out.mono ?_
 rintro en w8 ⟨rfl, v8, l8, hn8, hm8, hl8⟩
 obtain ⟨G8, h8⟩ := H7.out.call hn8
 have H8 := hI h8
 have HA8 := hI (HA2.out.trans (j := 7) ⟨Grow.refl _ _, HA2.out.gok, HA2.out.nok.outs 0 v8 (x.out ++ l8), ⟨l8, rfl, hm8, hl8⟩, ⟨rfl, rfl, rfl, rfl⟩⟩)
 have HAG := hI (agree_node w8 _ G8 p _ H8.out.node H8.out.ml (by have := HL.out; show (x.out ++ l8).length ≤ 900000; rw [List.length_append]; omega) C0 g2 n _ HA8.out.gok HA8.out.nok (by omega) rfl)
 clear hn8 hm8 hl8 h8 HALL
 go_wp2_with fail
 refine HAG.out.mono ?_
 rintro en w9 ⟨rfl, y, g3, Y, hn9, hA9⟩
 obtain ⟨G9, h9⟩ := H8.out.call hn9
 have H9 := hI h9.to
 have HA9 := hI (HA8.out.trans hA9)
 clear hn9 hA9 h9 HAG
 go_wp2_with fail
 refine bE rfl rfl ?_
 exact ⟨rfl, y, g3, Y, H9.out, HA9.out.mono nL (by omega)⟩
end
section
open Go.RowKit
theorem Rn.vote {w0 w : World} {M0 F0 G : Nat → Prop} {p : Nat} {x : NodeS} (h : Rn w0 M0 F0 G w p x) {mem : List Int} {l : List (Int × Bool)} (hpl : x.pl = some (mem, l)) (c : Int) (h1 : 1 ≤ c) (h7 : c ≤ 7) (yes : Bool) :
  Calls Tryz.prog 67 #[x.pv, .int .i64 c, .bool yes] w (fun e w' => (∃ b : Bool, e = .returned (.bool b)) ∧ ∃ G', Rn w0 M0 F0 G' w' p { x with pl := some (mem, voteF mem l c yes) }) := by
 obtain ⟨S, hn⟩ := h.node
 have hb := hn.bal
 rw [hpl] at hb
 refine (rballot_vote w _ (S 2) x.pv mem l hb (fun k hk => hn.fm k (hn.sub 2 k (by omega) hk)) c h1 h7 yes).mono ?_
 rintro e w' ⟨he, hb', hk'⟩
 refine ⟨he, ?_⟩
 have hk : Keeps (fun k => S 2 k ∨ k = p) w w' := hk'.mono fun k _ e => .inl e
 have hT : ∀ k, S 2 k → S 2 k ∨ (w.heap.size ≤ k ∧ k < w'.heap.size) := fun k e => .inl e
 have hN := hn.partBal (T := S 2) (w' := w') (y := { x with pl := some (mem, voteF mem l c yes) }) hT hk (by exact hk'.heap (hn.sp 2 (by omega)) hn.box)
  (hb'.mv (M' := fun k => (M0 k ∨ G k) ∨ S 2 k) ⟨Keeps.refl _ w', fun k e => e.elim .inl fun e => .inl (hn.fm k (hn.sub 2 k (by omega) e))⟩ (Keeps.refl (fun _ => False) w') fun _ _ h => h)
  rfl rfl rfl rfl rfl rfl rfl rfl rfl rfl rfl rfl
 exact h.call (hn.to (by omega) hT hk hN)
theorem Rn.state {w0 w : World} {M0 F0 G : Nat → Prop} {p : Nat} {x : NodeS} (h : Rn w0 M0 F0 G w p x) {mem : List Int} {l : List (Int × Bool)} (hpl : x.pl = some (mem, l)) : Calls Tryz.prog 68 #[x.pv] w (StateP w mem l) := by
 obtain ⟨S, hn⟩ := h.node
 have hb := hn.bal
 rw [hpl] at hb
 exact rballot_state w _ (S 2) x.pv mem l hb
theorem Rn.pvp {w0 w : World} {M0 F0 G : Nat → Prop} {p : Nat} {x : NodeS} (h : Rn w0 M0 F0 G w p x) : ∃ q, x.pv = .pointer q := by
 obtain ⟨S, hn⟩ := h.node
 have hb := hn.bal
 cases ho : x.pl with
 | none => rw [ho] at hb; exact ⟨_, hb⟩
 | some q =>
  rw [ho] at hb
  obtain ⟨b, m, a, cap, h, _⟩ := hb
  exact ⟨_, h⟩
def NodeS.polled (x : NodeS) (v : Value) : NodeS := { x with pv := v, pl := some (x.memb, voteF x.memb [] x.id true) }
def Poll1 (w : World) (M F : Nat → Prop) (p : Nat) (x : NodeS) (e : Ending) (w' : World) : Prop :=
 ∃ (st : Int) (v : Value), e = .returned (.int .i64 st) ∧ NodTo w M F w' p (x.polled v) ∧ (st = 1 → x.memb.length < 2 * (yesOf (voteF x.memb [] x.id true)).length)
set_option maxRecDepth 100000 in
set_option maxHeartbeats 1600000 in
theorem poll1_node (w : World) (M F : Nat → Prop) (p : Nat) (x : NodeS) (h : NodeAt w M F p x) (hM : ∀ k, M k → k < w.heap.size) (hmem : mB x.mem = true) (i1 : 1 ≤ x.id) (i7 : x.id ≤ 7) :
  Calls Tryz.prog 60 #[.pointer (some ⟨p, 0, none⟩)] w (Poll1 w M F p x) := by
 have HR0 := hI (Rn.start h hM)
 have hml := (mL hmem).2.1
 have hmm := memb_ok hmem
 have HMM := hI hmm
 have HMB := hI (members_node w M F p x h (by omega))
 clear h hM hmem hmm
 go_enter Tryz.func60, Tryz.ntmps60
 go_wp2_with fail
 refine HMB.out.mono ?_
 rintro en w1 ⟨a, cap, rfl, hn1⟩
 have H1 := hI (HR0.out.below hn1.bel)
 have HBN := hI (rballot_new w1 _ H1.out.ml a _ cap x.memb hn1.sl HMM.out)
 clear hn1 HMB
 go_wp2_with fail
 refine HBN.out.mono ?_
 rintro en w2 ⟨v, T, rfl, hb2, hT2, hbal2⟩
 have H2 := hI (H1.out.below hb2)
 have d15 : w2.cell? ⟨p, 15, none⟩ = some x.pv := H2.out.cell 15 rfl
 have f15 := H2.out.free 15
 obtain ⟨G3, h3⟩ := H1.out.newBal hb2 hT2 hbal2
 have H3 := hI h3
 obtain ⟨q, hq⟩ := h3.pvp
 have hq' : v = .pointer q := hq
 subst hq'
 clear hb2 hT2 hbal2 h3 hq HBN
 go_wp2_with fail
 generalize w2.setCell ⟨p, 15, none⟩ (.pointer q) = W3 at *
 clear d15 f15
 have e15 : W3.cell? ⟨p, 15, none⟩ = some (.pointer q) := H3.out.cell 15 rfl
 have e0 : W3.cell? ⟨p, 0, none⟩ = some (.int .i64 x.id) := H3.out.cell 0 rfl
 have HV := hI (H3.out.drew.vote rfl x.id i1 i7 true)
 go_region_held3 (fun w' => w'.cell? ⟨p, 15, none⟩ = some (.pointer q) ∧ w'.cell? ⟨p, 0, none⟩ = some (.int .i64 x.id)) (first | exact ⟨e15, e0⟩ | exact ⟨g15, g0⟩)
  (first | (go_at_call 67; refine HV.out.mono ?_; rintro en w4 ⟨⟨vb, rfl⟩, G4, h4⟩; have H4 := hI h4; have g15 : w4.cell? ⟨p, 15, none⟩ = some (.pointer q) := h4.cell 15 rfl; have g0 : w4.cell? ⟨p, 0, none⟩ = some (.int .i64 x.id) := h4.cell 0 rfl; clear h4))
 have HS := hI (H4.out.state rfl)
 clear e15 e0 g0
 go_wp2_with fail
 refine HS.out.mono ?_
 rintro en w5 ⟨hb5, r, rfl, _, hr5⟩
 have H5 := hI (H4.out.below hb5)
 have HR5 := hI hr5
 clear hb5 hr5 HS
 go_wp2_with fail
 go_ret
 exact ⟨r, _, rfl, H5.out.to, HR5.out⟩
def AskedTo (w : World) (M F : Nat → Prop) (p : Nat) (x : NodeS) (kind term : Int) (e : Ending) (w' : World) : Prop :=
 e = .returned (.tuple #[]) ∧ ∃ v l, NodTo w M F w' p { x with ov := v, out := x.out ++ l } ∧ l.length ≤ 7 ∧ ∀ m ∈ l, ∃ c, 1 ≤ c ∧ c ≤ 7 ∧ m = { Msg.bare kind c term (x.ix + x.es.length) (lT x.tm x.es) 0 false with from_ := x.id }
set_option maxRecDepth 100000 in
set_option maxHeartbeats 1600000 in
theorem ask_node (w : World) (M F : Nat → Prop) (p : Nat) (x : NodeS) (h : NodeAt w M F p x) (hM : ∀ k, M k → k < w.heap.size) (hl : x.out.length ≤ 900000) (hmem : mB x.mem = true) (kind term : Int) :
  Calls Tryz.prog 62 #[.pointer (some ⟨p, 0, none⟩), .int .i64 kind, .int .u64 term] w (AskedTo w M F p x kind term) := by
 have hml := (mL hmem).2.1
 have hml2 := (mL (memb_ok hmem)).2.1
 have HO := hI (oth_ok hmem)
 have hR := Rn.start h hM
 have HR := hI hR
 have HL := hI hl
 have hls := last_any w x.lg x.r x.ix x.tm x.es hR.ok.2.1 hR.ok.1
 have d9 : w.cell? ⟨p, 9, none⟩ = some (.pointer (some ⟨x.lg, 0, none⟩)) := h.cell 9 rfl
 clear h hM hl hmem hR
 generalize hltg : lT x.tm x.es = lt at *
 have HLT := hI hltg
 generalize hlig : x.ix + (x.es.length : Int) = li at *
 have HLI := hI hlig
 clear hltg hlig
 go_enter Tryz.func62, Tryz.ntmps62
 go_wp2_with fail
 refine hls.mono ?_
 rintro en w1 ⟨rfl, hb1⟩
 have H1 := hI (HR.out.below hb1)
 have hot := others_node _ _ _ p _ H1.out.node (by omega) (by omega)
 have HOT := hI hot
 clear hb1 hls hot d9
 go_wp2_with fail
 refine HOT.out.mono ?_
 rintro en w3 ⟨a, cap, rfl, hb3, hs3, hn3⟩
 have hR3 := H1.out.below hb3
 have him : im (fun k => M k ∨ F k) (.slice a x.oth.length cap) := H1.out.im_new hn3
 have HIM := hI him
 have HR3 := hI hR3
 have HS3 := hI hs3
 have HST := hI (Rn.start hR3.node hR3.ml)
 clear hb3 hs3 hn3 hR3 him HOT
 go_wp2_with fail
 go_loopw [21] (fun iv wr => ∃ (j : Nat) (G : Nat → Prop) (v : Value) (l : List Msg), iv = .int .i64 j ∧ j ≤ x.oth.length ∧ Hid (Rn w3 (fun k => M k ∨ F k) F G wr p { x with ov := v, out := x.out ++ l } ∧ l.length = j ∧ ∀ m ∈ l, ∃ c, 1 ≤ c ∧ c ≤ 7 ∧ m = { Msg.bare kind c term li lt 0 false with from_ := x.id })) (fun iv _ => x.oth.length - (intOf iv).toNat)
 case atStart => exact ⟨0, F, x.ov, [], rfl, Nat.zero_le _, hI ⟨by rw [List.append_nil]; exact HST.out, rfl, (fun m hm => by cases hm)⟩⟩
 case round =>
  clear HST
  obtain ⟨j, G, v, l, rfl, hj, HQ⟩ := hrel
  by_cases hlt : j < x.oth.length
  ·have hsl := HQ.out.1.mv.sl HS3.out HIM.out
   obtain ⟨b, o, rfl, hc⟩ := Sl.get hsl hlt
   have hcc := HO.out.2 x.oth[j] (List.getElem_mem hlt)
   have z1 : (j : Int) < (x.oth.length : Int) := by omega
   have z2 : x.oth.length ≤ 7 := HO.out.1
   have ht := send_node wr _ G p _ HQ.out.1.node HQ.out.1.ml (Msg.bare kind x.oth[j] term li lt 0 false) (MsgOk.bare _ _ _ _ _ _ _ _ _) (by have := HL.out; have := HQ.out.2.1; have := HO.out.1; simp; omega)
   unfold Msg.agg Msg.bare at ht
   have HT := hI ht
   generalize x.oth[j] = c at *
   generalize hol : x.oth.length = ol at *
   have HOL := hI hol
   clear hsl ht hol
   go_wp2_with fail
   refine HT.out.mono ?_
   rintro en w4 ⟨rfl, v4, hn4⟩
   obtain ⟨G4, hr4⟩ := HQ.out.1.call hn4
   have HR4 := hI hr4
   clear hn4 hr4 HT
   go_wp2_with fail
   go_roundw
   case rel => exact ⟨j + 1, G4, v4, l ++ [{ Msg.bare kind c term li lt 0 false with from_ := x.id }], by go_num, by omega, hI ⟨by rw [← List.append_assoc]; exact HR4.out, by simp [HQ.out.2.1], fun q hq => (by rcases List.mem_append.1 hq with hq | hq; exact HQ.out.2.2 q hq; obtain rfl := List.mem_singleton.1 hq; exact ⟨c, hcc.1, hcc.2, rfl⟩)⟩⟩
   case measure => exact k_meas hlt
  ·obtain rfl : j = x.oth.length := by omega
   go_wp2_with fail
   refine bE rfl rfl ?_
   obtain ⟨G', hr'⟩ := HR3.out.call HQ.out.1.to
   refine ⟨rfl, v, l, hr'.to, by rw [HQ.out.2.1]; exact HO.out.1, ?_⟩
   rw [HLI.out, HLT.out]
   exact HQ.out.2.2
end
section
open Go.RowKit
theorem yes_self {mem : List Int} {c : Int} : yesOf (voteF mem [] c true) = if c ∈ mem then [c] else [] := by
 unfold voteF yesOf
 by_cases h : c ∈ mem
 ·rw [if_pos ⟨h, rfl⟩, if_pos h]; rfl
 ·rw [if_neg (fun e => h e.1), if_neg h]; rfl
section
variable {C0 : List Int} {g : Gh En} {n : Nat} {x : NodeS} {X : List En}
theorem stand_law (hg : OkG C0 g n) (h : OkN C0 g n x X) (ht : x.term + 1 ≤ n) (since : Int) (v : Value) :
  ∃ g', Acts C0 g n 0 x g' ({ x with since := since, role := 2, term := x.term + 1, vote := x.id, hard := true }.polled v) X ∧ g'.cd x.id (x.term + 1).toNat = some X := by
 have h0 := h.t0
 have hp := h.ni.pos
 have h7 := h.i7
 have hc := h.conf
 obtain ⟨g', w1, w2, w3⟩ := h.ni.stand hg.gi (ys := yesOf (voteF x.memb [] x.id true)) (by
   rw [yes_self, hc]
   by_cases hm : x.id ∈ confOf cfE C0 X
   · right; rw [if_pos hm]; exact ⟨rfl, hm⟩
   · left; rw [if_neg hm]) (trkOf x.tr)
 have e1 : x.nd.term + 1 = (x.term + 1).toNat := by simp only [NodeS.nd]; omega
 refine ⟨g', ⟨w1, ⟨w2, hg.c0⟩, ⟨?_, h7, by show 0 ≤ x.term + 1; omega, ht, h.c0, h.len, h.memb, by show 0 ≤ x.id; omega, h7, fun e => by simp [NodeS.polled] at e, h.el⟩, ⟨[], by simp [NodeS.polled], (fun m hm => by cases hm), Nat.le_refl _⟩, ⟨rfl, rfl, rfl, rfl⟩⟩, ?_⟩
 ·rw [e1, ← hc] at w3
  exact w3
 ·have := (w3.cand rfl).1
  rw [e1] at this
  exact this
theorem OkN.askv (h : OkN C0 g n x X) (hok : LogOk x.ix x.tm x.es) {kind t : Int} (hk : kind = 0 ∨ (kind = 2 ∧ g.cd x.id t.toNat = some X)) (t0 : 0 ≤ t) (tn : t ≤ n + 1) {c : Int} (h1 : 1 ≤ c) (h7 : c ≤ 7) :
  OkM C0 g n { Msg.bare kind c t (x.ix + x.es.length) (lT x.tm x.es) 0 false with from_ := x.id } := by
 have hn := (h.nums hok).last
 have hl := h.last_term hok
 have hlt := hok.lastT
 have hnl := h.ni.last
 have hX := h.len
 have hp := h.ni.pos
 have htn := h.tn
 have ht0 := h.t0
 have hlb : lT x.tm x.es ≤ n := by rw [hl] at hnl; simp only [NodeS.nd] at hnl; omega
 refine ⟨?_, by simp only [Msg.bare]; omega, by simp only [Msg.bare]; omega, hp, h.i7, h1, h7, t0, tn, by simp only [Msg.bare]; omega, by simp only [Msg.bare]; omega, hlt.1, hlb, Int.le_refl _, fun k e he => by simp [Msg.bare] at he, by simp only [Msg.bare, List.length_nil]; omega⟩
 rcases hk with rfl | ⟨rfl, hk⟩
 ·exact MI.plain (fun e => by simp [Msg.bare, Msg.ms] at e) (fun e => by simp [Msg.bare, Msg.ms] at e) (fun e => by simp [Msg.bare, Msg.ms] at e) (fun e => by simp [Msg.bare, Msg.ms] at e) (fun e => by simp [Msg.bare, Msg.ms] at e)
 ·exact MI.ask_ rfl (L := X) hk (by simp only [Msg.bare, Msg.ms]; omega) (by rw [hl]; rfl)
end
set_option maxRecDepth 100000 in
set_option maxHeartbeats 1600000 in
theorem stands_node (w : World) (M F : Nat → Prop) (p : Nat) (x : NodeS) (h : NodeAt w M F p x) (hM : ∀ k, M k → k < w.heap.size) (hl : x.out.length ≤ 800000) (C0 : List Int) (g : Gh En) (n : Nat) (X : List En) (hg : OkG C0 g n) (hN : OkN C0 g n x X) (hn6 : n ≤ 1000) (hXn : X.length + 1 ≤ n) (htn : x.term + 1 ≤ n) :
  Calls Tryz.prog 61 #[.pointer (some ⟨p, 0, none⟩)] w (fun e w' => e = .returned (.tuple #[]) ∧ ActTo C0 g n 14 w M F w' p x) := by
 have hR0 := Rn.start h hM
 have hlt := h.plt
 have d6 : w.cell? ⟨p, 6, none⟩ = some (.int .i64 x.role) := h.cell 6 rfl
 have d8 : w.cell? ⟨p, 8, none⟩ = some (.int .i64 x.since) := h.cell 8 rfl
 have f8 := h.free 8
 have f6 := h.free 6
 have H2 := hI ((hR0.set { x with since := 0 } 8 (.int .i64 0) rfl rS).set { x with since := 0, role := 2 } 6 (.int .i64 2) rfl rS)
 have HOK := hI hR0.ok.1
 have HN := hI hN
 have HG := hI hg
 have HL := hI hl
 have ht0 := hN.t0
 have hpi := hN.ni.pos
 have hi7 := hN.i7
 have HXN := hI hXn
 clear h hM hR0 hl hg hN hXn
 go_enter Tryz.func61, Tryz.ntmps61
 go_wp2_with fail
 generalize (w.setCell ⟨p, 8, none⟩ (.int .i64 0)).setCell ⟨p, 6, none⟩ (.int .i64 2) = W2 at *
 have e0 : W2.cell? ⟨p, 0, none⟩ = some (.int .i64 x.id) := H2.out.cell 0 rfl
 have e4 : W2.cell? ⟨p, 4, none⟩ = some (.int .u64 x.term) := H2.out.cell 4 rfl
 have e5 : W2.cell? ⟨p, 5, none⟩ = some (.int .i64 x.vote) := H2.out.cell 5 rfl
 have e18 : W2.cell? ⟨p, 18, none⟩ = some (.bool x.hard) := H2.out.cell 18 rfl
 have g4 := H2.out.free 4
 have g5 := H2.out.free 5
 have g18 := H2.out.free 18
 have hw : IntKind.u64.wrap (x.term + 1) = x.term + 1 := IntWalk.u64_in _ (by omega)
 clear d6 d8 f8 f6
 go_region
 have H3 := hI ((((H2.out.set { x with since := 0, role := 2, term := x.term + 1 } 4 (.int .u64 (x.term + 1)) rfl rS).set { x with since := 0, role := 2, term := x.term + 1, vote := x.id } 5 (.int .i64 x.id) rfl rS).set { x with since := 0, role := 2, term := x.term + 1, vote := x.id, hard := true } 18 (.bool true) rfl rS).drew)
 generalize (((W2.setCell ⟨p, 4, none⟩ (.int .u64 (x.term + 1))).setCell ⟨p, 5, none⟩ (.int .i64 x.id)).setCell ⟨p, 18, none⟩ (.bool true)).drew = W3 at *
 have HPO := hI (poll1_node W3 _ F p _ H3.out.node H3.out.ml HN.out.memb hpi hi7)
 clear e0 e4 e5 e18 g4 g5 g18 hw
 go_wp2_with fail
 refine HPO.out.mono ?_
 rintro en w4 ⟨st, v, rfl, hn4, hst⟩
 obtain ⟨G4, h4⟩ := H3.out.call hn4
 have H4 := hI h4
 obtain ⟨g1, hA1, hcd⟩ := stand_law HG.out HN.out htn 0 v
 have HA1 := hI hA1
 have HCD := hI hcd
 have HST := hI hst
 clear hn4 h4 hA1 hcd hst HPO
 by_cases hwon : st = 1
 ·have q1 : (st == 1) = true := by simpa using hwon
  have HLD := hI (leads_node w4 _ G4 p _ H4.out.node H4.out.ml HL.out C0 g1 n X HA1.out.gok HA1.out.nok hn6 HXN.out rfl _ _ rfl (HST.out hwon))
  go_wp2_with fail
  refine HLD.out.mono ?_
  rintro en w5 ⟨rfl, y, g2, Y, hn5, hA5⟩
  obtain ⟨G5, h5⟩ := H4.out.call hn5
  have H5 := hI h5.to
  have HA5 := hI (HA1.out.trans hA5)
  clear hn5 hA5 h5 HLD
  go_wp2_with fail
  first
   | refine bT rfl rfl ?_
   | refine bE rfl rfl ?_
  exact ⟨rfl, y, g2, Y, H5.out, HA5.out.mono nL (by omega)⟩
 ·have q1 : (st == 1) = false := by simpa using hwon
  have k4 : w4.cell? ⟨p, 4, none⟩ = some (.int .u64 (x.term + 1)) := H4.out.cell 4 rfl
  have hak := ask_node w4 _ G4 p _ H4.out.node H4.out.ml (by have := HL.out; show x.out.length ≤ 900000; omega) HN.out.memb 2 (x.term + 1)
  have HAK := hI hak
  clear hak
  go_wp2_with fail
  refine HAK.out.mono ?_
  rintro en w5 ⟨rfl, v5, l5, hn5, hl5, hm5⟩
  obtain ⟨G5, h5⟩ := H4.out.call hn5
  have H5 := hI h5
  have HL5 := hI hl5
  have HM5 := hI hm5
  clear hn5 h5 hl5 hm5
  go_wp2_with fail
  refine bE rfl rfl ?_
  refine ⟨rfl, _, g1, X, H5.out.to, (HA1.out.trans (j := 7) ⟨Grow.refl _ _, HA1.out.gok, HA1.out.nok.outs _ _ _, ⟨l5, rfl, fun m hm => ?_, HL5.out⟩, ⟨rfl, rfl, rfl, rfl⟩⟩).mono nL (by omega)⟩
  obtain ⟨c, c1, c7, rfl⟩ := HM5.out m hm
  exact HA1.out.nok.askv HOK.out (.inr ⟨rfl, HCD.out⟩) (by omega) (by omega) c1 c7
end
end Go.Proofs.YtdjooojpcepleaaGreat

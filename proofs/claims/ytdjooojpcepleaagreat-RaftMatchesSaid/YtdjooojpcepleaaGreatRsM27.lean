/- raft, any node: Out, Saved, getters. -/
import Derived.Test.YtdjooojpcepleaaGreatRsM26

namespace Go.Proofs.YtdjooojpcepleaaGreat
section
open Go.RowKit
def OutR (w : World) (M F : Nat → Prop) (p : Nat) (x : NodeS) (e : Ending) (w' : World) : Prop :=
 e = .returned x.ov ∧ NodTo w M F w' p { x with ov := .slice none 0 0, out := [] } ∧ w'.ownsRow 0 54 11 x.ov x.out.length (flatM x.out) ∧ (∀ m ∈ x.out, MsgOk w' M m) ∧ ∀ k, x.ov.ownBlock = some k → F k
theorem out_node (w : World) (M F : Nat → Prop) (p : Nat) (x : NodeS) (h : NodeAt w M F p x) (hM : ∀ k, M k → k < w.heap.size) : Calls Tryz.prog 15 #[.pointer (some ⟨p, 0, none⟩)] w (OutR w M F p x) := by
 have HR := hI (Rn.start h hM)
 obtain ⟨S, hn⟩ := id h
 obtain ⟨va, vc, hv⟩ := own_form hn.out.1
 have HN := hI hn
 have d17 : w.cell? ⟨p, 17, none⟩ = some (.slice va x.out.length vc) := by rw [← hv]; exact h.cell 17 rfl
 have f17 := h.free 17
 have HV := hI hv
 clear h hM hn hv
 go_enter Tryz.func15, Tryz.ntmps15
 go_wp2_with fail
 go_ret
 have hn := HN.out
 have hk : Keeps (fun k => k = p) w (w.setCell ⟨p, 17, none⟩ (.slice none 0 0)) := (Keeps.refl (fun k => k = p) w).setCell (p := ⟨p, 17, none⟩) (.inl rfl) _
 have hm : Mv w M (w.setCell ⟨p, 17, none⟩ (.slice none 0 0)) M := Mv.keep hk fun k e => e ▸ hn.fm p hn.fp
 have hT : ∀ k, (fun _ : Nat => False) k → S 1 k ∨ (w.heap.size ≤ k ∧ k < (w.setCell ⟨p, 17, none⟩ (.slice none 0 0)).heap.size) := fun _ h => h.elim
 have hk2 : Keeps (fun k => S 1 k ∨ k = p) w (w.setCell ⟨p, 17, none⟩ (.slice none 0 0)) := hk.mono fun k _ e => .inr e
 have hN := hn.partOut (T := fun _ => False) (w' := w.setCell ⟨p, 17, none⟩ (.slice none 0 0)) (y := { x with ov := .slice none 0 0, out := [] }) hT hk2 (by exact blk_set hn.box 17 _)
  ⟨World.ownsRow_nil _ _ _ _, fun k hk => by simp [Value.ownBlock] at hk, fun m hm => by cases hm⟩ rfl rfl rfl rfl rfl rfl rfl rfl rfl rfl rfl rfl
 refine ⟨by rw [HV.out]; rfl, hn.to (by omega) hT hk2 hN, owns_kept hn.out.1 hk fun k hk e => hn.sp 1 (by omega) (e ▸ hn.out.2.1 k hk), fun m hm' => (hn.out.2.2 m hm').mv_ hm, fun k hk => hn.sub 1 k (by omega) (hn.out.2.1 k hk)⟩
set_option maxRecDepth 100000 in
theorem saved_node (w : World) (M F : Nat → Prop) (p : Nat) (x : NodeS) (h : NodeAt w M F p x) (hM : ∀ k, M k → k < w.heap.size) : Calls Tryz.prog 14 #[.pointer (some ⟨p, 0, none⟩)] w (RnTo w M F p { x with hard := false, fresh := false, stable := x.ix + x.es.length }) := by
 have hR := Rn.start h hM
 have d18 : w.cell? ⟨p, 18, none⟩ = some (.bool x.hard) := h.cell 18 rfl
 have d19 : w.cell? ⟨p, 19, none⟩ = some (.bool x.fresh) := h.cell 19 rfl
 have d9 : w.cell? ⟨p, 9, none⟩ = some (.pointer (some ⟨x.lg, 0, none⟩)) := h.cell 9 rfl
 have f18 := h.free 18
 have f19 := h.free 19
 have hpl := h.plt
 have H2 := hI ((hR.set { x with hard := false } 18 (.bool false) rfl rS).set { x with hard := false, fresh := false } 19 (.bool false) rfl rS)
 have hls := last_any _ x.lg x.r x.ix x.tm x.es H2.out.ok.2.1 H2.out.ok.1
 generalize lT x.tm x.es = lt at *
 generalize x.ix + (x.es.length : Int) = li at *
 have HLS := hI hls
 clear h hM hR hls
 go_enter Tryz.func14, Tryz.ntmps14
 go_wp2_with fail
 refine HLS.out.mono ?_
 rintro en w3 ⟨rfl, hb3⟩
 have H3 := hI (H2.out.below hb3)
 have e20 : w3.cell? ⟨p, 20, none⟩ = some (.int .u64 x.stable) := H3.out.cell 20 rfl
 have f20 := H3.out.free 20
 clear hb3
 go_wp2_with fail
 refine bE rfl rfl ?_
 exact ⟨rfl, (H3.out.set { x with hard := false, fresh := false, stable := li } 20 (.int .u64 li) rfl rS).to⟩
section
variable (w : World) (M F : Nat → Prop) (p : Nat) (x : NodeS) (h : NodeAt w M F p x)
include h
theorem role_node : Calls Tryz.prog 17 #[.pointer (some ⟨p, 0, none⟩)] w (Ret (.int .i64 x.role) w) := by
 have d : w.cell? ⟨p, 6, none⟩ = some (.int .i64 x.role) := h.cell 6 rfl
 clear h
 go_enter Tryz.func17, Tryz.ntmps17
 go_wp2_with fail
 go_ret
 exact Ret.mk rfl
theorem term_node : Calls Tryz.prog 20 #[.pointer (some ⟨p, 0, none⟩)] w (Ret (.int .u64 x.term) w) := by
 have d : w.cell? ⟨p, 4, none⟩ = some (.int .u64 x.term) := h.cell 4 rfl
 clear h
 go_enter Tryz.func20, Tryz.ntmps20
 go_wp2_with fail
 go_ret
 exact Ret.mk rfl
theorem commit_node : Calls Tryz.prog 19 #[.pointer (some ⟨p, 0, none⟩)] w (Ret (.int .u64 x.commit) w) := by
 have d : w.cell? ⟨p, 14, none⟩ = some (.int .u64 x.commit) := h.cell 14 rfl
 clear h
 go_enter Tryz.func19, Tryz.ntmps19
 go_wp2_with fail
 go_ret
 exact Ret.mk rfl
end
end
section
open Go.RowKit
theorem rtrk_follow_nil (w : World) (v : Value) (last : Int) : Calls Tryz.prog 76 #[.pointer none, v, .int .u64 last] w (Ret (.tuple #[]) w) := by
 go_enter Tryz.func76, Tryz.ntmps76
 go_wp2_with fail
 first
  | exact bodyPost_ret (results_none rfl _ _ _) rfl (Ret.mk rfl)
  | exact bodyPost_end (results_none rfl _ _ _) rfl (Ret.mk rfl)
theorem Rn.follows {w0 w : World} {M0 F0 G : Nat → Prop} {p : Nat} {x : NodeS} (h : Rn w0 M0 F0 G w p x) (a : Option Addr) (cap : Nat) (nodes : List Int) (hs : Sl intv w (.slice a nodes.length cap) nodes) (him : im (fun k => M0 k ∨ G k) (.slice a nodes.length cap)) (hnd : ∀ c ∈ nodes, 1 ≤ c ∧ c ≤ 7) (hnl : nodes.length ≤ 1000)
  (last : Int) (l0 : 0 ≤ last) (l1 : last ≤ 18446744073709551615) :
  Calls Tryz.prog 76 #[x.tv, .slice a nodes.length cap, .int .u64 last] w (fun e w' => e = .returned (.tuple #[]) ∧ ∃ G' o, Rn w0 M0 F0 G' w' p (x.tred o) ∧ (∀ q ∈ o.getD [], q ∈ x.tr.getD [] ∨ q.2 = (0, aboveF last))) := by
 obtain ⟨S, hn⟩ := h.node
 cases ho : x.tr with
 | none =>
  have ht := hn.trk
  rw [ho] at ht
  have ht' : x.tv = .pointer none := ht
  rw [ht']
  refine (rtrk_follow_nil w _ last).mono ?_
  rintro e w' ⟨rfl, rfl⟩
  refine ⟨rfl, G, none, ?_, fun q hq => by simp at hq⟩
  have : x.tred none = x := by unfold NodeS.tred; rw [← ho]
  rw [this]
  exact h
 | some l =>
  have ht := hn.trk
  rw [ho] at ht
  refine (rtrk_follow w (S 3) x.tv l ht a _ cap nodes hs (fun k hk e => him k hk (.inr (hn.sub 3 k (by omega) e))) hnd hnl last l0 l1).mono ?_
  rintro e w' ⟨rfl, l', ht', hk, hq⟩
  obtain ⟨G', h1, _⟩ := h.trkd hn (o := some l') ht' hk
  exact ⟨rfl, G', some l', h1, fun q hq' => hq q hq'⟩
theorem add_law2 {C0 : List Int} {g : Gh En} {n : Nat} {x : NodeS} {X : List En} (hg : OkG C0 g n) (h : OkN C0 g n x X) (hr : x.role = 3) {e : Ent} (he : e.tm = x.term) (hln : X.length + 1 ≤ n)
  (hc : ∀ K, cfE e.en = some K → tmAt En.tm X x.commit.toNat = x.term.toNat ∧ (∀ k, cfAt cfE X k ≠ none → k ≤ x.commit.toNat) ∧ Near (confOf cfE C0 X) K) {r' : Option Nat} {o : Option (List (Int × (Int × Int)))} (hl : ∀ q ∈ o.getD [], q ∈ x.tr.getD [] ∨ q.2.1 = 0) (hl2 : ∀ q ∈ o.getD [], q.2.2 ≤ (X.length : Int) + 2) :
  ∃ g', Acts C0 g n 0 x g' { x with r := r', es := x.es ++ [e], tr := o } (X ++ [e.en]) := by
 have he' : En.tm e.en = x.nd.term := by simp only [Ent.en, NodeS.nd]; rw [he]
 obtain ⟨g', w1, w2, w3⟩ := h.ni.add hg.gi hcf_ok hg.c0 hr he' hc (trkOf o) (fun c k hk => by
   unfold trkOf at hk
   obtain ⟨q, hq, e⟩ := List.mem_map.1 hk
   injection e with e1 e2
   subst e1 e2
   rcases hl q hq with h1 | h1
   · right
     simp only [NodeS.nd, trkOf]
     exact List.mem_map.2 ⟨q, h1, rfl⟩
   · left; rw [h1]; rfl)
 refine ⟨g', w1, ⟨w2, hg.c0⟩, ⟨?_, h.i7, h.t0, h.tn, h.c0, by simp; omega, h.memb, h.v0, h.v7, fun _ q hq => by have := hl2 q hq; simp; omega, h.el⟩, ⟨[], by simp, (fun m hm => by cases hm), Nat.le_refl _⟩, ⟨rfl, rfl, rfl, rfl⟩⟩
 have e2 : (x.es ++ [e]).map Ent.en = x.es.map Ent.en ++ [e.en] := by simp
 have w3' := w3
 simp only [NodeS.nd] at w3' ⊢
 rw [e2]
 exact w3'
def AddTo (C0 : List Int) (g : Gh En) (n : Nat) (w : World) (M F : Nat → Prop) (p : Nat) (x : NodeS) (e : Ending) (w' : World) : Prop := (∃ i : Int, e = .returned (.tuple #[.int .u64 i, .int .i64 0])) ∧ ActTo C0 g n 14 w M F w' p x
set_option maxRecDepth 100000 in
set_option maxHeartbeats 3200000 in
theorem add_node (w : World) (M F : Nat → Prop) (p : Nat) (x : NodeS) (h : NodeAt w M F p x) (hM : ∀ k, M k → k < w.heap.size) (hl : x.out.length ≤ 800000) (C0 : List Int) (g : Gh En) (n : Nat) (X : List En) (hg : OkG C0 g n) (hN : OkN C0 g n x X) (hn6 : n ≤ 1000) (hXn : X.length + 1 ≤ n) (hr : x.role = 3)
  (cf : Bool) (dv : Value) (d : List UInt8) (hd : SlW u8v w dv d) (hdl : d.length ≤ 900) (hc : ∀ K, cfE ⟨x.term.toNat, cf, d⟩ = some K → tmAt En.tm X x.commit.toNat = x.term.toNat ∧ (∀ k, cfAt cfE X k ≠ none → k ≤ x.commit.toNat) ∧ Near (confOf cfE C0 X) K) :
  Calls Tryz.prog 44 #[.pointer (some ⟨p, 0, none⟩), .bool cf, dv] w (AddTo C0 g n w M F p x) := by
 obtain ⟨da, dc, rfl⟩ := hd.form
 have hR0 := Rn.start h hM
 have hok := hR0.ok
 have hnum := hN.nums hok.1
 have hlast := hnum.last
 have hix0 := hok.1.lo
 have htm := hN.last_term hok.1
 have htl := hok.1.lastT
 have hnl := hN.ni.last
 have ht0 := hN.t0
 have htn := hN.tn
 have hX := hN.len
 have HTL : Hid (lT x.tm x.es ≤ x.term) := hI (by rw [htm] at hnl; simp only [NodeS.nd] at hnl; omega)
 have HR0 := hI hR0
 have HN := hI hN
 have HG := hI hg
 have HL := hI hl
 have HOK := hI hok
 have HD := hI hd
 have HC := hI hc
 have hml := (mL hN.memb).2.1
 have hml2 := (mL (memb_ok hN.memb)).2.1
 have HO := hI (oth_ok hN.memb)
 have hle : x.es.length < 1024 := by omega
 have hli : x.ix + x.es.length + 1 ≤ 9223372036854775807 := by omega
 have hlb : x.ix + (x.es.length : Int) + 1 ≤ 1001 := by omega
 have HLA := hI hlast
 obtain ⟨tq, htq⟩ := hR0.tvp
 have HTQ := hI htq
 have c9 : w.cell? ⟨p, 9, none⟩ = some (.pointer (some ⟨x.lg, 0, none⟩)) := h.cell 9 rfl
 have c4 : w.cell? ⟨p, 4, none⟩ = some (.int .u64 x.term) := h.cell 4 rfl
 clear h hM hl hg hN hc hR0 hok hnum htm htl hnl hlast hd htq
 go_enter Tryz.func44, Tryz.ntmps44
 go_wp2_with fail
 go_region_held3 (fun w' => w'.cell? ⟨p, 9, none⟩ = some (.pointer (some ⟨x.lg, 0, none⟩)) ∧ w'.cell? ⟨p, 4, none⟩ = some (.int .u64 x.term)) (first | exact ⟨c9, c4⟩ | exact ⟨g9, g4⟩)
  (first | (go_at_call 75; refine (add_any w.drew x.lg x.r x.ix x.tm x.es HR0.out.drew.ok.2.1 HOK.out.1 x.term cf _ d (HD.out.below (bD bR)) HTL.out hle hdl).mono ?_; rintro en w7 ⟨v, r', rfl, hl7, hk7, hv7, hr7⟩; obtain ⟨G7, h7⟩ := HR0.out.drew.added hl7 hk7 hv7 hr7 hle ⟨ht0, (by omega)⟩ hdl hli; have H7 := hI h7; have g9 : w7.cell? ⟨p, 9, none⟩ = some (.pointer (some ⟨x.lg, 0, none⟩)) := H7.out.cell 9 rfl; have g4 : w7.cell? ⟨p, 4, none⟩ = some (.int .u64 x.term) := H7.out.cell 4 rfl; clear hl7 hk7 hv7 hr7 h7))
 clear c9 c4 g4
 obtain ⟨ent, hent⟩ : ∃ ent : Ent, ent = ⟨x.ix + x.es.length + 1, x.term, cf, v, d⟩ := ⟨_, rfl⟩
 rw [← hent] at H7
 have hetm : ent.tm = x.term := by rw [hent]
 have heen : ent.en = ⟨x.term.toNat, cf, d⟩ := by rw [hent]; rfl
 have HEE := hI heen
 have HET := hI hetm
 have HLS := hI (last_any w7 x.lg r' x.ix x.tm (x.es ++ [ent]) H7.out.ok.2.1 H7.out.ok.1)
 have hll : x.ix + ((x.es ++ [ent]).length : Int) = x.ix + x.es.length + 1 := by simp; omega
 rw [hll] at HLS
 have hXl := HLA.out
 generalize hlig : x.ix + (x.es.length : Int) + 1 = li at *
 have hlx : li = X.length + 1 := by omega
 have HLX := hI hlx
 have hli0 : 0 ≤ li := by omega
 generalize lT x.tm (x.es ++ [ent]) = lt at *
 clear hent hetm heen hll hXl hlx hlig
 go_wp2_with fail
 refine HLS.out.mono ?_
 rintro en w8 ⟨rfl, hb8⟩
 have H8 := hI (H7.out.below hb8)
 have n16 : w8.cell? ⟨p, 16, none⟩ = some (.pointer tq) := by rw [← HTQ.out]; exact H8.out.cell 16 rfl
 have hmb7 := HN.out.memb
 have hot := others_node w8.drew _ G7 p _ H8.out.drew.node (by show x.mem.length ≤ 1000; omega) (by have := (mL (memb_ok (x := { x with r := r', es := x.es ++ [ent] }) hmb7)).2.1; omega)
 have HOT := hI hot
 have HOO := hI (oth_ok (x := { x with r := r', es := x.es ++ [ent] }) hmb7)
 obtain ⟨ot, hoteq⟩ : ∃ ot, ot = NodeS.oth { x with r := r', es := x.es ++ [ent] } := ⟨_, rfl⟩
 rw [← hoteq] at HOT HOO
 clear hb8 g9 hot hmb7 HLS hoteq
 go_wp2_with fail
 go_region_held3 (fun w' => w'.cell? ⟨p, 16, none⟩ = some (.pointer tq)) (first | exact n16 | exact k16 | exact j16)
  (first
    | (go_at_call 57; refine HOT.out.mono ?_; rintro en w9 ⟨oa, oc, rfl, hb9, hs9, hn9⟩; have H9 := hI (H8.out.drew.below hb9); have him9 := H8.out.drew.im_new hn9; have hfl := H9.out.follows oa oc ot hs9 him9 HOO.out.2 (by have := HOO.out.1; omega) li (by omega) (by omega); have htr : ∀ Q : Ending → World → Prop, Calls Tryz.prog 76 #[x.tv, .slice oa ot.length oc, .int .u64 li] w9 Q → Calls Tryz.prog 76 #[.pointer tq, .slice oa ot.length oc, .int .u64 li] w9 Q := (fun Q h => by rw [← HTQ.out]; exact h); have HFL := hI (htr _ hfl); clear htr; have k16 : w9.cell? ⟨p, 16, none⟩ = some (.pointer tq) := (by rw [← HTQ.out]; exact H9.out.cell 16 rfl); clear hb9 hs9 hn9 him9 hfl)
    | (go_at_call 76; refine HFL.out.mono ?_; rintro en w10 ⟨rfl, G10, o10, h10, hq10⟩; have H10 := hI h10; have HQ10 := hI hq10; have j16 : w10.cell? ⟨p, 16, none⟩ = some (.pointer tq) := (by rw [← HTQ.out]; exact h10.cell 16 rfl); clear h10 hq10))
 obtain ⟨g1, hA1⟩ := add_law2 HG.out HN.out hr HET.out hXn (by rw [HEE.out]; exact HC.out) (r' := r') (o := o10) (fun q hq => (HQ10.out q hq).imp id fun e => by rw [e]) (fun q hq => by
   rcases HQ10.out q hq with e | e
   · have := HN.out.nx hr q e; omega
   · have hx := HLX.out
     rw [e]
     simp only
     rw [aboveF_small (by omega) (by omega)]
     omega)
 have HA1 := hI hA1
 have HALL := hI (all_node w10 _ G10 p _ H10.out.node H10.out.ml (by have := HL.out; show x.out.length ≤ 900000; omega) C0 g1 n _ HA1.out.nok (by omega) hr)
 clear hA1 n16 k16 j16
 go_wp2_with fail
 refine HALL.out.mono ?_
 rintro en w11 ⟨rfl, v11, l11, hn11, hm11, hl11⟩
 obtain ⟨G11, h11⟩ := H10.out.call hn11
 have H11 := hI h11
 have HA11 := hI (HA1.out.trans (j := 7) ⟨Grow.refl _ _, HA1.out.gok, HA1.out.nok.outs 0 v11 (x.out ++ l11), ⟨l11, rfl, hm11, hl11⟩, ⟨rfl, rfl, rfl, rfl⟩⟩)
 have HAG := hI (agree_node w11 _ G11 p _ H11.out.node H11.out.ml (by have := HL.out; show (x.out ++ l11).length ≤ 900000; rw [List.length_append]; omega) C0 g1 n _ HA11.out.gok HA11.out.nok (by omega) hr)
 clear hn11 hm11 hl11 h11 HALL
 go_wp2_with fail
 refine HAG.out.mono ?_
 rintro en w12 ⟨rfl, y, g3, Y, hn12, hA12⟩
 obtain ⟨G12, h12⟩ := H11.out.call hn12
 have H12 := hI h12.to
 have HA12 := hI (HA11.out.trans hA12)
 clear hn12 hA12 h12 HAG
 go_wp2_with fail
 go_ret2
 exact ⟨⟨_, rfl⟩, y, g3, Y, H12.out, HA12.out.mono nL (by omega)⟩
end
section
open Go.RowKit
def PropTo (C0 : List Int) (g : Gh En) (n : Nat) (w : World) (M F : Nat → Prop) (p : Nat) (x : NodeS) (e : Ending) (w' : World) : Prop := (∃ i c : Int, e = .returned (.tuple #[.int .u64 i, .int .i64 c])) ∧ ActTo C0 g n 14 w M F w' p x
set_option maxRecDepth 100000 in
theorem propose_node (w : World) (M F : Nat → Prop) (p : Nat) (x : NodeS) (h : NodeAt w M F p x) (hM : ∀ k, M k → k < w.heap.size) (hl : x.out.length ≤ 800000) (C0 : List Int) (g : Gh En) (n : Nat) (X : List En) (hg : OkG C0 g n) (hN : OkN C0 g n x X) (hn6 : n ≤ 1000) (hXn : X.length + 1 ≤ n)
  (dv : Value) (d : List UInt8) (hd : SlW u8v w dv d) (hdl : d.length ≤ 900) :
  Calls Tryz.prog 18 #[.pointer (some ⟨p, 0, none⟩), dv] w (PropTo C0 g n w M F p x) := by
 have d6 : w.cell? ⟨p, 6, none⟩ = some (.int .i64 x.role) := h.cell 6 rfl
 have HSM : Hid (ActTo C0 g n 14 w M F w p x) := hI ⟨x, g, X, (Rn.start h hM).to, (Acts.own hg hN rfl (Stay.refl x)).mono nL (by omega)⟩
 by_cases hr : x.role = 3
 ·have q0 : (x.role == 3) = true := by rw [hr]; rfl
  have q1 : (x.role != 3) = false := by rw [hr]; rfl
  have HAD := hI (add_node w M F p x h hM hl C0 g n X hg hN hn6 hXn hr false dv d hd hdl (fun K hK => by simp [cfE] at hK))
  obtain ⟨da, dc, rfl⟩ := hd.form
  clear h hM hg hN hd hr
  go_enter Tryz.func18, Tryz.ntmps18
  go_wp2_with fail
  refine HAD.out.mono ?_
  rintro en w1 ⟨⟨i, rfl⟩, ha⟩
  have HA := hI ha
  clear ha HAD
  go_wp2_with fail
  go_ret2
  exact ⟨⟨_, _, rfl⟩, HA.out⟩
 ·have q0 : (x.role == 3) = false := by simpa using hr
  have q1 : (x.role != 3) = true := by simpa using hr
  obtain ⟨da, dc, rfl⟩ := hd.form
  clear h hM hg hN hd hr
  go_enter Tryz.func18, Tryz.ntmps18
  go_wp2_with fail
  go_ret2
  exact ⟨⟨_, _, rfl⟩, HSM.out⟩
end
section
open Go.RowKit
theorem right1_any (w : World) (bx : Nat) (mt : Int) (h : w.cell? ⟨bx, 3, none⟩ = some (.int .u64 mt)) (hbx : bx < w.heap.size) (ex et : Int) (ecf : Bool) (va : Option Addr) (vn vc : Nat) :
  Calls Tryz.prog 64 #[.agg #[.int .u64 ex, .int .u64 et, .bool ecf, .slice va vn vc], .pointer (some ⟨bx, 0, none⟩)] w (RetB (.bool (decide (mt < et))) w) := by
 go_enter Tryz.func64, Tryz.ntmps64
 go_wp2_with fail
 go_ret
 exact RetB.mk rfl (bR.alloc nL _)
set_option maxRecDepth 100000 in
theorem lateIx_any (w : World) (M : Nat → Prop) (a : Option Addr) (cap : Nat) (es : List Ent) (hr : RowE w M (.slice a es.length cap) es) (bx : Nat) (mt : Int) (h : w.cell? ⟨bx, 3, none⟩ = some (.int .u64 mt)) (hbx : bx < w.heap.size) (hn : es.length ≤ 1000000) :
  Calls Tryz.prog 91 #[.slice a es.length cap, .func (Fn.func 64) #[] #[.pointer (some ⟨bx, 0, none⟩)]] w fun e w' => (∃ r : Int, e = .returned (.int .i64 r)) ∧ Below w.heap.size w w' := by
 have HR := hI hr
 have HC := hI h
 clear hr h
 go_enter Tryz.func91, Tryz.ntmps91
 go_wp2_with fail
 go_loopw [8] (fun iv wr => ∃ j : Nat, iv = .int .i64 j ∧ j ≤ es.length ∧ Hid (Below w.heap.size w wr)) (fun iv _ => es.length - (intOf iv).toNat)
 case atStart => exact ⟨0, rfl, Nat.zero_le _, hI bR⟩
 case round =>
  obtain ⟨j, rfl, hj, HB⟩ := hrel
  by_cases hlt : j < es.length
  ·obtain ⟨e, he⟩ : ∃ e, es[j]? = some e := ⟨es[j], by simp⟩
   have hrw := HR.out.mv (Mv.below M HB.out)
   obtain ⟨b, o, cap', hv, k1, k2, k3, c0, c1, c2, c3⟩ := hrw.at he
   obtain ⟨va, vc, hve, _⟩ := (hrw.2.1 e (List.mem_of_getElem? he)).1
   injection hv with v1 v2 v3
   subst v1 v3
   rw [hve] at c3
   have hc3 : wr.cell? ⟨bx, 3, none⟩ = some (.int .u64 mt) := by rw [World.cell?_of_block (HB.out.block bx hbx)]; exact HC.out
   have z1 : (j : Int) < (es.length : Int) := by omega
   have HR1 := hI (right1_any wr bx mt hc3 (Nat.lt_of_lt_of_le hbx HB.out.size) e.ix e.tm e.cf va e.d.length vc)
   clear hrw hve he hc3 v2
   generalize decide (mt < e.tm) = lb at *
   cases lb
   ·go_wp2_with (go_at_call 64; refine HR1.out.mono ?_; rintro en w3 ⟨rfl, hb3⟩; have HB3 := hI (HB.out.trans (hb3.mono HB.out.size)); clear hb3)
    go_roundw
    case rel => exact ⟨j + 1, by go_num, by omega, HB3⟩
    case measure => exact k_meas hlt
   ·go_wp2_with (go_at_call 64; refine HR1.out.mono ?_; rintro en w3 ⟨rfl, hb3⟩; have HB3 := hI (HB.out.trans (hb3.mono HB.out.size)); clear hb3)
    go_ret
    exact ⟨⟨_, rfl⟩, HB3.out⟩
  ·obtain rfl : j = es.length := by omega
   go_wp2_with fail
   go_ret
   exact ⟨⟨_, rfl⟩, HB.out⟩
theorem late_any (w : World) (M : Nat → Prop) (a : Option Addr) (cap : Nat) (es : List Ent) (hr : RowE w M (.slice a es.length cap) es) (bx : Nat) (mt : Int) (h : w.cell? ⟨bx, 3, none⟩ = some (.int .u64 mt)) (hbx : bx < w.heap.size) (hn : es.length ≤ 1000000) :
  Calls Tryz.prog 63 #[.slice a es.length cap, .func (Fn.func 64) #[] #[.pointer (some ⟨bx, 0, none⟩)]] w fun e w' => (∃ b : Bool, e = .returned (.bool b)) ∧ Below w.heap.size w w' := by
 have HI := hI (lateIx_any w M a cap es hr bx mt h hbx hn)
 clear hr h
 go_enter Tryz.func63, Tryz.ntmps63
 go_wp2_with fail
 refine HI.out.mono ?_
 rintro en w1 ⟨⟨r, rfl⟩, hb⟩
 have HB := hI hb
 clear hb HI
 go_wp2_with fail
 go_ret
 exact ⟨⟨_, rfl⟩, HB.out⟩
end
section
open Go.RowKit
section
variable {w w' : World} {M F T : Nat → Prop} {S : Nat → Nat → Prop} {p : Nat} {x y : NodeS}
theorem NodeIn.partImg (h : NodeIn w M F S p x) (hT : ∀ k, T k → S 0 k ∨ (w.heap.size ≤ k ∧ k < w'.heap.size)) (hk : Keeps (fun k => S 0 k ∨ k = p) w w') (hbox : w'.heap[p]? = some (.cells y.cells 74 (0, 0)))
  (hlog : LogAt w' y.lg y.r y.ix y.tm y.es) (hlg : T y.lg) (hrow : ∀ k, y.r = some k → T k) (hime : ∀ e ∈ y.es, im (fun k => M k ∨ T k) e.v) (hok : LogOk y.ix y.tm y.es) (hdl : ∀ e ∈ y.es, e.d.length ≤ 900) (hlen : y.es.length ≤ 1024)
  (e1 : Sl intv w' y.imv y.mem) (e2 : im (fun k => M k ∨ T k) y.imv) (e3 : ∃ d, Sl u8v w' y.idv d ∧ d.length ≤ 1000) (e3' : im (fun k => M k ∨ T k) y.idv) (e4 : y.pv = x.pv) (e5 : y.pl = x.pl) (e6 : y.tv = x.tv) (e7 : y.tr = x.tr) (e8 : y.ov = x.ov) (e9 : y.out = x.out) : NodeIn w' (fun k => M k ∨ T k) (fun k => F k ∨ T k) (updS S 0 T) p y := by
 obtain ⟨hm, r1, r2, r3, r4, r5, r6⟩ := h.rest (i := 0) (by omega) hT hk
 refine ⟨hbox, .inl h.fp, r1, r2, r3, r4, r5, hlog, by rw [updS_same]; exact hlg, by rw [updS_same]; exact hrow, hime, hok, hdl, hlen, ?_, ?_, ?_, e1, e2, e3, e3'⟩
 ·rw [updS_other S T (by omega), e8, e9]; exact h.out.mv hm hk (r6 1 · (by omega) (by omega))
 ·rw [updS_other S T (by omega), e4, e5]; exact h.bal.mv hm hk (r6 2 · (by omega) (by omega))
 ·rw [updS_other S T (by omega), e6, e7]; exact h.trk.kept hk (r6 3 · (by omega) (by omega))
theorem Rn.reimg {w0 : World} {M0 F0 G : Nat → Prop} (h : Rn w0 M0 F0 G w p x) (hbox : w'.heap[p]? = some (.cells y.cells 74 (0, 0))) (hk : Keeps (fun k => k = x.lg ∨ k = p) w w')
  (hlog : LogAt w' y.lg y.r y.ix y.tm y.es) (hlg : y.lg = x.lg ∨ w.heap.size ≤ y.lg) (hr : ∀ k, y.r = some k → x.r = some k ∨ w.heap.size ≤ k) (hes : ∀ e ∈ y.es, e ∈ x.es) (hok : LogOk y.ix y.tm y.es) (hdl : ∀ e ∈ y.es, e.d.length ≤ 900) (hlen : y.es.length ≤ 1024)
  (e1 : Sl intv w' y.imv y.mem) (e2 : ∀ k, y.imv.ownBlock = some k → w.heap.size ≤ k ∧ k ≠ y.lg ∧ y.r ≠ some k) {d : List UInt8} (e3 : Sl u8v w' y.idv d) (hd : d.length ≤ 1000) (e3' : ∀ k, y.idv.ownBlock = some k → w.heap.size ≤ k ∧ k ≠ y.lg ∧ y.r ≠ some k)
  (e4 : y.pv = x.pv) (e5 : y.pl = x.pl) (e6 : y.tv = x.tv) (e7 : y.tr = x.tr) (e8 : y.ov = x.ov) (e9 : y.out = x.out) : ∃ G', Rn w0 M0 F0 G' w' p y ∧ Keeps G w w' ∧ ∀ k, G' k → G k ∨ w.heap.size ≤ k := by
 obtain ⟨S, hn⟩ := h.node
 obtain ⟨T, hT⟩ : ∃ T : Nat → Prop, T = fun k => k = y.lg ∨ y.r = some k := ⟨_, rfl⟩
 have hk' : Keeps (fun k => S 0 k ∨ k = p) w w' := hk.mono fun k _ e => e.imp (fun (e : k = x.lg) => by rw [e]; exact hn.slg) id
 have hTT : ∀ k, T k → S 0 k ∨ (w.heap.size ≤ k ∧ k < w'.heap.size) := fun k e => by
  rw [hT] at e
  rcases e with e | e
  ·rcases hlg with e' | e'
   ·exact .inl (by rw [e, e']; exact hn.slg)
   ·exact .inr ⟨by omega, by rw [e]; exact hlog.lt⟩
  ·rcases hr k e with e' | e'
   ·exact .inl (hn.srow k e')
   ·exact .inr ⟨e', hlog.row_lt k e⟩
 have him : ∀ v : Value, (∀ k, v.ownBlock = some k → w.heap.size ≤ k ∧ k ≠ y.lg ∧ y.r ≠ some k) → im (fun k => (M0 k ∨ G k) ∨ T k) v := fun v hv k hk2 e => by
  obtain ⟨a, b, c⟩ := hv k hk2
  rcases e with e | e
  ·have := h.ml k e; omega
  ·rw [hT] at e
   exact e.elim b c
 have hN := hn.partImg (T := T) (w' := w') (y := y) hTT hk' hbox hlog (by rw [hT]; exact .inl rfl) (fun k e => by rw [hT]; exact .inr e)
  (fun e he k hk2 e2 => by
    obtain ⟨d1, d2⟩ := (hlog.data e he).2 k hk2
    rcases e2 with e2 | e2
    · exact hn.ime e (hes e he) k hk2 e2
    · rw [hT] at e2
      exact e2.elim d1 d2) hok hdl hlen e1 (him _ e2) ⟨d, e3, hd⟩ (him _ e3') e4 e5 e6 e7 e8 e9
 obtain ⟨G', a, b, _, c⟩ := h.callK (hn.to (by omega) hTT hk' hN)
 exact ⟨G', a, b, c⟩
end
end
section
open Go.RowKit
section
variable {C0 : List Int} {g : Gh En} {n : Nat} {x : NodeS} {X : List En}
theorem install_law (hg : OkG C0 g n) (h : OkN C0 g n x X) (hok : LogOk x.ix x.tm x.es) {m : Msg} (hmo : OkM C0 g n m) (hk6 : m.kind = 6) (hmt : m.term = x.term) (hr2 : x.role ≠ 2) (hr3 : x.role ≠ 3) (hci : x.commit < m.index) (hmb : mB m.mem = true)
  {lg : Nat} {r' : Option Nat} {es' : List Ent} (hes : (termE x.ix x.tm x.es m.index = some m.logTerm ∧ es' = x.es.drop (m.index - x.ix).toNat) ∨ (termE x.ix x.tm x.es m.index ≠ some m.logTerm ∧ es' = [])) (since : Int) (imv idv : Value) (fresh : Bool) (stable : Int) :
  ∃ g' Y, Acts C0 g n 0 x g' { x with since := since, lg := lg, r := r', ix := m.index, tm := m.logTerm, es := es', imv := imv, mem := m.mem, idv := idv, commit := m.index, fresh := fresh, stable := stable } Y ∧ g'.A x.id x.term.toNat m.index.toNat := by
 have hnm := h.nums hok
 have hx0 := hmo.x0
 have hc0 := h.c0
 have hl0 := hmo.l0
 have hxn := hmo.xn
 have hix := hok.lo
 have hlen := h.len
 have hlast := hnm.last
 have hixc := hnm.ixle
 have emt : m.term.toNat = x.term.toNat := by rw [hmt]
 obtain ⟨g', Y, w1, w2, w3, w4⟩ := h.ni.install hg.gi hr2 hr3 hmo.mi hk6 (by simp only [Msg.ms, NodeS.nd]; exact emt) (by simp only [Msg.ms, NodeS.nd]; omega)
 have e1 : es'.map Ent.en = if m.ms.index ≤ X.length ∧ tmAt En.tm X m.ms.index = m.ms.logTerm then x.nd.ents.drop (m.ms.index - x.nd.base) else [] := by
  rcases hes with ⟨a, b⟩ | ⟨a, b⟩
  ·have ht := h.termE_ hok a
   rw [if_pos ⟨ht.2.2.1, ht.2.1⟩, b, List.map_drop]
   simp only [NodeS.nd, Msg.ms]
   rw [show (m.index - x.ix).toNat = m.index.toNat - x.ix.toNat by omega]
  ·rw [if_neg, b]
   ·rfl
   ·rintro ⟨c, d⟩
    simp only [Msg.ms] at c d
    obtain ⟨t, htt⟩ := h.termSome hok (i := m.index) (by omega) (by omega)
    have ht := h.termE_ hok htt
    apply a
    rw [htt]
    congr 1
    have := ht.2.1
    have := ht.1
    omega
 have hY : Y.length ≤ n := by
  have h1 := w4.le2
  have h2 := congrArg List.length w4.ents
  simp only at h1 h2
  rw [← e1, List.length_map, List.length_drop] at h2
  simp only [Msg.ms] at h1 h2
  rcases hes with ⟨a, b⟩ | ⟨a, b⟩
  ·have ht := h.termE_ hok a
   rw [b, List.length_drop] at h2
   omega
  ·rw [b] at h2
   simp only [List.length_nil] at h2
   omega
 refine ⟨g', Y, ⟨w1, ⟨w2, hg.c0⟩, ⟨?_, h.i7, h.t0, h.tn, hx0, hY, hmb, h.v0, h.v7, fun e => absurd e hr3, h.el⟩, ⟨[], by simp, (fun q hq => by cases hq), Nat.le_refl _⟩, ⟨rfl, rfl, rfl, rfl⟩⟩, by have w3' : g'.A x.id m.term.toNat m.index.toNat := w3; rw [emt] at w3'; exact w3'⟩
 show NI En.tm cfE C0 g' x.id { x.nd with base := m.index.toNat, bterm := m.logTerm.toNat, ents := es'.map Ent.en, mem := m.mem, commit := m.index.toNat } Y
 rw [e1]
 exact w4
theorem compact_law (hg : OkG C0 g n) (h : OkN C0 g n x X) (hok : LogOk x.ix x.tm x.es) {i t : Int} (h1 : x.ix ≤ i) (h2 : i ≤ x.commit) (ht : termE x.ix x.tm x.es i = some t) {mem : List Int} (hmem : mem = ((ofD x.es (i - x.ix).toNat).map (·.1)).getD x.mem) (hmb : mB mem = true)
  {r' : Option Nat} (imv idv : Value) (fresh : Bool) (stable : Int) :
  Acts C0 g n 0 x g { x with r := r', ix := i, tm := t, es := x.es.drop (i - x.ix).toNat, imv := imv, mem := mem, idv := idv, fresh := fresh, stable := stable } X := by
 have hix := hok.lo
 have hte := h.termE_ hok ht
 have hc := h.ni.compact (i := i.toNat) (by simp only [NodeS.nd]; omega) (by simp only [NodeS.nd]; omega)
 have e1 : (x.es.drop (i - x.ix).toNat).map Ent.en = x.nd.ents.drop (i.toNat - x.nd.base) := by
  rw [List.map_drop]
  simp only [NodeS.nd]
  rw [show (i - x.ix).toNat = i.toNat - x.ix.toNat by omega]
 have e2 : mem = confTo cfE C0 X i.toNat := by
  have := h.ni.confTo (i := i.toNat) (by simp only [NodeS.nd]; omega)
  rw [hmem, ofD_ofN, ← this]
  simp only [NodeS.nd]
  rw [show (i - x.ix).toNat = i.toNat - x.ix.toNat by omega]
 refine Acts.own hg ⟨?_, h.i7, h.t0, h.tn, h.c0, h.len, hmb, h.v0, h.v7, h.nx, h.el⟩ rfl ⟨rfl, rfl, rfl, rfl⟩
 show NI En.tm cfE C0 g x.id { x.nd with base := i.toNat, bterm := t.toNat, ents := (x.es.drop (i - x.ix).toNat).map Ent.en, mem := mem } X
 rw [e1, e2, ← hte.2.1]
 exact hc
end
end
end Go.Proofs.YtdjooojpcepleaaGreat

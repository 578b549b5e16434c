/- raft, any node: Change: an entry with members. -/
import Derived.Test.YtdjooojpcepleaaGreatRsM30

namespace Go.Proofs.YtdjooojpcepleaaGreat
section
open Go.RowKit
section
variable {C0 : List Int} {g : Gh En} {n : Nat} {x : NodeS} {X : List En}
theorem change_law (hN : OkN C0 g n x X) (hok : LogOk x.ix x.tm x.es) {l : List Int} (hst : stepB x.memb l = true) (hat : atOf x.ix (ofD x.es x.es.length) ≤ x.commit) {t : Int} (ht : termE x.ix x.tm x.es x.commit = some t) (htt : t = x.term) :
  ∀ K, cfE ⟨x.term.toNat, true, membB l⟩ = some K → tmAt En.tm X x.commit.toNat = x.term.toNat ∧ (∀ k, cfAt cfE X k ≠ none → k ≤ x.commit.toNat) ∧ Near (confOf cfE C0 X) K := by
 intro K hK
 obtain ⟨hnear, hmb⟩ := step_near hst
 have hKl : K = l := by
  unfold cfE at hK
  simp only [if_true] at hK
  rw [membersOf_membB hmb] at hK
  exact (Option.some.inj hK).symm
 have hte := hN.termE_ hok ht
 have hnm := hN.nums hok
 have hlo := hok.lo
 have hixc := hnm.ixle
 refine ⟨by rw [hte.2.1, htt], ?_, by rw [hKl, ← hN.conf]; exact hnear⟩
 refine ofN_all hN.ni.ents (by simp only [NodeS.nd]; omega) ?_
 simp only [NodeS.nd, List.length_map]
 rw [ofD_ofN] at hat
 cases ho : ofN cfE (x.es.map Ent.en) x.es.length with
 | none => simp only [ofAt]; omega
 | some q =>
  rw [ho] at hat
  simp only [ofAt]
  simp only [atOf] at hat
  omega
end
set_option maxRecDepth 100000 in
set_option maxHeartbeats 3200000 in
theorem change_node (w : World) (M F : Nat → Prop) (p : Nat) (x : NodeS) (h : NodeAt w M F p x) (hM : ∀ k, M k → k < w.heap.size) (hl : x.out.length ≤ 800000) (C0 : List Int) (g : Gh En) (n : Nat) (X : List En) (hg : OkG C0 g n) (hN : OkN C0 g n x X) (hn6 : n ≤ 1000) (hXn : X.length + 1 ≤ n)
  (a : Option Addr) (cap : Nat) (l : List Int) (hs : Sl intv w (.slice a l.length cap) l) :
  Calls Tryz.prog 23 #[.pointer (some ⟨p, 0, none⟩), .slice a l.length cap] w (PropTo C0 g n w M F p x) := by
 have d6 : w.cell? ⟨p, 6, none⟩ = some (.int .i64 x.role) := h.cell 6 rfl
 have hR0 := Rn.start h hM
 have HSM : Hid (∀ W, Below w.heap.size w W → ActTo C0 g n 14 w M F W p x) := hI fun W hW => ⟨x, g, X, (hR0.below hW).to, (Acts.own hg hN rfl (Stay.refl x)).mono nL (by omega)⟩
 by_cases hr : x.role = 3
 ·have q0 : (x.role == 3) = true := by rw [hr]; rfl
  have q1 : (x.role != 3) = false := by rw [hr]; rfl
  have HRR := hI hr
  have hml := (mL hN.memb).2.1
  have HMN := hI (members_node w M F p x h (by omega))
  have HS := hI hs
  have HN := hI hN
  have HG := hI hg
  have HL := hI hl
  have HXN := hI hXn
  have HOK := hI hR0.ok
  have hnum := hN.nums hR0.ok.1
  have hl0 := hR0.ok.1.lo
  have HLA := hI hnum.last
  have HNM := hI hnum
  have hc0 := hN.c0
  have HR0 := hI hR0
  clear h hM hg hN hr hs hl hXn hnum hR0
  go_enter Tryz.func23, Tryz.ntmps23
  go_wp2_with fail
  refine HMN.out.mono ?_
  rintro en w1 ⟨ma, mcp, rfl, hmn⟩
  have HB1 := hI hmn.bel
  have HST := hI (step_any w1 ma _ mcp x.memb hmn.sl a _ cap l (HS.out.below hmn.bel HS.out.row_lt))
  clear hmn HMN d6
  generalize hsb : stepB x.memb l = sb at *
  have HSB := hI hsb
  clear hsb
  cases sb
  ·go_wp2_with fail
   refine HST.out.mono ?_
   rintro en w2 ⟨rfl, hb2⟩
   have HB2 := hI (HB1.out.trans (hb2.mono HB1.out.size))
   clear hb2 HST
   go_wp2_with fail
   go_ret2
   exact ⟨⟨_, _, rfl⟩, HSM.out _ HB2.out⟩
  ·go_wp2_with fail
   refine HST.out.mono ?_
   rintro en w2 ⟨rfl, hb2⟩
   have HB2 := hI (HB1.out.trans (hb2.mono HB1.out.size))
   have H2 := hI (HR0.out.below HB2.out)
   have c9 : w2.cell? ⟨p, 9, none⟩ = some (.pointer (some ⟨x.lg, 0, none⟩)) := H2.out.cell 9 rfl
   have HLS := hI (last_any w2 x.lg x.r x.ix x.tm x.es H2.out.ok.2.1 HOK.out.1)
   obtain ⟨li, hli⟩ : ∃ li, li = x.ix + (x.es.length : Int) := ⟨_, rfl⟩
   rw [← hli] at HLS
   have HLI := hI hli
   generalize lT x.tm x.es = lt at *
   clear hb2 HST hli
   go_wp2_with fail
   refine HLS.out.mono ?_
   rintro en w3 ⟨rfl, hb3⟩
   have HB3 := hI (HB2.out.trans (hb3.mono HB2.out.size))
   have H3 := hI (HR0.out.below HB3.out)
   obtain ⟨ia, ic, himv, hsi⟩ : ∃ ia ic, x.imv = .slice ia x.mem.length ic ∧ Sl intv w3 (.slice ia x.mem.length ic) x.mem := by
    obtain ⟨S8, hn8⟩ := H3.out.node
    obtain ⟨a, cap, h1, _⟩ := id hn8.mem
    exact ⟨a, cap, h1, h1 ▸ hn8.mem⟩
   have k9 : w3.cell? ⟨p, 9, none⟩ = some (.pointer (some ⟨x.lg, 0, none⟩)) := H3.out.cell 9 rfl
   have k12 : w3.cell? ⟨p, 12, none⟩ = some (.slice ia x.mem.length ic) := by rw [← himv]; exact H3.out.cell 12 rfl
   have HOF : Hid (Calls Tryz.prog 51 #[.pointer (some ⟨x.lg, 0, none⟩), .slice ia x.mem.length ic, .int .u64 li] w3.drew (OfN x.ix (ofD x.es x.es.length) x.mem w3.drew)) := by
    obtain ⟨S8, hn8⟩ := H3.out.drew.node
    have := of_new w3.drew x.lg x.r x.ix x.tm x.es hn8.log HOK.out.1 hn8.dl ia ic x.mem (hsi.below (bD bR) hsi.row_lt) (by omega) li (by have := HLI.out; omega)
    rw [show (min li (x.ix + x.es.length) - x.ix).toNat = x.es.length by have := HLI.out; omega] at this
    exact hI this
   have HIM := hI himv
   clear hb3 HLS c9 himv hsi
   go_wp2_with fail
   go_region_held3 (fun w' => w'.cell? ⟨p, 9, none⟩ = some (.pointer (some ⟨x.lg, 0, none⟩)) ∧ w'.cell? ⟨p, 12, none⟩ = some (.slice ia x.mem.length ic)) (first | exact ⟨k9, k12⟩ | exact ⟨j9, j12⟩)
    (first | (go_at_call 51; refine HOF.out.mono ?_; rintro en w4 hof; obtain ⟨a4, cap4, rfl, hn4⟩ := hof.all; have H4 := hI (H3.out.drew.below hn4.bel); have hb34 : Below w3.heap.size w3 w4 := (bD (Below.refl _ w3)).trans (hn4.bel.mono (by simp)); have HB4 := hI (HB3.out.trans (hb34.mono HB3.out.size)); have j9 : w4.cell? ⟨p, 9, none⟩ = some (.pointer (some ⟨x.lg, 0, none⟩)) := H4.out.cell 9 rfl; have j12 : w4.cell? ⟨p, 12, none⟩ = some (.slice ia x.mem.length ic) := (by rw [← HIM.out]; exact H4.out.cell 12 rfl); clear hof hn4 hb34))
   obtain ⟨tx, tc, htc, hterm⟩ := term_all x.ix x.tm x.es HOK.out.1 x.lg x.r x.commit
   have HTM := hI (hterm w4.drew H4.out.drew.ok.2.1)
   have HTC := hI htc
   obtain ⟨at_, hat⟩ : ∃ at_, at_ = atOf x.ix (ofD x.es x.es.length) := ⟨_, rfl⟩
   rw [← hat]
   have HAT := hI hat
   have k14 : w4.cell? ⟨p, 14, none⟩ = some (.int .u64 x.commit) := H4.out.cell 14 rfl
   clear hterm htc k9 k12 j12 hat HOF
   go_wp2_with fail
   go_region_held3 (fun w' => w'.cell? ⟨p, 9, none⟩ = some (.pointer (some ⟨x.lg, 0, none⟩)) ∧ w'.cell? ⟨p, 14, none⟩ = some (.int .u64 x.commit)) (first | exact ⟨j9, k14⟩ | exact ⟨i9, i14⟩)
    (first | (go_at_call 52; refine HTM.out.mono ?_; rintro en w5 ⟨rfl, hb5⟩; have H5 := hI (H4.out.drew.below hb5); have hb45 : Below w4.heap.size w4 w5 := (bD (Below.refl _ w4)).trans (hb5.mono (by simp)); have HB5 := hI (HB4.out.trans (hb45.mono HB4.out.size)); have i9 : w5.cell? ⟨p, 9, none⟩ = some (.pointer (some ⟨x.lg, 0, none⟩)) := H5.out.cell 9 rfl; have i14 : w5.cell? ⟨p, 14, none⟩ = some (.int .u64 x.commit) := H5.out.cell 14 rfl; clear hb5 hb45))
   have i4 : w5.cell? ⟨p, 4, none⟩ = some (.int .u64 x.term) := H5.out.cell 4 rfl
   clear j9 k14 i9 HTM
   by_cases hac : x.commit < at_
   ·have q2 : decide (x.commit < at_) = true := by simpa using hac
    go_wp2_with fail
    go_ret2
    exact ⟨⟨_, _, rfl⟩, HSM.out _ HB5.out⟩
   ·have q2 : decide (x.commit < at_) = false := by simpa using hac
    by_cases htt : tx = x.term
    ·have q3 : (tx == x.term) = true := by simpa using htt
     have q4 : (tx != x.term) = false := by simpa using htt
     have hlaw := change_law HN.out HOK.out.1 HSB.out (by rw [← HAT.out]; omega) (t := tx) (by
       rcases HTC.out with ⟨_, h2⟩ | ⟨_, _, h2⟩
       · exact h2
       · obtain ⟨t, ht⟩ := HN.out.termSome HOK.out.1 HNM.out.ixle HNM.out.cle
         rw [ht] at h2; cases h2) htt
     have HLAW := hI hlaw
     have hmb := (step_near HSB.out).2
     have HMB := hI hmb
     have HMM := hI (Members_any w5 a _ cap l (HS.out.below HB5.out HS.out.row_lt))
     clear hlaw hmb htt hac
     go_wp2_with fail
     refine HMM.out.mono ?_
     rintro en w6 hmr
     unfold MembersR at hmr
     rw [if_pos HMB.out] at hmr
     obtain ⟨v, rfl, hb6, hs6, _⟩ := hmr
     have H6 := hI (H5.out.below hb6)
     have hdl : (membB l).length ≤ 900 := by
      obtain ⟨h1, h7, hm⟩ := mL HMB.out
      unfold membB
      have h2 := numB_len10 (x := l.length) (by omega)
      have h3 := numsB_len (l := l) fun n hn => by have := hm n hn; omega
      rw [List.length_append]; omega
     have HAD := hI (add_node w6 _ F p x H6.out.node H6.out.ml HL.out C0 g n X HG.out HN.out hn6 HXN.out HRR.out true v (membB l) (.inl hs6) hdl HLAW.out)
     obtain ⟨va, vc, rfl⟩ : ∃ va vc, v = .slice va (membB l).length vc := by
      obtain ⟨a, c, h1, _⟩ := hs6
      exact ⟨a, c, h1⟩
     clear hb6 hs6 hdl HMM
     go_wp2_with fail
     refine HAD.out.mono ?_
     rintro en w7 ⟨⟨i, rfl⟩, y, g3, Y, hn7, hA⟩
     obtain ⟨G7, h7⟩ := H6.out.call hn7
     have H7 := hI h7.to
     have HA := hI hA
     clear hn7 hA h7 HAD
     go_wp2_with fail
     go_ret2
     exact ⟨⟨_, _, rfl⟩, y, g3, Y, H7.out, HA.out⟩
    ·have q3 : (tx == x.term) = false := by simpa using htt
     have q4 : (tx != x.term) = true := by simpa using htt
     go_wp2_with fail
     go_ret2
     exact ⟨⟨_, _, rfl⟩, HSM.out _ HB5.out⟩
 ·have q0 : (x.role == 3) = false := by simpa using hr
  have q1 : (x.role != 3) = true := by simpa using hr
  clear h hM hg hN hr hs hR0
  go_enter Tryz.func23, Tryz.ntmps23
  go_wp2_with fail
  go_ret2
  exact ⟨⟨_, _, rfl⟩, HSM.out _ bR⟩
end
section
open Go.RowKit
def CompTo (C0 : List Int) (g : Gh En) (n : Nat) (w : World) (M F : Nat → Prop) (p : Nat) (x : NodeS) (e : Ending) (w' : World) : Prop := (∃ c : Int, e = .returned (.int .i64 c)) ∧ ActTo C0 g n 14 w M F w' p x
theorem ofD_mem {x : NodeS} (h : mB x.mem = true) (k : Nat) : mB (((ofD x.es k).map (·.1)).getD x.mem) = true := by
 cases ho : ofD x.es k with
 | none => exact h
 | some q => exact ofD_members (l := q.1) (j := q.2) ho
set_option maxRecDepth 100000 in
set_option maxHeartbeats 3200000 in
theorem compact_node (w : World) (M F : Nat → Prop) (p : Nat) (x : NodeS) (h : NodeAt w M F p x) (hM : ∀ k, M k → k < w.heap.size) (C0 : List Int) (g : Gh En) (n : Nat) (X : List En) (hg : OkG C0 g n) (hN : OkN C0 g n x X) (hn6 : n ≤ 1000)
  (da : Option Addr) (dc : Nat) (d : List UInt8) (hd : Sl u8v w (.slice da d.length dc) d) (hdl : d.length ≤ 1000) :
  Calls Tryz.prog 25 #[.pointer (some ⟨p, 0, none⟩), .int .u64 x.commit, .slice da d.length dc] w (CompTo C0 g n w M F p x) := by
 have hR0 := Rn.start h hM
 have HSM : Hid (∀ W, Below w.heap.size w W → ActTo C0 g n 14 w M F W p x) := hI fun W hW => ⟨x, g, X, (hR0.below hW).to, (Acts.own hg hN rfl (Stay.refl x)).mono nL (by omega)⟩
 have HN := hI hN
 have HG := hI hg
 have HD := hI hd
 have HOK := hI hR0.ok
 have hnum := hN.nums hR0.ok.1
 have HNM := hI hnum
 have hc0 := hN.c0
 have hcn : x.commit ≤ 1000 := by have := hnum.cle; have := hN.len; omega
 have htmn := hN.tn
 have hmlen := (mL hN.memb).2.1
 have hlo := hR0.ok.1.lo
 have d9 : w.cell? ⟨p, 9, none⟩ = some (.pointer (some ⟨x.lg, 0, none⟩)) := h.cell 9 rfl
 have HBS := hI (base_any w x.lg x.r x.ix x.tm x.es hR0.ok.2.1)
 have HR0 := hI hR0
 clear h hM hg hN hd hnum hR0
 go_enter Tryz.func25, Tryz.ntmps25
 go_wp2_with fail
 refine HBS.out.mono ?_
 rintro en w1 ⟨rfl, dn, rfl⟩
 have H1 := hI (HR0.out.drewN dn)
 have HB1 : Hid (Below w.heap.size w (w.drewN dn)) := hI (belowDN bR dn)
 generalize w.drewN dn = w1 at *
 have k14 : w1.cell? ⟨p, 14, none⟩ = some (.int .u64 x.commit) := H1.out.cell 14 rfl
 have k9 : w1.cell? ⟨p, 9, none⟩ = some (.pointer (some ⟨x.lg, 0, none⟩)) := H1.out.cell 9 rfl
 clear HBS d9
 by_cases hle : x.commit ≤ x.ix
 ·have q1 : decide (x.commit ≤ x.ix) = true := by simpa using hle
  go_wp2_with fail
  go_ret
  exact ⟨⟨_, rfl⟩, HSM.out _ HB1.out⟩
 ·have q1 : decide (x.commit ≤ x.ix) = false := by simpa using hle
  obtain ⟨tx, tc, htc, hterm⟩ := term_all x.ix x.tm x.es HOK.out.1 x.lg x.r x.commit
  have HTM := hI (hterm w1 H1.out.ok.2.1)
  have hti : termE x.ix x.tm x.es x.commit = some tx := by
   rcases htc with ⟨_, h2⟩ | ⟨_, _, h2⟩
   ·exact h2
   ·obtain ⟨t, ht⟩ := HN.out.termSome HOK.out.1 HNM.out.ixle HNM.out.cle
    rw [ht] at h2; cases h2
  have HTI := hI hti
  clear htc hterm hti hle
  go_wp2_with fail
  refine HTM.out.mono ?_
  rintro en w3 ⟨rfl, hb3⟩
  have H3 := hI (H1.out.below hb3)
  have HB3 := hI (HB1.out.trans (hb3.mono HB1.out.size))
  obtain ⟨ia, ic, himv, hsi⟩ : ∃ ia ic, x.imv = .slice ia x.mem.length ic ∧ Sl intv w3 (.slice ia x.mem.length ic) x.mem := by
   obtain ⟨S8, hn8⟩ := H3.out.node
   obtain ⟨a, cap, h1, _⟩ := id hn8.mem
   exact ⟨a, cap, h1, h1 ▸ hn8.mem⟩
  have m9 : w3.cell? ⟨p, 9, none⟩ = some (.pointer (some ⟨x.lg, 0, none⟩)) := H3.out.cell 9 rfl
  have m12 : w3.cell? ⟨p, 12, none⟩ = some (.slice ia x.mem.length ic) := by rw [← himv]; exact H3.out.cell 12 rfl
  have HOF : Hid (Calls Tryz.prog 51 #[.pointer (some ⟨x.lg, 0, none⟩), .slice ia x.mem.length ic, .int .u64 x.commit] w3.drew (OfN x.ix (ofD x.es (x.commit - x.ix).toNat) x.mem w3.drew)) := by
   obtain ⟨S8, hn8⟩ := H3.out.drew.node
   have := of_new w3.drew x.lg x.r x.ix x.tm x.es hn8.log HOK.out.1 hn8.dl ia ic x.mem (hsi.below (bD bR) hsi.row_lt) (by omega) x.commit hc0
   rw [show min x.commit (x.ix + x.es.length) = x.commit by have := HNM.out.last; have := HNM.out.cle; omega] at this
   exact hI this
  have HIM := hI himv
  obtain ⟨L, hL⟩ : ∃ L, L = ((ofD x.es (x.commit - x.ix).toNat).map (·.1)).getD x.mem := ⟨_, rfl⟩
  have HLE := hI hL
  have HLM : Hid (mB L = true) := hI (by rw [hL]; exact ofD_mem HN.out.memb _)
  have hml := (mL HLM.out).2.1
  clear hb3 HTM k14 k9 himv hsi hL
  go_wp2_with fail
  go_region_held3 (fun w' => w'.cell? ⟨p, 9, none⟩ = some (.pointer (some ⟨x.lg, 0, none⟩)) ∧ w'.cell? ⟨p, 12, none⟩ = some (.slice ia x.mem.length ic)) (first | exact ⟨m9, m12⟩ | exact ⟨j9, j12⟩)
   (first | (go_at_call 51; refine HOF.out.mono ?_; rintro en w4 hof; obtain ⟨a4, cap4, hen, hn4⟩ := hof.all; rw [← HLE.out] at hen hn4; subst hen; have H4 := hI (H3.out.drew.below hn4.bel); have hb34 : Below w3.heap.size w3 w4 := (bD (Below.refl _ w3)).trans (hn4.bel.mono (by simp)); have HB4 := hI (HB3.out.trans (hb34.mono HB3.out.size)); have HS4 := hI hn4.sl; have j9 : w4.cell? ⟨p, 9, none⟩ = some (.pointer (some ⟨x.lg, 0, none⟩)) := H4.out.cell 9 rfl; have j12 : w4.cell? ⟨p, 12, none⟩ = some (.slice ia x.mem.length ic) := (by rw [← HIM.out]; exact H4.out.cell 12 rfl); clear hof hn4 hb34))
  clear m9 m12 j9 j12 HOF
  have HCL := hI (clone_img w4 x.commit tx a4 cap4 L HS4.out (by omega) da dc d (HD.out.below HB4.out HD.out.row_lt) (by omega))
  go_wp2_with fail
  refine HCL.out.mono ?_
  rintro en w7 ⟨na, nc, ua, uc, rfl, hb7, hsm, hsd, hnm, hnd⟩
  have HB7 := hI hb7
  have HSM7 := hI hsm
  have HSD := hI hsd
  have HNM7 := hI hnm
  have HND := hI hnd
  have H7 := hI (H4.out.below hb7)
  have HP7 := hI H7.out.node.box
  clear hb7 hsm hsd hnm hnd HCL
  have z10 := bC HP7.out 10 rfl
  have z11 := bC HP7.out 11 rfl
  have z12 := bC HP7.out 12 rfl
  have z13 := bC HP7.out 13 rfl
  have z9 := bC HP7.out 9 rfl
  have y10 := bF HP7.out 10
  have y11 := bF HP7.out 11
  have y12 := bF HP7.out 12
  have y13 := bF HP7.out 13
  have hp7 : p < w7.heap.size := heap_lt HP7.out
  simp only [NodeS.cells] at z9 z10 z11 z12 z13
  go_wp2_with fail
  obtain ⟨w8, hW8⟩ : ∃ W, W = ((((w7.setCell ⟨p, 10, none⟩ (.int .u64 x.commit)).setCell ⟨p, 11, none⟩ (.int .u64 tx)).setCell ⟨p, 12, none⟩ (.slice na L.length nc)).setCell ⟨p, 13, none⟩ (.slice ua d.length uc)) := ⟨_, rfl⟩
  rw [← hW8]
  clear z9 z10 z11 z12 z13 y10 y11 y12 y13 hp7
  have hk78 : Keeps (fun k => k = p) w7 w8 := by
   rw [hW8]
   exact ((((Keeps.refl (fun k => k = p) w7).setCell (.inl rfl) _).setCell (.inl rfl) _).setCell (.inl rfl) _).setCell (.inl rfl) _
  obtain ⟨bx, hbx⟩ : ∃ bx, bx = (NodeS.cells { x with ix := x.commit, tm := tx, imv := .slice na L.length nc, mem := L, idv := .slice ua d.length uc }) := ⟨_, rfl⟩
  have hbx8 : w8.heap[p]? = some (.cells bx 74 (0, 0)) := by
   rw [hW8, hbx]
   exact blk_set (blk_set (blk_set (blk_set HP7.out 10 _) 11 _) 12 _) 13 _
  obtain ⟨S4, hn4⟩ := H4.out.node
  obtain ⟨S7, hn7⟩ := H7.out.node
  have hlgp : x.lg ≠ p := fun e => hn7.sp 0 (by omega) (e ▸ hn7.slg)
  have hlg8 : LogAt w8 x.lg x.r x.ix x.tm x.es := hn7.log.kept hk78 hlgp (fun k hk e => hn7.sp 0 (by omega) (e ▸ hn7.srow k hk)) (fun e he k hk e2 => hn7.ime e he k hk (by rw [e2]; exact .inr hn7.fp))
  have HCU := hI (cut_any w8 x.lg x.r x.ix x.tm x.es hlg8 HOK.out.1 hn7.len x.commit tx HTI.out)
  obtain ⟨es', hes'⟩ : ∃ es', es' = x.es.drop (x.commit - x.ix).toNat := ⟨_, rfl⟩
  rw [← hes'] at HCU
  have HES := hI hes'
  have HLEN : Hid (x.es.length ≤ 1024) := hI hn7.len
  have HBX := hI hbx
  have HBX8 := hI hbx8
  have HLGP := hI hlgp
  have HK78 := hI hk78
  have HLL4 : Hid (x.lg < w4.heap.size ∧ ∀ k, x.r = some k → k < w4.heap.size) := hI ⟨hn4.log.lt, hn4.log.row_lt⟩
  clear hW8 hk78 hbx8 hbx hn7 hn4 hlg8 hlgp hes'
  refine HCU.out.mono ?_
  rintro en w9 ⟨r', rfl, hlog, hr', hk9⟩
  have hbx9 : w9.heap[p]? = some (.cells (NodeS.cells { x with r := r', ix := x.commit, tm := tx, es := es', imv := .slice na L.length nc, mem := L, idv := .slice ua d.length uc }) 74 (0, 0)) := by
   have := hk9.heap (fun e => HLGP.out e.symm) HBX8.out
   rw [HBX.out] at this
   exact this
  have hk49 : Keeps (fun k => k = x.lg ∨ k = p) w4 w9 := ((Keeps.of_belowS (S := fun k => k = x.lg ∨ k = p) HB7.out).trans (HK78.out.mono fun k _ e => .inr e)).trans (hk9.mono fun k _ e => .inl e)
  have hpl4 : p < w4.heap.size := H4.out.plt
  have hs78 := HK78.out.size
  have hs47 := HB7.out.size
  have hsm9 : Sl intv w9 (.slice na L.length nc) L := (HSM7.out.kept HK78.out fun k hk e => by have := HNM7.out k hk; omega).kept hk9 fun k hk e => by have := HNM7.out k hk; have := HLL4.out.1; omega
  have hsd9 : Sl u8v w9 (.slice ua d.length uc) d := (HSD.out.kept HK78.out fun k hk e => by have := HND.out k hk; omega).kept hk9 fun k hk e => by have := HND.out k hk; have := HLL4.out.1; omega
  have hil : ∀ k, (Value.slice na L.length nc).ownBlock = some k → k < w8.heap.size := (HSM7.out.kept HK78.out fun k hk e => by have := HNM7.out k hk; omega).row_lt
  have hdl9 : ∀ k, (Value.slice ua d.length uc).ownBlock = some k → k < w8.heap.size := (HSD.out.kept HK78.out fun k hk e => by have := HND.out k hk; omega).row_lt
  have hte := HN.out.termE_ HOK.out.1 HTI.out
  have hok9 : LogOk x.commit tx es' := by rw [HES.out]; exact HOK.out.1.drop HTI.out hte.1 (by have := hte.2.2.2.2; omega)
  obtain ⟨G9, h9, _, _⟩ := H4.out.reimg (y := { x with r := r', ix := x.commit, tm := tx, es := es', imv := .slice na L.length nc, mem := L, idv := .slice ua d.length uc }) hbx9 hk49 hlog (.inl rfl) (fun k hk => .inr (by have := hr' k hk; omega)) (fun e he => by rw [HES.out] at he; exact List.mem_of_mem_drop he) hok9 (fun e he => by rw [HES.out] at he; exact HOK.out.2.2 e (List.mem_of_mem_drop he)) (by show es'.length ≤ 1024; rw [HES.out, List.length_drop]; have := HLEN.out; omega)
   hsm9 (fun k hk => ⟨HNM7.out k hk, by have := HNM7.out k hk; have := HLL4.out.1; show k ≠ x.lg; omega, fun e => by have := hil k hk; have := hr' k e; omega⟩) hsd9 hdl (fun k hk => ⟨HND.out k hk, by have := HND.out k hk; have := HLL4.out.1; show k ≠ x.lg; omega, fun e => by have := hdl9 k hk; have := hr' k e; omega⟩) rfl rfl rfl rfl rfl rfl
  have H9 := hI h9
  clear hlog hr' hk9 hbx9 hk49 hpl4 hs78 hs47 hsm9 hsd9 hil hdl9 hok9 h9 hte HCU
  have n20 : w9.cell? ⟨p, 20, none⟩ = some (.int .u64 x.stable) := H9.out.cell 20 rfl
  have n19 : w9.cell? ⟨p, 19, none⟩ = some (.bool x.fresh) := H9.out.cell 19 rfl
  have f20 := H9.out.free 20
  have f19 := H9.out.free 19
  have hp9 : p < w9.heap.size := H9.out.plt
  by_cases h1 : x.stable < x.commit
  ·skip
   go_wp2_with fail
   have H10 := hI (((H9.out.set { x with r := r', ix := x.commit, tm := tx, es := es', imv := .slice na L.length nc, mem := L, idv := .slice ua d.length uc, fresh := true } 19 (.bool true) rfl rS).set { x with r := r', ix := x.commit, tm := tx, es := es', imv := .slice na L.length nc, mem := L, idv := .slice ua d.length uc, fresh := true, stable := x.commit } 20 (.int .u64 x.commit) rfl rS))
   have HA := hI (compact_law HG.out HN.out HOK.out.1 HNM.out.ixle (Int.le_refl _) HTI.out HLE.out HLM.out (r' := r') (.slice na L.length nc) (.slice ua d.length uc) true (x.commit))
   rw [← HES.out] at HA
   go_ret
   exact ⟨⟨_, rfl⟩, _, g, X, H10.out.to, HA.out.mono nL (by omega)⟩
  ·skip
   go_wp2_with fail
   have H10 := hI (((H9.out.set { x with r := r', ix := x.commit, tm := tx, es := es', imv := .slice na L.length nc, mem := L, idv := .slice ua d.length uc, fresh := true } 19 (.bool true) rfl rS).set { x with r := r', ix := x.commit, tm := tx, es := es', imv := .slice na L.length nc, mem := L, idv := .slice ua d.length uc, fresh := true, stable := x.stable } 20 (.int .u64 x.stable) rfl rS))
   have HA := hI (compact_law HG.out HN.out HOK.out.1 HNM.out.ixle (Int.le_refl _) HTI.out HLE.out HLM.out (r' := r') (.slice na L.length nc) (.slice ua d.length uc) true (x.stable))
   rw [← HES.out] at HA
   go_ret
   exact ⟨⟨_, rfl⟩, _, g, X, H10.out.to, HA.out.mono nL (by omega)⟩
end
end Go.Proofs.YtdjooojpcepleaaGreat

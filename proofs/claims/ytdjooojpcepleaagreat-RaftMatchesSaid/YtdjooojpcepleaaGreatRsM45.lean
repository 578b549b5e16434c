/- The law's do, ways 4. -/
import Derived.Test.YtdjooojpcepleaaGreatRsM35
import Derived.Deep.DeepCutAuto
import Derived.Deep.CutBlock

namespace Go.Proofs.YtdjooojpcepleaaGreat
open Go.RowKit
set_option maxRecDepth 100000 in
set_option maxHeartbeats 16000000 in
theorem do_4 (w : World) (M : Nat → Prop) (c : Cl) (h : ClAt w M c) (C0 : List Int) (g : Gh En) (n N : Nat) (hnN : N = n + 1) (ok : ClOk C0 g n c) (_ : N ≤ 1000) (hnet : c.net.length ≤ 200) (hout : ∀ i, i < c.s → (c.x i).out = []) (kind node draw : Int) (hd0 : 0 ≤ draw) (hd1 : draw ≤ 18446744073709551615) (_ : -9223372036854775808 ≤ node) (_ : node ≤ 9223372036854775807) (hL : ¬ c.net.length = 0) (hkk : kind = 4) :
  Calls Tryz.prog 9 #[.pointer (some ⟨c.wd, 0, none⟩), .agg #[.int .i64 kind, .int .i64 node, .int .u64 draw]] w (DoR C0 g N w M c) := by
 have hs1 := h.s1
 have hs7 := h.s7
 have HC0 : Hid (Cn w M c w M c) := hI (Cn.start h)
 have HKK := hI hkk
 clear hkk
 have HOK := hI ok
 have HOUT := hI hout
 have HNET := hI hnet
 have HN201 : Hid (c.net.length ≤ 201) := hI (by omega)
 have HHW := hI h.ids
 obtain ⟨nva, nvc, hnv, hnv2, hnv3, hnv4⟩ := h.net.form
 have HNV := hI hnv
 have HNV4 := hI hnv4
 obtain ⟨i, hi, ei⟩ : ∃ i : Nat, i < c.s ∧ wrap64 ((IntKind.u64.wrap node).tmod (c.s : Int)) = (i : Int) := by
  have hu : 0 ≤ IntKind.u64.wrap node := by simp [IntKind.wrap, IntKind.signed, IntKind.bits]; omega
  have h1 : (IntKind.u64.wrap node).tmod (c.s : Int) = (IntKind.u64.wrap node) % (c.s : Int) := Int.tmod_eq_emod_of_nonneg hu
  have h2 := Int.emod_nonneg (IntKind.u64.wrap node) (show (c.s : Int) ≠ 0 by omega)
  have h3 := Int.emod_lt_of_pos (IntKind.u64.wrap node) (show (0 : Int) < (c.s : Int) by omega)
  refine ⟨((IntKind.u64.wrap node) % (c.s : Int)).toNat, by omega, ?_⟩
  rw [h1, IntWalk.wrap64_in _ (by omega)]
  omega
 have zi : (i : Int) < (c.s : Int) := by omega
 have zi0 : (0 : Int) ≤ (i : Int) := by omega
 have zs : ¬ ((c.s : Int) = 0) := by omega
 obtain ⟨Wm, hX⟩ : ∃ Wm, Wm = w.alloc (.cells #[.int .i64 kind, .int .i64 node, .int .u64 draw] 28) := ⟨_, rfl⟩
 have hbX : Below w.heap.size w Wm := by rw [hX]; exact bR.alloc nL _
 have HXX : Hid (Wm.heap[w.heap.size]? = some (.cells #[.int .i64 kind, .int .i64 node, .int .u64 draw] 28 (0, 0))) := hI (by rw [hX]; exact bW w _)
 have HCX := hI (HC0.out.below hbX)
 unfold maxLen at hnv3
 have HNN := hI hnN
 have HLE : Hid (n ≤ N) := hI (by omega)
 clear h ok hout hnet hbX hnv4 hnN
 go_enter Tryz.func9, Tryz.ntmps9
 go_wp2_with fail
 rw [← hX]
 clear hX
 have k1 : Wm.cell? ⟨w.heap.size, 1, none⟩ = some (.int .i64 node) := bC HXX.out 1 rfl
 have d0 : Wm.cell? ⟨c.wd, 0, none⟩ = some (.slice (some ⟨c.nb, 0, none⟩) c.s c.ncap) := HCX.out.d0
 go_quiet (fail)
 rw [ei]
 clear ei
 have HC1 := hI (HCX.out.below (belowDN (Below.refl _ Wm) nq))
 have HX1 : Hid ((Wm.drewN nq).heap[w.heap.size]? = some (.cells #[.int .i64 kind, .int .i64 node, .int .u64 draw] 28 (0, 0))) := hI HXX.out
 generalize Wm.drewN nq = w1 at *
 clear k1 d0
 have d0 : w1.cell? ⟨c.wd, 0, none⟩ = some (.slice (some ⟨c.nb, 0, none⟩) c.s c.ncap) := HC1.out.d0
 have d2 : w1.cell? ⟨c.wd, 2, none⟩ = some (.slice nva c.net.length nvc) := by rw [← hnv]; exact HC1.out.d2
 have m0 : w1.cell? ⟨c.nb, i, none⟩ = some (.pointer (some ⟨c.P i, 0, none⟩)) := HC1.out.dn hi
 have zL : (0 : Int) < (c.net.length : Int) := by omega
 obtain ⟨ad, had⟩ : ∃ ad, nva = some ad := by
  cases hq : nva with
  | none => have := (HNV4.out hq).1; omega
  | some ad => exact ⟨ad, rfl⟩
 obtain ⟨gb, off, hgo⟩ : ∃ gb off, ad = ⟨gb, off, none⟩ := by
  obtain ⟨_, ⟨h1, _⟩ | ⟨g', off', cap', cur, h1, _⟩⟩ := HC0.out.at_.net
  ·rw [HNV.out, had] at h1; cases h1
  ·rw [HNV.out, had] at h1
   injection h1 with h1
   injection h1 with h1
   exact ⟨g', off', h1⟩
 subst had hgo
 obtain ⟨a, ha, ea⟩ : ∃ a : Nat, a < c.net.length ∧ wrap64 (draw % (c.net.length : Int)) = (a : Int) := by
  have h2 := Int.emod_nonneg draw (show (c.net.length : Int) ≠ 0 by omega)
  have h3 := Int.emod_lt_of_pos draw (show (0 : Int) < (c.net.length : Int) by omega)
  refine ⟨(draw % (c.net.length : Int)).toNat, by omega, ?_⟩
  rw [IntWalk.wrap64_in _ (by have := HNET.out; omega)]
  omega
 have za : (a : Int) < (c.net.length : Int) := by omega
 have za0 : (0 : Int) ≤ (a : Int) := by omega
 have k2 : w1.cell? ⟨w.heap.size, 2, none⟩ = some (.int .u64 draw) := bC HX1.out 2 rfl
 have zL2 : ¬ (c.net.length : Int) = 0 := by omega
 go_wp2_with fail
 go_quiet (fail)
 rw [ea]
 clear ea
 have HC2 := hI (HC1.out.below (belowDN (Below.refl _ w1) nq))
 have HX2 : Hid ((w1.drewN nq).heap[w.heap.size]? = some (.cells #[.int .i64 kind, .int .i64 node, .int .u64 draw] 28 (0, 0))) := hI HX1.out
 generalize w1.drewN nq = w2 at *
 clear d0 d2 k2 m0
 have d2 : w2.cell? ⟨c.wd, 2, none⟩ = some (.slice (some ⟨gb, off, none⟩) c.net.length nvc) := by rw [← hnv]; exact HC2.out.d2
 have d0 : w2.cell? ⟨c.wd, 0, none⟩ = some (.slice (some ⟨c.nb, 0, none⟩) c.s c.ncap) := HC2.out.d0
 go_upto_block 0 with (fail)
 go_cut [4, 6] (fun s4 s6 wx => MidR C0 g N w M c wx)
 case first =>
  have k0 : w2.cell? ⟨w.heap.size, 0, none⟩ = some (.int .i64 kind) := bC HX2.out 0 rfl
  have hkk := HKK.out
  clear HKK
  rcases hkk with rfl
  ·skip
   obtain ⟨a1, ha1⟩ : ∃ a1, a1 = a + 1 := ⟨_, rfl⟩
   have HA1 := hI ha1
   obtain ⟨o2, ho2⟩ : ∃ o2, o2 = if nvc = a1 then off else off + a1 * 11 := ⟨_, rfl⟩
   have HO2 := hI ho2
   have hif : (if nvc = a1 then (some ⟨gb, off, none⟩ : Option Addr) else some ⟨gb, off + a1 * 11, none⟩) = some ⟨gb, o2, none⟩ := by rw [ho2]; split <;> rfl
   have HCUT : Hid ((c.net.take a ++ c.net.drop (a + 1)).length ≤ 201) := hI (by have := HNET.out; rw [List.length_append, List.length_take, List.length_drop]; omega)
   have HCD := hI (HC2.out.below (bD (Below.refl _ w2)))
   obtain ⟨i0, hii, hz0, hz1, hz2⟩ := info_parts info_msg
   have how : (w2.alloc (.cells #[] 54)).drew.ownsRow 0 54 11 (.slice (some ⟨w2.heap.size, 0, none⟩) 0 0) 0 [] := World.ownsRow_made w2.drew #[] 0 (Nat.zero_le _) (Nat.zero_le _) rfl
   have HOW := hI (RowO.of how)
   have hba : Below w2.drew.heap.size w2.drew (w2.drew.alloc (.cells #[] 54)) := bR.alloc nL _
   have HCA : Hid (Cn w M c (w2.alloc (.cells #[] 54)).drew M c) := hI (HCD.out.below hba)
   have hll := HNET.out
   have hal : a1 = a + 1 := HA1.out
   have HSA : Hid (SrcO (w2.alloc (.cells #[] 54)).drew 11 (.slice (some ⟨gb, off, none⟩) a nvc) a (flatM (c.net.take a))) := hI (by have := HCA.out.at_.net.part HCA.out.at_.msgs HNV.out 0 a (by omega) nvc off (by omega); simpa using this)
   have ew : IntKind.i64.wrap ((a : Int) + 1) = (a1 : Int) := by rw [show (a : Int) + 1 = (a1 : Int) by omega]; exact IntWalk.i64_in _ (by omega)
   have zc1 : (a : Int) ≤ (nvc : Int) := by omega
   have zc2 : (a1 : Int) ≤ (c.net.length : Int) := by omega
   have zc3 : (a1 : Int) ≤ (nvc : Int) := by omega
   have zc4 : (a : Int) ≤ (a1 : Int) := by omega
   have zc5 : (0 : Int) ≤ (a1 : Int) := by omega
   have f2 := HC2.out.f2
   have hwl := HC2.out.wdl
   have HM0 := hI (show 0 + a ≤ maxLen by unfold maxLen; omega)
   have HM1 := hI (show (0 + a) * 136 ≤ 140737488355328 by omega)
   have HM2 := hI (show a + (c.net.length - a1) ≤ maxLen by unfold maxLen; omega)
   have HM3 := hI (show (a + (c.net.length - a1)) * 136 ≤ 140737488355328 by omega)
   have HLS : Hid ((c.net.length - a1) = (c.net.drop (a + 1)).length) := hI (by rw [List.length_drop, hal])
   have HAL : Hid (a < c.net.length) := hI ha
   have HSB : Hid (∀ W, Below w2.heap.size w2.drew W → SrcO W 11 (.slice (some ⟨gb, o2, none⟩) (c.net.length - a1) (nvc - a1)) (c.net.length - a1) (flatM (c.net.drop (a + 1)))) := hI (fun W hW => by
     have hCW := HCD.out.below hW
     rw [ho2]
     by_cases hcap : nvc = a1
     · exact src_zero (by omega) (by rw [List.drop_eq_nil_of_le (by omega)]; rfl)
     · rw [if_neg hcap]
       have := hCW.at_.net.part hCW.at_.msgs HNV.out a1 (c.net.length - a1) (by omega) (nvc - a1) (off + a1 * 11) rfl
       rw [List.take_of_length_le (by rw [List.length_drop]; exact Nat.le_refl _)] at this
       rwa [hal] at this ⊢)
   clear how hba hal hll ha1 ho2
   go_wp2_with fail
   go_region_law (first
     | (refine step_append_O _ (by rfl) _ _ _ (by rfl) 54 i0 _ 11 136 Tryz.underlying32 hii hz0 hz1 hz2 rfl (by omega) (.slice (some ⟨w2.heap.size, 0, none⟩) 0 0) 0 [] (by rfl) HOW.out (.slice (some ⟨gb, off, none⟩) a nvc) a (flatM (c.net.take a)) (by rfl) HSA.out
         HM0.out HM1.out (w2.heap.size + 1) (by simp) ?_; intro va cp w4 hro hg4 hat4; have hro' : RowO w4 54 11 (.slice va a cp) a (flatM (c.net.take a)) := (by simpa using hro); rw [Nat.zero_add] at hat4; have HRO := hI hro'; have HAT := hI hat4; have hb4 : Below w2.heap.size w2.drew w4 := (((Keeps.refl (fun k => w2.heap.size ≤ k) w2.drew).alloc _).trans (gK hg4 fun k hk => (by simp [Value.ownBlock] at hk; omega))).below nL fun k hk => hk; have HB4 := hI hb4; have HC4 := hI (HCD.out.below hb4); have d2 : w4.cell? ⟨c.wd, 2, none⟩ = some (.slice (some ⟨gb, off, none⟩) c.net.length nvc) := (by rw [← HNV.out]; exact HC4.out.d2); have f2 := HC4.out.f2; have hwl := HC4.out.wdl; clear hro hro' hg4 hat4 hb4)
     | (refine step_append_O _ (by rfl) _ _ _ (by rfl) 54 i0 _ 11 136 Tryz.underlying32 hii hz0 hz1 hz2 rfl (by omega) (.slice va a cp) a (flatM (c.net.take a)) (by rfl) HRO.out (.slice (some ⟨gb, o2, none⟩) (c.net.length - a1) (nvc - a1)) (c.net.length - a1) (flatM (c.net.drop (a + 1))) (by rfl) (HSB.out w4 HB4.out)
         HM2.out HM3.out w4.heap.size rfl ?_; intro vb cq w6 hro hg6 hat6; have HRO6 := hI hro; have HAT6 := hI hat6; have hk6 : Keeps (fun k => w2.heap.size ≤ k) w4 w6 := gK hg6 (fun k hk => ((HAT.out k hk.symm).elim (fun e => (by simp [Value.ownBlock] at e; omega)) (fun e => (by omega)))); have hb6 : Below w2.heap.size w2.drew w6 := HB4.out.trans (hk6.below HB4.out.size fun k hk => hk); have HB6 := hI hb6; have HC6 := hI (HCD.out.below hb6); have d2 : w6.cell? ⟨c.wd, 2, none⟩ = some (.slice (some ⟨gb, off, none⟩) c.net.length nvc) := (by rw [← HNV.out]; exact HC6.out.d2); have f2 := HC6.out.f2; have hwl := HC6.out.wdl; clear hro hg6 hat6 hk6 hb6))
   all_goals
    clear ew hif
    have hrow6 : RowO w6 54 11 (.slice vb (a + (c.net.length - a1)) cq) (c.net.take a ++ c.net.drop (a + 1)).length (flatM (c.net.take a ++ c.net.drop (a + 1))) := by
     rw [List.length_append, flatM_app, List.length_take, Nat.min_eq_left (Nat.le_of_lt HAL.out), ← HLS.out]; exact HRO6.out
    obtain ⟨M7, hC7⟩ := HCD.out.setNet (w2 := w6) (nv := .slice vb (a + (c.net.length - a1)) cq) (net := (c.net.take a ++ c.net.drop (a + 1))) (Keeps.of_belowS HB6.out) hrow6 (fun k hk => .inr (by
      rcases HAT6.out k hk with e | e
      · rcases HAT.out k e with e | e
        · simp [Value.ownBlock] at e; show w2.heap.size ≤ k; omega
        · show w2.heap.size ≤ k; omega
      · have := HB4.out.size; exact Nat.le_trans this e)) (fun m hm => by
      rcases List.mem_append.1 hm with hm | hm
      · exact HCD.out.at_.msgs m (List.mem_of_mem_take hm)
      · exact HCD.out.at_.msgs m (List.mem_of_mem_drop hm))
    have HCN := hI hC7
    clear hrow6 hC7
    go_wp2_with fail
    go_meet
    exact mid_none HCN.out (HOK.out.cut a _) HLE.out HCUT.out HOUT.out
 case rest =>
  try clear d0
  try clear d2
  obtain ⟨M2, c2, g2, hC2, ok2, hgr, hnet2, hout2⟩ := hcut
  have HC2 := hI hC2
  have HGR := hI hgr
  have HLR : Hid (LoopR C0 g2 N w M c 0 wc) := hI ⟨M2, c2, hC2, ok2, by omega, fun i hi => by omega, hout2⟩
  have d0 : wc.cell? ⟨c.wd, 0, none⟩ = some (.slice (some ⟨c.nb, 0, none⟩) c.s c2.ncap) := hC2.d0
  clear hC2 ok2 hgr hnet2 hout2
  go_wp2_with fail
  go_loopw [229] (fun iv wr => ∃ k : Nat, iv = .int .i64 k ∧ k ≤ c.s ∧ Hid (LoopR C0 g2 N w M c k wr)) (fun iv _ => c.s - (intOf iv).toNat)
  case atStart => exact ⟨0, rfl, Nat.zero_le _, HLR⟩
  case round =>
   obtain ⟨k, rfl, hk, HLK⟩ := hrel
   clear HLR d0
   by_cases hlt : k < c.s
   ·obtain ⟨M3, c3, hC3, ok3, hn3, hz3, ho3⟩ := HLK.out
    have hi3 : k < c3.s := by rw [hC3.same.s]; exact hlt
    have HC3 := hI hC3
    have HO3 := hI ok3
    have HN3 := hI hn3
    have HZ3 := hI hz3
    have HQ3 := hI ho3
    have HI3 := hI hi3
    have zk : (k : Int) < (c.s : Int) := by omega
    have m3 : wr.cell? ⟨c.nb, k, none⟩ = some (.pointer (some ⟨c3.P k, 0, none⟩)) := hC3.dn hlt
    have HSV := hI (saved_node wr M3 (c3.F k) (c3.P k) (c3.x k) (hC3.at_.node k hi3) hC3.at_.lt)
    clear hC3 ok3 hn3 hz3 ho3 hi3 HLK
    go_wp2_with fail
    refine HSV.out.mono ?_
    rintro en w4 ⟨rfl, hn4⟩
    obtain ⟨M4, G4, hC4⟩ := HC3.out.at_.act HI3.out (y := { c3.x k with hard := false, fresh := false, stable := (c3.x k).ix + (c3.x k).es.length }) rfl hn4
    obtain ⟨c4, hc4⟩ : ∃ c4, c4 = c3.setNode k G4 { c3.x k with hard := false, fresh := false, stable := (c3.x k).ix + (c3.x k).es.length } := ⟨_, rfl⟩
    rw [← hc4] at hC4
    have HC4 := hI (HC3.out.trans hC4)
    obtain ⟨X, hX⟩ := HO3.out.node k HI3.out
    have hA4 : Acts C0 g2 N 0 (c3.x k) g2 { c3.x k with hard := false, fresh := false, stable := (c3.x k).ix + (c3.x k).es.length } X := Acts.own HO3.out.gok ⟨hX.ni, hX.i7, hX.t0, hX.tn, hX.c0, hX.len, hX.memb, hX.v0, hX.v7, hX.nx, hX.el⟩ rfl ⟨rfl, rfl, rfl, rfl⟩
    have HO4 : Hid (ClOk C0 g2 N c4) := hI (by rw [hc4]; exact HO3.out.act HC3.out.at_.ids HI3.out nL hA4)
    have HS4 : Hid (c4.s = c3.s ∧ c4.net = c3.net ∧ c4.P = c3.P ∧ ∀ j, (c4.x j).out = (c3.x j).out) := hI (by rw [hc4]; exact ⟨rfl, rfl, rfl, fun j => by show (if j = k then _ else c3.x j).out = _; split <;> first | rfl | (rename_i e; rw [e])⟩)
    have HI4 : Hid (k < c4.s) := hI (by rw [HS4.out.1]; exact HI3.out)
    have HP4 : Hid (c4.P k = c3.P k) := hI (by rw [HS4.out.2.2.1])
    have HE4 := hI (show c4.net.length = c3.net.length by rw [HS4.out.2.1])
    obtain ⟨va4, vc4, hv4, hv42, hv43, _⟩ := HC4.out.at_.net.form
    have HV4 := hI hv4
    have e2 : w4.cell? ⟨c.wd, 2, none⟩ = some (.slice va4 c4.net.length vc4) := by rw [← hv4]; exact HC4.out.d2
    have e2d : w4.drew.cell? ⟨c.wd, 2, none⟩ = some (.slice va4 c4.net.length vc4) := e2
    have HOU := hI (out_node w4.drew M4 (c4.F k) (c4.P k) (c4.x k) ((HC4.out.below (bD bR)).at_.node k HI4.out) (HC4.out.below (bD bR)).at_.lt)
    have HCD := hI (HC4.out.below (bD bR))
    obtain ⟨S4, hn4'⟩ := HC4.out.at_.node k HI4.out
    obtain ⟨oa, oc, hov⟩ := own_form hn4'.out.1
    have HOM := hI ((hn4'.out.2.2))
    rw [HP4.out] at HOU
    have HOV := hI hov
    clear m3 HSV hn4 hc4 hC4 hX hA4 hv4 hn4' hov
    obtain ⟨i0, hii, hz0, hz1, hz2⟩ := info_parts info_msg
    have HM0 := hI (show c4.net.length + (c4.x k).out.length ≤ maxLen by have h1 := HN3.out; have h2 := HE4.out; have h3 := HQ3.out k hlt; have h4 := HS4.out.2.2.2 k; unfold maxLen; rw [h4]; omega)
    have HM1 := hI (show (c4.net.length + (c4.x k).out.length) * 136 ≤ 140737488355328 by have h1 := HN3.out; have h2 := HE4.out; have h3 := HQ3.out k hlt; have h4 := HS4.out.2.2.2 k; rw [h4]; omega)
    go_wp2_with fail
    go_region_law (first
      | (go_simp; go_at_call 15; refine HOU.out.mono ?_; rintro en w5 ⟨hen, hn5, hrow5, _, hf5⟩; rw [HOV.out] at hen hrow5; subst hen; rw [← HP4.out] at hn5; obtain ⟨M5, G5, hC5⟩ := HCD.out.at_.act HI4.out (y := { c4.x k with ov := .slice none 0 0, out := [] }) rfl hn5; have HC5 := hI (HCD.out.trans hC5); have HX5 := hI hC5; have HR5 := hI hrow5; have e2 : w5.cell? ⟨c.wd, 2, none⟩ = some (.slice va4 c4.net.length vc4) := (by rw [← HV4.out]; exact HC5.out.d2); have hzz : w4.heap.size ≤ w5.heap.size := hC5.keeps.size; clear hn5 hrow5 hC5)
      | (refine step_append_O _ (by rfl) _ _ _ (by rfl) 54 i0 _ 11 136 Tryz.underlying32 hii hz0 hz1 hz2 rfl (by omega) (.slice va4 c4.net.length vc4) c4.net.length (flatM c4.net) (by rfl) (by rw [← HV4.out]; exact HC5.out.at_.net) (.slice oa (c4.x k).out.length oc) (c4.x k).out.length (flatM (c4.x k).out) (by rfl) (by exact src_own HR5.out fun m hm => (HOM.out m hm).mv_ (((belowDmv w4 M4).trans (HX5.out.mv HCD.out.at_))))
          HM0.out HM1.out w5.heap.size rfl ?_; intro vn cp w6 hro hg6 hat6; have HRO := hI hro; have HG6 := hI hg6; have HAT := hI hat6; have hk6 : Keeps (fun k => c4.nv.ownBlock = some k) w5 w6 := gK hg6 (fun k hk => (hk.trans (by rw [HV4.out])).symm); have e6 : w6.cell? ⟨c.wd, 2, none⟩ = some (.slice va4 c4.net.length vc4) := (by rw [World.cell?_of_block (hk6.block c.wd HC5.out.wdl (fun e => (HC4.out.at_.dn _ e).1 HC4.out.same.wd.symm))]; exact e2); have f6 : w6.frozen? ⟨c.wd, 2, none⟩ = false := (by rw [World.frozen?_of_block (hk6.block c.wd HC5.out.wdl (fun e => (HC4.out.at_.dn _ e).1 HC4.out.same.wd.symm))]; exact HC5.out.f2); have hl6 : c.wd < w6.heap.size := Nat.lt_of_lt_of_le HC5.out.wdl hk6.size; have HK6 := hI hk6; clear hro hg6 hat6 hk6))
    all_goals
     have hrow6 : RowO w6 54 11 (.slice vn (c4.net.length + (c4.x k).out.length) cp) (c4.net ++ (c4.x k).out).length (flatM (c4.net ++ (c4.x k).out)) := by
      rw [List.length_append, flatM_app]; exact HRO.out
     have HNXT := HC5.out.setNet (nv := .slice vn (c4.net.length + (c4.x k).out.length) cp) (net := c4.net ++ (c4.x k).out) HK6.out hrow6 (fun q hq => (HAT.out q hq).imp (fun e => by show c4.nv.ownBlock = some q; rw [HV4.out]; exact e) id) (fun m hm => by
       rcases List.mem_append.1 hm with hm | hm
       · exact HC5.out.at_.msgs m hm
       · exact (HOM.out m hm).mv_ ((belowDmv w4 M4).trans (HX5.out.mv HCD.out.at_)))
     obtain ⟨M7, hC7⟩ := HNXT
     have HC7 := hI hC7
     clear hC7 hrow6
     go_wp2_with fail
     go_roundw
     case rel =>
      refine ⟨k + 1, by go_num, by omega, hI ⟨M7, _, HC7.out, ⟨HO4.out.gok, fun j hj => ?_, fun m hm => ?_, fun j hj m hm => ?_⟩, ?_, fun j hj => ?_, fun j hj => ?_⟩⟩
      ·show ∃ X, OkN C0 g2 N (if j = k then _ else c4.x j) X
       by_cases e : j = k
       ·rw [if_pos e]
        obtain ⟨X, hX⟩ := HO4.out.node k HI4.out
        exact ⟨X, hX.outs (c4.x k).since (.slice none 0 0) []⟩
       ·rw [if_neg e]; exact HO4.out.node j hj
      ·rcases List.mem_append.1 hm with hm | hm
       ·exact HO4.out.net m hm
       ·exact HO4.out.outs k HI4.out m hm
      ·have hm' : m ∈ (if j = k then { c4.x k with ov := .slice none 0 0, out := [] } else c4.x j).out := hm
       by_cases e : j = k
       ·rw [if_pos e] at hm'; cases hm'
       ·rw [if_neg e] at hm'; exact HO4.out.outs j hj m hm'
      ·have h1 := HN3.out
       have h2 := HE4.out
       have h3 := HQ3.out k hlt
       have h4 := HS4.out.2.2.2 k
       show (c4.net ++ (c4.x k).out).length ≤ _
       rw [List.length_append, h4]; omega
      ·show (if j = k then { c4.x k with ov := .slice none 0 0, out := [] } else c4.x j).out = []
       by_cases e : j = k
       ·rw [if_pos e]
       ·rw [if_neg e, HS4.out.2.2.2 j]; exact HZ3.out j (by omega)
      ·show (if j = k then { c4.x k with ov := .slice none 0 0, out := [] } else c4.x j).out.length ≤ 14
       by_cases e : j = k
       ·rw [if_pos e]; exact Nat.zero_le _
       ·rw [if_neg e, HS4.out.2.2.2 j]; exact HQ3.out j hj
     case measure => exact k_meas hlt
   ·obtain rfl : k = c.s := by omega
    obtain ⟨M3, c3, hC3, ok3, hn3, hz3, ho3⟩ := HLK.out
    have HC3 := hI hC3
    have HO3 := hI ok3
    have HZ3 := hI hz3
    have hrow3 := hC3.at_.net
    have HR3 := hI hrow3
    obtain ⟨va3, vc3, hv3, hv32, hv33, hv34⟩ := hC3.at_.net.form
    have HV3 := hI hv3
    unfold maxLen at hv33
    have hl3 : c3.net.length ≤ 299 := by omega
    have e2 : wr.cell? ⟨c.wd, 2, none⟩ = some (.slice va3 c3.net.length vc3) := by rw [← hv3]; exact hC3.d2
    have f2 := hC3.f2
    have hwl := hC3.wdl
    clear hC3 ok3 hn3 hz3 ho3 HLK hrow3 hlt hk
    by_cases h200 : 200 < c3.net.length
    ·obtain ⟨ad, had⟩ : ∃ ad, va3 = some ad := by
      cases va3 with
      | none => have := (hv34 rfl).1; omega
      | some ad => exact ⟨ad, rfl⟩
     obtain ⟨gb, off, hgo⟩ : ∃ gb off, ad = ⟨gb, off, none⟩ := by
      obtain ⟨_, ⟨h1, _⟩ | ⟨g', off', cap', cur, h1, _⟩⟩ := HR3.out
      ·rw [HV3.out, had] at h1; cases h1
      ·rw [HV3.out, had] at h1
       injection h1 with h1
       injection h1 with h1
       exact ⟨g', off', h1⟩
     subst had hgo
     obtain ⟨q, hq⟩ : ∃ q : Nat, q = c3.net.length - 200 := ⟨_, rfl⟩
     have hql : c3.net.length = q + 200 := by omega
     have eq1 : wrap64 ((c3.net.length : Int) - 200) = (q : Int) := by rw [show (c3.net.length : Int) - 200 = (q : Int) by omega]; exact IntWalk.wrap64_in _ (by omega)
     have zq : (0 : Int) < (q : Int) := by omega
     have zq1 : (q : Int) ≤ (c3.net.length : Int) := by omega
     have zq2 : (q : Int) ≤ (vc3 : Int) := by omega
     have zq3 : ¬ vc3 = q := by omega
     have zq4 : ¬ (vc3 : Int) = (q : Int) := by omega
     have HQL := hI hql
     clear hql hq hv34
     go_wp2_with fail
     go_region
     refine bodyPost_end (results_none rfl _ _ _) rfl ⟨rfl, ?_⟩
     have hrow : RowO wr 54 11 (.slice (some ⟨gb, off + (c3.net.length - 200) * 11, none⟩) (c3.net.length - (c3.net.length - 200)) (vc3 - (c3.net.length - 200))) (c3.net.drop (c3.net.length - 200)).length (flatM (c3.net.drop (c3.net.length - 200))) := by
      have h1 := HR3.out
      rw [HV3.out] at h1
      rw [List.length_drop, ← flatM_drop]
      exact h1.drop (by omega) rfl
     obtain ⟨M9, h9⟩ := HC3.out.setNet (w2 := wr) (nv := .slice (some ⟨gb, off + (c3.net.length - 200) * 11, none⟩) (c3.net.length - (c3.net.length - 200)) (vc3 - (c3.net.length - 200))) (net := c3.net.drop (c3.net.length - 200)) (Keeps.refl _ _) hrow (fun k hk => .inl (by rw [HV3.out]; exact hk)) (fun m hm => HC3.out.at_.msgs m (List.mem_of_mem_drop hm))
     exact ⟨M9, _, g2, h9.below (bD bR), ⟨HO3.out.gok, HO3.out.node, fun m hm => HO3.out.net m (List.mem_of_mem_drop hm), HO3.out.outs⟩, HGR.out, by show (c3.net.drop _).length ≤ 200; rw [List.length_drop]; omega, HZ3.out⟩
    ·have eq1 : ¬ (0 : Int) < wrap64 ((c3.net.length : Int) - 200) := by rw [IntWalk.wrap64_in _ (by omega)]; omega
     clear hv34
     go_wp2_with fail
     go_region
     refine bodyPost_end (results_none rfl _ _ _) rfl ⟨rfl, ?_⟩
     obtain ⟨M9, h9⟩ := HC3.out.setNet (w2 := wr) (nv := .slice va3 c3.net.length vc3) (net := c3.net) (Keeps.refl _ _) (by rw [← HV3.out]; exact HR3.out) (fun k hk => .inl (by rw [HV3.out]; exact hk)) HC3.out.at_.msgs
     exact ⟨M9, _, g2, h9.below (bD bR), ⟨HO3.out.gok, HO3.out.node, HO3.out.net, HO3.out.outs⟩, HGR.out, by show c3.net.length ≤ 200; omega, HZ3.out⟩
end Go.Proofs.YtdjooojpcepleaaGreat

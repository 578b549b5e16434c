/- The law's do, ways N. -/
import Derived.Test.YtdjooojpcepleaaGreatRsM35
import Derived.Deep.DeepCutAuto
import Derived.Deep.CutBlock

namespace Go.Proofs.YtdjooojpcepleaaGreat
open Go.RowKit
set_option maxRecDepth 100000 in
set_option maxHeartbeats 16000000 in
theorem do_N (w : World) (M : Nat → Prop) (c : Cl) (h : ClAt w M c) (C0 : List Int) (g : Gh En) (n N : Nat) (hnN : N = n + 1) (ok : ClOk C0 g n c) (hN6 : N ≤ 1000) (hnet : c.net.length ≤ 200) (hout : ∀ i, i < c.s → (c.x i).out = []) (kind node draw : Int) (hd0 : 0 ≤ draw) (hd1 : draw ≤ 18446744073709551615) (_ : -9223372036854775808 ≤ node) (_ : node ≤ 9223372036854775807) (hL : c.net.length = 0) (hkk : kind = 0 ∨ (1 ≤ kind ∧ kind ≤ 3) ∨ kind = 4 ∨ kind = 5 ∨ kind = 6 ∨ kind = 7 ∨ kind = 8 ∨ kind = 9 ∨ kind < 0 ∨ 9 < kind) :
  Calls Tryz.prog 9 #[.pointer (some ⟨c.wd, 0, none⟩), .agg #[.int .i64 kind, .int .i64 node, .int .u64 draw]] w (DoR C0 g N w M c) := by
 have hs1 := h.s1
 have hs7 := h.s7
 have HC0 : Hid (Cn w M c w M c) := hI (Cn.start h)
 have HKK := hI hkk
 clear hkk
 have HOK := hI ok
 have HOUT := hI hout
 have HNET := hI hnet
 have HN201 : Hid (c.net.length ≤ 201) := hI (by omega)
 have HHW := hI h.ids
 obtain ⟨nva, nvc, hnv, hnv2, hnv3, hnv4⟩ := h.net.form
 have HNV := hI hnv
 have HNV4 := hI hnv4
 obtain ⟨i, hi, ei⟩ : ∃ i : Nat, i < c.s ∧ wrap64 ((IntKind.u64.wrap node).tmod (c.s : Int)) = (i : Int) := by
  have hu : 0 ≤ IntKind.u64.wrap node := by simp [IntKind.wrap, IntKind.signed, IntKind.bits]; omega
  have h1 : (IntKind.u64.wrap node).tmod (c.s : Int) = (IntKind.u64.wrap node) % (c.s : Int) := Int.tmod_eq_emod_of_nonneg hu
  have h2 := Int.emod_nonneg (IntKind.u64.wrap node) (show (c.s : Int) ≠ 0 by omega)
  have h3 := Int.emod_lt_of_pos (IntKind.u64.wrap node) (show (0 : Int) < (c.s : Int) by omega)
  refine ⟨((IntKind.u64.wrap node) % (c.s : Int)).toNat, by omega, ?_⟩
  rw [h1, IntWalk.wrap64_in _ (by omega)]
  omega
 have zi : (i : Int) < (c.s : Int) := by omega
 have zi0 : (0 : Int) ≤ (i : Int) := by omega
 have zs : ¬ ((c.s : Int) = 0) := by omega
 obtain ⟨Wm, hX⟩ : ∃ Wm, Wm = w.alloc (.cells #[.int .i64 kind, .int .i64 node, .int .u64 draw] 28) := ⟨_, rfl⟩
 have hbX : Below w.heap.size w Wm := by rw [hX]; exact bR.alloc nL _
 have HXX : Hid (Wm.heap[w.heap.size]? = some (.cells #[.int .i64 kind, .int .i64 node, .int .u64 draw] 28 (0, 0))) := hI (by rw [hX]; exact bW w _)
 have HCX := hI (HC0.out.below hbX)
 unfold maxLen at hnv3
 have HNN := hI hnN
 have HLE : Hid (n ≤ N) := hI (by omega)
 clear h ok hout hnet hbX hnv4 hnN
 go_enter Tryz.func9, Tryz.ntmps9
 go_wp2_with fail
 rw [← hX]
 clear hX
 have k1 : Wm.cell? ⟨w.heap.size, 1, none⟩ = some (.int .i64 node) := bC HXX.out 1 rfl
 have d0 : Wm.cell? ⟨c.wd, 0, none⟩ = some (.slice (some ⟨c.nb, 0, none⟩) c.s c.ncap) := HCX.out.d0
 go_quiet (fail)
 rw [ei]
 clear ei
 have HC1 := hI (HCX.out.below (belowDN (Below.refl _ Wm) nq))
 have HX1 : Hid ((Wm.drewN nq).heap[w.heap.size]? = some (.cells #[.int .i64 kind, .int .i64 node, .int .u64 draw] 28 (0, 0))) := hI HXX.out
 generalize Wm.drewN nq = w1 at *
 clear k1 d0
 have d0 : w1.cell? ⟨c.wd, 0, none⟩ = some (.slice (some ⟨c.nb, 0, none⟩) c.s c.ncap) := HC1.out.d0
 have d2 : w1.cell? ⟨c.wd, 2, none⟩ = some (.slice nva c.net.length nvc) := by rw [← hnv]; exact HC1.out.d2
 have m0 : w1.cell? ⟨c.nb, i, none⟩ = some (.pointer (some ⟨c.P i, 0, none⟩)) := HC1.out.dn hi
 have zL : ¬ (0 : Int) < (c.net.length : Int) := by omega
 go_upto_block 0 with (fail)
 go_cut [4, 6] (fun s4 s6 wx => MidR C0 g N w M c wx)
 case first =>
  have k0 : w1.cell? ⟨w.heap.size, 0, none⟩ = some (.int .i64 kind) := bC HX1.out 0 rfl
  have hkk := HKK.out
  clear HKK
  rcases hkk with rfl | ⟨hk1, hk3⟩ | rfl | rfl | rfl | rfl | rfl | rfl | hk | hk
  ·skip
   as_aux_lemma =>
    obtain ⟨X, hX0⟩ := HOK.out.node i hi
    have hX : OkN C0 g N (c.x i) X := hX0.mono HLE.out
    have hg : OkG C0 g N := HOK.out.gok.mono HLE.out
    have hXn : X.length + 1 ≤ N := by have := hX0.len; have := HNN.out; omega
    have htn : (c.x i).term + 1 ≤ N := by have := hX0.tn; have := HNN.out; omega
    have hol : (c.x i).out.length ≤ 800000 := by rw [HOUT.out i hi]; exact Nat.zero_le _
    have HXO := hI hX
    have HTK := hI (tick_node w1 M (c.F i) (c.P i) (c.x i) (HC1.out.at_.node i hi) HC1.out.at_.lt hol C0 g N X hg hX hN6 hXn htn draw hd0)
    have k2 : w1.cell? ⟨w.heap.size, 2, none⟩ = some (.int .u64 draw) := bC HX1.out 2 rfl
    clear hX0 hX hg hXn htn hol
    go_wp2_with fail
    refine HTK.out.mono ?_
    rintro en w4 ⟨rfl, ha⟩
    have HA := hI ha
    clear ha HTK
    go_wp2_with fail
    go_meet
    exact mid_act HC1.out HOK.out HLE.out HN201.out HOUT.out hi HA.out
  ·skip
   have q0 : (kind == 0) = false := by simp; omega
   have q4 : (kind == 4) = false := by simp; omega
   have q5 : (kind == 5) = false := by simp; omega
   have q6 : (kind == 6) = false := by simp; omega
   have q7 : (kind == 7) = false := by simp; omega
   have q8 : (kind == 8) = false := by simp; omega
   have q9 : (kind == 9) = false := by simp; omega
   have q10 : decide (kind ≤ 3) = true := by simpa using hk3
   have q11 : decide (0 < kind) = true := by simp; omega
   as_aux_lemma =>
    go_wp2_with fail
    go_meet
    exact mid_none HC1.out HOK.out HLE.out HN201.out HOUT.out
  ·skip
   as_aux_lemma =>
    go_wp2_with fail
    go_meet
    exact mid_none HC1.out HOK.out HLE.out HN201.out HOUT.out
  ·skip
   as_aux_lemma =>
    go_wp2_with fail
    go_meet
    exact mid_none HC1.out HOK.out HLE.out HN201.out HOUT.out
  ·skip
   as_aux_lemma =>
    obtain ⟨X, hX0⟩ := HOK.out.node i hi
    have hX : OkN C0 g N (c.x i) X := hX0.mono HLE.out
    have hg : OkG C0 g N := HOK.out.gok.mono HLE.out
    have hXn : X.length + 1 ≤ N := by have := hX0.len; have := HNN.out; omega
    have htn : (c.x i).term + 1 ≤ N := by have := hX0.tn; have := HNN.out; omega
    have hol : (c.x i).out.length ≤ 800000 := by rw [HOUT.out i hi]; exact Nat.zero_le _
    have HXO := hI hX
    have HPR : Hid (∀ W', Below w1.heap.size w1 W' → ∀ (dv : Value) (d : List UInt8), SlW u8v W' dv d → d.length ≤ 900 → Calls Tryz.prog 18 #[.pointer (some ⟨c.P i, 0, none⟩), dv] W' (PropTo C0 g N W' M (c.F i) (c.P i) (c.x i))) := hI fun W' hW' dv d hd hdl => propose_node W' M (c.F i) (c.P i) (c.x i) ((HC1.out.below hW').at_.node i hi) (HC1.out.below hW').at_.lt hol C0 g N X hg hX hN6 hXn dv d hd hdl
    have k2 : w1.cell? ⟨w.heap.size, 2, none⟩ = some (.int .u64 draw) := bC HX1.out 2 rfl
    clear hX0 hX hg hXn htn hol
    go_wp2_with fail
    have hbl := Below.refl w1.heap.size w1
    have hsl : Sl u8v (w1.alloc (.cells #[.int .u8 (draw % 256), .int .u8 (draw / 256 % 256)] 5)) (.slice (some ⟨w1.heap.size, 0, none⟩) 2 2) [UInt8.ofNat (draw % 256).toNat, UInt8.ofNat (draw / 256 % 256).toNat] := by
     refine ⟨_, _, rfl, Nat.le_refl _, by unfold maxLen; omega, .inr ⟨_, 0, rfl, by simp, fun j u hj => ?_⟩⟩
     refine bC (bW _ _) _ ?_
     rw [Nat.zero_add]
     match j, hj with
     | 0, hj => simp at hj; subst hj; simp only [List.getElem?_toArray]; rw [← u8_value _ (by omega) (by omega)]; rfl
     | 1, hj => simp at hj; subst hj; simp only [List.getElem?_toArray]; rw [← u8_value _ (by omega) (by omega)]; rfl
     | k + 2, hj => simp at hj
    have HPP := hI (HPR.out _ ((Below.refl _ w1).alloc nL _) _ _ (.inl hsl) (by simp))
    have HB4 : Hid (Below w1.heap.size w1 (w1.alloc (.cells #[.int .u8 (draw % 256), .int .u8 (draw / 256 % 256)] 5))) := hI ((Below.refl _ w1).alloc nL _)
    clear hsl hbl
    refine HPP.out.mono ?_
    rintro en w5 ⟨⟨r1, r2, rfl⟩, ha⟩
    have HA := hI ha
    clear ha HPP
    go_wp2_with fail
    go_meet
    exact mid_act (HC1.out.below HB4.out) HOK.out HLE.out HN201.out HOUT.out hi HA.out
  ·skip
   as_aux_lemma =>
    obtain ⟨X, hX0⟩ := HOK.out.node i hi
    have hX : OkN C0 g N (c.x i) X := hX0.mono HLE.out
    have hg : OkG C0 g N := HOK.out.gok.mono HLE.out
    have hXn : X.length + 1 ≤ N := by have := hX0.len; have := HNN.out; omega
    have htn : (c.x i).term + 1 ≤ N := by have := hX0.tn; have := HNN.out; omega
    have hol : (c.x i).out.length ≤ 800000 := by rw [HOUT.out i hi]; exact Nat.zero_le _
    have HXO := hI hX
    have HCH : Hid (∀ W', Below w1.heap.size w1 W' → ∀ (a : Option Addr) (cap : Nat) (l : List Int), Sl intv W' (.slice a l.length cap) l → Calls Tryz.prog 23 #[.pointer (some ⟨c.P i, 0, none⟩), .slice a l.length cap] W' (PropTo C0 g N W' M (c.F i) (c.P i) (c.x i))) := hI fun W' hW' a cap l hl => change_node W' M (c.F i) (c.P i) (c.x i) ((HC1.out.below hW').at_.node i hi) (HC1.out.below hW').at_.lt hol C0 g N X hg hX hN6 hXn a cap l hl
    have k2 : w1.cell? ⟨w.heap.size, 2, none⟩ = some (.int .u64 draw) := bC HX1.out 2 rfl
    have HBI := hI (bits_any w1 draw hd0 hd1)
    clear hX0 hX hg hXn htn hol
    go_wp2_with fail
    refine HBI.out.mono ?_
    rintro en w4 ⟨ba, bc, bl, rfl, hb4, hs4⟩
    have HB4 := hI hb4
    have HS4 := hI hs4
    have HCC := hI (HCH.out w4 hb4 ba bc bl hs4)
    clear hb4 hs4 HBI
    go_wp2_with fail
    refine HCC.out.mono ?_
    rintro en w5 ⟨⟨r1, r2, rfl⟩, ha⟩
    have HA := hI ha
    clear ha HCC
    go_wp2_with fail
    go_meet
    exact mid_act (HC1.out.below HB4.out) HOK.out HLE.out HN201.out HOUT.out hi HA.out
  ·skip
   as_aux_lemma =>
    obtain ⟨X, hX0⟩ := HOK.out.node i hi
    have hX : OkN C0 g N (c.x i) X := hX0.mono HLE.out
    have hg : OkG C0 g N := HOK.out.gok.mono HLE.out
    have hXn : X.length + 1 ≤ N := by have := hX0.len; have := HNN.out; omega
    have htn : (c.x i).term + 1 ≤ N := by have := hX0.tn; have := HNN.out; omega
    have hol : (c.x i).out.length ≤ 800000 := by rw [HOUT.out i hi]; exact Nat.zero_le _
    have HXO := hI hX
    have HCP : Hid (∀ W', Below w1.heap.size w1 W' → ∀ (a : Option Addr) (cap : Nat) (d : List UInt8), Sl u8v W' (.slice a d.length cap) d → d.length ≤ 1000 → Calls Tryz.prog 25 #[.pointer (some ⟨c.P i, 0, none⟩), .int .u64 (c.x i).commit, .slice a d.length cap] W' (CompTo C0 g N W' M (c.F i) (c.P i) (c.x i))) := hI fun W' hW' a cap d hd hdl => compact_node W' M (c.F i) (c.P i) (c.x i) ((HC1.out.below hW').at_.node i hi) (HC1.out.below hW').at_.lt C0 g N X hg hX hN6 a cap d hd hdl
    have HCO := hI (commit_node w1 M (c.F i) (c.P i) (c.x i) (HC1.out.at_.node i hi))
    have hcm0 := hX.c0
    clear hX0 hX hg hXn htn hol
    go_wp2_with fail
    refine HCO.out.mono ?_
    rintro en w4 ⟨rfl, rfl⟩
    go_wp2_with fail
    refine HCO.out.mono ?_
    rintro en w4 ⟨rfl, rfl⟩
    go_wp2_with fail
    have hsl : Sl u8v (w1.alloc (.cells #[.int .u8 ((c.x i).commit % 256)] 5)) (.slice (some ⟨w1.heap.size, 0, none⟩) 1 1) [UInt8.ofNat ((c.x i).commit % 256).toNat] := by
     refine ⟨_, _, rfl, Nat.le_refl _, by unfold maxLen; omega, .inr ⟨_, 0, rfl, by simp, fun j u hj => ?_⟩⟩
     refine bC (bW _ _) _ ?_
     rw [Nat.zero_add]
     match j, hj with
     | 0, hj => simp at hj; subst hj; simp only [List.getElem?_toArray]; rw [← u8_value _ (by omega) (by omega)]; rfl
     | k + 1, hj => simp at hj
    have HPP := hI (HCP.out _ ((Below.refl _ w1).alloc nL _) (some ⟨w1.heap.size, 0, none⟩) 1 [UInt8.ofNat ((c.x i).commit % 256).toNat] hsl (by simp))
    have HB4 : Hid (Below w1.heap.size w1 (w1.alloc (.cells #[.int .u8 ((c.x i).commit % 256)] 5))) := hI ((Below.refl _ w1).alloc nL _)
    clear hsl
    refine HPP.out.mono ?_
    rintro en w5 ⟨⟨r1, rfl⟩, ha⟩
    have HA := hI ha
    clear ha HPP
    go_wp2_with fail
    go_meet
    exact mid_act (HC1.out.below HB4.out) HOK.out HLE.out HN201.out HOUT.out hi HA.out
  ·skip
   as_aux_lemma =>
    obtain ⟨X, hX0⟩ := HOK.out.node i hi
    have hX : OkN C0 g N (c.x i) X := hX0.mono HLE.out
    have hg : OkG C0 g N := HOK.out.gok.mono HLE.out
    have hXn : X.length + 1 ≤ N := by have := hX0.len; have := HNN.out; omega
    have htn : (c.x i).term + 1 ≤ N := by have := hX0.tn; have := HNN.out; omega
    have hol : (c.x i).out.length ≤ 800000 := by rw [HOUT.out i hi]; exact Nat.zero_le _
    have HXO := hI hX
    have g0 : w1.cell? ⟨c.cb, i * 4, none⟩ = some (.int .i64 ((i : Int) + 1)) := HC1.out.dcfg hi 0 rfl
    have g1 : w1.cell? ⟨c.cb, i * 4 + 1, none⟩ = some (.slice c.ma c.s c.mcap) := HC1.out.dcfg hi 1 rfl
    have g2 : w1.cell? ⟨c.cb, i * 4 + 2, none⟩ = some (.int .i64 4) := HC1.out.dcfg hi 2 rfl
    have g3 : w1.cell? ⟨c.cb, i * 4 + 3, none⟩ = some (.int .i64 2) := HC1.out.dcfg hi 3 rfl
    have d1 : w1.cell? ⟨c.wd, 1, none⟩ = some (.slice (some ⟨c.cb, 0, none⟩) c.s c.ccap) := HC1.out.d1
    have hnd := HC1.out.at_.node i hi
    obtain ⟨S0, hn0⟩ := id hnd
    have hok0 := hn0.ok
    have hixn : (c.x i).ix + 1 ≤ 1000000 := by have h1 := (hX0.nums hok0).last; have h2 := hX0.len; have := HNN.out; omega
    have hml := (mL hX0.memb).2.1
    have HST := hI (state_node w1.drew M (c.F i) (c.P i) (c.x i) (hnd.below (bD bR)) hixn (by omega))
    have HX0 := hI hX0
    have HK0 := hI hok0
    have HD0 := hI hn0.dl
    have HL0 := hI hn0.len
    have HCW := hI (HC1.out.below (bD bR))
    have hms0 := memS_len c.s
    have zcb : c.s ≤ c.ccap := HC1.out.at_.nc.2.2.1
    clear hX0 hX hg hXn htn hol hnd hn0 hok0
    go_wp2_with fail
    go_region_held3 (fun w' => w'.cell? ⟨c.wd, 1, none⟩ = some (.slice (some ⟨c.cb, 0, none⟩) c.s c.ccap) ∧ w'.cell? ⟨c.cb, i * 4, none⟩ = some (.int .i64 ((i : Int) + 1)) ∧ w'.cell? ⟨c.cb, i * 4 + 1, none⟩ = some (.slice c.ma c.s c.mcap) ∧ w'.cell? ⟨c.cb, i * 4 + 2, none⟩ = some (.int .i64 4) ∧ w'.cell? ⟨c.cb, i * 4 + 3, none⟩ = some (.int .i64 2)) (first | exact ⟨d1, g0, g1, g2, g3⟩ | exact ⟨p1, pg0, pg1, pg2, pg3⟩ | exact ⟨q1, qg0, qg1, qg2, qg3⟩)
     (first
       | (go_at_call 10; refine HST.out.mono ?_; rintro en w4 ⟨na, nc, ea, ec, dd, va, l, vc, rfl, hb4, hdl4, hsm4, hsd4, _, _, hrn4, hpl4⟩; have HC4 := hI (HCW.out.below hb4); have hmem4 : Sl intv w4 (.slice c.ma (memS c.s).length c.mcap) (memS c.s) := (by rw [hms0]; exact HC4.out.at_.mem); have hnw := renew_node w4 M HC4.out.at_.lt HX0.out (Nat.le_trans HLE.out hN6) HK0.out HD0.out HL0.out ((i : Int) + 1) 4 2 c.ma c.mcap (memS c.s) hmem4 (memS_ok hs1 hs7) (by omega) (by omega) (by omega) (by omega) (by omega) (by omega) na nc hsm4 ea ec dd hsd4 hdl4 va vc l (hrn4.rowE (fun _ h => h.elim)) hpl4; rw [hms0] at hnw; have HNW := hI hnw; have HP4 := hI hpl4; have p1 : w4.cell? ⟨c.wd, 1, none⟩ = some (.slice (some ⟨c.cb, 0, none⟩) c.s c.ccap) := HC4.out.d1; have pg0 : w4.cell? ⟨c.cb, i * 4, none⟩ = some (.int .i64 ((i : Int) + 1)) := HC4.out.dcfg hi 0 rfl; have pg1 : w4.cell? ⟨c.cb, i * 4 + 1, none⟩ = some (.slice c.ma c.s c.mcap) := HC4.out.dcfg hi 1 rfl; have pg2 : w4.cell? ⟨c.cb, i * 4 + 2, none⟩ = some (.int .i64 4) := HC4.out.dcfg hi 2 rfl; have pg3 : w4.cell? ⟨c.cb, i * 4 + 3, none⟩ = some (.int .i64 2) := HC4.out.dcfg hi 3 rfl; clear hb4 hdl4 hsm4 hsd4 hrn4 hpl4 hmem4 hnw)
       | (go_at_call 22; refine HNW.out.mono ?_; rintro en w5 ⟨np, nF, ny, rfl, hb5, hna5, hnF5, y1, y2, y3, y4, y5, y6, y7, y8, y9, y10, y11, y12, y13, y14⟩; have HC5 := hI (HC4.out.below hb5); have HB5 := hI hb5; have HNA := hI hna5; have HNF := hI hnF5; have HY := hI (⟨y1, y2, y3, y4, y5, y6, y7, y8, y9, y10, y11, y12, y13, y14⟩ : _ ∧ _ ∧ _ ∧ _ ∧ _ ∧ _ ∧ _ ∧ _ ∧ _ ∧ _ ∧ _ ∧ _ ∧ _ ∧ _); have q1 : w5.cell? ⟨c.wd, 1, none⟩ = some (.slice (some ⟨c.cb, 0, none⟩) c.s c.ccap) := HC5.out.d1; have qg0 : w5.cell? ⟨c.cb, i * 4, none⟩ = some (.int .i64 ((i : Int) + 1)) := HC5.out.dcfg hi 0 rfl; have qg1 : w5.cell? ⟨c.cb, i * 4 + 1, none⟩ = some (.slice c.ma c.s c.mcap) := HC5.out.dcfg hi 1 rfl; have qg2 : w5.cell? ⟨c.cb, i * 4 + 2, none⟩ = some (.int .i64 4) := HC5.out.dcfg hi 2 rfl; have qg3 : w5.cell? ⟨c.cb, i * 4 + 3, none⟩ = some (.int .i64 2) := HC5.out.dcfg hi 3 rfl; clear hb5 hna5 hnF5 y1 y2 y3 y4 y5 y6 y7 y8 y9 y10 y11 y12 y13 y14))
    clear d1 g0 g1 g2 g3 p1 pg0 pg1 pg2 pg3 q1 qg0 qg1 qg2 qg3 hms0
    have r0 : w5.cell? ⟨c.wd, 0, none⟩ = some (.slice (some ⟨c.nb, 0, none⟩) c.s c.ncap) := HC5.out.d0
    have r1 : w5.cell? ⟨c.nb, i, none⟩ = some (.pointer (some ⟨c.P i, 0, none⟩)) := HC5.out.dn hi
    have r2 := HC5.out.fn i
    go_wp2_with fail
    go_meet
    obtain ⟨y1, y2, y3, y4, y5, y6, y7, y8, y9, y10, y11, y12, y13, y14⟩ := HY.out
    have hidi : ny.id = (c.x i).id := by rw [y1, HHW.out i hi]
    have hA := HC4.out.at_.anew hi hidi HB5.out HNA.out HNF.out
    have hme : (c.x i).mem ≠ [] := fun e => by have := (mL HX0.out.memb).1; rw [e] at this; simp at this
    have hny : OkN C0 g n ny X := anew_ok HX0.out hidi (by rw [y2]; omega) y4 y5 y6 y7 y8 (y9.trans HP4.out) (by rw [y10, if_neg hme]) y11 y12 y13 HK0.out.lo
    refine ⟨_, _, g, HC4.out.trans hA, ⟨HOK.out.gok.mono HLE.out, fun j hj => ?_, fun m hm => (HOK.out.net m hm).mono HLE.out, fun j hj m hm => ?_⟩, ⟨0, Grow.refl _ _⟩, by have := HNET.out; show c.net.length ≤ 201; omega, fun j hj => ?_⟩
    ·show ∃ X, OkN C0 g N (if j = i then ny else c.x j) X
     by_cases e : j = i
     ·rw [if_pos e]; exact ⟨X, hny.mono HLE.out⟩
     ·rw [if_neg e]
      obtain ⟨X', hX'⟩ := HOK.out.node j hj
      exact ⟨X', hX'.mono HLE.out⟩
    ·have hm' : m ∈ (if j = i then ny else c.x j).out := hm
     by_cases e : j = i
     ·rw [if_pos e, y14] at hm'; cases hm'
     ·rw [if_neg e] at hm'; exact (HOK.out.outs j hj m hm').mono HLE.out
    ·show (if j = i then ny else c.x j).out.length ≤ 14
     by_cases e : j = i
     ·rw [if_pos e, y14]; exact Nat.zero_le _
     ·rw [if_neg e, HOUT.out j hj]; exact Nat.zero_le _
  ·skip
   have q0 : (kind == 0) = false := by simp; omega
   have q4 : (kind == 4) = false := by simp; omega
   have q5 : (kind == 5) = false := by simp; omega
   have q6 : (kind == 6) = false := by simp; omega
   have q7 : (kind == 7) = false := by simp; omega
   have q8 : (kind == 8) = false := by simp; omega
   have q9 : (kind == 9) = false := by simp; omega
   have q10 : decide (kind ≤ 3) = true := by simp; omega
   have q11 : decide (0 < kind) = false := by simp; omega
   as_aux_lemma =>
    go_wp2_with fail
    go_meet
    exact mid_none HC1.out HOK.out HLE.out HN201.out HOUT.out
  ·skip
   have q0 : (kind == 0) = false := by simp; omega
   have q4 : (kind == 4) = false := by simp; omega
   have q5 : (kind == 5) = false := by simp; omega
   have q6 : (kind == 6) = false := by simp; omega
   have q7 : (kind == 7) = false := by simp; omega
   have q8 : (kind == 8) = false := by simp; omega
   have q9 : (kind == 9) = false := by simp; omega
   have q10 : decide (kind ≤ 3) = false := by simp; omega
   as_aux_lemma =>
    go_wp2_with fail
    go_meet
    exact mid_none HC1.out HOK.out HLE.out HN201.out HOUT.out
 case rest =>
  try clear d0
  try clear d2
  obtain ⟨M2, c2, g2, hC2, ok2, hgr, hnet2, hout2⟩ := hcut
  have HC2 := hI hC2
  have HGR := hI hgr
  have HLR : Hid (LoopR C0 g2 N w M c 0 wc) := hI ⟨M2, c2, hC2, ok2, by omega, fun i hi => by omega, hout2⟩
  have d0 : wc.cell? ⟨c.wd, 0, none⟩ = some (.slice (some ⟨c.nb, 0, none⟩) c.s c2.ncap) := hC2.d0
  clear hC2 ok2 hgr hnet2 hout2
  go_wp2_with fail
  go_loopw [229] (fun iv wr => ∃ k : Nat, iv = .int .i64 k ∧ k ≤ c.s ∧ Hid (LoopR C0 g2 N w M c k wr)) (fun iv _ => c.s - (intOf iv).toNat)
  case atStart => exact ⟨0, rfl, Nat.zero_le _, HLR⟩
  case round =>
   obtain ⟨k, rfl, hk, HLK⟩ := hrel
   clear HLR d0
   by_cases hlt : k < c.s
   ·obtain ⟨M3, c3, hC3, ok3, hn3, hz3, ho3⟩ := HLK.out
    have hi3 : k < c3.s := by rw [hC3.same.s]; exact hlt
    have HC3 := hI hC3
    have HO3 := hI ok3
    have HN3 := hI hn3
    have HZ3 := hI hz3
    have HQ3 := hI ho3
    have HI3 := hI hi3
    have zk : (k : Int) < (c.s : Int) := by omega
    have m3 : wr.cell? ⟨c.nb, k, none⟩ = some (.pointer (some ⟨c3.P k, 0, none⟩)) := hC3.dn hlt
    have HSV := hI (saved_node wr M3 (c3.F k) (c3.P k) (c3.x k) (hC3.at_.node k hi3) hC3.at_.lt)
    clear hC3 ok3 hn3 hz3 ho3 hi3 HLK
    go_wp2_with fail
    refine HSV.out.mono ?_
    rintro en w4 ⟨rfl, hn4⟩
    obtain ⟨M4, G4, hC4⟩ := HC3.out.at_.act HI3.out (y := { c3.x k with hard := false, fresh := false, stable := (c3.x k).ix + (c3.x k).es.length }) rfl hn4
    obtain ⟨c4, hc4⟩ : ∃ c4, c4 = c3.setNode k G4 { c3.x k with hard := false, fresh := false, stable := (c3.x k).ix + (c3.x k).es.length } := ⟨_, rfl⟩
    rw [← hc4] at hC4
    have HC4 := hI (HC3.out.trans hC4)
    obtain ⟨X, hX⟩ := HO3.out.node k HI3.out
    have hA4 : Acts C0 g2 N 0 (c3.x k) g2 { c3.x k with hard := false, fresh := false, stable := (c3.x k).ix + (c3.x k).es.length } X := Acts.own HO3.out.gok ⟨hX.ni, hX.i7, hX.t0, hX.tn, hX.c0, hX.len, hX.memb, hX.v0, hX.v7, hX.nx, hX.el⟩ rfl ⟨rfl, rfl, rfl, rfl⟩
    have HO4 : Hid (ClOk C0 g2 N c4) := hI (by rw [hc4]; exact HO3.out.act HC3.out.at_.ids HI3.out nL hA4)
    have HS4 : Hid (c4.s = c3.s ∧ c4.net = c3.net ∧ c4.P = c3.P ∧ ∀ j, (c4.x j).out = (c3.x j).out) := hI (by rw [hc4]; exact ⟨rfl, rfl, rfl, fun j => by show (if j = k then _ else c3.x j).out = _; split <;> first | rfl | (rename_i e; rw [e])⟩)
    have HI4 : Hid (k < c4.s) := hI (by rw [HS4.out.1]; exact HI3.out)
    have HP4 : Hid (c4.P k = c3.P k) := hI (by rw [HS4.out.2.2.1])
    have HE4 := hI (show c4.net.length = c3.net.length by rw [HS4.out.2.1])
    obtain ⟨va4, vc4, hv4, hv42, hv43, _⟩ := HC4.out.at_.net.form
    have HV4 := hI hv4
    have e2 : w4.cell? ⟨c.wd, 2, none⟩ = some (.slice va4 c4.net.length vc4) := by rw [← hv4]; exact HC4.out.d2
    have e2d : w4.drew.cell? ⟨c.wd, 2, none⟩ = some (.slice va4 c4.net.length vc4) := e2
    have HOU := hI (out_node w4.drew M4 (c4.F k) (c4.P k) (c4.x k) ((HC4.out.below (bD bR)).at_.node k HI4.out) (HC4.out.below (bD bR)).at_.lt)
    have HCD := hI (HC4.out.below (bD bR))
    obtain ⟨S4, hn4'⟩ := HC4.out.at_.node k HI4.out
    obtain ⟨oa, oc, hov⟩ := own_form hn4'.out.1
    have HOM := hI ((hn4'.out.2.2))
    rw [HP4.out] at HOU
    have HOV := hI hov
    clear m3 HSV hn4 hc4 hC4 hX hA4 hv4 hn4' hov
    obtain ⟨i0, hii, hz0, hz1, hz2⟩ := info_parts info_msg
    have HM0 := hI (show c4.net.length + (c4.x k).out.length ≤ maxLen by have h1 := HN3.out; have h2 := HE4.out; have h3 := HQ3.out k hlt; have h4 := HS4.out.2.2.2 k; unfold maxLen; rw [h4]; omega)
    have HM1 := hI (show (c4.net.length + (c4.x k).out.length) * 136 ≤ 140737488355328 by have h1 := HN3.out; have h2 := HE4.out; have h3 := HQ3.out k hlt; have h4 := HS4.out.2.2.2 k; rw [h4]; omega)
    go_wp2_with fail
    go_region_law (first
      | (go_simp; go_at_call 15; refine HOU.out.mono ?_; rintro en w5 ⟨hen, hn5, hrow5, _, hf5⟩; rw [HOV.out] at hen hrow5; subst hen; rw [← HP4.out] at hn5; obtain ⟨M5, G5, hC5⟩ := HCD.out.at_.act HI4.out (y := { c4.x k with ov := .slice none 0 0, out := [] }) rfl hn5; have HC5 := hI (HCD.out.trans hC5); have HX5 := hI hC5; have HR5 := hI hrow5; have e2 : w5.cell? ⟨c.wd, 2, none⟩ = some (.slice va4 c4.net.length vc4) := (by rw [← HV4.out]; exact HC5.out.d2); have hzz : w4.heap.size ≤ w5.heap.size := hC5.keeps.size; clear hn5 hrow5 hC5)
      | (refine step_append_O _ (by rfl) _ _ _ (by rfl) 54 i0 _ 11 136 Tryz.underlying32 hii hz0 hz1 hz2 rfl (by omega) (.slice va4 c4.net.length vc4) c4.net.length (flatM c4.net) (by rfl) (by rw [← HV4.out]; exact HC5.out.at_.net) (.slice oa (c4.x k).out.length oc) (c4.x k).out.length (flatM (c4.x k).out) (by rfl) (by exact src_own HR5.out fun m hm => (HOM.out m hm).mv_ (((belowDmv w4 M4).trans (HX5.out.mv HCD.out.at_))))
          HM0.out HM1.out w5.heap.size rfl ?_; intro vn cp w6 hro hg6 hat6; have HRO := hI hro; have HG6 := hI hg6; have HAT := hI hat6; have hk6 : Keeps (fun k => c4.nv.ownBlock = some k) w5 w6 := gK hg6 (fun k hk => (hk.trans (by rw [HV4.out])).symm); have e6 : w6.cell? ⟨c.wd, 2, none⟩ = some (.slice va4 c4.net.length vc4) := (by rw [World.cell?_of_block (hk6.block c.wd HC5.out.wdl (fun e => (HC4.out.at_.dn _ e).1 HC4.out.same.wd.symm))]; exact e2); have f6 : w6.frozen? ⟨c.wd, 2, none⟩ = false := (by rw [World.frozen?_of_block (hk6.block c.wd HC5.out.wdl (fun e => (HC4.out.at_.dn _ e).1 HC4.out.same.wd.symm))]; exact HC5.out.f2); have hl6 : c.wd < w6.heap.size := Nat.lt_of_lt_of_le HC5.out.wdl hk6.size; have HK6 := hI hk6; clear hro hg6 hat6 hk6))
    all_goals
     have hrow6 : RowO w6 54 11 (.slice vn (c4.net.length + (c4.x k).out.length) cp) (c4.net ++ (c4.x k).out).length (flatM (c4.net ++ (c4.x k).out)) := by
      rw [List.length_append, flatM_app]; exact HRO.out
     have HNXT := HC5.out.setNet (nv := .slice vn (c4.net.length + (c4.x k).out.length) cp) (net := c4.net ++ (c4.x k).out) HK6.out hrow6 (fun q hq => (HAT.out q hq).imp (fun e => by show c4.nv.ownBlock = some q; rw [HV4.out]; exact e) id) (fun m hm => by
       rcases List.mem_append.1 hm with hm | hm
       · exact HC5.out.at_.msgs m hm
       · exact (HOM.out m hm).mv_ ((belowDmv w4 M4).trans (HX5.out.mv HCD.out.at_)))
     obtain ⟨M7, hC7⟩ := HNXT
     have HC7 := hI hC7
     clear hC7 hrow6
     go_wp2_with fail
     go_roundw
     case rel =>
      refine ⟨k + 1, by go_num, by omega, hI ⟨M7, _, HC7.out, ⟨HO4.out.gok, fun j hj => ?_, fun m hm => ?_, fun j hj m hm => ?_⟩, ?_, fun j hj => ?_, fun j hj => ?_⟩⟩
      ·show ∃ X, OkN C0 g2 N (if j = k then _ else c4.x j) X
       by_cases e : j = k
       ·rw [if_pos e]
        obtain ⟨X, hX⟩ := HO4.out.node k HI4.out
        exact ⟨X, hX.outs (c4.x k).since (.slice none 0 0) []⟩
       ·rw [if_neg e]; exact HO4.out.node j hj
      ·rcases List.mem_append.1 hm with hm | hm
       ·exact HO4.out.net m hm
       ·exact HO4.out.outs k HI4.out m hm
      ·have hm' : m ∈ (if j = k then { c4.x k with ov := .slice none 0 0, out := [] } else c4.x j).out := hm
       by_cases e : j = k
       ·rw [if_pos e] at hm'; cases hm'
       ·rw [if_neg e] at hm'; exact HO4.out.outs j hj m hm'
      ·have h1 := HN3.out
       have h2 := HE4.out
       have h3 := HQ3.out k hlt
       have h4 := HS4.out.2.2.2 k
       show (c4.net ++ (c4.x k).out).length ≤ _
       rw [List.length_append, h4]; omega
      ·show (if j = k then { c4.x k with ov := .slice none 0 0, out := [] } else c4.x j).out = []
       by_cases e : j = k
       ·rw [if_pos e]
       ·rw [if_neg e, HS4.out.2.2.2 j]; exact HZ3.out j (by omega)
      ·show (if j = k then { c4.x k with ov := .slice none 0 0, out := [] } else c4.x j).out.length ≤ 14
       by_cases e : j = k
       ·rw [if_pos e]; exact Nat.zero_le _
       ·rw [if_neg e, HS4.out.2.2.2 j]; exact HQ3.out j hj
     case measure => exact k_meas hlt
   ·obtain rfl : k = c.s := by omega
    obtain ⟨M3, c3, hC3, ok3, hn3, hz3, ho3⟩ := HLK.out
    have HC3 := hI hC3
    have HO3 := hI ok3
    have HZ3 := hI hz3
    have hrow3 := hC3.at_.net
    have HR3 := hI hrow3
    obtain ⟨va3, vc3, hv3, hv32, hv33, hv34⟩ := hC3.at_.net.form
    have HV3 := hI hv3
    unfold maxLen at hv33
    have hl3 : c3.net.length ≤ 299 := by omega
    have e2 : wr.cell? ⟨c.wd, 2, none⟩ = some (.slice va3 c3.net.length vc3) := by rw [← hv3]; exact hC3.d2
    have f2 := hC3.f2
    have hwl := hC3.wdl
    clear hC3 ok3 hn3 hz3 ho3 HLK hrow3 hlt hk
    by_cases h200 : 200 < c3.net.length
    ·obtain ⟨ad, had⟩ : ∃ ad, va3 = some ad := by
      cases va3 with
      | none => have := (hv34 rfl).1; omega
      | some ad => exact ⟨ad, rfl⟩
     obtain ⟨gb, off, hgo⟩ : ∃ gb off, ad = ⟨gb, off, none⟩ := by
      obtain ⟨_, ⟨h1, _⟩ | ⟨g', off', cap', cur, h1, _⟩⟩ := HR3.out
      ·rw [HV3.out, had] at h1; cases h1
      ·rw [HV3.out, had] at h1
       injection h1 with h1
       injection h1 with h1
       exact ⟨g', off', h1⟩
     subst had hgo
     obtain ⟨q, hq⟩ : ∃ q : Nat, q = c3.net.length - 200 := ⟨_, rfl⟩
     have hql : c3.net.length = q + 200 := by omega
     have eq1 : wrap64 ((c3.net.length : Int) - 200) = (q : Int) := by rw [show (c3.net.length : Int) - 200 = (q : Int) by omega]; exact IntWalk.wrap64_in _ (by omega)
     have zq : (0 : Int) < (q : Int) := by omega
     have zq1 : (q : Int) ≤ (c3.net.length : Int) := by omega
     have zq2 : (q : Int) ≤ (vc3 : Int) := by omega
     have zq3 : ¬ vc3 = q := by omega
     have zq4 : ¬ (vc3 : Int) = (q : Int) := by omega
     have HQL := hI hql
     clear hql hq hv34
     go_wp2_with fail
     go_region
     refine bodyPost_end (results_none rfl _ _ _) rfl ⟨rfl, ?_⟩
     have hrow : RowO wr 54 11 (.slice (some ⟨gb, off + (c3.net.length - 200) * 11, none⟩) (c3.net.length - (c3.net.length - 200)) (vc3 - (c3.net.length - 200))) (c3.net.drop (c3.net.length - 200)).length (flatM (c3.net.drop (c3.net.length - 200))) := by
      have h1 := HR3.out
      rw [HV3.out] at h1
      rw [List.length_drop, ← flatM_drop]
      exact h1.drop (by omega) rfl
     obtain ⟨M9, h9⟩ := HC3.out.setNet (w2 := wr) (nv := .slice (some ⟨gb, off + (c3.net.length - 200) * 11, none⟩) (c3.net.length - (c3.net.length - 200)) (vc3 - (c3.net.length - 200))) (net := c3.net.drop (c3.net.length - 200)) (Keeps.refl _ _) hrow (fun k hk => .inl (by rw [HV3.out]; exact hk)) (fun m hm => HC3.out.at_.msgs m (List.mem_of_mem_drop hm))
     exact ⟨M9, _, g2, h9.below (bD bR), ⟨HO3.out.gok, HO3.out.node, fun m hm => HO3.out.net m (List.mem_of_mem_drop hm), HO3.out.outs⟩, HGR.out, by show (c3.net.drop _).length ≤ 200; rw [List.length_drop]; omega, HZ3.out⟩
    ·have eq1 : ¬ (0 : Int) < wrap64 ((c3.net.length : Int) - 200) := by rw [IntWalk.wrap64_in _ (by omega)]; omega
     clear hv34
     go_wp2_with fail
     go_region
     refine bodyPost_end (results_none rfl _ _ _) rfl ⟨rfl, ?_⟩
     obtain ⟨M9, h9⟩ := HC3.out.setNet (w2 := wr) (nv := .slice va3 c3.net.length vc3) (net := c3.net) (Keeps.refl _ _) (by rw [← HV3.out]; exact HR3.out) (fun k hk => .inl (by rw [HV3.out]; exact hk)) HC3.out.at_.msgs
     exact ⟨M9, _, g2, h9.below (bD bR), ⟨HO3.out.gok, HO3.out.node, HO3.out.net, HO3.out.outs⟩, HGR.out, by show c3.net.length ≤ 200; omega, HZ3.out⟩
end Go.Proofs.YtdjooojpcepleaaGreat

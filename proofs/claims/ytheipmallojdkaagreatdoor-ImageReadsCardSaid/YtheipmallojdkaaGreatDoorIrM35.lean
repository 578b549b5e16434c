/- The statement ImageReads: its walk. -/
import Derived.Test.YtheipmallojdkaaGreatDoorIrM34
import Derived.Deep.RegionHeld3
import Derived.Deep.RegionHeld2

namespace Go.Proofs.YtheipmallojdkaaGreatDoor
open Go.RowKit Go.Maps Go.ChangeMaps

theorem img0 : imgB 0 9 0 [] = [0, 9, 0, 0] := by kernel_rfl

set_option maxRecDepth 100000 in
theorem lives19 (w : World) : Calls Tryz.prog 4 #[] w (RetB (.bool true) w) := by
  have hn := snew_any w 0 9
  go_enter Tryz.func4, Tryz.ntmps4
  go_wp2_with fail
  refine hn.mono ?_
  clear hn
  rintro e w1 ⟨hb1, ⟨hno, _⟩ | ⟨hyes, s, mj, g, r, u, q, F, rfl, hS⟩⟩
  · exact absurd ⟨by omega, by omega⟩ hno
  have HB1 := Lib.hid hb1
  have hof := imgOf_any w1 w.heap.size s mj g r u q F 0 9 0 [] 0 hS hyes (by omega) (by omega) (fun x hx => by cases hx) (by simp)
  clear hb1 hyes hS
  go_wp2_with fail
  refine hof.mono ?_
  clear hof
  rintro e w2 ⟨xs, ⟨_, _, _, _, hxs⟩, v, rfl, hb2, hs2, _⟩
  have hx0 : xs = [] := by
    cases xs with
    | nil => rfl
    | cons x l =>
      obtain ⟨e, he, _⟩ := hxs x (by simp)
      cases he
  subst hx0
  rw [List.map_nil, img0] at hs2
  obtain ⟨a, c, rfl, _⟩ := id hs2
  have hst : (convert 22 9 (.slice a 4 c)).run Tryz.prog w2 = .ok (.string ⟨#[0, 9, 0, 0]⟩) w2 := sl_string hs2 Tryz.underlying22
  have HB2 := Lib.hid (HB1.out.trans (hb2.mono HB1.out.size))
  clear hb2 hs2 hxs
  go_wp2_with fail
  go_ret
  exact RetB.mk rfl HB2.out

theorem sl_u8 {W : World} {v : Value} {l : List Int} (h : SlOk .u8 W v l) : Sl u8v W v (l.map fun x => UInt8.ofNat x.toNat) := by
  obtain ⟨⟨a, cap, he, h1, h2, h3⟩, hw⟩ := h
  refine ⟨a, cap, by rw [List.length_map]; exact he, by rw [List.length_map]; exact h1, h2, ?_⟩
  rcases h3 with h3 | ⟨b, o, e, hb, hc⟩
  · exact .inl h3
  · refine .inr ⟨b, o, e, hb, fun i c hi => ?_⟩
    rw [List.getElem?_map] at hi
    cases hx : l[i]? with
    | none => rw [hx] at hi; cases hi
    | some x =>
      rw [hx] at hi
      cases hi
      have h4 := hc i x hx
      have h5 := hw x (List.mem_of_getElem? hx)
      have h6 : (0 : Int) ≤ x ∧ x ≤ 255 := by simpa [Lit.wf, IntKind.min, IntKind.max, IntKind.signed, IntKind.bits] using h5
      rw [h4]
      unfold u8v
      have h7 : (UInt8.ofNat x.toNat).toNat = x.toNat := by rw [UInt8.toNat_ofNat']; omega
      rw [h7, Int.toNat_of_nonneg h6.1]

set_option maxRecDepth 100000 in
set_option maxHeartbeats 1600000 in
theorem imgreads_walk (w : World) (hm : MaxL w) (a : Option Addr) (L cap : Nat) (bs : List UInt8) (hs : Sl u8v w (.slice a L cap) bs) :
    Calls Tryz.prog 3 #[.slice a L cap] w (RetB (.bool true) w) := by
  have HLV := Lib.hid lives19
  have hLB : bs.length = L ∧ L ≤ 9223372036854775807 := by
    obtain ⟨a', cap', he, h1, h2, _⟩ := hs
    injection he with e1 e2 e3
    unfold maxLen at h2
    omega
  have HS := Lib.hid hs
  have HM := Lib.hid hm
  obtain ⟨hbl, hLm⟩ := hLB
  have HBL := Lib.hid hbl
  clear hs hbl hm
  go_enter Tryz.func3, Tryz.ntmps3
  go_wp2_with fail
  refine (HLV.out _).mono ?_
  rintro e w1 ⟨rfl, hb1⟩
  have HB1 := Lib.hid hb1
  clear hb1
  by_cases hbig : (3000 : Int) < (L : Int)
  · go_wp2_with fail
    refine (HLV.out _).mono ?_
    rintro e w2 ⟨rfl, hb2⟩
    have HB2 := Lib.hid (HB1.out.trans (hb2.mono HB1.out.size))
    clear hb2
    go_wp2_with fail
    go_ret
    exact RetB.mk rfl HB2.out
  have HS1 := Lib.hid (HS.out.below HB1.out HS.out.row_lt)
  have hre := imgRestore_any w1 (HM.out.step HB1.out) a L cap bs HS1.out (by have := HBL.out; omega)
  go_wp2_with fail
  refine hre.mono ?_
  clear hre
  rintro e w2 (⟨hb2, er, her, rfl⟩ | ⟨B, s, mj, g, r, u, q, F, jes, n, now, each, order, rfl, hb2, hS, hbeg, hord, hT, hend, hri, hjl⟩)
  · have HB2 := Lib.hid (HB1.out.trans (hb2.mono HB1.out.size))
    have e1 : (er == 0) = false := by simpa using her
    clear hb2 her
    go_wp2_with fail
    go_ret
    exact RetB.mk rfl HB2.out
  have HBD : Hid (Below w.heap.size w w2.drew) := Lib.hid (by
    have h := HB1.out.trans (hb2.mono HB1.out.size)
    exact ⟨h.os, h.tape, h.output, h.size, h.block⟩)
  have HSD : Hid (Sl u8v w2.drew (.slice a L cap) bs) := Lib.hid (HS1.out.below hb2 HS1.out.row_lt).drew
  have hof := Lib.hid (imgOf_any w2.drew B s mj g r u q F now each order jes n (hS.below ((Below.refl _ _).drew)) hbeg hord.1 hord.2 (img_small hT hend) hjl)
  have HIMG : Hid (∀ xs, JobsDone jes xs → imgB now each order (xs.map (·.1)) = bs) := Lib.hid fun xs h => img_same hT hend hri h
  have hst := sl_string HSD.out Tryz.underlying22
  clear hb2 hS hbeg hord hT hend hri hjl
  go_wp2_with fail
  refine wp_region_noPanic ?_
  refine wp_region_held_drew (S := (fun w' => (convert 22 9 (.slice a L cap)).run Tryz.prog w' = .ok (.string ⟨bs.toArray⟩) w')) (by kernel_rfl) hst (fun hHeld => ?_)
  refine wpAnyH_take (i := 0) (oi := ({ dst := some 22, op := _, type := _, pos := _, after := _, guard := _ } : Oper)) (v := ?_) rfl (by kernel_rfl) (by kernel_rfl) (by kernel_rfl) (fun _ _ _ h => h) (Or.inl ⟨by rfl, ?_⟩) (by assumption) ?_
  rotate_left
  · (intro w' hSw; (try dsimp only at hSw); go_simp; try with_reducible rfl)
  simp only [Act.put, List.setIfInBounds_toArray, List.set_cons_zero, List.set_cons_succ]
  refine wpAnyH_take (i := 3) (oi := ({ dst := some 25, op := _, type := _, pos := _, after := _, guard := _ } : Oper)) (v := ?_) rfl (by kernel_rfl) (by kernel_rfl) (by kernel_rfl) (fun _ _ _ h => h) (Or.inl ⟨by rfl, ?_⟩) (by assumption) ?_
  rotate_left
  · (intro w' hSw; (try dsimp only at hSw); go_simp; try with_reducible rfl)
  simp only [Act.put, List.setIfInBounds_toArray, List.set_cons_zero, List.set_cons_succ]
  refine wpAnyH_take (i := 4) (oi := ({ dst := some 26, op := _, type := _, pos := _, after := _, guard := _ } : Oper)) (v := ?_) rfl (by kernel_rfl) (by kernel_rfl) (by kernel_rfl) (fun _ _ _ h => h) (Or.inl ⟨by rfl, ?_⟩) (by assumption) ?_
  rotate_left
  · (intro w' hSw; (try dsimp only at hSw); go_simp; try with_reducible rfl)
  simp only [Act.put, List.setIfInBounds_toArray, List.set_cons_zero, List.set_cons_succ]
  refine wpAnyH_ready (rs := [1]) (by kernel_rfl) (by simp) (AllReadyH.cons (o := ({ dst := some 23, op := _, type := _, pos := _, after := _, guard := _ } : Oper)) rfl (fun K hK => ?_) AllReadyH.nil)
  go_simp
  refine hof.out.mono ?_
  rintro e w6 ⟨xs, hdone, v, rfl, hb6, hs6, _⟩
  rw [HIMG.out xs hdone] at hs6
  obtain ⟨a', c', rfl, _⟩ := id hs6
  have hs2 := sl_string hs6 Tryz.underlying22
  have hs3 := sl_string (HSD.out.below hb6 HSD.out.row_lt) Tryz.underlying22
  have HB7 := Lib.hid (HBD.out.trans (hb6.mono HBD.out.size))
  clear hdone hb6 hs6 hHeld hst hof HIMG
  go_wp2_with fail
  refine hK.out _ _ (hs3) (fun hHeld => ?_)
  clear hK K
  try simp only [Act.put, List.setIfInBounds_toArray, List.set_cons_zero, List.set_cons_succ]
  refine wpAnyH_ready (rs := [2]) (by kernel_rfl) (by simp) (AllReadyH.cons (o := ({ dst := some 24, op := _, type := _, pos := _, after := _, guard := _ } : Oper)) rfl (fun K hK => ?_) AllReadyH.nil)
  go_simp
  refine hK.out _ _ (hs3) (fun hHeld => ?_)
  clear hK K
  try simp only [Act.put, List.setIfInBounds_toArray, List.set_cons_zero, List.set_cons_succ]
  refine wpAnyH_take (i := 5) (oi := ({ dst := some 27, op := _, type := _, pos := _, after := _, guard := _ } : Oper)) (v := ?_) rfl (by kernel_rfl) (by kernel_rfl) (by kernel_rfl) (fun _ _ _ h => h) (Or.inl ⟨by rfl, ?_⟩) (by assumption) ?_
  rotate_left
  · (intro w' hSw; (try dsimp only at hSw); go_simp; try with_reducible rfl)
  simp only [Act.put, List.setIfInBounds_toArray, List.set_cons_zero, List.set_cons_succ]
  refine wpAnyH_take (i := 6) (oi := ({ dst := some 2, op := _, type := _, pos := _, after := _, guard := _ } : Oper)) (v := ?_) rfl (by kernel_rfl) (by kernel_rfl) (by kernel_rfl) (fun _ _ _ h => h) (Or.inl ⟨by rfl, ?_⟩) (by assumption) ?_
  rotate_left
  · (intro w' hSw; (try dsimp only at hSw); go_simp; try with_reducible rfl)
  simp only [Act.put, List.setIfInBounds_toArray, List.set_cons_zero, List.set_cons_succ]
  refine wpAnyH_done (by kernel_rfl) ?_ _
  refine NoPanic.normal ?_
  go_wp2_with fail
  go_ret
  exact RetB.mk rfl HB7.out

theorem imgreads_card (W : World) (hm : MaxL W) (a : Option Addr) (n cap : Nat) (l : List Int) (h : SlOk .u8 W (.slice a n cap) l) :
    Calls Tryz.prog 3 #[.slice a n cap] W (RetB (.bool true) W) :=
  imgreads_walk W hm a n cap _ (sl_u8 h)

end Go.Proofs.YtheipmallojdkaaGreatDoor

/- The statement SessionReads: its walk. PRINTED by wip/tools/gen_sessr.py. -/
import Derived.Test.YtckmenongeklpaaSessM
import Derived.Test.YtckmenongeklpaaSessL
import Derived.Deep.RegionHeld3
import Derived.Deep.RegionHeld2
namespace Go.Proofs.Ytckmenongeklpaa
open Go.RowKit Go.Maps Go.ChangeMaps

theorem tlen_any (w : World) (t m : Nat) (l : List (Int × (Int × Ans))) (hT : TableAt w t m l) : Calls Try.prog 8 #[.pointer (some ⟨t, 0, none⟩)] w (Ret (.int .i64 l.length) w) := by
  have hcell := cell_of_one hT.box
  have hlt := lt_of_block hT.box
  have hlen : (Builtin.len_ #[59] 3 #[.map (some m)]).run Try.prog w = .ok (.int .i64 l.length) w := hT.map.run_len Try.underlying59 _
  clear hT
  go_enter Try.func8, Try.ntmps8
  go_wp2
  go_ret
  exact Ret.mk rfl

set_option maxRecDepth 100000 in
set_option maxHeartbeats 1600000 in
theorem reads_walk (w : World) (a : Option Addr) (L cap : Nat) (bs : List UInt8) (hs : Sl u8v w (.slice a L cap) bs) :
    Calls Try.prog 3 #[.slice a L cap] w (RetB (.bool true) w) := by
  have HLV := Lib.hid lives20
  have hLB : bs.length = L ∧ L ≤ 9223372036854775807 := by
    obtain ⟨a', cap', he, h1, h2, _⟩ := hs
    injection he with e1 e2 e3
    unfold maxLen at h2
    omega
  have HS := Lib.hid hs
  obtain ⟨hbl, hLm⟩ := hLB
  have HBL := Lib.hid hbl
  clear hs hbl
  go_enter Try.func3, Try.ntmps3
  go_wp2_with fail
  refine (HLV.out _).mono ?_
  rintro e w1 ⟨rfl, hb1⟩
  have HB1 := Lib.hid hb1
  clear hb1
  by_cases hbig : (600 : Int) < (L : Int)
  · go_wp2_with fail
    refine (HLV.out _).mono ?_
    rintro e w2 ⟨rfl, hb2⟩
    have HB2 := Lib.hid (HB1.out.trans (hb2.mono HB1.out.size))
    clear hb2
    go_wp2_with fail
    go_ret
    exact RetB.mk rfl HB2.out
  have HS1 := Lib.hid (HS.out.below HB1.out HS.out.row_lt)
  go_wp2_with fail
  refine (of_any w1 a L cap bs HS1.out (by have := HBL.out; omega)).mono ?_
  rintro e w2 ⟨hb2, hcase⟩
  have HB2 := Lib.hid (HB1.out.trans (hb2.mono HB1.out.size))
  have HS2 := Lib.hid (HS1.out.below hb2 HS1.out.row_lt)
  clear hb2
  rcases hcase with ⟨h0, rfl⟩ | ⟨h0, h1, er, her, rfl⟩ | ⟨h0, h1, t, m, rfl, hT, ht1, ht2⟩
  · generalize endR (getO ⟨bs, 0⟩).2 = er at *
    have e1 : (er == 0) = false := by simpa using h0
    have e2 : (er != 0) = true := by simpa using h0
    clear h0
    go_wp2_with fail
    go_ret
    exact RetB.mk rfl HB2.out
  · have e1 : (er == 0) = false := by simpa using her
    have e2 : (er != 0) = true := by simpa using her
    clear h0 h1 her
    go_wp2_with fail
    go_ret
    exact RetB.mk rfl HB2.out
  have hob := of_bytes h0 h1
  generalize tabO (getO ⟨bs, 0⟩).1 = l at *
  obtain ⟨hok, hby⟩ := hob
  have HBY := Lib.hid hby
  have HOK := Lib.hid hok
  have HT := Lib.hid hT
  have HBT := Lib.hid (bytes_any w2.drew t m l hT.drew hok)
  have hl16 := hok.2.1
  have hl16' : (l.length : Int) ≤ 16 := by omega
  have HSD : Hid (Sl u8v w2.drew (.slice a L cap) bs) := Lib.hid (HS2.out)
  have HBD : Hid (Below w.heap.size w w2.drew) := Lib.hid ⟨HB2.out.os, HB2.out.tape, HB2.out.output, HB2.out.size, HB2.out.block⟩
  have hst := sl_string HSD.out Try.underlying22
  clear hby hok hT h0 h1 ht1 ht2
  go_wp2_with fail
  refine wp_region_noPanic ?_
  refine wp_region_held_drew (S := (fun w' => (convert 22 9 (.slice a L cap)).run Try.prog w' = .ok (.string ⟨bs.toArray⟩) w')) (by kernel_rfl) hst (fun hHeld => ?_)
  refine wpAnyH_take (i := 0) (oi := ({ dst := some 22, op := _, type := _, pos := _, after := _, guard := _ } : Oper)) (v := ?_) rfl (by kernel_rfl) (by kernel_rfl) (by kernel_rfl) (fun _ _ _ h => h) (Or.inl ⟨by rfl, ?_⟩) (by assumption) ?_
  rotate_left
  · (intro w' hSw; (try dsimp only at hSw); go_simp; try with_reducible rfl)
  simp only [Act.put, List.setIfInBounds_toArray, List.set_cons_zero, List.set_cons_succ]
  refine wpAnyH_take (i := 3) (oi := ({ dst := some 25, op := _, type := _, pos := _, after := _, guard := _ } : Oper)) (v := ?_) rfl (by kernel_rfl) (by kernel_rfl) (by kernel_rfl) (fun _ _ _ h => h) (Or.inl ⟨by rfl, ?_⟩) (by assumption) ?_
  rotate_left
  · (intro w' hSw; (try dsimp only at hSw); go_simp; try with_reducible rfl)
  simp only [Act.put, List.setIfInBounds_toArray, List.set_cons_zero, List.set_cons_succ]
  refine wpAnyH_take (i := 4) (oi := ({ dst := some 26, op := _, type := _, pos := _, after := _, guard := _ } : Oper)) (v := ?_) rfl (by kernel_rfl) (by kernel_rfl) (by kernel_rfl) (fun _ _ _ h => h) (Or.inl ⟨by rfl, ?_⟩) (by assumption) ?_
  rotate_left
  · (intro w' hSw; (try dsimp only at hSw); go_simp; try with_reducible rfl)
  simp only [Act.put, List.setIfInBounds_toArray, List.set_cons_zero, List.set_cons_succ]
  refine wpAnyH_ready (rs := [1]) (by kernel_rfl) (by simp) (AllReadyH.cons (o := ({ dst := some 23, op := _, type := _, pos := _, after := _, guard := _ } : Oper)) rfl (fun K hK => ?_) AllReadyH.nil)
  go_simp
  refine HBT.out.mono ?_
  rintro e w6 ⟨ys, hp, hr, u, rfl, hb6, hs6, ho6, hn6⟩
  rw [HBY.out ys hp hr] at hs6
  obtain ⟨a', c', rfl, _⟩ := id hs6
  have hs2 := sl_string hs6 Try.underlying22
  have hs3 := sl_string (HSD.out.below hb6 HSD.out.row_lt) Try.underlying22
  have HB7 := Lib.hid (HBD.out.trans (hb6.mono HBD.out.size))
  have HT6 := Lib.hid (HT.out.drew.below hb6 (heap_lt HT.out.box) HT.out.map.lt)
  clear hp hr hb6 hs6 ho6 hn6 hHeld hst
  go_wp2_with fail
  refine hK.out _ _ (hs3) (fun hHeld => ?_)
  clear hK K
  try simp only [Act.put, List.setIfInBounds_toArray, List.set_cons_zero, List.set_cons_succ]
  refine wpAnyH_ready (rs := [2]) (by kernel_rfl) (by simp) (AllReadyH.cons (o := ({ dst := some 24, op := _, type := _, pos := _, after := _, guard := _ } : Oper)) rfl (fun K hK => ?_) AllReadyH.nil)
  go_simp
  refine hK.out _ _ (hs3) (fun hHeld => ?_)
  clear hK K
  try simp only [Act.put, List.setIfInBounds_toArray, List.set_cons_zero, List.set_cons_succ]
  refine wpAnyH_take (i := 5) (oi := ({ dst := some 27, op := _, type := _, pos := _, after := _, guard := _ } : Oper)) (v := ?_) rfl (by kernel_rfl) (by kernel_rfl) (by kernel_rfl) (fun _ _ _ h => h) (Or.inl ⟨by rfl, ?_⟩) (by assumption) ?_
  rotate_left
  · (intro w' hSw; (try dsimp only at hSw); go_simp; try with_reducible rfl)
  simp only [Act.put, List.setIfInBounds_toArray, List.set_cons_zero, List.set_cons_succ]
  refine wpAnyH_take (i := 6) (oi := ({ dst := some 28, op := _, type := _, pos := _, after := _, guard := _ } : Oper)) (v := ?_) rfl (by kernel_rfl) (by kernel_rfl) (by kernel_rfl) (fun _ _ _ h => h) (Or.inl ⟨by rfl, ?_⟩) (by assumption) ?_
  rotate_left
  · (intro w' hSw; (try dsimp only at hSw); go_simp; try with_reducible rfl)
  simp only [Act.put, List.setIfInBounds_toArray, List.set_cons_zero, List.set_cons_succ]
  refine wpAnyH_take (i := 7) (oi := ({ dst := some 29, op := _, type := _, pos := _, after := _, guard := _ } : Oper)) (v := ?_) rfl (by kernel_rfl) (by kernel_rfl) (by kernel_rfl) (fun _ _ _ h => h) (Or.inl ⟨by rfl, ?_⟩) (by assumption) ?_
  rotate_left
  · (intro w' hSw; (try dsimp only at hSw); go_simp; try with_reducible rfl)
  simp only [Act.put, List.setIfInBounds_toArray, List.set_cons_zero, List.set_cons_succ]
  refine wpAnyH_ready (rs := [8]) (by kernel_rfl) (by simp) (AllReadyH.cons (o := ({ dst := some 30, op := _, type := _, pos := _, after := _, guard := _ } : Oper)) rfl (fun K hK => ?_) AllReadyH.nil)
  go_simp
  refine (tlen_any _ t m l HT6.out).mono ?_
  rintro e w7 ⟨rfl, rfl⟩
  go_wp2_with fail
  refine hK.out _ _ (hs3) (fun hHeld => ?_)
  clear hK K
  try simp only [Act.put, List.setIfInBounds_toArray, List.set_cons_zero, List.set_cons_succ]
  refine wpAnyH_take (i := 9) (oi := ({ dst := some 31, op := _, type := _, pos := _, after := _, guard := _ } : Oper)) (v := ?_) rfl (by kernel_rfl) (by kernel_rfl) (by kernel_rfl) (fun _ _ _ h => h) (Or.inl ⟨by rfl, ?_⟩) (by assumption) ?_
  rotate_left
  · (intro w' hSw; (try dsimp only at hSw); go_simp; try with_reducible rfl)
  simp only [Act.put, List.setIfInBounds_toArray, List.set_cons_zero, List.set_cons_succ]
  refine wpAnyH_take (i := 10) (oi := ({ dst := some 32, op := _, type := _, pos := _, after := _, guard := _ } : Oper)) (v := ?_) rfl (by kernel_rfl) (by kernel_rfl) (by kernel_rfl) (fun _ _ _ h => h) (Or.inl ⟨by rfl, ?_⟩) (by assumption) ?_
  rotate_left
  · (intro w' hSw; (try dsimp only at hSw); go_simp; try with_reducible rfl)
  simp only [Act.put, List.setIfInBounds_toArray, List.set_cons_zero, List.set_cons_succ]
  refine wpAnyH_take (i := 11) (oi := ({ dst := some 2, op := _, type := _, pos := _, after := _, guard := _ } : Oper)) (v := ?_) rfl (by kernel_rfl) (by kernel_rfl) (by kernel_rfl) (fun _ _ _ h => h) (Or.inl ⟨by rfl, ?_⟩) (by assumption) ?_
  rotate_left
  · (intro w' hSw; (try dsimp only at hSw); go_simp; try with_reducible rfl)
  simp only [Act.put, List.setIfInBounds_toArray, List.set_cons_zero, List.set_cons_succ]
  refine wpAnyH_done (by kernel_rfl) ?_ _
  refine NoPanic.normal ?_
  go_wp2_with fail
  go_ret
  exact RetB.mk rfl HB7.out

end Go.Proofs.Ytckmenongeklpaa

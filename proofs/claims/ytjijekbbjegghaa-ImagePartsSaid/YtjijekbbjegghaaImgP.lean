/- The statement ImageParts: its walk. -/
import Derived.Test.YtjijekbbjegghaaWhole
import Derived.Test.YtjijekbbjegghaaOpenSl
namespace Go.Proofs.Ytjijekbbjegghaa
open Go.RowKit Go.ChangeMaps Go.Sort

theorem chunk_flat {n : Nat} (hn : 1 ≤ n) (bs : List UInt8) : ∀ (k i r : Nat), r ≤ k → ((chunkF n k i r).map fun x => (bs.drop x.1).take x.2).flatten = (bs.drop i).take r
  | 0, i, r, h => by
    obtain rfl : r = 0 := by omega
    simp [chunkF]
  | k + 1, i, r, h => by
    by_cases hr : r = 0
    · subst hr; rw [chunkF_nil]; simp
    · have ih := chunk_flat hn bs k (i + n) (r - n) (by omega)
      rw [chunkF_cons hr, List.map_cons, List.flatten_cons, ih]
      by_cases hrn : n ≤ r
      · rw [Nat.min_eq_left hrn, ← List.drop_drop]
        conv => rhs; rw [show r = n + (r - n) by omega, List.take_add]
      · rw [Nat.min_eq_right (by omega), Nat.sub_eq_zero_of_le (by omega)]; simp
theorem chunk_full {n : Nat} : ∀ (k i r j : Nat) (x : Nat × Nat), (chunkF n k i r)[j]? = some x → j + 1 < (chunkF n k i r).length → x.2 = n
  | 0, i, r, j, x, h, _ => by simp [chunkF] at h
  | k + 1, i, r, j, x, h, hl => by
    by_cases hr : r = 0
    · subst hr; rw [chunkF_nil] at h; simp at h
    · rw [chunkF_cons hr] at h hl
      cases j with
      | zero =>
        simp at h
        subst h
        simp only
        by_cases hrn : n ≤ r
        · exact Nat.min_eq_left hrn
        · rw [Nat.sub_eq_zero_of_le (by omega), chunkF_nil] at hl; simp at hl
      | succ j =>
        exact chunk_full k (i + n) (r - n) j x (by simpa using h) (by simpa using hl)

set_option maxRecDepth 100000 in
set_option maxHeartbeats 800000 in
theorem img_walk (w : World) (a : Option Addr) (L cap : Nat) (bs : List UInt8) (hs : Sl u8v w (.slice a L cap) bs) (n : Int) (n0 : -9223372036854775808 ≤ n) (n1 : n ≤ 9223372036854775807) :
    Calls Try.prog 3 #[.slice a L cap, .int .i64 n] w (RetB (.bool true) w) := by
  have HL := Lib.hid lives19_any
  have hLB : bs.length = L ∧ L ≤ 9223372036854775807 := by
    obtain ⟨a', cap', he, h1, h2, _⟩ := hs
    injection he with e1 e2 e3
    unfold maxLen at h2
    omega
  have HS := Lib.hid hs
  obtain ⟨hbl, hLm⟩ := hLB
  have HBL := Lib.hid hbl
  clear hs hbl
  go_enter Try.func3, Try.ntmps3
  go_wp2_with fail
  refine (HL.out _).mono ?_
  rintro e w1 ⟨rfl, hb1⟩
  have HB1 := Lib.hid hb1
  clear hb1
  by_cases hbig : (2000 : Int) < (L : Int)
  · go_wp2_with fail
    refine (HL.out _).mono ?_
    rintro e w2 ⟨rfl, hb2⟩
    have HB2 := Lib.hid (HB1.out.trans (hb2.mono HB1.out.size))
    clear hb2
    go_wp2_with fail
    go_ret
    exact RetB.mk rfl HB2.out
  have HS1 := Lib.hid ((HS.out.below HB1.out HS.out.row_lt).alloc (.cells #[] 5))
  have HO0 : Hid ((w1.alloc (.cells #[] 5)).ownsRow 0 5 1 (.slice (some ⟨w1.heap.size, 0, none⟩) 0 0) 0 []) := Lib.hid (World.ownsRow_made w1 #[] 0 (Nat.zero_le _) (Nat.zero_le _) rfl)
  have HM0 := Lib.hid (show 0 + bs.length ≤ maxLen by unfold maxLen; have := HBL.out; omega)
  have HM1 := Lib.hid (show (0 + bs.length) * 1 ≤ 140737488355328 by have := HBL.out; omega)
  obtain ⟨i0, hi, hz0, hz1, hz2⟩ := info_parts info_u8
  go_wp2_with (first | (at_builtin; refine wpList_append_sl (w1.alloc (.cells #[] 5)) rfl _ _ _ rfl 5 i0 (.int .u8 0) 1 Try.underlying22 hi hz0 hz1 hz2 rfl (.slice (some ⟨w1.heap.size, 0, none⟩) 0 0) 0 [] rfl HO0.out (.slice a L cap) bs rfl HS1.out u8v_one HM0.out HM1.out ?_; intro v' w2 hown hg hrow; have HO := Lib.hid hown; have HG := Lib.hid hg; have HR := Lib.hid hrow; clear hown hg hrow) | fail)
  have hv : ∃ (g c : Nat) (cur : Array Value), v' = .slice (some ⟨g, 0, none⟩) L c ∧ w.heap.size ≤ g ∧ w2.heap[g]? = some (.cells cur 5 (0, 0)) ∧ ∀ i, i < L → ∃ x : Int, cur[i]? = some (.int .u8 x) := by
    have ho := HO.out
    rw [Nat.zero_add, List.nil_append] at ho
    rcases ho.2 with ⟨e1, _⟩ | ⟨g, c, cur, e1, _, e3, e4, e5, e6, e7⟩
    · exfalso
      rcases HR.out with e | ⟨k, e, _⟩
      · rw [e1] at e; simp [Value.ownBlock] at e
      · rw [e1] at e; simp [Value.ownBlock] at e
    · refine ⟨g, c, cur, by rw [e1, HBL.out], ?_, e3, fun i hi => ?_⟩
      · rcases HR.out with e | ⟨k, e, e', _⟩
        · rw [e1] at e
          obtain rfl : g = w1.heap.size := by simpa [Value.ownBlock] using e
          exact HB1.out.size
        · rw [e1] at e
          obtain rfl : g = k := by simpa [Value.ownBlock] using e
          have := HB1.out.size
          simp at e'
          omega
      · have hx : (bs.map u8v)[i]? = some (u8v (bs[i]'(by have := HBL.out; omega))) := by rw [List.getElem?_map, List.getElem?_eq_getElem]; rfl
        rw [← e7, List.getElem?_take] at hx
        split at hx
        · exact ⟨_, by rw [← Array.getElem?_toList]; exact hx⟩
        · cases hx
  have hsv := owns_sl (enc := u8v) (l := bs) (w := w2) (e := 5) (v := v') (by have ho := HO.out; rw [Nat.zero_add, List.nil_append] at ho; exact ho)
  have HB2 : Hid (Below w.heap.size w w2) := Lib.hid (((Keeps.of_below (HB1.out.alloc HB1.out.size (.cells #[] 5))).trans (grown_keeps HG.out fun k hk => by
    obtain rfl : k = w1.heap.size := by simpa [Value.ownBlock] using hk
    exact HB1.out.size)).below (Nat.le_refl _) fun j hj => hj)
  obtain ⟨g, c, cur, rfl, hgw, hg2, hcur⟩ := hv
  have HSV := Lib.hid hsv
  have HG2 := Lib.hid hg2
  have HCUR := Lib.hid hcur
  clear hsv hg2 hcur HO HG HR HO0 HS1 HM0 HM1 hi hz0 hz1 hz2
  have hL2 : L ≤ 2000 := by omega
  by_cases hn : n < 1
  · have hp := parts_bad w2 (some ⟨g, 0, none⟩) L c n hn
    refine hp.mono ?_
    rintro e w' ⟨rfl, rfl⟩
    go_wp2_with fail
    go_ret
    exact RetB.mk rfl HB2.out
  obtain ⟨N, rfl⟩ : ∃ N : Nat, n = (N : Int) := ⟨n.toNat, by omega⟩
  have hp := parts_yes w2 g 0 L c N bs HSV.out (by omega) (by omega) (by omega) (heap_lt HG2.out)
  refine hp.mono ?_
  rintro e w4 ⟨v, rfl, hb4, hpr⟩
  obtain ⟨vs, q1, q2, q3, q4⟩ := hpr
  obtain ⟨va, vc, rfl, q5⟩ := id q1
  have HQ1 := Lib.hid q1
  have HQ2 := Lib.hid q2
  have HQ3 := Lib.hid q3
  have HQ4 := Lib.hid q4
  have hg4 := bheap hb4 HG2.out (heap_lt HG2.out)
  have HG4 := Lib.hid hg4
  have HGL := Lib.hid (heap_lt HG2.out)
  have HB4 := Lib.hid (HB2.out.trans (hb4.mono HB2.out.size))
  have HNN : Hid (1 ≤ N ∧ (N : Int) ≤ 9223372036854775807) := Lib.hid (by omega)
  clear q1 q2 q3 q4 q5 hg4 hb4 hp HG2
  go_wp2_with fail
  go_loopw [41] (fun s41 wr => ∃ (k : Nat) (C : Array Value), k ≤ L ∧ s41 = .int .i64 k ∧ wr.heap[g]? = some (.cells C 5 (0, 0)) ∧ (∀ i, i < L → ∃ x : Int, C[i]? = some (.int .u8 x)) ∧ Keeps (fun j => j = g) w4 wr) (fun s41 _ => L - (intOf s41).toNat)
  case atStart => exact ⟨0, cur, by omega, rfl, HG4.out, HCUR.out, Keeps.refl _ _⟩
  case round =>
    obtain ⟨k, C, hk, rfl, hC, hCi, hkp⟩ := hrel
    have HC := Lib.hid hC
    have HCI := Lib.hid hCi
    have HKP := Lib.hid hkp
    clear hC hCi hkp
    by_cases hlt : k < L
    · obtain ⟨x, hx⟩ := HCI.out k hlt
      have ck : wr.cell? ⟨g, k, none⟩ = some (.int .u8 x) := blk_cell HC.out k hx
      have fk : wr.frozen? ⟨g, k, none⟩ = false := blk_free HC.out k
      clear hx
      go_wp2_with fail
      go_roundw
      case rel =>
        refine ⟨k + 1, _, by omega, by go_num, blk_set HC.out k _, fun i hi => ?_, HKP.out.setCell (.inl rfl) _⟩
        by_cases hik : k = i
        · subst hik
          obtain ⟨z, hz⟩ := HCI.out k hlt
          exact ⟨_, by rw [Array.getElem?_setIfInBounds_self_of_lt (Array.getElem?_eq_some_iff.1 hz).1]⟩
        · obtain ⟨z, hz⟩ := HCI.out i hi
          exact ⟨z, by rw [Array.getElem?_setIfInBounds_ne hik]; exact hz⟩
      case measure => simp [intOf] <;> omega
    · have hv5 : Sl idV wr (.slice va vs.length vc) vs := HQ1.out.kept HKP.out fun k hk e => by have := HQ3.out k hk; have := HGL.out; omega
      have hb5 : Sl u8v wr (.slice a L cap) bs := (HS.out.below HB4.out HS.out.row_lt).kept HKP.out fun k hk e => by have := HS.out.row_lt k hk; omega
      have HB5 : Hid (Below w.heap.size w wr) := Lib.hid (((Keeps.of_below HB4.out).trans (HKP.out.mono fun j _ hj => by show w.heap.size ≤ j; omega)).below (Nat.le_refl _) fun j hj => hj)
      have HEL : Hid (∀ (j : Nat) (x : Nat × Nat) (u : Value), (chunkF N L 0 L)[j]? = some x → vs[j]? = some u → Sl u8v wr u ((bs.drop x.1).take x.2)) := Lib.hid fun j x u hj hu => (HQ4.out j x u hj hu).1.kept HKP.out fun k hk e => by have := (HQ4.out j x u hj hu).2 k hk; have := HGL.out; omega
      obtain ⟨bss, hbss⟩ : ∃ bss : List (List UInt8), bss = (chunkF N L 0 L).map fun x => (bs.drop x.1).take x.2 := ⟨_, rfl⟩
      have hfl : bss.flatten = bs := by
        rw [hbss, chunk_flat HNN.out.1 bs L 0 L (Nat.le_refl _), List.drop_zero]
        exact List.take_of_length_le (by have := HBL.out; omega)
      have hbl : vs.length = bss.length := by rw [hbss, List.length_map]; exact HQ2.out
      have hpe : ∀ (j : Nat) (u : Value) (l : List UInt8), vs[j]? = some u → bss[j]? = some l → Sl u8v wr u l := fun j u l hu hl => by
        rw [hbss, List.getElem?_map] at hl
        cases hx : (chunkF N L 0 L)[j]? with
        | none => rw [hx] at hl; cases hl
        | some x =>
          rw [hx] at hl
          cases hl
          exact HEL.out j x u hx hu
      obtain ⟨F, hF⟩ : ∃ F : Nat → Nat, F = fun k => (bss.take k).flatten.length := ⟨_, rfl⟩
      have HF0 : Hid (F 0 = 0) := Lib.hid (by rw [hF]; rfl)
      have HFE : Hid (F vs.length = L) := Lib.hid (by rw [hF]; simp only; rw [List.take_of_length_le (by omega), hfl]; exact HBL.out)
      have HFL : Hid (∀ k, F k ≤ L) := Lib.hid fun k => by rw [hF]; have := flat_le bss k; rw [hfl] at this; simp only; have := HBL.out; omega
      have HWH : Hid (Calls Try.prog 6 #[.slice va vs.length vc] wr.drew (fun e w' => ∃ u, e = .returned u ∧ Below wr.drew.heap.size wr.drew w' ∧ Sl u8v w' u bs)) := Lib.hid (by
        have hd : Below wr.heap.size wr wr.drew := ⟨rfl, rfl, rfl, Nat.le_refl _, fun _ _ => rfl⟩
        have := whole_any wr.drew (.slice va vs.length vc) vs bss (hv5.below hd hv5.row_lt) hbl (fun j u l hu hl => (hpe j u l hu hl).below hd (hpe j u l hu hl).row_lt) (by rw [hfl]; have := HBL.out; omega)
        rwa [hfl] at this)
      have HE : Hid (∀ k, k < vs.length → ∃ (b o : Nat) (ua : Option Addr) (uc x2 : Nat), va = some ⟨b, o, none⟩ ∧ wr.cell? ⟨b, o + k, none⟩ = some (.slice ua x2 uc) ∧ F (k + 1) = F k + x2 ∧ 1 ≤ x2 ∧ x2 ≤ N ∧ (k + 1 < vs.length → x2 = N)) := Lib.hid fun k hk => by
        obtain ⟨a', c', he, h1, _, h3⟩ := hv5
        injection he with e1 e2 e3
        subst e1 e3
        rcases h3 with ⟨_, h0⟩ | ⟨b, o, e, _, hc⟩
        · exfalso; omega
        · have g1 : vs[k]? = some vs[k] := List.getElem?_eq_getElem hk
          have g2 : (chunkF N L 0 L)[k]? = some ((chunkF N L 0 L)[k]'(by have := HQ2.out; omega)) := List.getElem?_eq_getElem _
          generalize (chunkF N L 0 L)[k]'(by have := HQ2.out; omega) = x at g2
          have g3 := HEL.out k x _ g2 g1
          have g4 := chunk_mem HNN.out.1 L 0 L x (List.mem_of_getElem? g2)
          obtain ⟨ua, uc, g5, _⟩ := id g3
          have g6 : ((bs.drop x.1).take x.2).length = x.2 := by rw [List.length_take, List.length_drop]; have := HBL.out; omega
          rw [g6] at g5
          refine ⟨b, o, ua, uc, x.2, e, by rw [hc k _ g1]; show some vs[k] = _; rw [g5], ?_, g4.2.2, g4.2.1, fun hl => chunk_full L 0 L k x g2 (by have := HQ2.out; omega)⟩
          rw [hF]
          simp only
          rw [flat_next (l := (bs.drop x.1).take x.2) (by rw [hbss, List.getElem?_map, g2]; rfl), List.length_append, g6]
      have HSB := Lib.hid hb5
      have hvl : vs.length ≤ 2000 := by have h1 := chunk_len N L 0 L; have h2 := HQ2.out; omega
      obtain rfl : k = L := by omega
      clear hF hpe hbl hfl hbss hv5 hb5 hk hlt
      have hd : Below wr.heap.size wr wr.drew := ⟨rfl, rfl, rfl, Nat.le_refl _, fun _ _ => rfl⟩
      have HSD : Hid (Sl u8v wr.drew (.slice a k cap) bs) := Lib.hid (HSB.out.below hd HSB.out.row_lt)
      have HB6 : Hid (Below w.heap.size w wr.drew) := Lib.hid (HB5.out.trans (hd.mono HB5.out.size))
      have HON := Lib.hid imageOf_nil
      have HMN := Lib.hid mark_nil
      clear hd
      go_wp2_with fail
      go_loop [9, 53] (fun s9 s53 => ∃ k : Nat, k ≤ vs.length ∧ s53 = .int .i64 k ∧ s9 = .int .i64 (F k : Nat)) (fun _ s53 => vs.length - (intOf s53).toNat)
      case atStart => exact ⟨0, by omega, rfl, by rw [HF0.out]; rfl⟩
      case round =>
        obtain ⟨k, hk, rfl, rfl⟩ := hrel
        by_cases hlt : k < vs.length
        · obtain ⟨b, o, ua, uc, x2, rfl, hc, hFn, hx1, hx2, hx3⟩ := HE.out k hlt
          have HN := Lib.hid hFn
          have hm : F k + x2 ≤ 2000 := by have := HFL.out (k + 1); omega
          clear hFn
          have hz : (x2 == 0) = false := by simp; omega
          have hz2 : ((x2 : Int) == 0) = false := by simp; omega
          have hx2' : ¬ (N : Int) < (x2 : Int) := by omega
          by_cases hlast : k + 1 < vs.length
          · have hxN : x2 = N := hx3 hlast
            have hlast' : (k : Int) < (vs.length : Int) - 1 := by omega
            have hne : ((x2 : Int) == (N : Int)) = true := by rw [hxN]; simp
            have hne2 : ((x2 : Int) != (N : Int)) = false := by rw [hxN]; simp
            clear hx3 hxN
            go_wp2_with fail
            go_round
            case rel => exact ⟨k + 1, by omega, by go_num, by rw [HN.out]; go_num⟩
            case measure => simp [intOf] <;> omega
          · have hlast' : ¬ (k : Int) < (vs.length : Int) - 1 := by omega
            clear hx3
            go_wp2_with fail
            go_round
            case rel => exact ⟨k + 1, by omega, by go_num, by rw [HN.out]; go_num⟩
            case measure => simp [intOf] <;> omega
        · obtain rfl : k = vs.length := by omega
          rw [HFE.out]
          have hst := sl_string HSD.out Try.underlying22
          clear hk hlt
          go_wp2_with fail
          refine wp_region_noPanic ?_
          refine wp_region_held_drew (S := (fun w' => (convert 22 9 (.slice a k cap)).run Try.prog w' = .ok (.string ⟨bs.toArray⟩) w')) (by kernel_rfl) hst (fun hHeld => ?_)
          refine wpAnyH_take (i := 0) (oi := ({ dst := some 85, op := _, type := _, pos := _, after := _, guard := _ } : Oper)) (v := ?_) rfl (by kernel_rfl) (by kernel_rfl) (by kernel_rfl) (fun _ _ _ h => h) (Or.inl ⟨by rfl, ?_⟩) (by assumption) ?_
          rotate_left
          · (intro w' hSw; (try dsimp only at hSw); go_simp; try with_reducible rfl)
          simp only [Act.put, List.setIfInBounds_toArray, List.set_cons_zero, List.set_cons_succ]
          refine wpAnyH_take (i := 1) (oi := ({ dst := some 86, op := _, type := _, pos := _, after := _, guard := _ } : Oper)) (v := ?_) rfl (by kernel_rfl) (by kernel_rfl) (by kernel_rfl) (fun _ _ _ h => h) (Or.inl ⟨by rfl, ?_⟩) (by assumption) ?_
          rotate_left
          · (intro w' hSw; (try dsimp only at hSw); go_simp; try with_reducible rfl)
          simp only [Act.put, List.setIfInBounds_toArray, List.set_cons_zero, List.set_cons_succ]
          refine wpAnyH_take (i := 2) (oi := ({ dst := some 87, op := _, type := _, pos := _, after := _, guard := _ } : Oper)) (v := ?_) rfl (by kernel_rfl) (by kernel_rfl) (by kernel_rfl) (fun _ _ _ h => h) (Or.inl ⟨by rfl, ?_⟩) (by assumption) ?_
          rotate_left
          · (intro w' hSw; (try dsimp only at hSw); go_simp; try with_reducible rfl)
          simp only [Act.put, List.setIfInBounds_toArray, List.set_cons_zero, List.set_cons_succ]
          refine wpAnyH_take (i := 3) (oi := ({ dst := some 88, op := _, type := _, pos := _, after := _, guard := _ } : Oper)) (v := ?_) rfl (by kernel_rfl) (by kernel_rfl) (by kernel_rfl) (fun _ _ _ h => h) (Or.inl ⟨by rfl, ?_⟩) (by assumption) ?_
          rotate_left
          · (intro w' hSw; (try dsimp only at hSw); go_simp; try with_reducible rfl)
          simp only [Act.put, List.setIfInBounds_toArray, List.set_cons_zero, List.set_cons_succ]
          refine wpAnyH_take (i := 4) (oi := ({ dst := some 89, op := _, type := _, pos := _, after := _, guard := _ } : Oper)) (v := ?_) rfl (by kernel_rfl) (by kernel_rfl) (by kernel_rfl) (fun _ _ _ h => h) (Or.inl ⟨by rfl, ?_⟩) (by assumption) ?_
          rotate_left
          · (intro w' hSw; (try dsimp only at hSw); go_simp; try with_reducible rfl)
          simp only [Act.put, List.setIfInBounds_toArray, List.set_cons_zero, List.set_cons_succ]
          refine wpAnyH_take (i := 5) (oi := ({ dst := some 90, op := _, type := _, pos := _, after := _, guard := _ } : Oper)) (v := ?_) rfl (by kernel_rfl) (by kernel_rfl) (by kernel_rfl) (fun _ _ _ h => h) (Or.inl ⟨by rfl, ?_⟩) (by assumption) ?_
          rotate_left
          · (intro w' hSw; (try dsimp only at hSw); go_simp; try with_reducible rfl)
          simp only [Act.put, List.setIfInBounds_toArray, List.set_cons_zero, List.set_cons_succ]
          refine wpAnyH_take (i := 6) (oi := ({ dst := some 91, op := _, type := _, pos := _, after := _, guard := _ } : Oper)) (v := ?_) rfl (by kernel_rfl) (by kernel_rfl) (by kernel_rfl) (fun _ _ _ h => h) (Or.inl ⟨by rfl, ?_⟩) (by assumption) ?_
          rotate_left
          · (intro w' hSw; (try dsimp only at hSw); go_simp; try with_reducible rfl)
          simp only [Act.put, List.setIfInBounds_toArray, List.set_cons_zero, List.set_cons_succ]
          refine wpAnyH_take (i := 7) (oi := ({ dst := some 92, op := _, type := _, pos := _, after := _, guard := _ } : Oper)) (v := ?_) rfl (by kernel_rfl) (by kernel_rfl) (by kernel_rfl) (fun _ _ _ h => h) (Or.inl ⟨by rfl, ?_⟩) (by assumption) ?_
          rotate_left
          · (intro w' hSw; (try dsimp only at hSw); go_simp; try with_reducible rfl)
          simp only [Act.put, List.setIfInBounds_toArray, List.set_cons_zero, List.set_cons_succ]
          refine wpAnyH_take (i := 8) (oi := ({ dst := some 93, op := _, type := _, pos := _, after := _, guard := _ } : Oper)) (v := ?_) rfl (by kernel_rfl) (by kernel_rfl) (by kernel_rfl) (fun _ _ _ h => h) (Or.inl ⟨by rfl, ?_⟩) (by assumption) ?_
          rotate_left
          · (intro w' hSw; (try dsimp only at hSw); go_simp; try with_reducible rfl)
          simp only [Act.put, List.setIfInBounds_toArray, List.set_cons_zero, List.set_cons_succ]
          refine wpAnyH_take (i := 9) (oi := ({ dst := some 94, op := _, type := _, pos := _, after := _, guard := _ } : Oper)) (v := ?_) rfl (by kernel_rfl) (by kernel_rfl) (by kernel_rfl) (fun _ _ _ h => h) (Or.inl ⟨by rfl, ?_⟩) (by assumption) ?_
          rotate_left
          · (intro w' hSw; (try dsimp only at hSw); go_simp; try with_reducible rfl)
          simp only [Act.put, List.setIfInBounds_toArray, List.set_cons_zero, List.set_cons_succ]
          refine wpAnyH_take (i := 12) (oi := ({ dst := some 97, op := _, type := _, pos := _, after := _, guard := _ } : Oper)) (v := ?_) rfl (by kernel_rfl) (by kernel_rfl) (by kernel_rfl) (fun _ _ _ h => h) (Or.inl ⟨by rfl, ?_⟩) (by assumption) ?_
          rotate_left
          · (intro w' hSw; (try dsimp only at hSw); go_simp; try with_reducible rfl)
          simp only [Act.put, List.setIfInBounds_toArray, List.set_cons_zero, List.set_cons_succ]
          refine wpAnyH_take (i := 13) (oi := ({ dst := some 98, op := _, type := _, pos := _, after := _, guard := _ } : Oper)) (v := ?_) rfl (by kernel_rfl) (by kernel_rfl) (by kernel_rfl) (fun _ _ _ h => h) (Or.inl ⟨by rfl, ?_⟩) (by assumption) ?_
          rotate_left
          · (intro w' hSw; (try dsimp only at hSw); go_simp; try with_reducible rfl)
          simp only [Act.put, List.setIfInBounds_toArray, List.set_cons_zero, List.set_cons_succ]
          refine wpAnyH_ready (rs := [10]) (by kernel_rfl) (by simp) (AllReadyH.cons (o := ({ dst := some 95, op := _, type := _, pos := _, after := _, guard := _ } : Oper)) rfl (fun K hK => ?_) AllReadyH.nil)
          go_simp
          refine HWH.out.mono ?_
          rintro e w6 ⟨u, rfl, hb6, hu⟩
          obtain ⟨a', c', rfl, _⟩ := id hu
          have hs2 := sl_string hu Try.underlying22
          have hs3 := sl_string (HSD.out.below hb6 HSD.out.row_lt) Try.underlying22
          have HB7 := Lib.hid (HB6.out.trans (hb6.mono HB6.out.size))
          clear hu hb6 hHeld hst
          go_wp2_with fail
          refine hK.out _ _ (hs3) (fun hHeld => ?_)
          clear hK K
          try simp only [Act.put, List.setIfInBounds_toArray, List.set_cons_zero, List.set_cons_succ]
          refine wpAnyH_ready (rs := [11]) (by kernel_rfl) (by simp) (AllReadyH.cons (o := ({ dst := some 96, op := _, type := _, pos := _, after := _, guard := _ } : Oper)) rfl (fun K hK => ?_) AllReadyH.nil)
          go_simp
          refine hK.out _ _ (hs3) (fun hHeld => ?_)
          clear hK K
          try simp only [Act.put, List.setIfInBounds_toArray, List.set_cons_zero, List.set_cons_succ]
          refine wpAnyH_take (i := 14) (oi := ({ dst := some 99, op := _, type := _, pos := _, after := _, guard := _ } : Oper)) (v := ?_) rfl (by kernel_rfl) (by kernel_rfl) (by kernel_rfl) (fun _ _ _ h => h) (Or.inl ⟨by rfl, ?_⟩) (by assumption) ?_
          rotate_left
          · (intro w' hSw; (try dsimp only at hSw); go_simp; try with_reducible rfl)
          simp only [Act.put, List.setIfInBounds_toArray, List.set_cons_zero, List.set_cons_succ]
          refine wpAnyH_take (i := 15) (oi := ({ dst := some 100, op := _, type := _, pos := _, after := _, guard := _ } : Oper)) (v := ?_) rfl (by kernel_rfl) (by kernel_rfl) (by kernel_rfl) (fun _ _ _ h => h) (Or.inl ⟨by rfl, ?_⟩) (by assumption) ?_
          rotate_left
          · (intro w' hSw; (try dsimp only at hSw); go_simp; try with_reducible rfl)
          simp only [Act.put, List.setIfInBounds_toArray, List.set_cons_zero, List.set_cons_succ]
          refine wpAnyH_take (i := 16) (oi := ({ dst := some 101, op := _, type := _, pos := _, after := _, guard := _ } : Oper)) (v := ?_) rfl (by kernel_rfl) (by kernel_rfl) (by kernel_rfl) (fun _ _ _ h => h) (Or.inl ⟨by rfl, ?_⟩) (by assumption) ?_
          rotate_left
          · (intro w' hSw; (try dsimp only at hSw); go_simp; try with_reducible rfl)
          simp only [Act.put, List.setIfInBounds_toArray, List.set_cons_zero, List.set_cons_succ]
          refine wpAnyH_take (i := 17) (oi := ({ dst := some 102, op := _, type := _, pos := _, after := _, guard := _ } : Oper)) (v := ?_) rfl (by kernel_rfl) (by kernel_rfl) (by kernel_rfl) (fun _ _ _ h => h) (Or.inl ⟨by rfl, ?_⟩) (by assumption) ?_
          rotate_left
          · (intro w' hSw; (try dsimp only at hSw); go_simp; try with_reducible rfl)
          simp only [Act.put, List.setIfInBounds_toArray, List.set_cons_zero, List.set_cons_succ]
          refine wpAnyH_ready (rs := [18]) (by kernel_rfl) (by simp) (AllReadyH.cons (o := ({ dst := some 103, op := _, type := _, pos := _, after := _, guard := _ } : Oper)) rfl (fun K hK => ?_) AllReadyH.nil)
          go_simp
          refine (HON.out _).mono ?_
          rintro e w7 ⟨rfl, rfl⟩
          go_wp2_with fail
          refine hK.out _ _ (hs3) (fun hHeld => ?_)
          clear hK K
          try simp only [Act.put, List.setIfInBounds_toArray, List.set_cons_zero, List.set_cons_succ]
          refine wpAnyH_take (i := 19) (oi := ({ dst := some 104, op := _, type := _, pos := _, after := _, guard := _ } : Oper)) (v := ?_) rfl (by kernel_rfl) (by kernel_rfl) (by kernel_rfl) (fun _ _ _ h => h) (Or.inl ⟨by rfl, ?_⟩) (by assumption) ?_
          rotate_left
          · (intro w' hSw; (try dsimp only at hSw); go_simp; try with_reducible rfl)
          simp only [Act.put, List.setIfInBounds_toArray, List.set_cons_zero, List.set_cons_succ]
          refine wpAnyH_take (i := 20) (oi := ({ dst := some 105, op := _, type := _, pos := _, after := _, guard := _ } : Oper)) (v := ?_) rfl (by kernel_rfl) (by kernel_rfl) (by kernel_rfl) (fun _ _ _ h => h) (Or.inl ⟨by rfl, ?_⟩) (by assumption) ?_
          rotate_left
          · (intro w' hSw; (try dsimp only at hSw); go_simp; try with_reducible rfl)
          simp only [Act.put, List.setIfInBounds_toArray, List.set_cons_zero, List.set_cons_succ]
          refine wpAnyH_take (i := 21) (oi := ({ dst := some 106, op := _, type := _, pos := _, after := _, guard := _ } : Oper)) (v := ?_) rfl (by kernel_rfl) (by kernel_rfl) (by kernel_rfl) (fun _ _ _ h => h) (Or.inl ⟨by rfl, ?_⟩) (by assumption) ?_
          rotate_left
          · (intro w' hSw; (try dsimp only at hSw); go_simp; try with_reducible rfl)
          simp only [Act.put, List.setIfInBounds_toArray, List.set_cons_zero, List.set_cons_succ]
          refine wpAnyH_take (i := 22) (oi := ({ dst := some 107, op := _, type := _, pos := _, after := _, guard := _ } : Oper)) (v := ?_) rfl (by kernel_rfl) (by kernel_rfl) (by kernel_rfl) (fun _ _ _ h => h) (Or.inl ⟨by rfl, ?_⟩) (by assumption) ?_
          rotate_left
          · (intro w' hSw; (try dsimp only at hSw); go_simp; try with_reducible rfl)
          simp only [Act.put, List.setIfInBounds_toArray, List.set_cons_zero, List.set_cons_succ]
          refine wpAnyH_take (i := 23) (oi := ({ dst := some 108, op := _, type := _, pos := _, after := _, guard := _ } : Oper)) (v := ?_) rfl (by kernel_rfl) (by kernel_rfl) (by kernel_rfl) (fun _ _ _ h => h) (Or.inl ⟨by rfl, ?_⟩) (by assumption) ?_
          rotate_left
          · (intro w' hSw; (try dsimp only at hSw); go_simp; try with_reducible rfl)
          simp only [Act.put, List.setIfInBounds_toArray, List.set_cons_zero, List.set_cons_succ]
          refine wpAnyH_ready (rs := [24]) (by kernel_rfl) (by simp) (AllReadyH.cons (o := ({ dst := some 109, op := _, type := _, pos := _, after := _, guard := _ } : Oper)) rfl (fun K hK => ?_) AllReadyH.nil)
          go_simp
          refine (HMN.out _).mono ?_
          rintro e w7 ⟨rfl, rfl⟩
          go_wp2_with fail
          refine hK.out _ _ (hs3) (fun hHeld => ?_)
          clear hK K
          try simp only [Act.put, List.setIfInBounds_toArray, List.set_cons_zero, List.set_cons_succ]
          refine wpAnyH_take (i := 25) (oi := ({ dst := some 110, op := _, type := _, pos := _, after := _, guard := _ } : Oper)) (v := ?_) rfl (by kernel_rfl) (by kernel_rfl) (by kernel_rfl) (fun _ _ _ h => h) (Or.inl ⟨by rfl, ?_⟩) (by assumption) ?_
          rotate_left
          · (intro w' hSw; (try dsimp only at hSw); go_simp; try with_reducible rfl)
          simp only [Act.put, List.setIfInBounds_toArray, List.set_cons_zero, List.set_cons_succ]
          refine wpAnyH_take (i := 26) (oi := ({ dst := some 111, op := _, type := _, pos := _, after := _, guard := _ } : Oper)) (v := ?_) rfl (by kernel_rfl) (by kernel_rfl) (by kernel_rfl) (fun _ _ _ h => h) (Or.inl ⟨by rfl, ?_⟩) (by assumption) ?_
          rotate_left
          · (intro w' hSw; (try dsimp only at hSw); go_simp; try with_reducible rfl)
          simp only [Act.put, List.setIfInBounds_toArray, List.set_cons_zero, List.set_cons_succ]
          refine wpAnyH_take (i := 27) (oi := ({ dst := some 4, op := _, type := _, pos := _, after := _, guard := _ } : Oper)) (v := ?_) rfl (by kernel_rfl) (by kernel_rfl) (by kernel_rfl) (fun _ _ _ h => h) (Or.inl ⟨by rfl, ?_⟩) (by assumption) ?_
          rotate_left
          · (intro w' hSw; (try dsimp only at hSw); go_simp; try with_reducible rfl)
          simp only [Act.put, List.setIfInBounds_toArray, List.set_cons_zero, List.set_cons_succ]
          refine wpAnyH_done (by kernel_rfl) ?_ _
          refine NoPanic.normal ?_
          go_wp2_with fail
          go_ret
          exact RetB.mk rfl HB7.out

end Go.Proofs.Ytjijekbbjegghaa

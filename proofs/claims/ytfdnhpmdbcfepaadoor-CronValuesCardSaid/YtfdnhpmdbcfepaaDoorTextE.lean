/- Package cron: Text (printed by a program). -/
import Derived.Test.YtfdnhpmdbcfepaaDoorTextW
namespace Go.Proofs.YtfdnhpmdbcfepaaDoor
open Go.RowKit Go.ChangeMaps

theorem idx62_0 (W : World) (a b c d e : Value) : (Instr.index 62 (.agg #[a, b, c, d, e]) (.int .i64 0)).run Tryd.prog W = .ok a W := by kernel_rfl
theorem idx62_1 (W : World) (a b c d e : Value) : (Instr.index 62 (.agg #[a, b, c, d, e]) (.int .i64 1)).run Tryd.prog W = .ok b W := by kernel_rfl
theorem idx62_2 (W : World) (a b c d e : Value) : (Instr.index 62 (.agg #[a, b, c, d, e]) (.int .i64 2)).run Tryd.prog W = .ok c W := by kernel_rfl
theorem idx62_3 (W : World) (a b c d e : Value) : (Instr.index 62 (.agg #[a, b, c, d, e]) (.int .i64 3)).run Tryd.prog W = .ok d W := by kernel_rfl
theorem idx62_4 (W : World) (a b c d e : Value) : (Instr.index 62 (.agg #[a, b, c, d, e]) (.int .i64 4)).run Tryd.prog W = .ok e W := by kernel_rfl
set_option maxRecDepth 100000 in
set_option maxHeartbeats 8000000 in
theorem exprText_any (w : World) (hT : TabL w) (e : Ex) (ok : e.Ok) : Calls Tryd.prog 23 #[e.v] w (RetB (.string ⟨(textE e).toArray⟩) w) := by
  obtain ⟨i0, hi, hz0, hz1, hz2⟩ := info_parts info_str2
  have HT := Lib.hid hT
  have HLEN := Lib.hid (textE_len e)
  have HTL := Lib.hid (show textE e = joinL 32 (textsE e) from rfl)
  have HTS := Lib.hid (show textsE e = [textF e.mi (e.mi == 1152921504606846975), textF e.ho (e.ho == 16777215), textF e.da e.ad, textF e.mo (e.mo == 8190), textF e.we e.aw] from rfl)
  obtain ⟨o0, o1, o2, o3, o4⟩ := ok
  have HX : Hid (∀ W k v a, TabL W → v < 18446744073709551616 → Calls Tryd.prog 37 #[(fld k).v, .int .u64 (v : Nat), .bool a] W (RetB (.string ⟨(textF v a).toArray⟩) W)) := Lib.hid fun W k v a h hv => fieldText_any W h (fld k) v hv a
  clear hT
  obtain ⟨mi, ho, da, mo, we, ad, aw⟩ := e
  unfold Ex.v Ex.cells
  simp only at *
  have hc0 : (mi == 1152921504606846975) = ((mi : Int) == 1152921504606846975) := by rw [Bool.eq_iff_iff, beq_iff_eq, beq_iff_eq]; omega
  have hc1 : (ho == 16777215) = ((ho : Int) == 16777215) := by rw [Bool.eq_iff_iff, beq_iff_eq, beq_iff_eq]; omega
  have hc3 : (mo == 8190) = ((mo : Int) == 8190) := by rw [Bool.eq_iff_iff, beq_iff_eq, beq_iff_eq]; omega
  rw [hc0, hc1, hc3] at HTS
  have HB0 : Hid (∀ W, Calls Tryd.prog 26 #[.int .i64 0] W (RetB (fld 0).v W)) := Lib.hid fun W => bounds_any W 0 (by decide)
  have HW0 : Hid (∀ W, Calls Tryd.prog 36 #[(fld 0).v] W (RetB (.int .u64 1152921504606846975) W)) := Lib.hid fun W => whole_any5 W 0 (by decide)
  have HX0 : Hid (∀ W, TabL W → Calls Tryd.prog 37 #[(fld 0).v, .int .u64 mi, .bool ((mi : Int) == 1152921504606846975)] W (RetB (.string ⟨(textF mi ((mi : Int) == 1152921504606846975)).toArray⟩) W)) := Lib.hid fun W h => HX.out W 0 mi ((mi : Int) == 1152921504606846975) h o0
  have HB1 : Hid (∀ W, Calls Tryd.prog 26 #[.int .i64 1] W (RetB (fld 1).v W)) := Lib.hid fun W => bounds_any W 1 (by decide)
  have HW1 : Hid (∀ W, Calls Tryd.prog 36 #[(fld 1).v] W (RetB (.int .u64 16777215) W)) := Lib.hid fun W => whole_any5 W 1 (by decide)
  have HX1 : Hid (∀ W, TabL W → Calls Tryd.prog 37 #[(fld 1).v, .int .u64 ho, .bool ((ho : Int) == 16777215)] W (RetB (.string ⟨(textF ho ((ho : Int) == 16777215)).toArray⟩) W)) := Lib.hid fun W h => HX.out W 1 ho ((ho : Int) == 16777215) h o1
  have HB2 : Hid (∀ W, Calls Tryd.prog 26 #[.int .i64 2] W (RetB (fld 2).v W)) := Lib.hid fun W => bounds_any W 2 (by decide)
  have HW2 : Hid (∀ W, Calls Tryd.prog 36 #[(fld 2).v] W (RetB (.int .u64 4294967294) W)) := Lib.hid fun W => whole_any5 W 2 (by decide)
  have HX2 : Hid (∀ W, TabL W → Calls Tryd.prog 37 #[(fld 2).v, .int .u64 da, .bool ad] W (RetB (.string ⟨(textF da ad).toArray⟩) W)) := Lib.hid fun W h => HX.out W 2 da ad h o2
  have HB3 : Hid (∀ W, Calls Tryd.prog 26 #[.int .i64 3] W (RetB (fld 3).v W)) := Lib.hid fun W => bounds_any W 3 (by decide)
  have HW3 : Hid (∀ W, Calls Tryd.prog 36 #[(fld 3).v] W (RetB (.int .u64 8190) W)) := Lib.hid fun W => whole_any5 W 3 (by decide)
  have HX3 : Hid (∀ W, TabL W → Calls Tryd.prog 37 #[(fld 3).v, .int .u64 mo, .bool ((mo : Int) == 8190)] W (RetB (.string ⟨(textF mo ((mo : Int) == 8190)).toArray⟩) W)) := Lib.hid fun W h => HX.out W 3 mo ((mo : Int) == 8190) h o3
  have HB4 : Hid (∀ W, Calls Tryd.prog 26 #[.int .i64 4] W (RetB (fld 4).v W)) := Lib.hid fun W => bounds_any W 4 (by decide)
  have HW4 : Hid (∀ W, Calls Tryd.prog 36 #[(fld 4).v] W (RetB (.int .u64 255) W)) := Lib.hid fun W => whole_any5 W 4 (by decide)
  have HX4 : Hid (∀ W, TabL W → Calls Tryd.prog 37 #[(fld 4).v, .int .u64 we, .bool aw] W (RetB (.string ⟨(textF we aw).toArray⟩) W)) := Lib.hid fun W h => HX.out W 4 we aw h o4
  clear HX o0 o1 o2 o3 o4 hc0 hc1 hc3
  unfold Fld.v at *
  generalize (fld 0).low = l0 at *
  generalize (fld 0).high = h0 at *
  obtain ⟨n0, hn0⟩ : ∃ n : ByteArray, n = ⟨(fld 0).names.toArray⟩ := ⟨_, rfl⟩
  rw [← hn0] at HB0 HW0 HX0
  clear hn0
  generalize textF mi ((mi : Int) == 1152921504606846975) = t0 at *
  generalize (fld 1).low = l1 at *
  generalize (fld 1).high = h1 at *
  obtain ⟨n1, hn1⟩ : ∃ n : ByteArray, n = ⟨(fld 1).names.toArray⟩ := ⟨_, rfl⟩
  rw [← hn1] at HB1 HW1 HX1
  clear hn1
  generalize textF ho ((ho : Int) == 16777215) = t1 at *
  generalize (fld 2).low = l2 at *
  generalize (fld 2).high = h2 at *
  obtain ⟨n2, hn2⟩ : ∃ n : ByteArray, n = ⟨(fld 2).names.toArray⟩ := ⟨_, rfl⟩
  rw [← hn2] at HB2 HW2 HX2
  clear hn2
  generalize textF da ad = t2 at *
  generalize (fld 3).low = l3 at *
  generalize (fld 3).high = h3 at *
  obtain ⟨n3, hn3⟩ : ∃ n : ByteArray, n = ⟨(fld 3).names.toArray⟩ := ⟨_, rfl⟩
  rw [← hn3] at HB3 HW3 HX3
  clear hn3
  generalize textF mo ((mo : Int) == 8190) = t3 at *
  generalize (fld 4).low = l4 at *
  generalize (fld 4).high = h4 at *
  obtain ⟨n4, hn4⟩ : ∃ n : ByteArray, n = ⟨(fld 4).names.toArray⟩ := ⟨_, rfl⟩
  rw [← hn4] at HB4 HW4 HX4
  clear hn4
  generalize textF we aw = t4 at *
  generalize textE ⟨mi, ho, da, mo, we, ad, aw⟩ = TX at *
  generalize textsE ⟨mi, ho, da, mo, we, ad, aw⟩ = TS at *
  have i62_0 := idx62_0
  have i62_1 := idx62_1
  have i62_2 := idx62_2
  have i62_3 := idx62_3
  have i62_4 := idx62_4
  go_enter Tryd.func23, Tryd.ntmps23
  go_wp2_with fail
  go_loopw [4, 21] (fun s4 ix wr => ∃ k : Nat, k ≤ 5 ∧ ix = .int .i64 k ∧ wr.ownsRow 0 9 1 s4 k ((([t0, t1, t2, t3, t4] : List Bs).take k).map strE) ∧ wr.heap[w.heap.size]? = some (.cells #[.int .u64 mi, .int .u64 ho, .int .u64 da, .int .u64 mo, .int .u64 we, .bool ad, .bool aw] 25) ∧ Below w.heap.size w wr ∧ (∀ j, s4.ownBlock = some j → w.heap.size < j)) (fun _ ix _ => 5 - (intOf ix).toNat)
  case atStart => exact ⟨0, by omega, rfl, World.ownsRow_nil _ _ _ _, aheap (heap_new w _) _, ((Below.refl _ _).alloc (Nat.le_refl _) _).alloc (by simp) _, by simp [Value.ownBlock]⟩
  case round =>
    obtain ⟨k, hk, rfl, hown, hx, hb, hnew⟩ := hrel
    obtain ⟨wo, rfl⟩ : ∃ wo : World, wo = wr := ⟨_, rfl⟩
    have HO := Lib.hid hown
    have HX := Lib.hid hx
    have HB := Lib.hid hb
    have HN := Lib.hid hnew
    clear hown hx hb hnew
    by_cases hlt : k < 5
    · have hkk : k = 0 ∨ k = 1 ∨ k = 2 ∨ k = 3 ∨ k = 4 := by omega
      clear hk hlt
      rcases hkk with rfl | rfl | rfl | rfl | rfl
      · go_wp2_with fail
        refine (HB0.out _).mono ?_
        rintro e w1 ⟨rfl, hb1⟩
        go_wp2_with fail
        refine (HW0.out _).mono ?_
        rintro e w2 ⟨rfl, hb2⟩
        have hf2 := bheap hb2 (heap_new w1 (.cells #[.int .i64 l0, .int .i64 h0, .string n0] 65)) (by simp)
        have c0 : w2.cell? ⟨w1.heap.size, 0, none⟩ = some (.int .i64 l0) := blk_cell hf2 0 rfl
        have c1 : w2.cell? ⟨w1.heap.size, 1, none⟩ = some (.int .i64 h0) := blk_cell hf2 1 rfl
        have c2 : w2.cell? ⟨w1.heap.size, 2, none⟩ = some (.string n0) := blk_cell hf2 2 rfl
        have hb02 : Below wo.heap.size wo w2 := (hb1.alloc hb1.size _).trans (hb2.mono (by simp; have := hb1.size; omega))
        have HB02 := Lib.hid hb02
        clear hf2 hb1 hb2 hb02
        go_wp2_with fail
        refine (HX0.out _ (HT.out.step (HB.out.trans (HB02.out.mono HB.out.size)))).mono ?_
        rintro e w3 ⟨rfl, hb3⟩
        have HB03 := Lib.hid (HB02.out.trans (hb3.mono HB02.out.size))
        have HO3 := Lib.hid (owns_kept HO.out (Keeps.of_belowS (S := fun _ => False) HB03.out) (fun _ _ h => h))
        have HM0 := Lib.hid (show 0 + 1 ≤ maxLen by decide)
        have HM1 := Lib.hid (show (0 + 1) * 16 ≤ 140737488355328 by decide)
        clear hb3 c0 c1 c2
        go_wp2_with (at_builtin; refine wpList_append_one w3 rfl _ _ _ rfl 9 i0 (.string ⟨#[]⟩) 16 Tryd.underlying31 hi hz0 hz1 hz2 rfl u4 0 _ rfl HO3.out (.string ⟨t0.toArray⟩) _ rfl rfl HM0.out HM1.out ?_; intro v5 w5 hown5 hg5 hrow5; have HO5 := Lib.hid hown5; have HG5 := Lib.hid hg5; have HR5 := Lib.hid hrow5; clear hown5 hg5 hrow5)
        go_roundw
        case rel =>
          have hk5 : Keeps (fun j => u4.ownBlock = some j) wo w5 := (((Keeps.of_belowS HB03.out).alloc _).trans (grown_keeps HG5.out fun j hj => hj.symm))
          refine ⟨0 + 1, by omega, rfl, ?_, ?_, ?_, ?_⟩
          · have := HO5.out
            simpa [strE] using this
          · exact hk5.heap (fun h => by have := HN.out _ h; omega) HX.out
          · have h1 : Keeps (fun j => w.heap.size ≤ j) w w5 := (Keeps.of_below HB.out).trans (hk5.mono fun j _ h => Nat.le_of_lt (HN.out j h))
            exact h1.below (Nat.le_refl _) (fun j hj => hj)
          · intro j hj
            rcases HR5.out with h1 | ⟨i, h1, h2, _⟩
            · exact HN.out j (h1 ▸ hj)
            · rw [h1] at hj; cases hj; have a1 := HB03.out.size; have a2 := heap_lt HX.out; simp at h2; omega
        case measure => simp [intOf]
      · go_wp2_with fail
        refine (HB1.out _).mono ?_
        rintro e w1 ⟨rfl, hb1⟩
        go_wp2_with fail
        refine (HW1.out _).mono ?_
        rintro e w2 ⟨rfl, hb2⟩
        have hf2 := bheap hb2 (heap_new w1 (.cells #[.int .i64 l1, .int .i64 h1, .string n1] 65)) (by simp)
        have c0 : w2.cell? ⟨w1.heap.size, 0, none⟩ = some (.int .i64 l1) := blk_cell hf2 0 rfl
        have c1 : w2.cell? ⟨w1.heap.size, 1, none⟩ = some (.int .i64 h1) := blk_cell hf2 1 rfl
        have c2 : w2.cell? ⟨w1.heap.size, 2, none⟩ = some (.string n1) := blk_cell hf2 2 rfl
        have hb02 : Below wo.heap.size wo w2 := (hb1.alloc hb1.size _).trans (hb2.mono (by simp; have := hb1.size; omega))
        have HB02 := Lib.hid hb02
        clear hf2 hb1 hb2 hb02
        go_wp2_with fail
        refine (HX1.out _ (HT.out.step (HB.out.trans (HB02.out.mono HB.out.size)))).mono ?_
        rintro e w3 ⟨rfl, hb3⟩
        have HB03 := Lib.hid (HB02.out.trans (hb3.mono HB02.out.size))
        have HO3 := Lib.hid (owns_kept HO.out (Keeps.of_belowS (S := fun _ => False) HB03.out) (fun _ _ h => h))
        have HM0 := Lib.hid (show 1 + 1 ≤ maxLen by decide)
        have HM1 := Lib.hid (show (1 + 1) * 16 ≤ 140737488355328 by decide)
        clear hb3 c0 c1 c2
        go_wp2_with (at_builtin; refine wpList_append_one w3 rfl _ _ _ rfl 9 i0 (.string ⟨#[]⟩) 16 Tryd.underlying31 hi hz0 hz1 hz2 rfl u4 1 _ rfl HO3.out (.string ⟨t1.toArray⟩) _ rfl rfl HM0.out HM1.out ?_; intro v5 w5 hown5 hg5 hrow5; have HO5 := Lib.hid hown5; have HG5 := Lib.hid hg5; have HR5 := Lib.hid hrow5; clear hown5 hg5 hrow5)
        go_roundw
        case rel =>
          have hk5 : Keeps (fun j => u4.ownBlock = some j) wo w5 := (((Keeps.of_belowS HB03.out).alloc _).trans (grown_keeps HG5.out fun j hj => hj.symm))
          refine ⟨1 + 1, by omega, rfl, ?_, ?_, ?_, ?_⟩
          · have := HO5.out
            simpa [strE] using this
          · exact hk5.heap (fun h => by have := HN.out _ h; omega) HX.out
          · have h1 : Keeps (fun j => w.heap.size ≤ j) w w5 := (Keeps.of_below HB.out).trans (hk5.mono fun j _ h => Nat.le_of_lt (HN.out j h))
            exact h1.below (Nat.le_refl _) (fun j hj => hj)
          · intro j hj
            rcases HR5.out with h1 | ⟨i, h1, h2, _⟩
            · exact HN.out j (h1 ▸ hj)
            · rw [h1] at hj; cases hj; have a1 := HB03.out.size; have a2 := heap_lt HX.out; simp at h2; omega
        case measure => simp [intOf]
      · go_wp2_with fail
        refine (HB2.out _).mono ?_
        rintro e w1 ⟨rfl, hb1⟩
        go_wp2_with fail
        refine (HW2.out _).mono ?_
        rintro e w2 ⟨rfl, hb2⟩
        have hf2 := bheap hb2 (heap_new w1 (.cells #[.int .i64 l2, .int .i64 h2, .string n2] 65)) (by simp)
        have c0 : w2.cell? ⟨w1.heap.size, 0, none⟩ = some (.int .i64 l2) := blk_cell hf2 0 rfl
        have c1 : w2.cell? ⟨w1.heap.size, 1, none⟩ = some (.int .i64 h2) := blk_cell hf2 1 rfl
        have c2 : w2.cell? ⟨w1.heap.size, 2, none⟩ = some (.string n2) := blk_cell hf2 2 rfl
        have g5 : w2.cell? ⟨w.heap.size, 5, none⟩ = some (.bool ad) := blk_cell (bheap hb2 (aheap (bheap hb1 HX.out (heap_lt HX.out)) _) (by simp; have := heap_lt (bheap hb1 HX.out (heap_lt HX.out)); omega)) 5 rfl
        have hb02 : Below wo.heap.size wo w2 := (hb1.alloc hb1.size _).trans (hb2.mono (by simp; have := hb1.size; omega))
        have HB02 := Lib.hid hb02
        clear hf2 hb1 hb2 hb02
        go_wp2_with fail
        refine (HX2.out _ (HT.out.step (HB.out.trans (HB02.out.mono HB.out.size)))).mono ?_
        rintro e w3 ⟨rfl, hb3⟩
        have HB03 := Lib.hid (HB02.out.trans (hb3.mono HB02.out.size))
        have HO3 := Lib.hid (owns_kept HO.out (Keeps.of_belowS (S := fun _ => False) HB03.out) (fun _ _ h => h))
        have HM0 := Lib.hid (show 2 + 1 ≤ maxLen by decide)
        have HM1 := Lib.hid (show (2 + 1) * 16 ≤ 140737488355328 by decide)
        clear hb3 c0 c1 c2
        go_wp2_with (at_builtin; refine wpList_append_one w3 rfl _ _ _ rfl 9 i0 (.string ⟨#[]⟩) 16 Tryd.underlying31 hi hz0 hz1 hz2 rfl u4 2 _ rfl HO3.out (.string ⟨t2.toArray⟩) _ rfl rfl HM0.out HM1.out ?_; intro v5 w5 hown5 hg5 hrow5; have HO5 := Lib.hid hown5; have HG5 := Lib.hid hg5; have HR5 := Lib.hid hrow5; clear hown5 hg5 hrow5)
        go_roundw
        case rel =>
          have hk5 : Keeps (fun j => u4.ownBlock = some j) wo w5 := (((Keeps.of_belowS HB03.out).alloc _).trans (grown_keeps HG5.out fun j hj => hj.symm))
          refine ⟨2 + 1, by omega, rfl, ?_, ?_, ?_, ?_⟩
          · have := HO5.out
            simpa [strE] using this
          · exact hk5.heap (fun h => by have := HN.out _ h; omega) HX.out
          · have h1 : Keeps (fun j => w.heap.size ≤ j) w w5 := (Keeps.of_below HB.out).trans (hk5.mono fun j _ h => Nat.le_of_lt (HN.out j h))
            exact h1.below (Nat.le_refl _) (fun j hj => hj)
          · intro j hj
            rcases HR5.out with h1 | ⟨i, h1, h2, _⟩
            · exact HN.out j (h1 ▸ hj)
            · rw [h1] at hj; cases hj; have a1 := HB03.out.size; have a2 := heap_lt HX.out; simp at h2; omega
        case measure => simp [intOf]
      · go_wp2_with fail
        refine (HB3.out _).mono ?_
        rintro e w1 ⟨rfl, hb1⟩
        go_wp2_with fail
        refine (HW3.out _).mono ?_
        rintro e w2 ⟨rfl, hb2⟩
        have hf2 := bheap hb2 (heap_new w1 (.cells #[.int .i64 l3, .int .i64 h3, .string n3] 65)) (by simp)
        have c0 : w2.cell? ⟨w1.heap.size, 0, none⟩ = some (.int .i64 l3) := blk_cell hf2 0 rfl
        have c1 : w2.cell? ⟨w1.heap.size, 1, none⟩ = some (.int .i64 h3) := blk_cell hf2 1 rfl
        have c2 : w2.cell? ⟨w1.heap.size, 2, none⟩ = some (.string n3) := blk_cell hf2 2 rfl
        have hb02 : Below wo.heap.size wo w2 := (hb1.alloc hb1.size _).trans (hb2.mono (by simp; have := hb1.size; omega))
        have HB02 := Lib.hid hb02
        clear hf2 hb1 hb2 hb02
        go_wp2_with fail
        refine (HX3.out _ (HT.out.step (HB.out.trans (HB02.out.mono HB.out.size)))).mono ?_
        rintro e w3 ⟨rfl, hb3⟩
        have HB03 := Lib.hid (HB02.out.trans (hb3.mono HB02.out.size))
        have HO3 := Lib.hid (owns_kept HO.out (Keeps.of_belowS (S := fun _ => False) HB03.out) (fun _ _ h => h))
        have HM0 := Lib.hid (show 3 + 1 ≤ maxLen by decide)
        have HM1 := Lib.hid (show (3 + 1) * 16 ≤ 140737488355328 by decide)
        clear hb3 c0 c1 c2
        go_wp2_with (at_builtin; refine wpList_append_one w3 rfl _ _ _ rfl 9 i0 (.string ⟨#[]⟩) 16 Tryd.underlying31 hi hz0 hz1 hz2 rfl u4 3 _ rfl HO3.out (.string ⟨t3.toArray⟩) _ rfl rfl HM0.out HM1.out ?_; intro v5 w5 hown5 hg5 hrow5; have HO5 := Lib.hid hown5; have HG5 := Lib.hid hg5; have HR5 := Lib.hid hrow5; clear hown5 hg5 hrow5)
        go_roundw
        case rel =>
          have hk5 : Keeps (fun j => u4.ownBlock = some j) wo w5 := (((Keeps.of_belowS HB03.out).alloc _).trans (grown_keeps HG5.out fun j hj => hj.symm))
          refine ⟨3 + 1, by omega, rfl, ?_, ?_, ?_, ?_⟩
          · have := HO5.out
            simpa [strE] using this
          · exact hk5.heap (fun h => by have := HN.out _ h; omega) HX.out
          · have h1 : Keeps (fun j => w.heap.size ≤ j) w w5 := (Keeps.of_below HB.out).trans (hk5.mono fun j _ h => Nat.le_of_lt (HN.out j h))
            exact h1.below (Nat.le_refl _) (fun j hj => hj)
          · intro j hj
            rcases HR5.out with h1 | ⟨i, h1, h2, _⟩
            · exact HN.out j (h1 ▸ hj)
            · rw [h1] at hj; cases hj; have a1 := HB03.out.size; have a2 := heap_lt HX.out; simp at h2; omega
        case measure => simp [intOf]
      · go_wp2_with fail
        refine (HB4.out _).mono ?_
        rintro e w1 ⟨rfl, hb1⟩
        go_wp2_with fail
        refine (HW4.out _).mono ?_
        rintro e w2 ⟨rfl, hb2⟩
        have hf2 := bheap hb2 (heap_new w1 (.cells #[.int .i64 l4, .int .i64 h4, .string n4] 65)) (by simp)
        have c0 : w2.cell? ⟨w1.heap.size, 0, none⟩ = some (.int .i64 l4) := blk_cell hf2 0 rfl
        have c1 : w2.cell? ⟨w1.heap.size, 1, none⟩ = some (.int .i64 h4) := blk_cell hf2 1 rfl
        have c2 : w2.cell? ⟨w1.heap.size, 2, none⟩ = some (.string n4) := blk_cell hf2 2 rfl
        have g6 : w2.cell? ⟨w.heap.size, 6, none⟩ = some (.bool aw) := blk_cell (bheap hb2 (aheap (bheap hb1 HX.out (heap_lt HX.out)) _) (by simp; have := heap_lt (bheap hb1 HX.out (heap_lt HX.out)); omega)) 6 rfl
        have hb02 : Below wo.heap.size wo w2 := (hb1.alloc hb1.size _).trans (hb2.mono (by simp; have := hb1.size; omega))
        have HB02 := Lib.hid hb02
        clear hf2 hb1 hb2 hb02
        go_wp2_with fail
        refine (HX4.out _ (HT.out.step (HB.out.trans (HB02.out.mono HB.out.size)))).mono ?_
        rintro e w3 ⟨rfl, hb3⟩
        have HB03 := Lib.hid (HB02.out.trans (hb3.mono HB02.out.size))
        have HO3 := Lib.hid (owns_kept HO.out (Keeps.of_belowS (S := fun _ => False) HB03.out) (fun _ _ h => h))
        have HM0 := Lib.hid (show 4 + 1 ≤ maxLen by decide)
        have HM1 := Lib.hid (show (4 + 1) * 16 ≤ 140737488355328 by decide)
        clear hb3 c0 c1 c2
        go_wp2_with (at_builtin; refine wpList_append_one w3 rfl _ _ _ rfl 9 i0 (.string ⟨#[]⟩) 16 Tryd.underlying31 hi hz0 hz1 hz2 rfl u4 4 _ rfl HO3.out (.string ⟨t4.toArray⟩) _ rfl rfl HM0.out HM1.out ?_; intro v5 w5 hown5 hg5 hrow5; have HO5 := Lib.hid hown5; have HG5 := Lib.hid hg5; have HR5 := Lib.hid hrow5; clear hown5 hg5 hrow5)
        go_roundw
        case rel =>
          have hk5 : Keeps (fun j => u4.ownBlock = some j) wo w5 := (((Keeps.of_belowS HB03.out).alloc _).trans (grown_keeps HG5.out fun j hj => hj.symm))
          refine ⟨4 + 1, by omega, rfl, ?_, ?_, ?_, ?_⟩
          · have := HO5.out
            simpa [strE] using this
          · exact hk5.heap (fun h => by have := HN.out _ h; omega) HX.out
          · have h1 : Keeps (fun j => w.heap.size ≤ j) w w5 := (Keeps.of_below HB.out).trans (hk5.mono fun j _ h => Nat.le_of_lt (HN.out j h))
            exact h1.below (Nat.le_refl _) (fun j hj => hj)
          · intro j hj
            rcases HR5.out with h1 | ⟨i, h1, h2, _⟩
            · exact HN.out j (h1 ▸ hj)
            · rw [h1] at hj; cases hj; have a1 := HB03.out.size; have a2 := heap_lt HX.out; simp at h2; omega
        case measure => simp [intOf]
    · obtain rfl : k = 5 := by omega
      obtain ⟨g, cap, rfl⟩ : ∃ g cap, u4 = .slice (some ⟨g, 0, none⟩) 5 cap := by
        rcases HO.out.2 with ⟨_, h⟩ | ⟨g, cap, cur, h, _⟩
        · omega
        · exact ⟨g, cap, h⟩
      have HTX : Hid (TX = joinL 32 [t0, t1, t2, t3, t4]) := Lib.hid (by rw [HTL.out, HTS.out])
      have hj := join_any wo 32 [t0, t1, t2, t3, t4] g cap HO.out (by rw [← HTX.out]; have := HLEN.out; omega) (show (5 : Nat) ≤ 1000 by decide)
      rw [← HTX.out] at hj
      go_wp2_with fail
      refine hj.mono ?_
      rintro e w2 ⟨rfl, hb2⟩
      go_wp2_with fail
      go_ret
      exact RetB.mk rfl (HB.out.trans (hb2.mono HB.out.size))

end Go.Proofs.YtfdnhpmdbcfepaaDoor

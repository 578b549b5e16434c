/- Package cron: bounds, Parse. Package spec: span, rises, numbers; slices.ContainsFunc at names. -/
import Derived.Test.YtheipmallojdkaaGreatDoorIrM21
import Derived.Test.YtheipmallojdkaaGreatDoorIrM02
import Derived.Test.YtheipmallojdkaaGreatDoorIrM10
import Derived.Deep.QuietTactic
import Derived.BigQuiet
import Derived.RegionTactic

namespace Go.Proofs.YtheipmallojdkaaGreatDoor
open Go.RowKit Go.ChangeMaps

theorem idx5_0 (W : World) (a b c d e f g h i j k l m n o : Value) : (Instr.index 183 (.agg #[a, b, c, d, e, f, g, h, i, j, k, l, m, n, o]) (.int .i64 0)).run Tryz.prog W = .ok (.agg #[a, b, c]) W := by kernel_rfl
theorem idx5_1 (W : World) (a b c d e f g h i j k l m n o : Value) : (Instr.index 183 (.agg #[a, b, c, d, e, f, g, h, i, j, k, l, m, n, o]) (.int .i64 1)).run Tryz.prog W = .ok (.agg #[d, e, f]) W := by kernel_rfl
theorem idx5_2 (W : World) (a b c d e f g h i j k l m n o : Value) : (Instr.index 183 (.agg #[a, b, c, d, e, f, g, h, i, j, k, l, m, n, o]) (.int .i64 2)).run Tryz.prog W = .ok (.agg #[g, h, i]) W := by kernel_rfl
theorem idx5_3 (W : World) (a b c d e f g h i j k l m n o : Value) : (Instr.index 183 (.agg #[a, b, c, d, e, f, g, h, i, j, k, l, m, n, o]) (.int .i64 3)).run Tryz.prog W = .ok (.agg #[j, k, l]) W := by kernel_rfl
theorem idx5_4 (W : World) (a b c d e f g h i j k l m n o : Value) : (Instr.index 183 (.agg #[a, b, c, d, e, f, g, h, i, j, k, l, m, n, o]) (.int .i64 4)).run Tryz.prog W = .ok (.agg #[m, n, o]) W := by kernel_rfl

set_option maxRecDepth 100000 in
set_option maxHeartbeats 4000000 in
theorem bounds_any (w : World) (i : Nat) (hi : i < 5) : Calls Tryz.prog 88 #[.int .i64 i] w (RetB (fld i).v w) := by
  match i, hi with
  | 0, _ =>
    show Calls _ _ #[.int .i64 0] w _
    have hx := idx5_0
    go_enter Tryz.func88, Tryz.ntmps88
    go_wp2
    exact bodyPost_ret (v := (fld 0).v) (by simp [results, Tryz.results88, go_sem, Fld.v, fld, monthsB, daysB]) rfl (RetB.mk rfl ((Below.refl _ _).alloc (Nat.le_refl _) _))
  | 1, _ =>
    show Calls _ _ #[.int .i64 1] w _
    have hx := idx5_1
    go_enter Tryz.func88, Tryz.ntmps88
    go_wp2
    exact bodyPost_ret (v := (fld 1).v) (by simp [results, Tryz.results88, go_sem, Fld.v, fld, monthsB, daysB]) rfl (RetB.mk rfl ((Below.refl _ _).alloc (Nat.le_refl _) _))
  | 2, _ =>
    show Calls _ _ #[.int .i64 2] w _
    have hx := idx5_2
    go_enter Tryz.func88, Tryz.ntmps88
    go_wp2
    exact bodyPost_ret (v := (fld 2).v) (by simp [results, Tryz.results88, go_sem, Fld.v, fld, monthsB, daysB]) rfl (RetB.mk rfl ((Below.refl _ _).alloc (Nat.le_refl _) _))
  | 3, _ =>
    show Calls _ _ #[.int .i64 3] w _
    have hx := idx5_3
    go_enter Tryz.func88, Tryz.ntmps88
    go_wp2
    exact bodyPost_ret (v := (fld 3).v) (by simp [results, Tryz.results88, go_sem, Fld.v, fld, monthsB, daysB]) rfl (RetB.mk rfl ((Below.refl _ _).alloc (Nat.le_refl _) _))
  | 4, _ =>
    show Calls _ _ #[.int .i64 4] w _
    have hx := idx5_4
    go_enter Tryz.func88, Tryz.ntmps88
    go_wp2
    exact bodyPost_ret (v := (fld 4).v) (by simp [results, Tryz.results88, go_sem, Fld.v, fld, monthsB, daysB]) rfl (RetB.mk rfl ((Below.refl _ _).alloc (Nat.le_refl _) _))

def Ex.cells (e : Ex) : Array Value := #[.int .u64 e.mi, .int .u64 e.ho, .int .u64 e.da, .int .u64 e.mo, .int .u64 e.we, .bool e.ad, .bool e.aw]
def Ex.v (e : Ex) : Value := .agg e.cells
def cronV (r : Ex × Int) : Value := .tuple #[r.1.v, .int .i64 r.2]

theorem info_ex : (Tryz.prog.info? 140).map (·.size) = some 7 := by kernel_rfl

theorem fieldsF_first : ∀ (l : List Bs) (i k : Nat), k < l.length → (∀ j, j < k → (valuesF (fld (i + j)) (l.getD j [])).2 = 0) → (valuesF (fld (i + k)) (l.getD k [])).2 ≠ 0 → fieldsF i l = ([], (valuesF (fld (i + k)) (l.getD k [])).2)
  | [], _, _, h, _, _ => by simp at h
  | t :: r, i, k, hk, h0, h1 => by
    cases k with
    | zero =>
      have h1' : (valuesF (fld i) t).2 ≠ 0 := by simpa using h1
      unfold fieldsF
      rw [if_pos h1']
      simp
    | succ k =>
      have h00 : (valuesF (fld i) t).2 = 0 := by simpa using h0 0 (by omega)
      have e : i + (k + 1) = i + 1 + k := by omega
      have ih := fieldsF_first r (i + 1) k (by simpa using hk) (fun j hj => by
        have := h0 (j + 1) (by omega)
        rw [show i + (j + 1) = i + 1 + j by omega] at this
        simpa using this) (by rw [e] at h1; simpa using h1)
      unfold fieldsF
      rw [if_neg (by simpa using h00), ih, e]
      have h1' : (valuesF (fld (i + 1 + k)) (r.getD k [])).2 ≠ 0 := by rw [e] at h1; simpa using h1
      rw [if_pos h1']
      simp
theorem fieldsF_all : ∀ (l : List Bs) (i : Nat), (∀ j, j < l.length → (valuesF (fld (i + j)) (l.getD j [])).2 = 0) → (fieldsF i l).2 = 0
  | [], _, _ => rfl
  | t :: r, i, h => by
    have h0 : (valuesF (fld i) t).2 = 0 := by simpa using h 0 (by simp)
    have ih := fieldsF_all r (i + 1) fun j hj => by
      have := h (j + 1) (by simpa using hj)
      rw [show i + (j + 1) = i + 1 + j by omega] at this
      simpa using this
    unfold fieldsF
    rw [if_neg (by simpa using h0), if_neg (by simpa using ih)]

theorem cronParse_long (w : World) (s : Bs) (h : 128 < s.length) (hs : s.length ≤ 9223372036854775807) : Calls Tryz.prog 75 #[.string ⟨s.toArray⟩] w (RetB (cronV (cronF s)) w) := by
  have e : cronF s = (Ex.zero, 15) := by
    have hp : parseF s = ([], 15) := by unfold parseF; rw [if_pos h]
    unfold cronF
    rw [hp]
    rfl
  rw [e]
  clear e
  go_enter Tryz.func75, Tryz.ntmps75
  go_wp2
  exact bodyPost_ret (v := cronV (Ex.zero, 15)) (by simp [results, Tryz.results75, go_sem, cronV, Ex.v, Ex.cells, Ex.zero]) rfl (RetB.mk rfl ((Below.refl _ _).alloc (Nat.le_refl _) _))

theorem cronParse_five (w : World) (s : Bs) (hm : MaxL w) (h : s.length ≤ 128) (h5 : (splitL 32 s).length ≠ 5) : Calls Tryz.prog 75 #[.string ⟨s.toArray⟩] w (RetB (cronV (cronF s)) w) := by
  have e : cronF s = (Ex.zero, 2) := by
    have hp : parseF s = ([], 2) := by unfold parseF; rw [if_neg (by omega), if_pos h5]
    unfold cronF
    rw [hp]
    rfl
  rw [e]
  clear e
  have hsp := strSplit_any (w.alloc (.cells #[.int .u64 0, .int .u64 0, .int .u64 0, .int .u64 0, .int .u64 0, .bool false, .bool false] 140)) 32 s (hm.alloc _) (by omega)
  have hne : (((splitL 32 s).length : Int) != 5) = true := by simp; omega
  have hle := splitL_le 32 s
  generalize splitL 32 s = L at *
  clear h5 hm
  go_enter Tryz.func75, Tryz.ntmps75
  go_wp2_with fail
  refine hsp.mono ?_
  rintro en w' ⟨rfl, rfl⟩
  go_wp2
  have hb : ((w.alloc (.cells #[.int .u64 0, .int .u64 0, .int .u64 0, .int .u64 0, .int .u64 0, .bool false, .bool false] 140)).alloc (.cells (L.map fun p => Value.string ⟨p.toArray⟩).toArray 9)).heap[w.heap.size]? = some (.cells #[.int .u64 0, .int .u64 0, .int .u64 0, .int .u64 0, .int .u64 0, .bool false, .bool false] 140) := aheap (heap_new w _) _
  exact bodyPost_ret (results_blk2 Tryz.results75 _ _ w.heap.size _ _ _ (by rfl) hb _ Tryz.underlying140 rfl info_ex) rfl (RetB.mk rfl (((Below.refl _ _).alloc (Nat.le_refl _) _).alloc (by simp) _))

/-- The five fields' bits, as far as they are read. -/
def bitsAt (L : List Bs) (k j : Nat) : Nat := if j < k then orBits (valuesF (fld j) (L.getD j [])).1 else 0
def arr5 (L : List Bs) (k : Nat) : Array Value := #[.int .u64 (bitsAt L k 0), .int .u64 (bitsAt L k 1), .int .u64 (bitsAt L k 2), .int .u64 (bitsAt L k 3), .int .u64 (bitsAt L k 4)]
theorem arr5_step (L : List Bs) (k : Nat) (hk : k < 5) : (arr5 L k).setIfInBounds k (.int .u64 (orBits (valuesF (fld k) (L.getD k [])).1)) = arr5 L (k + 1) := by
  match k, hk with
  | 0, _ => simp [arr5, bitsAt]
  | 1, _ => simp [arr5, bitsAt]
  | 2, _ => simp [arr5, bitsAt]
  | 3, _ => simp [arr5, bitsAt]
  | 4, _ => simp [arr5, bitsAt]
theorem arr5_cell (L : List Bs) (k j : Nat) (hj : j < 5) : (arr5 L k)[j]? = some (.int .u64 (bitsAt L k j)) := by
  match j, hj with
  | 0, _ => rfl
  | 1, _ => rfl
  | 2, _ => rfl
  | 3, _ => rfl
  | 4, _ => rfl
theorem bitsAt_lt (L : List Bs) (k j : Nat) : bitsAt L k j < 18446744073709551616 := by
  unfold bitsAt
  split
  · exact orBits_lt _ fun x hx => by have := valuesF_in j _ x hx; omega
  · decide
theorem sunday_bits (o : Nat) (h : o < 18446744073709551616) : bits .or .u64 (bits .andNot .u64 (o : Int) 128) (bits .and .u64 ((o : Int) / 128) 1) = ((sunday o : Nat) : Int) := by
  have e : (o : Int) / 128 = ((o / 128 : Nat) : Int) := by simp
  have h1 := u64_andNot_nat o 128 h (by decide)
  have h2 := u64_and_nat (o / 128) 1 (by omega) (by decide)
  rw [e]
  rw [show ((128 : Nat) : Int) = (128 : Int) from rfl] at h1
  rw [show ((1 : Nat) : Int) = (1 : Int) from rfl] at h2
  rw [h1, h2]
  exact u64_or_nat _ _ (Nat.and_lt_two_pow (n := 64) _ (by decide)) (Nat.and_lt_two_pow (n := 64) _ (by decide))

set_option maxRecDepth 100000 in
set_option maxHeartbeats 8000000 in
theorem cronParse_main (w : World) (s : Bs) (hm : MaxL w) (h : s.length ≤ 128) (h5 : (splitL 32 s).length = 5) : Calls Tryz.prog 75 #[.string ⟨s.toArray⟩] w (RetB (cronV (cronF s)) w) := by
  have hsp := strSplit_any (w.alloc (.cells #[.int .u64 0, .int .u64 0, .int .u64 0, .int .u64 0, .int .u64 0, .bool false, .bool false] 140)) 32 s (hm.alloc _) (by omega)
  have HPF := Lib.hid (show parseF s = fieldsF 0 (splitL 32 s) by unfold parseF; rw [if_neg (by omega), if_neg (by omega)])
  have HEX := Lib.hid (show cronF s = if (parseF s).2 = 0 then (exF s, 0) else (Ex.zero, (parseF s).2) from rfl)
  have HG := Lib.hid (fun (h0 : (parseF s).2 = 0) (k : Nat) (hk : k < 5) => parseF_get h0 hk)
  have HXF := Lib.hid (show exF s = ⟨orBits ((parseF s).1.getD 0 []), orBits ((parseF s).1.getD 1 []), orBits ((parseF s).1.getD 2 []), orBits ((parseF s).1.getD 3 []), sunday (orBits ((parseF s).1.getD 4 [])), decide ((splitL 32 s).getD 2 [] = [42]), decide ((splitL 32 s).getD 4 [] = [42])⟩ from rfl)
  have HVA : Hid (∀ W i p, MaxL W → p ∈ splitL 32 s → Calls Tryz.prog 89 #[(fld i).v, .string ⟨p.toArray⟩] W (RetB (valuesV (fld i) p) W)) :=
    Lib.hid fun W i p hW hp => cronValues_any W i p hW (by have := splitL_mem_len 32 s p hp; omega)
  have HM := Lib.hid hm
  have HFF := Lib.hid (fieldsF_first (splitL 32 s) 0)
  have HFA := Lib.hid (fieldsF_all (splitL 32 s) 0)
  generalize parseF s = PF at *
  generalize cronF s = CF at *
  generalize exF s = XF at *
  generalize splitL 32 s = L at *
  have H5 := Lib.hid h5
  rw [h5] at hsp
  clear hm h5
  go_enter Tryz.func75, Tryz.ntmps75
  go_wp2_with fail
  refine hsp.mono ?_
  rintro en w1 ⟨rfl, hw1⟩
  have hbel : Below w.heap.size w w1 := by rw [hw1]; exact ((Below.refl _ _).alloc (Nat.le_refl _) _).alloc (by simp) _
  have hx : w1.heap[w.heap.size]? = some (.cells #[.int .u64 0, .int .u64 0, .int .u64 0, .int .u64 0, .int .u64 0, .bool false, .bool false] 140) := by rw [hw1]; exact aheap (heap_new w _) _
  have hy : w1.heap[w.heap.size + 1]? = some (.cells (L.map fun p => Value.string ⟨p.toArray⟩).toArray 9) := by
    have := heap_new (w.alloc (.cells #[.int .u64 0, .int .u64 0, .int .u64 0, .int .u64 0, .int .u64 0, .bool false, .bool false] 140)) (.cells (L.map fun p => Value.string ⟨p.toArray⟩).toArray 9)
    rw [hw1]
    simpa using this
  have hz : w1.heap.size = w.heap.size + 2 := by rw [hw1]; simp
  have hv := heap_new w1 (.cells #[.int .u64 0, .int .u64 0, .int .u64 0, .int .u64 0, .int .u64 0] 158)
  rw [hz] at hv
  have HBEL := Lib.hid (hbel.alloc hbel.size (.cells #[.int .u64 0, .int .u64 0, .int .u64 0, .int .u64 0, .int .u64 0] 158))
  have HX := Lib.hid (aheap hx (.cells #[.int .u64 0, .int .u64 0, .int .u64 0, .int .u64 0, .int .u64 0] 158))
  have HY := Lib.hid (aheap hy (.cells #[.int .u64 0, .int .u64 0, .int .u64 0, .int .u64 0, .int .u64 0] 158))
  have HV := Lib.hid hv
  clear hbel hx hy hw1 hsp hv
  have hz0 : bitsAt L 0 0 = 0 ∧ bitsAt L 0 1 = 0 := ⟨rfl, rfl⟩
  clear hz0
  go_wp2_with fail
  go_loopw [22] (fun ix wr => ∃ k : Nat, k ≤ 5 ∧ ix = .int .i64 k ∧ (∀ j, j < k → (valuesF (fld (0 + j)) (L.getD j [])).2 = 0) ∧ wr.heap[w.heap.size]? = some (.cells #[.int .u64 0, .int .u64 0, .int .u64 0, .int .u64 0, .int .u64 0, .bool false, .bool false] 140) ∧ wr.heap[w.heap.size + 1]? = some (.cells (L.map fun p => Value.string ⟨p.toArray⟩).toArray 9) ∧ wr.heap[w.heap.size + 2]? = some (.cells (arr5 L k) 158) ∧ Below w.heap.size w wr) (fun ix _ => 5 - (intOf ix).toNat)
  case atStart => exact ⟨0, by omega, rfl, fun j hj => by omega, HX.out, HY.out, HV.out, HBEL.out⟩
  case round =>
    clear HX HY HV HBEL
    obtain ⟨k, hk, rfl, h0, hx, hy, hv, hb⟩ := hrel
    obtain ⟨wo, rfl⟩ : ∃ wo : World, wo = wr := ⟨_, rfl⟩
    have H0 := Lib.hid h0
    have HX := Lib.hid hx
    have HY := Lib.hid hy
    have HV := Lib.hid hv
    have HB := Lib.hid hb
    clear h0
    by_cases hlt : k < 5
    · obtain ⟨p, hp⟩ : ∃ p, L[k]? = some p := ⟨L[k]'(by have := H5.out; omega), List.getElem?_eq_getElem _⟩
      have hpd : L.getD k [] = p := by rw [List.getD_eq_getElem?_getD, hp]; rfl
      have hcell := piece_cell hy hp
      have hbo := bounds_any wo k hlt
      have hva := fun W (hW : MaxL W) => HVA.out W k p hW (List.mem_of_getElem? hp)
      have HAS := Lib.hid (arr5_step L k hlt)
      rw [hpd] at HAS
      have HE := Lib.hid (HFF.out k (by have := H5.out; omega) H0.out)
      rw [hpd, Nat.zero_add] at HE
      have HPD := Lib.hid hpd
      unfold valuesV at hva
      clear hx hy hv hb hp hpd
      obtain ⟨r, hr⟩ : ∃ r, r = valuesF (fld k) p := ⟨_, rfl⟩
      rw [← hr] at hva HAS HE
      have HR := Lib.hid hr
      clear hr
      obtain ⟨vs, e⟩ := r
      simp only at *
      obtain ⟨o, ho⟩ : ∃ o, o = orBits vs := ⟨_, rfl⟩
      rw [← ho] at HAS hva
      clear ho
      have hvk := arr5_cell L k k hlt
      by_cases he : e = 0
      · subst he
        go_wp2_with fail
        refine hbo.mono ?_
        rintro en w2 ⟨rfl, hb2⟩
        have HB2 := Lib.hid (HB.out.trans (hb2.mono HB.out.size))
        have hvb := hva w2 (HM.out.step HB2.out)
        have HBB := Lib.hid hb2
        clear hbo hva hb2
        go_wp2_with fail
        refine hvb.mono ?_
        rintro en w3 ⟨rfl, hb3⟩
        have HB3 := Lib.hid (HB2.out.trans (hb3.mono HB2.out.size))
        have hb13 := HBB.out.trans (hb3.mono HBB.out.size)
        have hx3 := bheap hb13 HX.out (heap_lt HX.out)
        have hy3 := bheap hb13 HY.out (heap_lt HY.out)
        have hv3 := bheap hb13 HV.out (heap_lt HV.out)
        have HX3 := Lib.hid hx3
        have HY3 := Lib.hid hy3
        have HV3 := Lib.hid hv3
        have c1 := blk_cell hv3 k hvk
        have c2 := blk_free hv3 k
        clear hvb hb3 hb13 hx3 hy3 hv3
        go_wp2_with fail
        go_roundw
        case rel =>
          have hset := blk_set HV3.out k (.int .u64 o)
          rw [HAS.out] at hset
          refine ⟨k + 1, by omega, by go_num, fun j hj => ?_, blk_set_other HX3.out (by simp) _, blk_set_other HY3.out (by simp) _, hset, HB3.out.setCell (by simp) _⟩
          by_cases hjk : j < k
          · exact H0.out j hjk
          · obtain rfl : j = k := by omega
            rw [Nat.zero_add, HPD.out, ← HR.out]
        case measure => simp [intOf]; omega
      · have heb : (e != 0) = true := by simpa using he
        have HEE := Lib.hid (HE.out he)
        have HE0 := Lib.hid he
        clear he HE HAS
        go_wp2_with fail
        refine hbo.mono ?_
        rintro en w2 ⟨rfl, hb2⟩
        have HB2 := Lib.hid (HB.out.trans (hb2.mono HB.out.size))
        have hvb := hva w2 (HM.out.step HB2.out)
        have HBB := Lib.hid hb2
        clear hbo hva hb2
        go_wp2_with fail
        refine hvb.mono ?_
        rintro en w3 ⟨rfl, hb3⟩
        have HB3 := Lib.hid (HB2.out.trans (hb3.mono HB2.out.size))
        have hb13 := HBB.out.trans (hb3.mono HBB.out.size)
        have hx3 := bheap hb13 HX.out (heap_lt HX.out)
        have HX3 := Lib.hid hx3
        clear hvb hb3 hb13 hx3
        go_wp2_with (first | (refine wpList_store_all _ rfl _ _ _ rfl _ rfl _ rfl _ _ HX3.out ?_ ?_ info_ex ?_ ?_; (focus (simp; done)); (focus (simp; done)); (focus (simp [OneCells, Value.oneCell']; done))))
        intro W hW hkW _
        go_wp2_with fail
        exact bodyPost_ret (results_blk2 Tryz.results75 _ _ w.heap.size _ _ _ (by rfl) hW _ Tryz.underlying140 rfl info_ex) rfl
          (RetB.mk (by rw [HEX.out, HPF.out, HEE.out, if_neg HE0.out]; rfl) (HB3.out.trans (hkW.below HB3.out.size (fun k hk => Nat.le_of_eq hk.symm))))
    · obtain rfl : k = 5 := by omega
      have c4 := blk_cell hv 4 (arr5_cell L 5 4 (by decide))
      have f4 := blk_free hv 4
      obtain ⟨p2, hp2⟩ : ∃ p, L[2]? = some p := ⟨L[2]'(by have := H5.out; omega), List.getElem?_eq_getElem _⟩
      obtain ⟨p4, hp4⟩ : ∃ p, L[4]? = some p := ⟨L[4]'(by have := H5.out; omega), List.getElem?_eq_getElem _⟩
      have g2 := piece_cell hy hp2
      have g4 := piece_cell hy hp4
      have hlt4 := bitsAt_lt L 5 4
      obtain ⟨o, ho⟩ : ∃ o, o = bitsAt L 5 4 := ⟨_, rfl⟩
      rw [← ho] at c4 hlt4
      have HO := Lib.hid ho
      clear ho hx hy hv
      have HSUN := Lib.hid (sunday_bits o hlt4)
      go_upto_region 16 with (fail)
      rw [HSUN.out]
      refine still_tail 18 (by kernel_rfl) (by kernel_rfl) ?_
      intro W hW
      have hx := blk_set_other HX.out (a := ⟨w.heap.size + 2, 4, none⟩) (by simp) (.int .u64 (sunday o))
      have hy := blk_set_other HY.out (a := ⟨w.heap.size + 2, 4, none⟩) (by simp) (.int .u64 (sunday o))
      have hv := blk_set HV.out 4 (.int .u64 (sunday o))
      have hbw : Below w.heap.size w W := by rw [hW]; exact bel_drew (HB.out.setCell (by simp) _)
      have hxW := (show W.heap[w.heap.size]? = (wo.setCell ⟨w.heap.size + 2, 4, none⟩ (.int .u64 (sunday o))).heap[w.heap.size]? by rw [hW]; rfl).trans hx
      have hyW := (show W.heap[w.heap.size + 1]? = (wo.setCell ⟨w.heap.size + 2, 4, none⟩ (.int .u64 (sunday o))).heap[w.heap.size + 1]? by rw [hW]; rfl).trans hy
      have hvW := (show W.heap[w.heap.size + 2]? = (wo.setCell ⟨w.heap.size + 2, 4, none⟩ (.int .u64 (sunday o))).heap[w.heap.size + 2]? by rw [hW]; rfl).trans hv
      have d0 : W.cell? ⟨w.heap.size + 2, 0, none⟩ = some (.int .u64 (bitsAt L 5 0)) := blk_cell hvW 0 rfl
      have d1 : W.cell? ⟨w.heap.size + 2, 1, none⟩ = some (.int .u64 (bitsAt L 5 1)) := blk_cell hvW 1 rfl
      have d2 : W.cell? ⟨w.heap.size + 2, 2, none⟩ = some (.int .u64 (bitsAt L 5 2)) := blk_cell hvW 2 rfl
      have d3 : W.cell? ⟨w.heap.size + 2, 3, none⟩ = some (.int .u64 (bitsAt L 5 3)) := blk_cell hvW 3 rfl
      have d4 : W.cell? ⟨w.heap.size + 2, 4, none⟩ = some (.int .u64 (sunday o)) := blk_cell hvW 4 rfl
      have g2 := piece_cell hyW hp2
      have g4 := piece_cell hyW hp4
      have HXW := Lib.hid hxW
      have HBW := Lib.hid hbw
      have HP2 := Lib.hid (show L.getD 2 [] = p2 by rw [List.getD_eq_getElem?_getD, hp2]; rfl)
      have HP4 := Lib.hid (show L.getD 4 [] = p4 by rw [List.getD_eq_getElem?_getD, hp4]; rfl)
      have H5' := H5.out
      clear hW hx hy hv hbw hxW hyW hvW c4 f4 hp2 hp4
      simp only [List.take_succ_cons, List.take_zero, List.drop_succ_cons, List.drop_zero]
      repeat still_step
      refine wpStill_nil ?_
      go_wp2_with (first | (refine wpList_store_all _ rfl _ _ _ rfl _ rfl _ rfl _ _ HXW.out ?_ ?_ info_ex ?_ ?_; (focus (simp; done)); (focus (simp; done)); (focus (simp [OneCells, Value.oneCell']; done))))
      intro W2 hW2 hk2 _
      have HFIN : Hid (CF = (⟨bitsAt L 5 0, bitsAt L 5 1, bitsAt L 5 2, bitsAt L 5 3, sunday o, p2 == [42], p4 == [42]⟩, 0)) := by
        have h0 : PF.2 = 0 := by
          rw [HPF.out]
          exact HFA.out fun j hj => H0.out j (by omega)
        have b2 : (p2 == [42]) = decide (L.getD 2 [] = [42]) := by rw [HP2.out, Bool.eq_iff_iff]; simp
        have b4 : (p4 == [42]) = decide (L.getD 4 [] = [42]) := by rw [HP4.out, Bool.eq_iff_iff]; simp
        refine Lib.hid ?_
        rw [HEX.out, if_pos h0, HXF.out, (HG.out h0 0 (by decide)).1, (HG.out h0 1 (by decide)).1, (HG.out h0 2 (by decide)).1, (HG.out h0 3 (by decide)).1, (HG.out h0 4 (by decide)).1, HO.out, b2, b4]
        rfl
      go_wp2_with fail
      exact bodyPost_ret (results_blk2 Tryz.results75 _ _ w.heap.size _ _ _ (by rfl) hW2 _ Tryz.underlying140 rfl info_ex) rfl
        (RetB.mk (by rw [HFIN.out]; rfl) (HBW.out.trans (hk2.below HBW.out.size (fun k hk => Nat.le_of_eq hk.symm))))

theorem cronParse_any (w : World) (s : Bs) (hm : MaxL w) (hs : s.length ≤ 9223372036854775807) : Calls Tryz.prog 75 #[.string ⟨s.toArray⟩] w (RetB (cronV (cronF s)) w) := by
  by_cases h : 128 < s.length
  · exact cronParse_long w s h hs
  · by_cases h5 : (splitL 32 s).length = 5
    · exact cronParse_main w s hm (by omega) h5
    · exact cronParse_five w s hm (by omega) h5

end Go.Proofs.YtheipmallojdkaaGreatDoor

namespace Go.Proofs.YtheipmallojdkaaGreatDoor
open Go.RowKit

theorem span_any (w : World) (x : Int) : Calls Tryz.prog 85 #[.int .i64 x] w (Ret (.bool (spanB x)) w) := by
  by_cases h1 : 0 ≤ x <;> by_cases h2 : x ≤ 1048576
  all_goals
    go_enter Tryz.func85, Tryz.ntmps85
    go_wp2
    go_ret
    exact Ret.mk (bool_eq (by unfold spanB; simp [h1, h2]))

attribute [local go_sem] Oper.semAt_some

theorem run_geq_str (t : TypeId) (a b : ByteArray) : binOp .geq t (.string a) (.string b) = pure (.bool !(lessB a b)) := by simp [binOp, Op.stringOp, lessB]
attribute [local go_sem] run_geq_str

theorem rises_stop {l : List ByteArray} {i : Nat} {a b : ByteArray} (ha : l[i]? = some a) (hb : l[i + 1]? = some b) (h : lessB a b = false) : risesB l = false := by
  cases hr : risesB l
  · rfl
  · rw [(rises_iff l).1 hr i a b ha hb] at h; cases h
theorem rises_end {l : List ByteArray} {k : Nat} (hk : l.length ≤ k) (h : ∀ i a b, i + 1 < k → l[i]? = some a → l[i + 1]? = some b → lessB a b = true) : risesB l = true :=
  (rises_iff l).2 fun i a b ha hb => h i a b (by have := (List.getElem?_eq_some_iff.1 hb).1; omega) ha hb

set_option maxHeartbeats 4000000 in
theorem rises_any (w : World) (a : Option Addr) (n cap : Nat) (l : List ByteArray) (h : Sl strv w (.slice a n cap) l) : Calls Tryz.prog 86 #[.slice a n cap] w (RetB (.bool (risesB l)) w) := by
  obtain ⟨a', cap', he, h1, h2, h3⟩ := h
  cases he
  unfold maxLen at h2
  have HLC := Lib.hid h1
  have hlm : l.length ≤ 9223372036854775807 := by omega
  clear h1
  go_enter Tryz.func86, Tryz.ntmps86
  go_wp2
  go_loopw [3] (fun i wr => ∃ k : Nat, 1 ≤ k ∧ (k ≤ l.length ∨ k = 1) ∧ i = .int .i64 k ∧ Below w.heap.size w wr ∧ ∀ i a b, i + 1 < k → l[i]? = some a → l[i + 1]? = some b → lessB a b = true) (fun i _ => l.length - (intOf i).toNat)
  case atStart => exact ⟨1, by omega, .inr rfl, rfl, Below.refl _ _, fun i a b hi => by omega⟩
  case round =>
    obtain ⟨k, hk1, hk, rfl, hbw, hm⟩ := hrel
    have HM := Lib.hid hm
    have HBW := Lib.hid hbw
    clear hm
    by_cases hlt : k < l.length
    · rcases h3 with ⟨rfl, rfl⟩ | ⟨b, o, rfl, hb, hc⟩
      · have := HLC.out; omega
      · obtain ⟨j, rfl⟩ : ∃ j, k = j + 1 := ⟨k - 1, by omega⟩
        have hj0 : l[j]? = some l[j] := List.getElem?_eq_getElem (by omega)
        have hj1 : l[j + 1]? = some l[j + 1] := List.getElem?_eq_getElem hlt
        have c0 : wr.cell? ⟨b, o + j, none⟩ = some (.string l[j]) := (bcell hbw _ _ hb).trans (hc j _ hj0)
        have c1 : wr.cell? ⟨b, o + (j + 1), none⟩ = some (.string l[j + 1]) := (bcell hbw _ _ hb).trans (hc (j + 1) _ hj1)
        generalize l[j] = x at *
        generalize l[j + 1] = y at *
        have HJ0 := Lib.hid hj0
        have HJ1 := Lib.hid hj1
        clear hc hj0 hj1 hbw
        have hw1 : IntKind.i64.wrap ((j + 1 : Nat) - 1 : Int) = (j : Int) := by rw [IntKind.wrap_i64]; omega
        have hw2 : IntKind.i64.wrap (((j : Int) + 1) - 1 : Int) = (j : Int) := by rw [IntKind.wrap_i64]; omega
        cases hxy : Op.bytesLess x.toList y.toList
        · have HXY : Hid (risesB l = false) := Lib.hid (rises_stop HJ0.out HJ1.out hxy)
          have hgeq : (!Op.bytesLess x.toList y.toList) = true := by rw [hxy]; rfl
          go_wp2_with fail
          go_quiet (fail)
          go_wp2_with fail
          go_ret
          exact RetB.mk (by rw [HXY.out]; rfl) (bel_drewN HBW.out _)
        · have HXY := Lib.hid hxy
          have hgeq : (!Op.bytesLess x.toList y.toList) = false := by rw [hxy]; rfl
          go_wp2_with fail
          go_quiet (fail)
          go_wp2_with fail
          go_round
          case rel =>
            refine ⟨j + 2, by omega, .inl (by omega), by go_num, bel_drewN HBW.out _, fun i a b hi ha hb => ?_⟩
            by_cases hij : i = j
            · subst hij
              rw [HJ0.out] at ha
              rw [HJ1.out] at hb
              cases ha; cases hb
              exact HXY.out
            · exact HM.out i a b (by omega) ha hb
          case measure => simp [intOf]; omega
    · have HR : Hid (risesB l = true) := Lib.hid (rises_end (by omega) HM.out)
      have hlen : l.length = l.length := rfl
      go_wp2_with fail
      go_ret
      exact RetB.mk (by rw [HR.out]; rfl) HBW.out

end Go.Proofs.YtheipmallojdkaaGreatDoor

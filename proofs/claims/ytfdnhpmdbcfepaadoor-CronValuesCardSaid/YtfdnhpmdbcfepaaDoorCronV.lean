/- The statement CronValues: its walk. -/
import Derived.Test.YtfdnhpmdbcfepaaDoorValL
import Derived.Test.YtfdnhpmdbcfepaaDoorTextE
import Derived.Test.YtfdnhpmdbcfepaaDoorTabL
import Derived.Test.YtfdnhpmdbcfepaaDoorRefN
import Derived.Test.YtfdnhpmdbcfepaaDoorLives07
import Derived.Test.YtfdnhpmdbcfepaaDoorOpenEx
import Derived.Laws.IdiomStrings
namespace Go.Proofs.YtfdnhpmdbcfepaaDoor
open Go.RowKit Go.ChangeMaps

theorem strAppV (a b : Bs) : (⟨a.toArray⟩ : ByteArray) ++ ⟨b.toArray⟩ = ⟨(a ++ b).toArray⟩ := by
  apply ByteArray.ext
  simp [ByteArray.data_append]
theorem conv1 (w : World) (c : Int) (h0 : 0 ≤ c) (hc : c ≤ 255) : (convert 60 9 (.slice (some ⟨w.heap.size, 0, none⟩) 1 1)).run Tryd.prog (w.alloc (.cells #[.int .u8 c] 5)) = .ok (.string ⟨#[UInt8.ofNat c.toNat]⟩) (w.alloc (.cells #[.int .u8 c] 5)) := by
  have h := run_convert_bytes_back (P := Tryd.prog) (w.alloc (.cells #[.int .u8 c] 5)) 60 9 5 ⟨w.heap.size, 0, none⟩ 1 [UInt8.ofNat c.toNat] Tryd.underlying60 Tryd.underlying5 Tryd.underlying9 (fun j hj => by
    have hj0 : j = 0 := by simpa using hj
    subst hj0
    rw [addr_add]
    have e : (((UInt8.ofNat c.toNat).toNat : Nat) : Int) = c := by simp; omega
    simp only [List.getElem_cons_zero, e]
    exact blk_cell (heap_new w _) 0 rfl)
  exact h
theorem cat1 (A : Bs) (a : UInt8) : (⟨A.toArray⟩ : ByteArray) ++ ⟨#[a]⟩ = ⟨(A ++ [a]).toArray⟩ := strAppV A [a]
theorem byteM (q : Nat) : UInt8.ofNat (48 + q) = 48 + UInt8.ofNat q := by rw [UInt8.ofNat_add]; rfl

theorem bit0_u64 (v x : Nat) (hv : v < 18446744073709551616) : (bits .and .u64 ((v : Int) / 2 ^ x) 1 == 0) = !v.testBit x := by
  have e1 : ((v : Int) / 2 ^ x) = ((v / 2 ^ x : Nat) : Int) := by simp
  have h2 : v / 2 ^ x < 18446744073709551616 := Nat.lt_of_le_of_lt (Nat.div_le_self _ _) hv
  have h := u64_and_nat (v / 2 ^ x) 1 h2 (by decide)
  rw [show ((1 : Nat) : Int) = (1 : Int) from rfl] at h
  rw [e1, h, Nat.and_one_is_mod, Nat.testBit_eq_decide_div_mod_eq]
  have hz : v / 2 ^ x % 2 < 2 := Nat.mod_lt _ (by decide)
  generalize v / 2 ^ x % 2 = z at hz ⊢
  have : z = 0 ∨ z = 1 := by omega
  rcases this with rfl | rfl <;> rfl

set_option maxRecDepth 100000 in
set_option maxHeartbeats 8000000 in
theorem values_any (w : World) (hm : MaxL w) (hT : TabL w) (e : Ex) (ok : e.Ok) : Calls Tryd.prog 10 #[e.v] w (RetB (.bool true) w) := by
  have HM := Lib.hid hm
  have HT := Lib.hid hT
  have HTX : Hid (∀ W, TabL W → Calls Tryd.prog 23 #[e.v] W (RetB (.string ⟨(textE e).toArray⟩) W)) := Lib.hid fun W h => exprText_any W h e ok
  have HBD : Hid (∀ W (k : Nat), k ≤ 4 → Calls Tryd.prog 24 #[.int .i64 k] W (RetB (.tuple #[.int .i64 (fld k).low, .int .i64 (fld k).high]) W)) := Lib.hid fun W k hk => refBounds_any W k hk
  have HPS : Hid (∀ k, k < 5 → joinL 32 ((textsE e).take (k + 1)) = preE e k ++ textF (fieldV e k) (anyF e k)) := Lib.hid fun k hk => pre_step e hk
  have HPL : Hid (∀ k, k ≤ 5 → (joinL 32 ((textsE e).take k)).length ≤ 965) := Lib.hid fun k hk => pre_len e k hk
  have HTL : Hid (textE e = joinL 32 ((textsE e).take 5)) := Lib.hid (by
    have : (textsE e).length = 5 := by unfold textsE; simp
    rw [List.take_of_length_le (by omega)]; rfl)
  have HFV : Hid (∀ k, k < 5 → fieldV e k < 18446744073709551616) := Lib.hid fun k hk => by
    have : k = 0 ∨ k = 1 ∨ k = 2 ∨ k = 3 ∨ k = 4 := by omega
    obtain ⟨o0, o1, o2, o3, o4⟩ := ok
    rcases this with rfl | rfl | rfl | rfl | rfl
    · exact o0
    · exact o1
    · exact o2
    · exact o3
    · exact o4
  have HPR : Hid (∀ k, preE e k = if k = 0 then [] else joinL 32 ((textsE e).take k) ++ [32]) := Lib.hid fun _ => rfl
  have HAW : Hid (∀ k, k < 5 → k ≠ 2 → k ≠ 4 → allU (fieldV e k) (fld k).low (fld k).high 64 = anyF e k) := Lib.hid fun k hk h2 h4 => by
    have hv : fieldV e k < 18446744073709551616 := HFV.out k hk
    rw [allU_whole hk hv]
    have : k = 0 ∨ k = 1 ∨ k = 3 := by omega
    rcases this with rfl | rfl | rfl <;> rfl
  have HA2 : Hid (anyF e 2 = e.ad) := Lib.hid rfl
  have HA4 : Hid (anyF e 4 = e.aw) := Lib.hid rfl
  have HVC : Hid (∀ k, k < 5 → (#[.int .u64 e.mi, .int .u64 e.ho, .int .u64 e.da, .int .u64 e.mo, .int .u64 e.we] : Array Value)[k]? = some (.int .u64 (fieldV e k))) := Lib.hid fun k hk => by
    have : k = 0 ∨ k = 1 ∨ k = 2 ∨ k = 3 ∨ k = 4 := by omega
    rcases this with rfl | rfl | rfl | rfl | rfl <;> rfl
  clear hm hT ok
  generalize textE e = TX at *
  generalize textsE e = TS at *
  obtain ⟨mi, ho, da, mo, we, ad, aw⟩ := e
  unfold Ex.v Ex.cells at *
  simp only at *
  generalize anyF ⟨mi, ho, da, mo, we, ad, aw⟩ = AN at *
  generalize fieldV ⟨mi, ho, da, mo, we, ad, aw⟩ = FV at *
  generalize preE ⟨mi, ho, da, mo, we, ad, aw⟩ = PE at *
  go_enter Tryd.func10, Tryd.ntmps10
  go_wp2_with fail
  refine (lives07 _ (HM.out.alloc _)).mono ?_
  rintro en w1 ⟨rfl, hb1⟩
  have hx1 := bheap hb1 (heap_new w (.cells #[.int .u64 mi, .int .u64 ho, .int .u64 da, .int .u64 mo, .int .u64 we, .bool ad, .bool aw] 25)) (by simp)
  have HX1 := Lib.hid hx1
  have HB1 := Lib.hid (((Below.refl _ w).alloc (Nat.le_refl _) (.cells #[.int .u64 mi, .int .u64 ho, .int .u64 da, .int .u64 mo, .int .u64 we, .bool ad, .bool aw] 25)).trans (hb1.mono (by simp)))
  have c0 : w1.cell? ⟨w.heap.size, 0, none⟩ = some (.int .u64 mi) := blk_cell hx1 0 rfl
  have c1 : w1.cell? ⟨w.heap.size, 1, none⟩ = some (.int .u64 ho) := blk_cell hx1 1 rfl
  have c2 : w1.cell? ⟨w.heap.size, 2, none⟩ = some (.int .u64 da) := blk_cell hx1 2 rfl
  have c3 : w1.cell? ⟨w.heap.size, 3, none⟩ = some (.int .u64 mo) := blk_cell hx1 3 rfl
  have c4 : w1.cell? ⟨w.heap.size, 4, none⟩ = some (.int .u64 we) := blk_cell hx1 4 rfl
  have c5 : w1.cell? ⟨w.heap.size, 5, none⟩ = some (.bool ad) := blk_cell hx1 5 rfl
  have c6 : w1.cell? ⟨w.heap.size, 6, none⟩ = some (.bool aw) := blk_cell hx1 6 rfl
  clear hx1 hb1
  go_wp2_with fail
  refine (HTX.out _ (HT.out.step HB1.out)).mono ?_
  rintro en w2 ⟨rfl, hb2⟩
  have hx2 := bheap hb2 HX1.out (heap_lt HX1.out)
  have HX2 := Lib.hid (aheap hx2 (.cells #[.int .u64 mi, .int .u64 ho, .int .u64 da, .int .u64 mo, .int .u64 we] 23))
  have HV2 := Lib.hid (heap_new w2 (.cells #[.int .u64 mi, .int .u64 ho, .int .u64 da, .int .u64 mo, .int .u64 we] 23))
  have HB2 := Lib.hid ((HB1.out.trans (hb2.mono HB1.out.size)).alloc (HB1.out.trans (hb2.mono HB1.out.size)).size (.cells #[.int .u64 mi, .int .u64 ho, .int .u64 da, .int .u64 mo, .int .u64 we] 23))
  have d0 : w2.cell? ⟨w.heap.size, 0, none⟩ = some (.int .u64 mi) := blk_cell hx2 0 rfl
  have d1 : w2.cell? ⟨w.heap.size, 1, none⟩ = some (.int .u64 ho) := blk_cell hx2 1 rfl
  have d2 : w2.cell? ⟨w.heap.size, 2, none⟩ = some (.int .u64 da) := blk_cell hx2 2 rfl
  have d3 : w2.cell? ⟨w.heap.size, 3, none⟩ = some (.int .u64 mo) := blk_cell hx2 3 rfl
  have d4 : w2.cell? ⟨w.heap.size, 4, none⟩ = some (.int .u64 we) := blk_cell hx2 4 rfl
  have d5 : w2.cell? ⟨w.heap.size, 5, none⟩ = some (.bool ad) := blk_cell hx2 5 rfl
  have d6 : w2.cell? ⟨w.heap.size, 6, none⟩ = some (.bool aw) := blk_cell hx2 6 rfl
  clear hx2 hb2 c0 c1 c2 c3 c4 c5 c6
  go_wp2_with fail
  obtain ⟨vb, hvb⟩ : ∃ vb, vb = w2.heap.size := ⟨_, rfl⟩
  rw [← hvb] at HV2 ⊢
  clear d0 d1 d2 d3 d4 d5 d6 hvb
  go_loopw [4, 29] (fun s4 ix wr => ∃ (k : Nat) (W : Bs), k ≤ 5 ∧ ix = .int .i64 k ∧ s4 = .string ⟨W.toArray⟩ ∧ W = joinL 32 (TS.take k) ∧ wr.heap[w.heap.size]? = some (.cells #[.int .u64 mi, .int .u64 ho, .int .u64 da, .int .u64 mo, .int .u64 we, .bool ad, .bool aw] 25) ∧ wr.heap[vb]? = some (.cells #[.int .u64 mi, .int .u64 ho, .int .u64 da, .int .u64 mo, .int .u64 we] 23) ∧ Below w.heap.size w wr) (fun _ ix _ => 5 - (intOf ix).toNat)
  case atStart => exact ⟨0, [], by omega, rfl, rfl, rfl, HX2.out, HV2.out, HB2.out⟩
  case round =>
    obtain ⟨k, WW, hk, rfl, rfl, hW, hx, hv, hb⟩ := hrel
    obtain ⟨wo, rfl⟩ : ∃ wo : World, wo = wr := ⟨_, rfl⟩
    have HW := Lib.hid hW
    have HX := Lib.hid hx
    have HV := Lib.hid hv
    have HB := Lib.hid hb
    clear hW hx hv hb
    by_cases hlt : k < 5
    · have cv : wo.cell? ⟨vb, k, none⟩ = some (.int .u64 (FV k)) := blk_cell HV.out k (HVC.out k hlt)
      have hbd := HBD.out wo k (by omega)
      have hfv := HFV.out k hlt
      have hwl : WW.length ≤ 965 := by rw [HW.out]; exact HPL.out k hk
      have HAWk := Lib.hid (HAW.out k hlt)
      have HPSk := Lib.hid (HPS.out k hlt)
      have HPRk := Lib.hid (HPR.out k)
      have HFL := Lib.hid (And.intro (fld_low k) (fld_high k))
      obtain ⟨v, hv⟩ : ∃ v, v = FV k := ⟨_, rfl⟩
      rw [← hv] at cv hfv HAWk HPSk
      clear hv
      generalize (fld k).low = lo at *
      generalize (fld k).high = hg at *
      obtain ⟨⟨f1, f2⟩, f3, f4⟩ := HFL.out
      go_wp2_with fail
      refine hbd.mono ?_
      rintro en w5 ⟨rfl, hb5⟩
      have hx5 := bheap hb5 HX.out (heap_lt HX.out)
      have HX5 := Lib.hid hx5
      have HV5 := Lib.hid (bheap hb5 HV.out (heap_lt HV.out))
      have HB5 := Lib.hid (HB.out.trans (hb5.mono HB.out.size))
      have g5 : w5.cell? ⟨w.heap.size, 5, none⟩ = some (.bool ad) := blk_cell hx5 5 rfl
      have g6 : w5.cell? ⟨w.heap.size, 6, none⟩ = some (.bool aw) := blk_cell hx5 6 rfl
      clear hx5 hb5 cv hbd
      go_wp2_with fail
      go_loop [9, 39] (fun s9 ix => ∃ x : Nat, x ≤ 64 ∧ ix = .int .i64 x ∧ s9 = .bool (allU v lo hg x)) (fun _ ix => 64 - (intOf ix).toNat)
      case atStart => exact ⟨0, by omega, rfl, rfl⟩
      case round =>
        obtain ⟨x, hx, rfl, rfl⟩ := hrel
        have HST := Lib.hid (show allU v lo hg (x + 1) = (allU v lo hg x && (v.testBit x == (decide (lo ≤ (x : Int)) && decide ((x : Int) ≤ hg)))) from rfl)
        by_cases hlx : x < 64
        · have hbit := bit_u64 v x hfv
          generalize allU v lo hg x = A at *
          generalize v.testBit x = tb at *
          have d1 : (lo ≤ (x : Int)) ∨ ¬ (lo ≤ (x : Int)) := Classical.em _
          have d2 : ((x : Int) ≤ hg) ∨ ¬ ((x : Int) ≤ hg) := Classical.em _
          rcases d1 with d1 | d1 <;> rcases d2 with d2 | d2
          all_goals try (exfalso; omega)
          all_goals cases A <;> cases tb
          all_goals
            go_wp2_with fail
            go_round
            case rel => exact ⟨x + 1, by omega, by go_num, by rw [HST.out]; simp [d1, d2]⟩
            case measure => simp [intOf]; omega
        · obtain rfl : x = 64 := by omega
          clear HST hx hlx HBD HVC
          have hcl : k = 0 ∨ k = 2 ∨ k = 4 ∨ (k = 1 ∨ k = 3) := by omega
          have j1 : ¬ 9223372036854775807 < WW.length + 1 := by omega
          have HSPC : Hid ((⟨WW.toArray⟩ : ByteArray) ++ ⟨#[32]⟩ = ⟨(WW ++ [32]).toArray⟩) := Lib.hid (cat1 WW 32)
          rcases hcl with rfl | rfl | rfl | hkk
          · have hall : allU v lo hg 64 = AN 0 := HAWk.out (by decide) (by decide)
            have hpe : PE 0 = WW := by rw [HPRk.out, if_pos rfl, HW.out]; rfl
            rw [hall]
            rw [hpe] at HPSk
            obtain ⟨PRE, hPRE⟩ : ∃ PRE, PRE = WW := ⟨_, rfl⟩
            rw [← hPRE] at HPSk hwl ⊢
            generalize AN 0 = A at *
            have hpl : PRE.length ≤ 970 := by omega
            have j2 : ¬ 9223372036854775807 < PRE.length + 1 := by omega
            clear hall hpe hPRE j1 HSPC
            go_upto_region 22 with (fail)
            clear HAWk HPRk HFL f1 f2 f3 f4
            cases A
            case true =>
              have HTF : Hid (textF v true = [42]) := Lib.hid (by unfold textF; rw [if_pos rfl])
              go_wp2_with fail
              go_roundw
              case rel => exact ⟨0 + 1, PRE ++ [42], by omega, by go_num, by rw [cat1], by rw [HPSk.out, HTF.out], HX5.out, HV5.out, HB5.out⟩
              case measure => simp [intOf]
            case false =>
              have HTF0 : Hid (v = 0 → textF v false = [45]) := Lib.hid fun h => by unfold textF; rw [if_neg (by decide), if_pos h]
              have HTF1 : Hid (v ≠ 0 → textF v false = joinL 44 ((bitsL v).map dec2)) := Lib.hid fun h => by unfold textF; rw [if_neg (by decide), if_neg h]
              have HSL := Lib.hid (fun x (hx : x ≤ 64) => some_len x v hx)
              have HSN := Lib.hid (fun x => bitsFrom_snoc x 0 v)
              have HBIT := Lib.hid (fun x => bit0_u64 v x hfv)
              have HNE : Hid (v ≠ 0 → bitsL v ≠ []) := Lib.hid fun h => bitsL_ne h hfv
              go_wp2_with fail
              go_loopw [4, 11, 76] (fun s4 s11 ix wr => ∃ (x : Nat) (W3 : Bs), x ≤ 64 ∧ ix = .int .i64 x ∧ s4 = .string ⟨W3.toArray⟩ ∧ W3 = PRE ++ joinL 44 ((bitsFrom x 0 v).map dec2) ∧ s11 = .bool (!(bitsFrom x 0 v).isEmpty) ∧ Below w5.heap.size w5 wr) (fun _ _ ix _ => 64 - (intOf ix).toNat)
              case atStart => exact ⟨0, PRE, by omega, rfl, rfl, by simp [bitsFrom, joinL], rfl, Below.refl _ _⟩
              case round =>
                obtain ⟨x, W3, hx, rfl, rfl, hW3, rfl, hbq⟩ := hrel
                have HW3 := Lib.hid hW3
                have HBQ := Lib.hid hbq
                have hw3 : W3.length ≤ 1170 := by rw [hW3, List.length_append]; have := HSL.out x hx; omega
                clear hW3 hbq
                by_cases hlx : x < 64
                · have hbit := HBIT.out x
                  have HSNx := Lib.hid (HSN.out x)
                  have k1 : ¬ 9223372036854775807 < W3.length + 1 := by omega
                  have k2 : ¬ 9223372036854775807 < W3.length + 1 + 1 := by omega
                  have k3 : ¬ 9223372036854775807 < W3.length + 1 + 1 + 1 := by omega
                  rw [Nat.zero_add] at HSNx
                  generalize bitsFrom x 0 v = L at *
                  generalize v.testBit x = tb at *
                  cases tb
                  · go_wp2_with fail
                    go_roundw
                    case rel => exact ⟨x + 1, W3, by omega, by go_num, rfl, by rw [HSNx.out]; simpa using HW3.out, by rw [HSNx.out]; simp, HBQ.out⟩
                    case measure => simp [intOf]; omega
                  · simp only [Bool.not_true] at hbit
                    obtain ⟨q, hq⟩ : ∃ q, q = x / 10 := ⟨_, rfl⟩
                    obtain ⟨r, hr⟩ : ∃ r, r = x % 10 := ⟨_, rfl⟩
                    have q6 : q ≤ 6 := by omega
                    have r9 : r ≤ 9 := by omega
                    have e1 : (x : Int).tmod 10 = (r : Int) := by rw [hr, Int.tmod_eq_emod_of_nonneg (by omega)]; omega
                    have e2 : (x : Int).tdiv 10 = (q : Int) := by rw [hq, Int.tdiv_eq_ediv_of_nonneg (by omega)]; omega
                    have e3 : (x : Int) % 10 = (r : Int) := by omega
                    have e4 : (x : Int) / 10 = (q : Int) := by omega
                    have HQ := Lib.hid hq
                    have HR := Lib.hid hr
                    have hcq := conv1 wr ((48 : Int) + (q : Int)) (by omega) (by omega)
                    have hcr := conv1 wr ((48 : Int) + (r : Int)) (by omega) (by omega)
                    have hcr2 := conv1 (wr.alloc (.cells #[.int .u8 ((48 : Int) + (q : Int))] 5)) ((48 : Int) + (r : Int)) (by omega) (by omega)
                    simp only [World.size_alloc] at hcr2
                    clear hq hr
                    by_cases h9 : 9 < x
                    · have HD : Hid (dec2 x = [48 + UInt8.ofNat q, 48 + UInt8.ofNat r]) := Lib.hid (by unfold dec2; rw [if_neg (by omega), ← HQ.out, ← HR.out, byteM, byteM])
                      cases L with
                      | nil =>
                        simp only [List.isEmpty_nil, Bool.not_true]
                        go_wp2_with fail
                        go_roundw
                        case rel =>
                          refine ⟨x + 1, W3 ++ [48 + UInt8.ofNat q] ++ [48 + UInt8.ofNat r], by omega, by go_num, by rw [cat1, cat1], ?_, by rw [HSNx.out]; simp, (HBQ.out.alloc HBQ.out.size _).alloc (by have := HBQ.out.size; simp; omega) _⟩
                          rw [HSNx.out, HW3.out]
                          simp [joinL, HD.out]
                        case measure => simp [intOf]; omega
                      | cons y L =>
                        simp only [List.isEmpty_cons, Bool.not_false]
                        go_wp2_with fail
                        go_roundw
                        case rel =>
                          refine ⟨x + 1, W3 ++ [44] ++ [48 + UInt8.ofNat q] ++ [48 + UInt8.ofNat r], by omega, by go_num, by rw [cat1, cat1, cat1], ?_, by rw [HSNx.out]; simp, (HBQ.out.alloc HBQ.out.size _).alloc (by have := HBQ.out.size; simp; omega) _⟩
                          rw [HSNx.out, if_pos rfl, show ((y :: L) ++ [x]).map dec2 = (y :: L).map dec2 ++ [dec2 x] by simp, joinL_snoc 44 _ _ (by simp), HW3.out, HD.out]
                          simp
                        case measure => simp [intOf]; omega
                    · have HD : Hid (dec2 x = [48 + UInt8.ofNat r]) := Lib.hid (by unfold dec2; rw [if_pos (by omega), ← byteM, show r = x by rw [HR.out]; omega])
                      cases L with
                      | nil =>
                        simp only [List.isEmpty_nil, Bool.not_true]
                        go_wp2_with fail
                        go_roundw
                        case rel =>
                          refine ⟨x + 1, W3 ++ [48 + UInt8.ofNat r], by omega, by go_num, by rw [cat1], ?_, by rw [HSNx.out]; simp, HBQ.out.alloc HBQ.out.size _⟩
                          rw [HSNx.out, HW3.out]
                          simp [joinL, HD.out]
                        case measure => simp [intOf]; omega
                      | cons y L =>
                        simp only [List.isEmpty_cons, Bool.not_false]
                        go_wp2_with fail
                        go_roundw
                        case rel =>
                          refine ⟨x + 1, W3 ++ [44] ++ [48 + UInt8.ofNat r], by omega, by go_num, by rw [cat1, cat1], ?_, by rw [HSNx.out]; simp, HBQ.out.alloc HBQ.out.size _⟩
                          rw [HSNx.out, if_pos rfl, show ((y :: L) ++ [x]).map dec2 = (y :: L).map dec2 ++ [dec2 x] by simp, joinL_snoc 44 _ _ (by simp), HW3.out, HD.out]
                          simp
                        case measure => simp [intOf]; omega
                · have HBL : Hid (bitsFrom x 0 v = bitsL v) := Lib.hid (by rw [show x = 64 by omega]; rfl)
                  have k1 : ¬ 9223372036854775807 < W3.length + 1 := by omega
                  rw [HBL.out] at HW3 ⊢
                  have HX6 := Lib.hid (bheap HBQ.out HX5.out (heap_lt HX5.out))
                  have HV6 := Lib.hid (bheap HBQ.out HV5.out (heap_lt HV5.out))
                  have HB6 := Lib.hid (HB5.out.trans (HBQ.out.mono HB5.out.size))
                  by_cases hv0 : v = 0
                  · have hb0 : bitsL v = [] := by rw [hv0]; exact bitsL_zero
                    rw [hb0] at HW3 ⊢
                    simp only [List.isEmpty_nil, Bool.not_true]
                    have HV0 := Lib.hid (HTF0.out hv0)
                    clear hb0 hv0
                    go_wp2_with fail
                    go_roundw
                    case rel => exact ⟨0 + 1, W3 ++ [45], by omega, by go_num, by rw [cat1], by rw [HPSk.out, HV0.out, HW3.out]; simp [joinL], HX6.out, HV6.out, HB6.out⟩
                    case measure => simp [intOf]
                  · have hne := HNE.out hv0
                    have hie : (bitsL v).isEmpty = false := by cases hbb : bitsL v with
                      | nil => exact absurd hbb hne
                      | cons y r => rfl
                    rw [hie]
                    simp only [Bool.not_false]
                    have HV1 := Lib.hid (HTF1.out hv0)
                    clear hne hie hv0
                    go_wp2_with fail
                    go_roundw
                    case rel => exact ⟨0 + 1, W3, by omega, by go_num, rfl, by rw [HPSk.out, HV1.out, HW3.out], HX6.out, HV6.out, HB6.out⟩
                    case measure => simp [intOf]
          · have hpe : PE 2 = WW ++ [32] := by rw [HPRk.out, if_neg (by decide), ← HW.out]
            obtain ⟨PRE, hPRE⟩ : ∃ PRE, PRE = WW ++ [32] := ⟨_, rfl⟩
            rw [hpe, ← hPRE] at HPSk
            rw [← hPRE] at HSPC
            have hpl : PRE.length ≤ 970 := by rw [hPRE]; simp; omega
            have j2 : ¬ 9223372036854775807 < PRE.length + 1 := by omega
            have hAN : AN 2 = ad := HA2.out
            rw [hAN] at HPSk
            clear hpe hPRE hAN HA2 HA4 HAW
            go_upto_region 22 with (fail)
            rw [HSPC.out]
            clear HAWk HPRk HFL f1 f2 f3 f4
            cases ad
            case true =>
              have HTF : Hid (textF v true = [42]) := Lib.hid (by unfold textF; rw [if_pos rfl])
              go_wp2_with fail
              go_roundw
              case rel => exact ⟨2 + 1, PRE ++ [42], by omega, by go_num, by rw [cat1], by rw [HPSk.out, HTF.out], HX5.out, HV5.out, HB5.out⟩
              case measure => simp [intOf]
            case false =>
              have HTF0 : Hid (v = 0 → textF v false = [45]) := Lib.hid fun h => by unfold textF; rw [if_neg (by decide), if_pos h]
              have HTF1 : Hid (v ≠ 0 → textF v false = joinL 44 ((bitsL v).map dec2)) := Lib.hid fun h => by unfold textF; rw [if_neg (by decide), if_neg h]
              have HSL := Lib.hid (fun x (hx : x ≤ 64) => some_len x v hx)
              have HSN := Lib.hid (fun x => bitsFrom_snoc x 0 v)
              have HBIT := Lib.hid (fun x => bit0_u64 v x hfv)
              have HNE : Hid (v ≠ 0 → bitsL v ≠ []) := Lib.hid fun h => bitsL_ne h hfv
              go_wp2_with fail
              go_loopw [4, 11, 76] (fun s4 s11 ix wr => ∃ (x : Nat) (W3 : Bs), x ≤ 64 ∧ ix = .int .i64 x ∧ s4 = .string ⟨W3.toArray⟩ ∧ W3 = PRE ++ joinL 44 ((bitsFrom x 0 v).map dec2) ∧ s11 = .bool (!(bitsFrom x 0 v).isEmpty) ∧ Below w5.heap.size w5 wr) (fun _ _ ix _ => 64 - (intOf ix).toNat)
              case atStart => exact ⟨0, PRE, by omega, rfl, rfl, by simp [bitsFrom, joinL], rfl, Below.refl _ _⟩
              case round =>
                obtain ⟨x, W3, hx, rfl, rfl, hW3, rfl, hbq⟩ := hrel
                have HW3 := Lib.hid hW3
                have HBQ := Lib.hid hbq
                have hw3 : W3.length ≤ 1170 := by rw [hW3, List.length_append]; have := HSL.out x hx; omega
                clear hW3 hbq
                by_cases hlx : x < 64
                · have hbit := HBIT.out x
                  have HSNx := Lib.hid (HSN.out x)
                  have k1 : ¬ 9223372036854775807 < W3.length + 1 := by omega
                  have k2 : ¬ 9223372036854775807 < W3.length + 1 + 1 := by omega
                  have k3 : ¬ 9223372036854775807 < W3.length + 1 + 1 + 1 := by omega
                  rw [Nat.zero_add] at HSNx
                  generalize bitsFrom x 0 v = L at *
                  generalize v.testBit x = tb at *
                  cases tb
                  · go_wp2_with fail
                    go_roundw
                    case rel => exact ⟨x + 1, W3, by omega, by go_num, rfl, by rw [HSNx.out]; simpa using HW3.out, by rw [HSNx.out]; simp, HBQ.out⟩
                    case measure => simp [intOf]; omega
                  · simp only [Bool.not_true] at hbit
                    obtain ⟨q, hq⟩ : ∃ q, q = x / 10 := ⟨_, rfl⟩
                    obtain ⟨r, hr⟩ : ∃ r, r = x % 10 := ⟨_, rfl⟩
                    have q6 : q ≤ 6 := by omega
                    have r9 : r ≤ 9 := by omega
                    have e1 : (x : Int).tmod 10 = (r : Int) := by rw [hr, Int.tmod_eq_emod_of_nonneg (by omega)]; omega
                    have e2 : (x : Int).tdiv 10 = (q : Int) := by rw [hq, Int.tdiv_eq_ediv_of_nonneg (by omega)]; omega
                    have e3 : (x : Int) % 10 = (r : Int) := by omega
                    have e4 : (x : Int) / 10 = (q : Int) := by omega
                    have HQ := Lib.hid hq
                    have HR := Lib.hid hr
                    have hcq := conv1 wr ((48 : Int) + (q : Int)) (by omega) (by omega)
                    have hcr := conv1 wr ((48 : Int) + (r : Int)) (by omega) (by omega)
                    have hcr2 := conv1 (wr.alloc (.cells #[.int .u8 ((48 : Int) + (q : Int))] 5)) ((48 : Int) + (r : Int)) (by omega) (by omega)
                    simp only [World.size_alloc] at hcr2
                    clear hq hr
                    by_cases h9 : 9 < x
                    · have HD : Hid (dec2 x = [48 + UInt8.ofNat q, 48 + UInt8.ofNat r]) := Lib.hid (by unfold dec2; rw [if_neg (by omega), ← HQ.out, ← HR.out, byteM, byteM])
                      cases L with
                      | nil =>
                        simp only [List.isEmpty_nil, Bool.not_true]
                        go_wp2_with fail
                        go_roundw
                        case rel =>
                          refine ⟨x + 1, W3 ++ [48 + UInt8.ofNat q] ++ [48 + UInt8.ofNat r], by omega, by go_num, by rw [cat1, cat1], ?_, by rw [HSNx.out]; simp, (HBQ.out.alloc HBQ.out.size _).alloc (by have := HBQ.out.size; simp; omega) _⟩
                          rw [HSNx.out, HW3.out]
                          simp [joinL, HD.out]
                        case measure => simp [intOf]; omega
                      | cons y L =>
                        simp only [List.isEmpty_cons, Bool.not_false]
                        go_wp2_with fail
                        go_roundw
                        case rel =>
                          refine ⟨x + 1, W3 ++ [44] ++ [48 + UInt8.ofNat q] ++ [48 + UInt8.ofNat r], by omega, by go_num, by rw [cat1, cat1, cat1], ?_, by rw [HSNx.out]; simp, (HBQ.out.alloc HBQ.out.size _).alloc (by have := HBQ.out.size; simp; omega) _⟩
                          rw [HSNx.out, if_pos rfl, show ((y :: L) ++ [x]).map dec2 = (y :: L).map dec2 ++ [dec2 x] by simp, joinL_snoc 44 _ _ (by simp), HW3.out, HD.out]
                          simp
                        case measure => simp [intOf]; omega
                    · have HD : Hid (dec2 x = [48 + UInt8.ofNat r]) := Lib.hid (by unfold dec2; rw [if_pos (by omega), ← byteM, show r = x by rw [HR.out]; omega])
                      cases L with
                      | nil =>
                        simp only [List.isEmpty_nil, Bool.not_true]
                        go_wp2_with fail
                        go_roundw
                        case rel =>
                          refine ⟨x + 1, W3 ++ [48 + UInt8.ofNat r], by omega, by go_num, by rw [cat1], ?_, by rw [HSNx.out]; simp, HBQ.out.alloc HBQ.out.size _⟩
                          rw [HSNx.out, HW3.out]
                          simp [joinL, HD.out]
                        case measure => simp [intOf]; omega
                      | cons y L =>
                        simp only [List.isEmpty_cons, Bool.not_false]
                        go_wp2_with fail
                        go_roundw
                        case rel =>
                          refine ⟨x + 1, W3 ++ [44] ++ [48 + UInt8.ofNat r], by omega, by go_num, by rw [cat1, cat1], ?_, by rw [HSNx.out]; simp, HBQ.out.alloc HBQ.out.size _⟩
                          rw [HSNx.out, if_pos rfl, show ((y :: L) ++ [x]).map dec2 = (y :: L).map dec2 ++ [dec2 x] by simp, joinL_snoc 44 _ _ (by simp), HW3.out, HD.out]
                          simp
                        case measure => simp [intOf]; omega
                · have HBL : Hid (bitsFrom x 0 v = bitsL v) := Lib.hid (by rw [show x = 64 by omega]; rfl)
                  have k1 : ¬ 9223372036854775807 < W3.length + 1 := by omega
                  rw [HBL.out] at HW3 ⊢
                  have HX6 := Lib.hid (bheap HBQ.out HX5.out (heap_lt HX5.out))
                  have HV6 := Lib.hid (bheap HBQ.out HV5.out (heap_lt HV5.out))
                  have HB6 := Lib.hid (HB5.out.trans (HBQ.out.mono HB5.out.size))
                  by_cases hv0 : v = 0
                  · have hb0 : bitsL v = [] := by rw [hv0]; exact bitsL_zero
                    rw [hb0] at HW3 ⊢
                    simp only [List.isEmpty_nil, Bool.not_true]
                    have HV0 := Lib.hid (HTF0.out hv0)
                    clear hb0 hv0
                    go_wp2_with fail
                    go_roundw
                    case rel => exact ⟨2 + 1, W3 ++ [45], by omega, by go_num, by rw [cat1], by rw [HPSk.out, HV0.out, HW3.out]; simp [joinL], HX6.out, HV6.out, HB6.out⟩
                    case measure => simp [intOf]
                  · have hne := HNE.out hv0
                    have hie : (bitsL v).isEmpty = false := by cases hbb : bitsL v with
                      | nil => exact absurd hbb hne
                      | cons y r => rfl
                    rw [hie]
                    simp only [Bool.not_false]
                    have HV1 := Lib.hid (HTF1.out hv0)
                    clear hne hie hv0
                    go_wp2_with fail
                    go_roundw
                    case rel => exact ⟨2 + 1, W3, by omega, by go_num, rfl, by rw [HPSk.out, HV1.out, HW3.out], HX6.out, HV6.out, HB6.out⟩
                    case measure => simp [intOf]
          · have hpe : PE 4 = WW ++ [32] := by rw [HPRk.out, if_neg (by decide), ← HW.out]
            obtain ⟨PRE, hPRE⟩ : ∃ PRE, PRE = WW ++ [32] := ⟨_, rfl⟩
            rw [hpe, ← hPRE] at HPSk
            rw [← hPRE] at HSPC
            have hpl : PRE.length ≤ 970 := by rw [hPRE]; simp; omega
            have j2 : ¬ 9223372036854775807 < PRE.length + 1 := by omega
            have hAN : AN 4 = aw := HA4.out
            rw [hAN] at HPSk
            clear hpe hPRE hAN HA2 HA4 HAW
            go_upto_region 22 with (fail)
            rw [HSPC.out]
            clear HAWk HPRk HFL f1 f2 f3 f4
            cases aw
            case true =>
              have HTF : Hid (textF v true = [42]) := Lib.hid (by unfold textF; rw [if_pos rfl])
              go_wp2_with fail
              go_roundw
              case rel => exact ⟨4 + 1, PRE ++ [42], by omega, by go_num, by rw [cat1], by rw [HPSk.out, HTF.out], HX5.out, HV5.out, HB5.out⟩
              case measure => simp [intOf]
            case false =>
              have HTF0 : Hid (v = 0 → textF v false = [45]) := Lib.hid fun h => by unfold textF; rw [if_neg (by decide), if_pos h]
              have HTF1 : Hid (v ≠ 0 → textF v false = joinL 44 ((bitsL v).map dec2)) := Lib.hid fun h => by unfold textF; rw [if_neg (by decide), if_neg h]
              have HSL := Lib.hid (fun x (hx : x ≤ 64) => some_len x v hx)
              have HSN := Lib.hid (fun x => bitsFrom_snoc x 0 v)
              have HBIT := Lib.hid (fun x => bit0_u64 v x hfv)
              have HNE : Hid (v ≠ 0 → bitsL v ≠ []) := Lib.hid fun h => bitsL_ne h hfv
              go_wp2_with fail
              go_loopw [4, 11, 76] (fun s4 s11 ix wr => ∃ (x : Nat) (W3 : Bs), x ≤ 64 ∧ ix = .int .i64 x ∧ s4 = .string ⟨W3.toArray⟩ ∧ W3 = PRE ++ joinL 44 ((bitsFrom x 0 v).map dec2) ∧ s11 = .bool (!(bitsFrom x 0 v).isEmpty) ∧ Below w5.heap.size w5 wr) (fun _ _ ix _ => 64 - (intOf ix).toNat)
              case atStart => exact ⟨0, PRE, by omega, rfl, rfl, by simp [bitsFrom, joinL], rfl, Below.refl _ _⟩
              case round =>
                obtain ⟨x, W3, hx, rfl, rfl, hW3, rfl, hbq⟩ := hrel
                have HW3 := Lib.hid hW3
                have HBQ := Lib.hid hbq
                have hw3 : W3.length ≤ 1170 := by rw [hW3, List.length_append]; have := HSL.out x hx; omega
                clear hW3 hbq
                by_cases hlx : x < 64
                · have hbit := HBIT.out x
                  have HSNx := Lib.hid (HSN.out x)
                  have k1 : ¬ 9223372036854775807 < W3.length + 1 := by omega
                  have k2 : ¬ 9223372036854775807 < W3.length + 1 + 1 := by omega
                  have k3 : ¬ 9223372036854775807 < W3.length + 1 + 1 + 1 := by omega
                  rw [Nat.zero_add] at HSNx
                  generalize bitsFrom x 0 v = L at *
                  generalize v.testBit x = tb at *
                  cases tb
                  · go_wp2_with fail
                    go_roundw
                    case rel => exact ⟨x + 1, W3, by omega, by go_num, rfl, by rw [HSNx.out]; simpa using HW3.out, by rw [HSNx.out]; simp, HBQ.out⟩
                    case measure => simp [intOf]; omega
                  · simp only [Bool.not_true] at hbit
                    obtain ⟨q, hq⟩ : ∃ q, q = x / 10 := ⟨_, rfl⟩
                    obtain ⟨r, hr⟩ : ∃ r, r = x % 10 := ⟨_, rfl⟩
                    have q6 : q ≤ 6 := by omega
                    have r9 : r ≤ 9 := by omega
                    have e1 : (x : Int).tmod 10 = (r : Int) := by rw [hr, Int.tmod_eq_emod_of_nonneg (by omega)]; omega
                    have e2 : (x : Int).tdiv 10 = (q : Int) := by rw [hq, Int.tdiv_eq_ediv_of_nonneg (by omega)]; omega
                    have e3 : (x : Int) % 10 = (r : Int) := by omega
                    have e4 : (x : Int) / 10 = (q : Int) := by omega
                    have HQ := Lib.hid hq
                    have HR := Lib.hid hr
                    have hcq := conv1 wr ((48 : Int) + (q : Int)) (by omega) (by omega)
                    have hcr := conv1 wr ((48 : Int) + (r : Int)) (by omega) (by omega)
                    have hcr2 := conv1 (wr.alloc (.cells #[.int .u8 ((48 : Int) + (q : Int))] 5)) ((48 : Int) + (r : Int)) (by omega) (by omega)
                    simp only [World.size_alloc] at hcr2
                    clear hq hr
                    by_cases h9 : 9 < x
                    · have HD : Hid (dec2 x = [48 + UInt8.ofNat q, 48 + UInt8.ofNat r]) := Lib.hid (by unfold dec2; rw [if_neg (by omega), ← HQ.out, ← HR.out, byteM, byteM])
                      cases L with
                      | nil =>
                        simp only [List.isEmpty_nil, Bool.not_true]
                        go_wp2_with fail
                        go_roundw
                        case rel =>
                          refine ⟨x + 1, W3 ++ [48 + UInt8.ofNat q] ++ [48 + UInt8.ofNat r], by omega, by go_num, by rw [cat1, cat1], ?_, by rw [HSNx.out]; simp, (HBQ.out.alloc HBQ.out.size _).alloc (by have := HBQ.out.size; simp; omega) _⟩
                          rw [HSNx.out, HW3.out]
                          simp [joinL, HD.out]
                        case measure => simp [intOf]; omega
                      | cons y L =>
                        simp only [List.isEmpty_cons, Bool.not_false]
                        go_wp2_with fail
                        go_roundw
                        case rel =>
                          refine ⟨x + 1, W3 ++ [44] ++ [48 + UInt8.ofNat q] ++ [48 + UInt8.ofNat r], by omega, by go_num, by rw [cat1, cat1, cat1], ?_, by rw [HSNx.out]; simp, (HBQ.out.alloc HBQ.out.size _).alloc (by have := HBQ.out.size; simp; omega) _⟩
                          rw [HSNx.out, if_pos rfl, show ((y :: L) ++ [x]).map dec2 = (y :: L).map dec2 ++ [dec2 x] by simp, joinL_snoc 44 _ _ (by simp), HW3.out, HD.out]
                          simp
                        case measure => simp [intOf]; omega
                    · have HD : Hid (dec2 x = [48 + UInt8.ofNat r]) := Lib.hid (by unfold dec2; rw [if_pos (by omega), ← byteM, show r = x by rw [HR.out]; omega])
                      cases L with
                      | nil =>
                        simp only [List.isEmpty_nil, Bool.not_true]
                        go_wp2_with fail
                        go_roundw
                        case rel =>
                          refine ⟨x + 1, W3 ++ [48 + UInt8.ofNat r], by omega, by go_num, by rw [cat1], ?_, by rw [HSNx.out]; simp, HBQ.out.alloc HBQ.out.size _⟩
                          rw [HSNx.out, HW3.out]
                          simp [joinL, HD.out]
                        case measure => simp [intOf]; omega
                      | cons y L =>
                        simp only [List.isEmpty_cons, Bool.not_false]
                        go_wp2_with fail
                        go_roundw
                        case rel =>
                          refine ⟨x + 1, W3 ++ [44] ++ [48 + UInt8.ofNat r], by omega, by go_num, by rw [cat1, cat1], ?_, by rw [HSNx.out]; simp, HBQ.out.alloc HBQ.out.size _⟩
                          rw [HSNx.out, if_pos rfl, show ((y :: L) ++ [x]).map dec2 = (y :: L).map dec2 ++ [dec2 x] by simp, joinL_snoc 44 _ _ (by simp), HW3.out, HD.out]
                          simp
                        case measure => simp [intOf]; omega
                · have HBL : Hid (bitsFrom x 0 v = bitsL v) := Lib.hid (by rw [show x = 64 by omega]; rfl)
                  have k1 : ¬ 9223372036854775807 < W3.length + 1 := by omega
                  rw [HBL.out] at HW3 ⊢
                  have HX6 := Lib.hid (bheap HBQ.out HX5.out (heap_lt HX5.out))
                  have HV6 := Lib.hid (bheap HBQ.out HV5.out (heap_lt HV5.out))
                  have HB6 := Lib.hid (HB5.out.trans (HBQ.out.mono HB5.out.size))
                  by_cases hv0 : v = 0
                  · have hb0 : bitsL v = [] := by rw [hv0]; exact bitsL_zero
                    rw [hb0] at HW3 ⊢
                    simp only [List.isEmpty_nil, Bool.not_true]
                    have HV0 := Lib.hid (HTF0.out hv0)
                    clear hb0 hv0
                    go_wp2_with fail
                    go_roundw
                    case rel => exact ⟨4 + 1, W3 ++ [45], by omega, by go_num, by rw [cat1], by rw [HPSk.out, HV0.out, HW3.out]; simp [joinL], HX6.out, HV6.out, HB6.out⟩
                    case measure => simp [intOf]
                  · have hne := HNE.out hv0
                    have hie : (bitsL v).isEmpty = false := by cases hbb : bitsL v with
                      | nil => exact absurd hbb hne
                      | cons y r => rfl
                    rw [hie]
                    simp only [Bool.not_false]
                    have HV1 := Lib.hid (HTF1.out hv0)
                    clear hne hie hv0
                    go_wp2_with fail
                    go_roundw
                    case rel => exact ⟨4 + 1, W3, by omega, by go_num, rfl, by rw [HPSk.out, HV1.out, HW3.out], HX6.out, HV6.out, HB6.out⟩
                    case measure => simp [intOf]
          · have hall : allU v lo hg 64 = AN k := HAWk.out (by omega) (by omega)
            have hpe : PE k = WW ++ [32] := by rw [HPRk.out, if_neg (by omega), ← HW.out]
            rw [hall]
            obtain ⟨PRE, hPRE⟩ : ∃ PRE, PRE = WW ++ [32] := ⟨_, rfl⟩
            rw [hpe, ← hPRE] at HPSk
            rw [← hPRE] at HSPC
            have hpl : PRE.length ≤ 970 := by rw [hPRE]; simp; omega
            have j2 : ¬ 9223372036854775807 < PRE.length + 1 := by omega
            have hk2 : ((k : Int) == 2) = false := by simp; omega
            have hk4 : ((k : Int) == 4) = false := by simp; omega
            have hk0 : (0 : Int) < (k : Int) := by omega
            generalize AN k = A at *
            clear hall hpe hPRE
            go_upto_region 22 with (fail)
            rw [HSPC.out]
            clear HAWk HPRk HFL f1 f2 f3 f4
            cases A
            case true =>
              have HTF : Hid (textF v true = [42]) := Lib.hid (by unfold textF; rw [if_pos rfl])
              go_wp2_with fail
              go_roundw
              case rel => exact ⟨k + 1, PRE ++ [42], by omega, by go_num, by rw [cat1], by rw [HPSk.out, HTF.out], HX5.out, HV5.out, HB5.out⟩
              case measure => simp [intOf]; omega
            case false =>
              have HTF0 : Hid (v = 0 → textF v false = [45]) := Lib.hid fun h => by unfold textF; rw [if_neg (by decide), if_pos h]
              have HTF1 : Hid (v ≠ 0 → textF v false = joinL 44 ((bitsL v).map dec2)) := Lib.hid fun h => by unfold textF; rw [if_neg (by decide), if_neg h]
              have HSL := Lib.hid (fun x (hx : x ≤ 64) => some_len x v hx)
              have HSN := Lib.hid (fun x => bitsFrom_snoc x 0 v)
              have HBIT := Lib.hid (fun x => bit0_u64 v x hfv)
              have HNE : Hid (v ≠ 0 → bitsL v ≠ []) := Lib.hid fun h => bitsL_ne h hfv
              go_wp2_with fail
              go_loopw [4, 11, 76] (fun s4 s11 ix wr => ∃ (x : Nat) (W3 : Bs), x ≤ 64 ∧ ix = .int .i64 x ∧ s4 = .string ⟨W3.toArray⟩ ∧ W3 = PRE ++ joinL 44 ((bitsFrom x 0 v).map dec2) ∧ s11 = .bool (!(bitsFrom x 0 v).isEmpty) ∧ Below w5.heap.size w5 wr) (fun _ _ ix _ => 64 - (intOf ix).toNat)
              case atStart => exact ⟨0, PRE, by omega, rfl, rfl, by simp [bitsFrom, joinL], rfl, Below.refl _ _⟩
              case round =>
                obtain ⟨x, W3, hx, rfl, rfl, hW3, rfl, hbq⟩ := hrel
                have HW3 := Lib.hid hW3
                have HBQ := Lib.hid hbq
                have hw3 : W3.length ≤ 1170 := by rw [hW3, List.length_append]; have := HSL.out x hx; omega
                clear hW3 hbq
                by_cases hlx : x < 64
                · have hbit := HBIT.out x
                  have HSNx := Lib.hid (HSN.out x)
                  have k1 : ¬ 9223372036854775807 < W3.length + 1 := by omega
                  have k2 : ¬ 9223372036854775807 < W3.length + 1 + 1 := by omega
                  have k3 : ¬ 9223372036854775807 < W3.length + 1 + 1 + 1 := by omega
                  rw [Nat.zero_add] at HSNx
                  generalize bitsFrom x 0 v = L at *
                  generalize v.testBit x = tb at *
                  cases tb
                  · go_wp2_with fail
                    go_roundw
                    case rel => exact ⟨x + 1, W3, by omega, by go_num, rfl, by rw [HSNx.out]; simpa using HW3.out, by rw [HSNx.out]; simp, HBQ.out⟩
                    case measure => simp [intOf]; omega
                  · simp only [Bool.not_true] at hbit
                    obtain ⟨q, hq⟩ : ∃ q, q = x / 10 := ⟨_, rfl⟩
                    obtain ⟨r, hr⟩ : ∃ r, r = x % 10 := ⟨_, rfl⟩
                    have q6 : q ≤ 6 := by omega
                    have r9 : r ≤ 9 := by omega
                    have e1 : (x : Int).tmod 10 = (r : Int) := by rw [hr, Int.tmod_eq_emod_of_nonneg (by omega)]; omega
                    have e2 : (x : Int).tdiv 10 = (q : Int) := by rw [hq, Int.tdiv_eq_ediv_of_nonneg (by omega)]; omega
                    have e3 : (x : Int) % 10 = (r : Int) := by omega
                    have e4 : (x : Int) / 10 = (q : Int) := by omega
                    have HQ := Lib.hid hq
                    have HR := Lib.hid hr
                    have hcq := conv1 wr ((48 : Int) + (q : Int)) (by omega) (by omega)
                    have hcr := conv1 wr ((48 : Int) + (r : Int)) (by omega) (by omega)
                    have hcr2 := conv1 (wr.alloc (.cells #[.int .u8 ((48 : Int) + (q : Int))] 5)) ((48 : Int) + (r : Int)) (by omega) (by omega)
                    simp only [World.size_alloc] at hcr2
                    clear hq hr
                    by_cases h9 : 9 < x
                    · have HD : Hid (dec2 x = [48 + UInt8.ofNat q, 48 + UInt8.ofNat r]) := Lib.hid (by unfold dec2; rw [if_neg (by omega), ← HQ.out, ← HR.out, byteM, byteM])
                      cases L with
                      | nil =>
                        simp only [List.isEmpty_nil, Bool.not_true]
                        go_wp2_with fail
                        go_roundw
                        case rel =>
                          refine ⟨x + 1, W3 ++ [48 + UInt8.ofNat q] ++ [48 + UInt8.ofNat r], by omega, by go_num, by rw [cat1, cat1], ?_, by rw [HSNx.out]; simp, (HBQ.out.alloc HBQ.out.size _).alloc (by have := HBQ.out.size; simp; omega) _⟩
                          rw [HSNx.out, HW3.out]
                          simp [joinL, HD.out]
                        case measure => simp [intOf]; omega
                      | cons y L =>
                        simp only [List.isEmpty_cons, Bool.not_false]
                        go_wp2_with fail
                        go_roundw
                        case rel =>
                          refine ⟨x + 1, W3 ++ [44] ++ [48 + UInt8.ofNat q] ++ [48 + UInt8.ofNat r], by omega, by go_num, by rw [cat1, cat1, cat1], ?_, by rw [HSNx.out]; simp, (HBQ.out.alloc HBQ.out.size _).alloc (by have := HBQ.out.size; simp; omega) _⟩
                          rw [HSNx.out, if_pos rfl, show ((y :: L) ++ [x]).map dec2 = (y :: L).map dec2 ++ [dec2 x] by simp, joinL_snoc 44 _ _ (by simp), HW3.out, HD.out]
                          simp
                        case measure => simp [intOf]; omega
                    · have HD : Hid (dec2 x = [48 + UInt8.ofNat r]) := Lib.hid (by unfold dec2; rw [if_pos (by omega), ← byteM, show r = x by rw [HR.out]; omega])
                      cases L with
                      | nil =>
                        simp only [List.isEmpty_nil, Bool.not_true]
                        go_wp2_with fail
                        go_roundw
                        case rel =>
                          refine ⟨x + 1, W3 ++ [48 + UInt8.ofNat r], by omega, by go_num, by rw [cat1], ?_, by rw [HSNx.out]; simp, HBQ.out.alloc HBQ.out.size _⟩
                          rw [HSNx.out, HW3.out]
                          simp [joinL, HD.out]
                        case measure => simp [intOf]; omega
                      | cons y L =>
                        simp only [List.isEmpty_cons, Bool.not_false]
                        go_wp2_with fail
                        go_roundw
                        case rel =>
                          refine ⟨x + 1, W3 ++ [44] ++ [48 + UInt8.ofNat r], by omega, by go_num, by rw [cat1, cat1], ?_, by rw [HSNx.out]; simp, HBQ.out.alloc HBQ.out.size _⟩
                          rw [HSNx.out, if_pos rfl, show ((y :: L) ++ [x]).map dec2 = (y :: L).map dec2 ++ [dec2 x] by simp, joinL_snoc 44 _ _ (by simp), HW3.out, HD.out]
                          simp
                        case measure => simp [intOf]; omega
                · have HBL : Hid (bitsFrom x 0 v = bitsL v) := Lib.hid (by rw [show x = 64 by omega]; rfl)
                  have k1 : ¬ 9223372036854775807 < W3.length + 1 := by omega
                  rw [HBL.out] at HW3 ⊢
                  have HX6 := Lib.hid (bheap HBQ.out HX5.out (heap_lt HX5.out))
                  have HV6 := Lib.hid (bheap HBQ.out HV5.out (heap_lt HV5.out))
                  have HB6 := Lib.hid (HB5.out.trans (HBQ.out.mono HB5.out.size))
                  by_cases hv0 : v = 0
                  · have hb0 : bitsL v = [] := by rw [hv0]; exact bitsL_zero
                    rw [hb0] at HW3 ⊢
                    simp only [List.isEmpty_nil, Bool.not_true]
                    have HV0 := Lib.hid (HTF0.out hv0)
                    clear hb0 hv0
                    go_wp2_with fail
                    go_roundw
                    case rel => exact ⟨k + 1, W3 ++ [45], by omega, by go_num, by rw [cat1], by rw [HPSk.out, HV0.out, HW3.out]; simp [joinL], HX6.out, HV6.out, HB6.out⟩
                    case measure => simp [intOf]; omega
                  · have hne := HNE.out hv0
                    have hie : (bitsL v).isEmpty = false := by cases hbb : bitsL v with
                      | nil => exact absurd hbb hne
                      | cons y r => rfl
                    rw [hie]
                    simp only [Bool.not_false]
                    have HV1 := Lib.hid (HTF1.out hv0)
                    clear hne hie hv0
                    go_wp2_with fail
                    go_roundw
                    case rel => exact ⟨k + 1, W3, by omega, by go_num, rfl, by rw [HPSk.out, HV1.out, HW3.out], HX6.out, HV6.out, HB6.out⟩
                    case measure => simp [intOf]; omega
    · obtain rfl : k = 5 := by omega
      have hWT : WW = TX := by rw [HW.out, HTL.out]
      subst hWT
      go_wp2_with fail
      go_ret
      exact RetB.mk (by simp) HB.out

theorem values_walk (w : World) (hm : MaxL w) (e : Ex) (ok : e.Ok) (hT : TabL w) : Calls Tryd.prog 10 #[e.v] w (RetB (.bool true) w) := values_any w hm hT e ok

end Go.Proofs.YtfdnhpmdbcfepaaDoor

/- A table's bytes by definition (package session's law): the walk. -/
import Derived.Test.YtckmenongeklpaaPlaysC
import Derived.Test.YtckmenongeklpaaRefAns
namespace Go.Proofs.Ytckmenongeklpaa
open Go.RowKit Go.Maps Go.ChangeMaps Go.Sort

theorem info_lone : (Try.prog.info? 43).map (·.size) = some 6 := by kernel_rfl

theorem bel_drewNp {B : Nat} {a w : World} (h : Below B a w) (n : Nat) : Below B a (w.drewN n) := ⟨h.os, h.tape, h.output, h.size, h.block⟩

set_option maxRecDepth 100000 in
set_option maxHeartbeats 3200000 in
theorem refbytes_any (w : World) (v : Value) (L : List (Int × (Int × Ans))) (h : OnesAt w v L) (hok : TabOk L) (h0 : ∀ p ∈ L, 0 < p.1) (ys : List Int) (hp : ys.Perm (keys L)) (hr : ys.Pairwise (· < ·)) :
    Calls Try.prog 15 #[v] w (RetB (.string ⟨(numB L.length ++ entsB L ys).toArray⟩) w) := by
  obtain ⟨va, vc, rfl⟩ : ∃ va vc, v = .slice va L.length vc := by
    rcases h.2 with ⟨e1, e2⟩ | ⟨g, c, cur, e1, _⟩
    · exact ⟨none, 0, by rw [e1, e2]⟩
    · exact ⟨_, _, e1⟩
  have hyl : ys.length = L.length := by rw [hp.length_eq]; simp [keys]
  have hy0 : ∀ y ∈ ys, 0 < y := fun y hy => by
    obtain ⟨p, hpm, rfl⟩ := List.mem_map.1 (hp.mem_iff.1 hy)
    exact h0 p hpm
  have H := Lib.hid h
  have HOK := Lib.hid hok
  have HYP := Lib.hid hp
  have HYR := Lib.hid hr
  have HY0 := Lib.hid hy0
  have HYL := Lib.hid hyl
  have hl16 := hok.2.1
  clear h hok hp hr hy0 h0 hyl
  go_enter Try.func15, Try.ntmps15
  go_wp2_with fail
  refine (refnum_any L.length w (by omega)).mono ?_
  rintro e w1 ⟨rfl, hb1⟩
  have HB1 := Lib.hid hb1
  clear hb1
  go_wp2_with fail
  go_loopw [3, 4] (fun out last wr => ∃ k : Nat, k ≤ ys.length ∧ out = .string ⟨(numB L.length ++ entsB L (ys.take k)).toArray⟩ ∧ last = .int .u64 (lastK ys k) ∧ Hid (Below w.heap.size w wr)) (fun _ last _ => cntAbove ys (intOf last))
  case atStart => exact ⟨0, Nat.zero_le _, by simp [entsB], rfl, HB1⟩
  case round =>
    obtain ⟨k, hk, rfl, rfl, HB2⟩ := hrel
    have hs2 := HB2.out.size
    go_wp2_with fail
    go_loopw [14, 5] (fun jv bv wx => ∃ (j : Nat) (b : Int), jv = .int .i64 j ∧ j ≤ L.length ∧ bv = .int .i64 b ∧ Hid (BestP L (lastK ys k) j b) ∧ Hid (Below w.heap.size w wx)) (fun jv _ _ => L.length - (intOf jv).toNat)
    case atStart => exact ⟨0, -1, rfl, Nat.zero_le _, rfl, Lib.hid (BestP.start _ _), HB2⟩
    case round =>
      obtain ⟨j, b, rfl, hj, rfl, HP, HB3⟩ := hrel
      by_cases hlt : j < L.length
      · obtain ⟨p, hp⟩ : ∃ p, L[j]? = some p := ⟨L[j], by simp [hlt]⟩
        obtain ⟨g, cap, C, hv, hg, hC, hcap, hcm, hCs⟩ := ent_at H.out hp
        injection hv with e1 e2 e3
        subst e1 e3
        have hg2 : wr.heap[g]? = some (.cells C 43 (0, 0)) := by rw [HB3.out.block _ (heap_lt hg)]; exact hg
        have HPJ := Lib.hid hp
        clear hp
        go_wp2_with (first | (refine wpList_load_blk _ rfl _ _ rfl _ _ rfl _ _ _ hg2 (entC p) hC _ Try.underlying43 rfl info_lone ?_) | (refine wpList_store_fresh _ rfl _ _ _ rfl _ rfl _ rfl _ _ _ rfl ?_ ?_ rfl info_lone ?_ ?_; (focus (simp [entC]; done)); (focus (simp [entC]; done)); (focus (simp [entC, OneCells, Value.oneCell']; done))) | fail)
        obtain ⟨pc, px⟩ := p
        obtain ⟨W, hW⟩ : ∃ W, W = wr.alloc (.cells (entC (pc, px)) 43) := ⟨_, rfl⟩
        have hx : W.heap[wr.heap.size]? = some (.cells (entC (pc, px)) 43 (0, 0)) := by subst hW; exact heap_new _ _
        have x0 : W.cell? ⟨wr.heap.size, 0, none⟩ = some (.int .u64 pc) := blk_cell hx 0 rfl
        have HB4 : Hid (Below w.heap.size w W) := Lib.hid (by subst hW; exact HB3.out.alloc HB3.out.size _)
        have hq : ∀ (i : Nat) (qc : Int) (qx : Int × Ans), L[i]? = some (qc, qx) → W.cell? ⟨g, i * 6, none⟩ = some (.int .u64 qc) := fun i qc qx hi => by
          obtain ⟨g', cap', C', hv', hg', hC', _⟩ := ent_at H.out hi
          injection hv' with e1 e2 e3
          injection e1 with e1
          injection e1 with e1
          subst e1
          rw [hg] at hg'
          cases hg'
          have hcell := blk_cell (aheap hg2 (.cells (entC (pc, px)) 43)) (i * 6 + 0) (ent_cell hC' (i := 0) (by omega))
          rw [Nat.add_zero, ← hW] at hcell
          exact hcell
        have HQ := Lib.hid hq
        have HBP := HP.out.lt
        rw [← hW]
        clear hx hW hg2 hC hg hCs hcap hcm hq
        by_cases hl : lastK ys k < pc
        · have HT1 := Lib.hid hl
          have dl : decide (lastK ys k < pc) = true := by simpa using hl
          rcases HBP with rfl | ⟨i, ⟨qc, qx⟩, rfl, hij, hiq, hil⟩
          · clear hl
            have db : decide ((-1 : Int) < 0) = true := by decide
            go_quiet (fail)
            go_wp2
            go_round
            case rel => exact ⟨j + 1, j, by go_num, by omega, rfl, Lib.hid (HP.out.take HPJ.out HT1.out (.inl (by omega))), Lib.hid (bel_drewNp HB4.out _)⟩
            case measure => simp [intOf]; omega
          · have hqc := HQ.out i qc qx hiq
            have HIQ := Lib.hid hiq
            have db : decide ((i : Int) < 0) = false := by simp
            have db2 : ¬ ((i : Int) < 0) := by omega
            have hiL : i < L.length := by omega
            clear hiq hil hl
            by_cases hpq : pc < qc
            · have HPQ := Lib.hid hpq
              have dq : decide (pc < qc) = true := by simpa using hpq
              clear hpq

              go_quiet (fail)
              go_wp2
              go_round
              case rel => exact ⟨j + 1, j, by go_num, by omega, rfl, Lib.hid (HP.out.take HPJ.out HT1.out (.inr ⟨(qc, qx), HIQ.out, HPQ.out⟩)), Lib.hid (bel_drewNp HB4.out _)⟩
              case measure => simp [intOf]; omega

            · have HPQ : Hid (qc ≤ pc) := Lib.hid (by omega)
              have dq : decide (pc < qc) = false := by simpa using hpq
              clear hpq

              go_quiet (fail)
              go_wp2
              go_round
              case rel => exact ⟨j + 1, i, by go_num, by omega, rfl, Lib.hid (HP.out.skip HPJ.out (.inr ⟨by omega, (qc, qx), HIQ.out, HPQ.out⟩)), Lib.hid (bel_drewNp HB4.out _)⟩
              case measure => simp [intOf]; omega

        · have HT1 : Hid (pc ≤ lastK ys k) := Lib.hid (by omega)
          have dl : decide (lastK ys k < pc) = false := by simpa using hl
          clear hl HBP

          go_quiet (fail)
          go_wp2
          go_round
          case rel => exact ⟨j + 1, b, by go_num, by omega, rfl, Lib.hid (HP.out.skip HPJ.out (.inl HT1.out)), Lib.hid (bel_drewNp HB4.out _)⟩
          case measure => simp [intOf]; omega
      · have ej : j = L.length := by omega
        have hall := HP.out
        rw [ej] at hall
        have HKK := Lib.hid hk
        have HB5 : Hid (Below w.heap.size w wr.drew) := Lib.hid (belowN HB3.out)
        rcases hall with ⟨rfl, hn⟩ | ⟨i, ⟨pc, pn, px⟩, rfl, hij, hiq, hil, hmin⟩
        · have ek := best_none HYP.out HYR.out HY0.out hk hn
          have HE : Hid (ys.take k = ys) := Lib.hid (List.take_of_length_le (by omega))
          have db : decide ((-1 : Int) < 0) = true := by decide
          clear hn ek
          go_wp2_with fail
          go_ret
          exact RetB.mk (by rw [HE.out]; rfl) HB3.out
        · have hyk := best_some HYP.out HYR.out HY0.out hk hiq hil hmin
          have HYK := Lib.hid hyk
          have hik : k < ys.length := (List.getElem?_eq_some_iff.1 hyk).1
          obtain ⟨c0, c1, n0, n1, hfit⟩ := HOK.out.2.2 pc (pn, px) (aget_of_mem HOK.out.1 (List.mem_of_getElem? hiq))
          have hfit : px.fit := hfit
          have HFIT := Lib.hid hfit
          have db : decide ((i : Int) < 0) = false := by simp
          have db2 : ¬ ((i : Int) < 0) := by omega
          obtain ⟨g, cap, C, hv, hg, hC, hcap, hcm, hCs⟩ := ent_at H.out hiq
          injection hv with e1 e2 e3
          subst e1 e3
          have hg2 : wr.heap[g]? = some (.cells C 43 (0, 0)) := by rw [HB3.out.block _ (heap_lt hg)]; exact hg
          have y0 : wr.cell? ⟨g, i * 6, none⟩ = some (.int .u64 pc) := by
            have := blk_cell hg2 (i * 6 + 0) (ent_cell hC (i := 0) (by omega)); rwa [Nat.add_zero] at this
          have g1 := cell_regrownA (show wr.cell? ⟨g, i * 6 + 1, none⟩ = some (.int .u64 pn) from blk_cell hg2 (i * 6 + 1) (ent_cell hC (i := 1) (by omega)))
          have g2 := cell_regrownA (show wr.cell? ⟨g, i * 6 + 2, none⟩ = some (.int .i64 px.err) from blk_cell hg2 (i * 6 + 2) (ent_cell hC (i := 2) (by omega)))
          have g3 := cell_regrownA (show wr.cell? ⟨g, i * 6 + 3, none⟩ = some (.string px.name) from blk_cell hg2 (i * 6 + 3) (ent_cell hC (i := 3) (by omega)))
          have g4 := cell_regrownA (show wr.cell? ⟨g, i * 6 + 4, none⟩ = some (.int .u64 px.tok) from blk_cell hg2 (i * 6 + 4) (ent_cell hC (i := 4) (by omega)))
          have g5 := cell_regrownA (show wr.cell? ⟨g, i * 6 + 5, none⟩ = some (.int .i64 px.val) from blk_cell hg2 (i * 6 + 5) (ent_cell hC (i := 5) (by omega)))
          have Q1 := Lib.hid fun d os => Calls.regrown_of ((show Calls Try.prog 31 #[.int .u64 pc] (grow (redrawn wr d) os) (RetB (.string ⟨(numB pc.toNat).toArray⟩) _) by
            have := refnum_any pc.toNat (grow (redrawn wr d) os) (by omega); rwa [Int.toNat_of_nonneg c0] at this).mono fun e w' h => ⟨h.1, h.2⟩)
          have Q2 := Lib.hid fun d os => Calls.regrown_of ((show Calls Try.prog 31 #[.int .u64 pn] (grow (redrawn wr d) os) (RetB (.string ⟨(numB pn.toNat).toArray⟩) _) by
            have := refnum_any pn.toNat (grow (redrawn wr d) os) (by omega); rwa [Int.toNat_of_nonneg n0] at this).mono fun e w' h => ⟨h.1, h.2⟩)
          have Q3 := Lib.hid fun d os => Calls.regrown_of ((show Calls Try.prog 16 #[.agg #[.int .i64 px.err, .string px.name, .int .u64 px.tok, .int .i64 px.val]] (grow (redrawn wr d) os) (RetB (.string ⟨(ansB px).toArray⟩) _) from refans_any (grow (redrawn wr d) os) px hfit).mono fun e w' h => ⟨h.1, h.2⟩)
          have la : (ansB px).length ≤ 100040 := ansB_len hfit.n hfit.t1 hfit.e1 hfit.v0 hfit.v1
          have Q4 := Lib.hid fun d os => Calls.regrown_of ((reftext_any ⟨(ansB px).toArray⟩ (grow (redrawn wr d) os) (by show (ansB px).toArray.size ≤ _; simp; omega)).mono fun e w' h => ⟨h.1, h.2⟩)
          simp only [List.toList_toArray] at Q4
          have HOUT : Hid (numB L.length ++ entsB L (ys.take (k + 1)) = (numB L.length ++ entsB L (ys.take k)) ++ (numB pc.toNat ++ numB pn.toNat ++ textB (ansB px))) := Lib.hid (by
            rw [show ys.take (k + 1) = ys.take k ++ [pc] by rw [List.take_add_one, hyk]; rfl, entsB_snoc _ _ _ (pn, px) (aget_of_mem HOK.out.1 (List.mem_of_getElem? hiq))]
            simp [entB])
          have HLK : Hid (lastK ys (k + 1) = pc) := Lib.hid (lastK_succ hyk)
          have HMS : Hid (cntAbove ys pc < cntAbove ys (lastK ys k)) := Lib.hid (cnt_lt hil (List.mem_of_getElem? hyk))
          have l1 := numB_len10 (x := pc.toNat) (by omega)
          have l2 := numB_len10 (x := pn.toNat) (by omega)
          have l3 : (textB (ansB px)).length ≤ 100100 := by
            have h4 := numB_len10 (x := (ansB px).length) (by omega)
            unfold textB; simp only [List.length_append]; omega
          have l4 : (numB L.length ++ entsB L (ys.take k)).length ≤ 100000000 := by
            have q1 := numB_len10 (x := L.length) (by omega)
            have q2 := entsB_len HOK.out (ys.take k)
            have q3 := HYL.out
            rw [List.length_take] at q2
            rw [List.length_append]
            omega
          obtain ⟨B0, hB0⟩ : ∃ B0, B0 = numB L.length ++ entsB L (ys.take k) := ⟨_, rfl⟩
          obtain ⟨B1, hB1⟩ : ∃ B1, B1 = numB pc.toNat := ⟨_, rfl⟩
          obtain ⟨B2, hB2⟩ : ∃ B2, B2 = numB pn.toNat := ⟨_, rfl⟩
          obtain ⟨B3, hB3⟩ : ∃ B3, B3 = textB (ansB px) := ⟨_, rfl⟩
          rw [← hB0, ← hB1, ← hB2, ← hB3] at HOUT
          rw [← hB1] at Q1 l1
          rw [← hB2] at Q2 l2
          rw [← hB3] at Q4 l3
          rw [← hB0] at l4 ⊢
          have k1 : ¬ (9223372036854775807 < B1.length + B2.length) := by omega
          have k2 : ¬ (9223372036854775807 < B1.length + B2.length + B3.length) := by omega
          have k3 : ¬ (9223372036854775807 < B0.length + (B1.length + B2.length + B3.length)) := by omega
          clear hB0 hB1 hB2 hB3 hyk hmin hil hiq hfit la hC hg hg2 hCs hcap hcm c0 c1 n0 n1 HB5
          go_wp2_with fail
          refine wp_region_quiet_below (by kernel_rfl) (by kernel_rfl) ?_
          repeat (quiet_step (first | (with_reducible exact Q1.out _ _) | (with_reducible exact Q2.out _ _) | (with_reducible exact Q3.out _ _) | (with_reducible exact Q4.out _ _)))
          refine wpQuiet_nil ?_
          intro w3 hw'
          have HB4 : Hid (Below w.heap.size w w3) := Lib.hid (by
            obtain ⟨⟨dq, osq⟩, hw''⟩ := hw'
            subst hw''
            exact HB3.out.trans ((below_regrown wr dq osq).mono HB3.out.size))
          clear hw' g1 g2 g3 g4 g5
          go_wp2
          go_round
          case rel => exact ⟨k + 1, by omega, by rw [HOUT.out]; show Value.string _ = Value.string _; simp; apply ByteArray.ext; simp, by rw [HLK.out], HB4⟩
          case measure => simp [intOf]; exact HMS.out

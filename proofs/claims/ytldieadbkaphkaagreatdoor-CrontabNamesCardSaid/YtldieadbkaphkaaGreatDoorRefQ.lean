/- The reference for package cron: Part, its walk. -/
import Derived.Test.YtldieadbkaphkaaGreatDoorRefP
namespace Go.Proofs.YtldieadbkaphkaaGreatDoor
open Go.RowKit Go.ChangeMaps Go.Sort

set_option maxRecDepth 100000 in
set_option maxHeartbeats 8000000 in
theorem refPart_any (w : World) (i : Nat) (hi : i ≤ 4) (s : Bs) (hs : s.length ≤ 200) :
    Calls Tryz.prog 23 #[.int .i64 i, .string ⟨s.toArray⟩] w (PartPost w (partF (fld i) s)) := by
  obtain ⟨i0, hi0, hz0, hz1, hz2⟩ := info_parts info_int
  have hb := refBounds_any w i hi
  have HA : Hid (∀ W c t, t.length ≤ 200 → Calls Tryz.prog 40 #[.string ⟨t.toArray⟩, .int .u8 (UInt8.toNat c)] W (Ret (.int .i64 (Lib.index t [c])) W)) := Lib.hid fun W c t ht => refAt_any W c t ht
  have HN : Hid (∀ W t, t.length ≤ 200 → Calls Tryz.prog 41 #[.int .i64 i, .string ⟨t.toArray⟩] W (RetB (.int .i64 (refNumF i t)) W)) := Lib.hid fun W t ht => refNumber_any W i hi t ht
  have HN0 : Hid (∀ W t, t.length ≤ 200 → Calls Tryz.prog 41 #[.int .i64 0, .string ⟨t.toArray⟩] W (RetB (.int .i64 (refNumF 0 t)) W)) := Lib.hid fun W t ht => refNumber_any W 0 (by omega) t ht
  have HRN := Lib.hid (refNumF_range)
  have HCX := Lib.hid (cut_ix 47 s)
  have HLL := Lib.hid (cutL_len 47 s)
  have HPR := Lib.hid (part_ref i s)
  have HFL := Lib.hid (And.intro (fld_low i) (fld_high i))
  have HSP : Hid (∀ body st b, refSpan i body st b = if body = [42] then ((fld i).low, (fld i).high, decide (0 ≤ b)) else if (cutL 45 body).2.2 = true then (refNumF i (cutL 45 body).1, refNumF i (cutL 45 body).2.1, decide (0 ≤ b)) else (refNumF i body, refNumF i body, decide (0 ≤ b) && !st)) := Lib.hid fun _ _ _ => rfl
  generalize partF (fld i) s = P at *
  generalize (fld i).low = lo at *
  generalize (fld i).high = hg at *
  have hat := HA.out w 47 s (by omega)
  obtain ⟨K, hK⟩ : ∃ K, K = Lib.index s [47] := ⟨_, rfl⟩
  have HAS : Hid (∀ W, Calls Tryz.prog 40 #[.string ⟨s.toArray⟩, .int .u8 47] W (Ret (.int .i64 K) W)) := Lib.hid fun W => by rw [hK]; exact HA.out W 47 s (by omega)
  have HK := Lib.hid hK
  clear hat hK
  go_enter Tryz.func23, Tryz.ntmps23
  go_wp2_with fail
  refine hb.mono ?_
  rintro en w1 ⟨rfl, hb1⟩
  have HB1 := Lib.hid hb1
  clear hb1 hb
  go_wp2_with fail
  refine (HAS.out _).mono ?_
  rintro en w' ⟨rfl, rfl⟩
  go_upto_if 25 with (fail)
  go_cut [1, 8, 9, 10] (fun s1 s8 s9 _s10 wx => ∃ (body arg : Bs) (st : Bool) (b : Int), s1 = .string ⟨body.toArray⟩ ∧ s8 = .int .i64 b ∧ s9 = .bool st ∧ cutL 47 s = (body, arg, st) ∧ b = (if st = true then refNumF 0 arg else 1) ∧ Below w.heap.size w wx)
  case first =>
    rcases HCX.out with ⟨hq, hk⟩ | ⟨k, hq, hk, hks⟩
    · have hK : K = -1 := by rw [HK.out, hk]
      have HQ := Lib.hid hq
      clear hq hk
      go_wp2_with fail
      go_meet
      exact ⟨s, [], false, 1, rfl, rfl, rfl, HQ.out, rfl, HB1.out⟩
    · have hK : K = k := by rw [HK.out, hk]
      have HQ := Lib.hid hq
      clear hq hk
      go_wp2_with fail
      rw [ext_drop s (k + 1)]
      refine (HN0.out _ _ (by rw [List.length_drop]; omega)).mono ?_
      rintro en w2 ⟨rfl, hb2⟩
      have HB2 := Lib.hid (HB1.out.trans (hb2.mono HB1.out.size))
      clear hb2
      go_wp2_with fail
      rw [ext_take s k]
      go_meet
      exact ⟨s.take k, s.drop (k + 1), true, _, rfl, rfl, rfl, HQ.out, rfl, HB2.out⟩
  case rest =>
    obtain ⟨body, arg, st, b, rfl, rfl, rfl, hq, hbq, hbw⟩ := hcut
    have HB := Lib.hid hbw
    have hbl : body.length ≤ 200 := by have h := HLL.out.1; rw [hq] at h; simp only at h; omega
    have hbr : -1 ≤ b ∧ b ≤ 99 := by
      rw [hbq]
      have h := HRN.out 0 arg
      split <;> omega
    obtain ⟨b1, b2⟩ := hbr
    have HP := Lib.hid fun fr tt ok hr => HPR.out body arg st hq b hbq fr tt ok hr
    have hc2 := cut_ix 45 body
    have hcl := cutL_len 45 body
    have hsp := HSP.out body st b
    obtain ⟨K2, hK2⟩ : ∃ K2, K2 = Lib.index body [45] := ⟨_, rfl⟩
    have hat2 := fun W => HA.out W 45 body hbl
    rw [← hK2] at hat2 hc2
    have HAT2 : Hid (∀ W, Calls Tryz.prog 40 #[.string ⟨body.toArray⟩, .int .u8 45] W (Ret (.int .i64 K2) W)) := Lib.hid hat2
    have HC2 := Lib.hid hc2
    have HCL := Lib.hid hcl
    have HS := Lib.hid hsp
    clear hq hbq hbw HPR HSP HLL HCX HAS HK HB1 hat2 hc2 hcl hsp hK2 HN0 HA
    -- where the span goes: its three numbers, and the world
    have FIN : Hid (∀ (fr tt : Int) (ok : Bool), refSpan i body st b = (fr, tt, ok) → P = if ok = false ∨ fr < 0 ∨ tt < 0 then ([], 2) else if fr < lo ∨ hg < tt ∨ tt < fr ∨ b < 1 ∨ 60 < b then ([], 3) else (rangeL 64 fr tt b, 0)) := HP
    clear HP
    by_cases hb0 : 0 ≤ b
    · by_cases hbody : body = [42]
      · subst hbody
        have HF : Hid (P = if lo < 0 ∨ hg < 0 then ([], 2) else if lo < lo ∨ hg < hg ∨ hg < lo ∨ b < 1 ∨ 60 < b then ([], 3) else (rangeL 64 lo hg b, 0)) := Lib.hid (by
          rw [FIN.out lo hg true (by rw [HS.out, if_pos rfl]; simp [hb0])]; simp)
        obtain ⟨⟨f1, f2⟩, f3, f4⟩ := HFL.out
        have hfr : -1 ≤ lo ∧ lo ≤ 99 := by omega
        have htt : -1 ≤ hg ∧ hg ≤ 99 := by omega
        clear FIN HS HC2 HCL HRN HN
        go_wp2_with fail
        refine (HAT2.out _).mono ?_
        rintro en w' ⟨rfl, rfl⟩
        clear HAT2
        go_upto_region 15 with (fail)
        have HF3 := Lib.hid (show P = if lo < lo ∨ hg < hg ∨ hg < lo ∨ b < 1 ∨ 60 < b then ([], 3) else (rangeL 64 lo hg b, 0) by rw [HF.out, if_neg (by omega)])
        clear HF
        by_cases q6 : b < 1
        · have HG := Lib.hid (show P = ([], 3) by rw [HF3.out, if_pos (.inr (.inr (.inr (.inl q6))))])
          go_wp2_with fail
          go_ret2
          rw [HG.out]
          exact PartPost.none 3 HB.out
        by_cases q7 : 60 < b
        · have HG := Lib.hid (show P = ([], 3) by rw [HF3.out, if_pos (.inr (.inr (.inr (.inr q7))))])
          go_wp2_with fail
          go_ret2
          rw [HG.out]
          exact PartPost.none 3 HB.out
        have HG := Lib.hid (show P = (rangeL 64 lo hg b, 0) by rw [HF3.out, if_neg (by omega)])
        have y59 : hg ≤ 59 := by omega
        have x0 : 0 ≤ lo := by omega
        obtain ⟨FX, hfx⟩ : ∃ FX : Int, FX = lo := ⟨_, rfl⟩
        obtain ⟨FY, hfy⟩ : ∃ FY : Int, FY = hg := ⟨_, rfl⟩
        have HRG := Lib.hid (show rangeL 64 lo hg b = rangeL 64 FX FY b by rw [hfx, hfy])
        go_wp2_with fail
        go_loopw [15, 16] (fun v x wr => ∃ (pre : List Int) (k : Nat) (y : Int), x = .int .i64 y ∧ wr.ownsRow 0 3 1 v pre.length (pre.map intE) ∧ pre ++ rangeL k y FY b = rangeL 64 FX FY b ∧ FY < y + k ∧ 0 ≤ y ∧ y ≤ 200 ∧ pre.length + k ≤ 64 ∧ Below w.heap.size w wr ∧ (∀ j, v.ownBlock = some j → w.heap.size ≤ j)) (fun _ x _ => (200 - intOf x).toNat)
        case atStart => exact ⟨[], 64, _, rfl, by simpa using World.ownsRow_nil _ _ _ _, by rw [hfx, hfy]; rfl, by omega, by omega, by omega, by decide, HB.out, by simp [Value.ownBlock]⟩
        case round =>
          obtain ⟨pre, k, y, rfl, hown, hd, hk, hy0, hy1, hpl, hbw, hnew⟩ := hrel
          have HD := Lib.hid hd
          have HO := Lib.hid hown
          have HBW := Lib.hid hbw
          have HNW := Lib.hid hnew
          clear hd hown hbw hnew
          by_cases hle : y ≤ hg
          · have HM0 := Lib.hid (show pre.length + 1 ≤ maxLen by unfold maxLen; omega)
            have HM1 := Lib.hid (show (pre.length + 1) * 8 ≤ 140737488355328 by omega)
            go_wp2_with (at_builtin; refine wpList_append_one wr rfl _ _ _ rfl 3 i0 (.int .i64 0) 8 Tryz.underlying61 hi0 hz0 hz1 hz2 rfl u15 pre.length (pre.map intE) rfl HO.out (.int .i64 y) _ rfl rfl HM0.out HM1.out ?_; intro v5 w5 hown5 hg5 hrow5; have HO5 := Lib.hid hown5; have HG5 := Lib.hid hg5; have HR5 := Lib.hid hrow5; clear hown5 hg5 hrow5)
            go_roundw
            case rel =>
              have hk0 : k ≠ 0 := by rintro rfl; omega
              obtain ⟨k2, rfl⟩ : ∃ k2, k = k2 + 1 := ⟨k - 1, by omega⟩
              have hu : rangeL (k2 + 1) y FY b = y :: rangeL k2 (y + b) FY b := by rw [rangeL, if_pos (by omega)]
              have hd := HD.out
              rw [hu] at hd
              have hs2 := HBW.out.size
              refine ⟨pre ++ [y], k2, y + b, rfl, by have := HO5.out; simpa [intE] using this, by rw [← hd]; simp, by omega, by omega, by omega, by simp; omega, ?_, ?_⟩
              · have h1 : Keeps (fun k => w.heap.size ≤ k) w w5 := ((Keeps.of_below HBW.out).alloc _).trans (grown_keeps HG5.out fun k hk => HNW.out k hk.symm)
                exact h1.below (Nat.le_refl _) (fun k hk => hk)
              · intro j hj
                rcases HR5.out with h1 | ⟨i, h1, h2, _⟩
                · exact HNW.out j (h1 ▸ hj)
                · rw [h1] at hj; cases hj; simp at h2; omega
            case measure => simp [intOf]; omega
          · have hu : rangeL k y FY b = [] := by
              cases k with
              | zero => rfl
              | succ k => rw [rangeL, if_neg (by omega)]
            have HE := Lib.hid (show rangeL 64 FX FY b = pre by rw [← HD.out, hu, List.append_nil])
            go_wp2_with fail
            go_ret2
            rw [HG.out]
            refine ⟨_, rfl, ?_, HBW.out, HNW.out⟩
            rw [HRG.out, HE.out]
            exact owns_sl HO.out
      · have hbe : (body == [42]) = false := by simpa using hbody
        have hbe2 : (body != [42]) = true := by simpa using hbody
        rcases HC2.out with ⟨hq, hk⟩ | ⟨k, hq, hk, hks⟩
        · have hnum := fun W => HN.out W body hbl
          have hfr := HRN.out i body
          cases st
          · have HF : Hid (P = if refNumF i body < 0 ∨ refNumF i body < 0 then ([], 2) else if refNumF i body < lo ∨ hg < refNumF i body ∨ refNumF i body < refNumF i body ∨ b < 1 ∨ 60 < b then ([], 3) else (rangeL 64 (refNumF i body) (refNumF i body) b, 0)) := Lib.hid (by
              rw [FIN.out (refNumF i body) (refNumF i body) true (by rw [HS.out, if_neg hbody, hq]; simp [hb0])]; simp)
            have htt := hfr
            obtain ⟨⟨f1, f2⟩, f3, f4⟩ := HFL.out
            generalize refNumF i body = x at *
            subst hk
            clear FIN HS HC2 HCL HRN HN hq hbody
            go_wp2_with fail
            refine (HAT2.out _).mono ?_
            rintro en w' ⟨rfl, rfl⟩
            clear HAT2
            go_wp2_with fail
            refine (hnum _).mono ?_
            rintro en w2 ⟨rfl, hb2⟩
            replace HB := Lib.hid (HB.out.trans (hb2.mono HB.out.size))
            clear hb2 hnum
            go_upto_region 15 with (fail)
            by_cases q1 : x < 0
            · have HG := Lib.hid (show P = ([], 2) by rw [HF.out, if_pos (.inl q1)])
              go_wp2_with fail
              go_ret2
              rw [HG.out]
              exact PartPost.none 2 HB.out
            have HF3 := Lib.hid (show P = if x < lo ∨ hg < x ∨ x < x ∨ b < 1 ∨ 60 < b then ([], 3) else (rangeL 64 x x b, 0) by rw [HF.out, if_neg (by omega)])
            clear HF
            by_cases q3 : x < lo
            · have HG := Lib.hid (show P = ([], 3) by rw [HF3.out, if_pos (.inl q3)])
              go_wp2_with fail
              go_ret2
              rw [HG.out]
              exact PartPost.none 3 HB.out
            by_cases q4 : hg < x
            · have HG := Lib.hid (show P = ([], 3) by rw [HF3.out, if_pos (.inr (.inl q4))])
              go_wp2_with fail
              go_ret2
              rw [HG.out]
              exact PartPost.none 3 HB.out
            by_cases q6 : b < 1
            · have HG := Lib.hid (show P = ([], 3) by rw [HF3.out, if_pos (.inr (.inr (.inr (.inl q6))))])
              go_wp2_with fail
              go_ret2
              rw [HG.out]
              exact PartPost.none 3 HB.out
            by_cases q7 : 60 < b
            · have HG := Lib.hid (show P = ([], 3) by rw [HF3.out, if_pos (.inr (.inr (.inr (.inr q7))))])
              go_wp2_with fail
              go_ret2
              rw [HG.out]
              exact PartPost.none 3 HB.out
            have HG := Lib.hid (show P = (rangeL 64 x x b, 0) by rw [HF3.out, if_neg (by omega)])
            have y59 : x ≤ 59 := by omega
            have x0 : 0 ≤ x := by omega
            obtain ⟨FX, hfx⟩ : ∃ FX : Int, FX = x := ⟨_, rfl⟩
            obtain ⟨FY, hfy⟩ : ∃ FY : Int, FY = x := ⟨_, rfl⟩
            have HRG := Lib.hid (show rangeL 64 x x b = rangeL 64 FX FY b by rw [hfx, hfy])
            go_wp2_with fail
            go_loopw [15, 16] (fun v x wr => ∃ (pre : List Int) (k : Nat) (y : Int), x = .int .i64 y ∧ wr.ownsRow 0 3 1 v pre.length (pre.map intE) ∧ pre ++ rangeL k y FY b = rangeL 64 FX FY b ∧ FY < y + k ∧ 0 ≤ y ∧ y ≤ 200 ∧ pre.length + k ≤ 64 ∧ Below w.heap.size w wr ∧ (∀ j, v.ownBlock = some j → w.heap.size ≤ j)) (fun _ x _ => (200 - intOf x).toNat)
            case atStart => exact ⟨[], 64, _, rfl, by simpa using World.ownsRow_nil _ _ _ _, by rw [hfx, hfy]; rfl, by omega, by omega, by omega, by decide, HB.out, by simp [Value.ownBlock]⟩
            case round =>
              obtain ⟨pre, k, y, rfl, hown, hd, hk, hy0, hy1, hpl, hbw, hnew⟩ := hrel
              have HD := Lib.hid hd
              have HO := Lib.hid hown
              have HBW := Lib.hid hbw
              have HNW := Lib.hid hnew
              clear hd hown hbw hnew
              by_cases hle : y ≤ x
              · have HM0 := Lib.hid (show pre.length + 1 ≤ maxLen by unfold maxLen; omega)
                have HM1 := Lib.hid (show (pre.length + 1) * 8 ≤ 140737488355328 by omega)
                go_wp2_with (at_builtin; refine wpList_append_one wr rfl _ _ _ rfl 3 i0 (.int .i64 0) 8 Tryz.underlying61 hi0 hz0 hz1 hz2 rfl u15 pre.length (pre.map intE) rfl HO.out (.int .i64 y) _ rfl rfl HM0.out HM1.out ?_; intro v5 w5 hown5 hg5 hrow5; have HO5 := Lib.hid hown5; have HG5 := Lib.hid hg5; have HR5 := Lib.hid hrow5; clear hown5 hg5 hrow5)
                go_roundw
                case rel =>
                  have hk0 : k ≠ 0 := by rintro rfl; omega
                  obtain ⟨k2, rfl⟩ : ∃ k2, k = k2 + 1 := ⟨k - 1, by omega⟩
                  have hu : rangeL (k2 + 1) y FY b = y :: rangeL k2 (y + b) FY b := by rw [rangeL, if_pos (by omega)]
                  have hd := HD.out
                  rw [hu] at hd
                  have hs2 := HBW.out.size
                  refine ⟨pre ++ [y], k2, y + b, rfl, by have := HO5.out; simpa [intE] using this, by rw [← hd]; simp, by omega, by omega, by omega, by simp; omega, ?_, ?_⟩
                  · have h1 : Keeps (fun k => w.heap.size ≤ k) w w5 := ((Keeps.of_below HBW.out).alloc _).trans (grown_keeps HG5.out fun k hk => HNW.out k hk.symm)
                    exact h1.below (Nat.le_refl _) (fun k hk => hk)
                  · intro j hj
                    rcases HR5.out with h1 | ⟨i, h1, h2, _⟩
                    · exact HNW.out j (h1 ▸ hj)
                    · rw [h1] at hj; cases hj; simp at h2; omega
                case measure => simp [intOf]; omega
              · have hu : rangeL k y FY b = [] := by
                  cases k with
                  | zero => rfl
                  | succ k => rw [rangeL, if_neg (by omega)]
                have HE := Lib.hid (show rangeL 64 FX FY b = pre by rw [← HD.out, hu, List.append_nil])
                go_wp2_with fail
                go_ret2
                rw [HG.out]
                refine ⟨_, rfl, ?_, HBW.out, HNW.out⟩
                rw [HRG.out, HE.out]
                exact owns_sl HO.out
          · have HF2 : Hid (P = ([], 2)) := Lib.hid (by
              rw [FIN.out (refNumF i body) (refNumF i body) false (by rw [HS.out, if_neg hbody, hq]; simp)]; simp)
            subst hk
            clear FIN HS HC2 HCL HRN HN hq hbody
            go_wp2_with fail
            refine (HAT2.out _).mono ?_
            rintro en w' ⟨rfl, rfl⟩
            clear HAT2
            go_wp2_with fail
            refine (hnum _).mono ?_
            rintro en w2 ⟨rfl, hb2⟩
            replace HB := Lib.hid (HB.out.trans (hb2.mono HB.out.size))
            clear hb2 hnum
            go_wp2_with fail
            go_ret2
            rw [HF2.out]
            exact PartPost.none 2 HB.out
        · have hl1 : (body.take k).length ≤ 200 := by have := List.length_take_le k body; omega
          have hl2 : (body.drop (k + 1)).length ≤ 200 := by rw [List.length_drop]; omega
          have HF : Hid (P = if refNumF i (body.take k) < 0 ∨ refNumF i (body.drop (k + 1)) < 0 then ([], 2) else if refNumF i (body.take k) < lo ∨ hg < refNumF i (body.drop (k + 1)) ∨ refNumF i (body.drop (k + 1)) < refNumF i (body.take k) ∨ b < 1 ∨ 60 < b then ([], 3) else (rangeL 64 (refNumF i (body.take k)) (refNumF i (body.drop (k + 1))) b, 0)) := Lib.hid (by
            rw [FIN.out (refNumF i (body.take k)) (refNumF i (body.drop (k + 1))) true (by rw [HS.out, if_neg hbody, hq]; simp [hb0])]; simp)
          have hfr := HRN.out i (body.take k)
          have htt := HRN.out i (body.drop (k + 1))
          obtain ⟨⟨f1, f2⟩, f3, f4⟩ := HFL.out
          have hks1 : (k : Int) + 1 ≤ (body.length : Int) := by omega
          have hks2 : (k : Int) ≤ (body.length : Int) := by omega
          have hwk : IntKind.i64.wrap ((k : Int) + 1) = k + 1 := IntWalk.i64_in _ (by omega)
          have hk0 : (0 : Int) ≤ (k : Int) + 1 := by omega
          have hkn : ((k : Int) + 1).toNat = k + 1 := by omega
          have QA : Hid (∀ W, Calls Tryz.prog 41 #[.int .i64 i, .string ((⟨body.toArray⟩ : ByteArray).extract 0 k)] W (RetB (.int .i64 (refNumF i (body.take k))) W)) := Lib.hid fun W => by rw [ext_take]; exact HN.out W _ hl1
          have QB : Hid (∀ W, Calls Tryz.prog 41 #[.int .i64 i, .string ((⟨body.toArray⟩ : ByteArray).extract (k + 1) body.length)] W (RetB (.int .i64 (refNumF i (body.drop (k + 1)))) W)) := Lib.hid fun W => by rw [ext_drop]; exact HN.out W _ hl2
          generalize refNumF i (body.take k) = x at *
          generalize refNumF i (body.drop (k + 1)) = z at *
          subst hk
          clear FIN HS HC2 HCL HRN HN hq hbody hl1 hl2
          go_wp2_with fail
          refine (HAT2.out _).mono ?_
          rintro en w' ⟨rfl, rfl⟩
          clear HAT2
          go_upto_region 10 with (fail)
          have QA2 := Lib.hid fun d os => Calls.regrown_of ((QA.out (grow (redrawn wc d) os)).mono fun e w' h => ⟨h.1, h.2⟩)
          have QB2 := Lib.hid fun d os => Calls.regrown_of ((QB.out (grow (redrawn wc d) os)).mono fun e w' h => ⟨h.1, h.2⟩)
          clear QA QB
          refine wp_region_quiet_below (by kernel_rfl) (by kernel_rfl) ?_
          repeat (quiet_step (first | (with_reducible exact QA2.out _ _) | (with_reducible exact QB2.out _ _)))
          refine wpQuiet_nil ?_
          intro w3 hw'
          have hb3 : Below wc.heap.size wc w3 := by
            obtain ⟨⟨dq, osq⟩, hw''⟩ := hw'
            subst hw''
            exact below_regrown wc dq osq
          replace HB := Lib.hid (HB.out.trans (hb3.mono HB.out.size))
          clear hw' hb3 QA2 QB2 hwk hks1 hks2
          go_upto_region 15 with (fail)
          by_cases q1 : x < 0
          · have HG := Lib.hid (show P = ([], 2) by rw [HF.out, if_pos (.inl q1)])
            go_wp2_with fail
            go_ret2
            rw [HG.out]
            exact PartPost.none 2 HB.out
          by_cases q2 : z < 0
          · have HG := Lib.hid (show P = ([], 2) by rw [HF.out, if_pos (.inr q2)])
            go_wp2_with fail
            go_ret2
            rw [HG.out]
            exact PartPost.none 2 HB.out
          have HF3 := Lib.hid (show P = if x < lo ∨ hg < z ∨ z < x ∨ b < 1 ∨ 60 < b then ([], 3) else (rangeL 64 x z b, 0) by rw [HF.out, if_neg (by omega)])
          clear HF
          by_cases q3 : x < lo
          · have HG := Lib.hid (show P = ([], 3) by rw [HF3.out, if_pos (.inl q3)])
            go_wp2_with fail
            go_ret2
            rw [HG.out]
            exact PartPost.none 3 HB.out
          by_cases q4 : hg < z
          · have HG := Lib.hid (show P = ([], 3) by rw [HF3.out, if_pos (.inr (.inl q4))])
            go_wp2_with fail
            go_ret2
            rw [HG.out]
            exact PartPost.none 3 HB.out
          by_cases q5 : z < x
          · have HG := Lib.hid (show P = ([], 3) by rw [HF3.out, if_pos (.inr (.inr (.inl q5)))])
            go_wp2_with fail
            go_ret2
            rw [HG.out]
            exact PartPost.none 3 HB.out
          by_cases q6 : b < 1
          · have HG := Lib.hid (show P = ([], 3) by rw [HF3.out, if_pos (.inr (.inr (.inr (.inl q6))))])
            go_wp2_with fail
            go_ret2
            rw [HG.out]
            exact PartPost.none 3 HB.out
          by_cases q7 : 60 < b
          · have HG := Lib.hid (show P = ([], 3) by rw [HF3.out, if_pos (.inr (.inr (.inr (.inr q7))))])
            go_wp2_with fail
            go_ret2
            rw [HG.out]
            exact PartPost.none 3 HB.out
          have HG := Lib.hid (show P = (rangeL 64 x z b, 0) by rw [HF3.out, if_neg (by omega)])
          have y59 : z ≤ 59 := by omega
          have x0 : 0 ≤ x := by omega
          obtain ⟨FX, hfx⟩ : ∃ FX : Int, FX = x := ⟨_, rfl⟩
          obtain ⟨FY, hfy⟩ : ∃ FY : Int, FY = z := ⟨_, rfl⟩
          have HRG := Lib.hid (show rangeL 64 x z b = rangeL 64 FX FY b by rw [hfx, hfy])
          go_wp2_with fail
          go_loopw [15, 16] (fun v x wr => ∃ (pre : List Int) (k : Nat) (y : Int), x = .int .i64 y ∧ wr.ownsRow 0 3 1 v pre.length (pre.map intE) ∧ pre ++ rangeL k y FY b = rangeL 64 FX FY b ∧ FY < y + k ∧ 0 ≤ y ∧ y ≤ 200 ∧ pre.length + k ≤ 64 ∧ Below w.heap.size w wr ∧ (∀ j, v.ownBlock = some j → w.heap.size ≤ j)) (fun _ x _ => (200 - intOf x).toNat)
          case atStart => exact ⟨[], 64, _, rfl, by simpa using World.ownsRow_nil _ _ _ _, by rw [hfx, hfy]; rfl, by omega, by omega, by omega, by decide, HB.out, by simp [Value.ownBlock]⟩
          case round =>
            obtain ⟨pre, k, y, rfl, hown, hd, hk, hy0, hy1, hpl, hbw, hnew⟩ := hrel
            have HD := Lib.hid hd
            have HO := Lib.hid hown
            have HBW := Lib.hid hbw
            have HNW := Lib.hid hnew
            clear hd hown hbw hnew
            by_cases hle : y ≤ z
            · have HM0 := Lib.hid (show pre.length + 1 ≤ maxLen by unfold maxLen; omega)
              have HM1 := Lib.hid (show (pre.length + 1) * 8 ≤ 140737488355328 by omega)
              go_wp2_with (at_builtin; refine wpList_append_one wr rfl _ _ _ rfl 3 i0 (.int .i64 0) 8 Tryz.underlying61 hi0 hz0 hz1 hz2 rfl u15 pre.length (pre.map intE) rfl HO.out (.int .i64 y) _ rfl rfl HM0.out HM1.out ?_; intro v5 w5 hown5 hg5 hrow5; have HO5 := Lib.hid hown5; have HG5 := Lib.hid hg5; have HR5 := Lib.hid hrow5; clear hown5 hg5 hrow5)
              go_roundw
              case rel =>
                have hk0 : k ≠ 0 := by rintro rfl; omega
                obtain ⟨k2, rfl⟩ : ∃ k2, k = k2 + 1 := ⟨k - 1, by omega⟩
                have hu : rangeL (k2 + 1) y FY b = y :: rangeL k2 (y + b) FY b := by rw [rangeL, if_pos (by omega)]
                have hd := HD.out
                rw [hu] at hd
                have hs2 := HBW.out.size
                refine ⟨pre ++ [y], k2, y + b, rfl, by have := HO5.out; simpa [intE] using this, by rw [← hd]; simp, by omega, by omega, by omega, by simp; omega, ?_, ?_⟩
                · have h1 : Keeps (fun k => w.heap.size ≤ k) w w5 := ((Keeps.of_below HBW.out).alloc _).trans (grown_keeps HG5.out fun k hk => HNW.out k hk.symm)
                  exact h1.below (Nat.le_refl _) (fun k hk => hk)
                · intro j hj
                  rcases HR5.out with h1 | ⟨i, h1, h2, _⟩
                  · exact HNW.out j (h1 ▸ hj)
                  · rw [h1] at hj; cases hj; simp at h2; omega
              case measure => simp [intOf]; omega
            · have hu : rangeL k y FY b = [] := by
                cases k with
                | zero => rfl
                | succ k => rw [rangeL, if_neg (by omega)]
              have HE := Lib.hid (show rangeL 64 FX FY b = pre by rw [← HD.out, hu, List.append_nil])
              go_wp2_with fail
              go_ret2
              rw [HG.out]
              refine ⟨_, rfl, ?_, HBW.out, HNW.out⟩
              rw [HRG.out, HE.out]
              exact owns_sl HO.out
    · have HF2 : Hid (P = ([], 2)) := Lib.hid (by
        have hb1 : decide (0 ≤ b) = false := by simpa using hb0
        rcases hr : refSpan i body st b with ⟨fr, tt, ok⟩
        have hok : ok = false := by
          rw [HS.out, hb1] at hr
          split at hr
          · simp only [Prod.mk.injEq] at hr; exact hr.2.2.symm
          · split at hr
            · simp only [Prod.mk.injEq] at hr; exact hr.2.2.symm
            · simp only [Prod.mk.injEq, Bool.false_and] at hr; exact hr.2.2.symm
        rw [FIN.out fr tt ok hr, if_pos (.inl hok)])
      have hb1 : b < 0 := by omega
      clear FIN HS
      by_cases hbody : body = [42]
      · subst hbody
        clear HC2 HCL HRN HN
        go_wp2_with fail
        refine (HAT2.out _).mono ?_
        rintro en w' ⟨rfl, rfl⟩
        go_wp2_with fail
        go_ret2
        rw [HF2.out]
        exact PartPost.none 2 HB.out
      · have hbe : (body == [42]) = false := by simpa using hbody
        have hbe2 : (body != [42]) = true := by simpa using hbody
        rcases HC2.out with ⟨hq, hk⟩ | ⟨k, hq, hk, hks⟩
        · have hnum := fun W => HN.out W body hbl
          subst hk
          clear HC2 HCL HRN HN hq hbody
          generalize refNumF i body = x at *
          go_wp2_with fail
          refine (HAT2.out _).mono ?_
          rintro en w' ⟨rfl, rfl⟩
          go_wp2_with fail
          refine (hnum _).mono ?_
          rintro en w2 ⟨rfl, hb2⟩
          replace HB := Lib.hid (HB.out.trans (hb2.mono HB.out.size))
          clear hb2 hnum
          go_wp2_with fail
          go_ret2
          rw [HF2.out]
          exact PartPost.none 2 HB.out
        · have hl1 : (body.take k).length ≤ 200 := by have := List.length_take_le k body; omega
          have hl2 : (body.drop (k + 1)).length ≤ 200 := by rw [List.length_drop]; omega
          have hks1 : (k : Int) + 1 ≤ (body.length : Int) := by omega
          have hks2 : (k : Int) ≤ (body.length : Int) := by omega
          have hwk : IntKind.i64.wrap ((k : Int) + 1) = k + 1 := IntWalk.i64_in _ (by omega)
          have hk0 : (0 : Int) ≤ (k : Int) + 1 := by omega
          have hkn : ((k : Int) + 1).toNat = k + 1 := by omega
          have QA : Hid (∀ W, Calls Tryz.prog 41 #[.int .i64 i, .string ((⟨body.toArray⟩ : ByteArray).extract 0 k)] W (RetB (.int .i64 (refNumF i (body.take k))) W)) := Lib.hid fun W => by rw [ext_take]; exact HN.out W _ hl1
          have QB : Hid (∀ W, Calls Tryz.prog 41 #[.int .i64 i, .string ((⟨body.toArray⟩ : ByteArray).extract (k + 1) body.length)] W (RetB (.int .i64 (refNumF i (body.drop (k + 1)))) W)) := Lib.hid fun W => by rw [ext_drop]; exact HN.out W _ hl2
          generalize refNumF i (body.take k) = x at *
          generalize refNumF i (body.drop (k + 1)) = z at *
          subst hk
          clear HC2 HCL HRN HN hq hbody hl1 hl2
          go_wp2_with fail
          refine (HAT2.out _).mono ?_
          rintro en w' ⟨rfl, rfl⟩
          clear HAT2
          go_upto_region 10 with (fail)
          have QA2 := Lib.hid fun d os => Calls.regrown_of ((QA.out (grow (redrawn wc d) os)).mono fun e w' h => ⟨h.1, h.2⟩)
          have QB2 := Lib.hid fun d os => Calls.regrown_of ((QB.out (grow (redrawn wc d) os)).mono fun e w' h => ⟨h.1, h.2⟩)
          clear QA QB
          refine wp_region_quiet_below (by kernel_rfl) (by kernel_rfl) ?_
          repeat (quiet_step (first | (with_reducible exact QA2.out _ _) | (with_reducible exact QB2.out _ _)))
          refine wpQuiet_nil ?_
          intro w3 hw'
          have hb3 : Below wc.heap.size wc w3 := by
            obtain ⟨⟨dq, osq⟩, hw''⟩ := hw'
            subst hw''
            exact below_regrown wc dq osq
          replace HB := Lib.hid (HB.out.trans (hb3.mono HB.out.size))
          clear hw' hb3 QA2 QB2 hwk hks1 hks2
          go_wp2_with fail
          go_ret2
          rw [HF2.out]
          exact PartPost.none 2 HB.out

end Go.Proofs.YtldieadbkaphkaaGreatDoor

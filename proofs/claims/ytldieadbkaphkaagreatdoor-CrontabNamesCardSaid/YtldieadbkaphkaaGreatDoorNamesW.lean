/- The statement CrontabNames: its walk. -/
import Derived.Test.YtldieadbkaphkaaGreatDoorNamesP
import Derived.Test.YtldieadbkaphkaaGreatDoorRefC
import Derived.Test.YtldieadbkaphkaaGreatDoorDueC
import Derived.Test.YtldieadbkaphkaaGreatDoorOpenSp
import Derived.Deep.DeepCutAuto
import Derived.Deep.RegionHeld3
namespace Go.Proofs.YtldieadbkaphkaaGreatDoor
open Go.RowKit Go.ChangeMaps Go.Sort

set_option maxRecDepth 100000 in
set_option maxHeartbeats 16000000 in
theorem names_walk (w : World) (hm : MaxL w) (ht : Tabs w) (s : Sp) (a : Option Addr) (n cap : Nat) (h : SpAt w s a n cap) (k : Int) (k0 : -9223372036854775808 ≤ k) (k1 : k ≤ 9223372036854775807) (nm : ByteArray) (hnm : nm.size ≤ 9223372036854775807) :
    Calls Tryz.prog 5 #[s.v (.slice a n cap), .int .i64 k, .string nm] w (RetB (.bool true) w) := by
  have HL : Hid (∀ W, MaxL W → Calls Tryz.prog 6 #[] W (RetB (.bool true) W)) := Lib.hid lives16
  have HFW : Hid (∀ W, Below w.heap.size w W → Calls Tryz.prog 7 #[.agg #[.string s.name, .string s.ten, .int .i64 s.pri, .int .i64 s.delay, .slice a n cap, .int .i64 s.base, .int .i64 s.cap, .int .i64 s.att, .int .i64 s.lease, .string s.cron, .int .i64 s.catch_]] W (RetB (.bool (fewB s)) W)) := Lib.hid fun W hb => few_any W s a n cap ⟨h.wf, h.row.below hb h.row.row_lt⟩
  have HM := Lib.hid hm
  have HT := Lib.hid ht
  have H := Lib.hid h
  have HB0 : Hid (Below w.heap.size w (w.alloc (.cells #[.string s.name, .string s.ten, .int .i64 s.pri, .int .i64 s.delay, .slice a n cap, .int .i64 s.base, .int .i64 s.cap, .int .i64 s.att, .int .i64 s.lease, .string s.cron, .int .i64 s.catch_] 24))) := Lib.hid ((Below.refl _ _).alloc (Nat.le_refl _) _)
  have HX0 := Lib.hid (heap_new w (.cells #[.string s.name, .string s.ten, .int .i64 s.pri, .int .i64 s.delay, .slice a n cap, .int .i64 s.base, .int .i64 s.cap, .int .i64 s.att, .int .i64 s.lease, .string s.cron, .int .i64 s.catch_] 24))
  have HK := Lib.hid (And.intro k0 k1)
  clear h hm ht
  unfold Sp.v Sp.cells
  go_enter Tryz.func5, Tryz.ntmps5
  go_wp2_with fail
  refine (HL.out _ (HM.out.step HB0.out)).mono ?_
  rintro en w1 ⟨rfl, hb1⟩
  have HX1 := Lib.hid (bheap hb1 HX0.out (heap_lt HX0.out))
  have HB1 := Lib.hid (HB0.out.trans (hb1.mono HB0.out.size))
  clear hb1 HX0 HB0
  have c0 : w1.cell? ⟨w.heap.size, 0, none⟩ = some (.string s.name) := blk_cell HX1.out 0 rfl
  have c1 : w1.cell? ⟨w.heap.size, 1, none⟩ = some (.string s.ten) := blk_cell HX1.out 1 rfl
  have c2 : w1.cell? ⟨w.heap.size, 2, none⟩ = some (.int .i64 s.pri) := blk_cell HX1.out 2 rfl
  have c3 : w1.cell? ⟨w.heap.size, 3, none⟩ = some (.int .i64 s.delay) := blk_cell HX1.out 3 rfl
  have c4 : w1.cell? ⟨w.heap.size, 4, none⟩ = some (.slice a n cap) := blk_cell HX1.out 4 rfl
  have c5 : w1.cell? ⟨w.heap.size, 5, none⟩ = some (.int .i64 s.base) := blk_cell HX1.out 5 rfl
  have c6 : w1.cell? ⟨w.heap.size, 6, none⟩ = some (.int .i64 s.cap) := blk_cell HX1.out 6 rfl
  have c7 : w1.cell? ⟨w.heap.size, 7, none⟩ = some (.int .i64 s.att) := blk_cell HX1.out 7 rfl
  have c8 : w1.cell? ⟨w.heap.size, 8, none⟩ = some (.int .i64 s.lease) := blk_cell HX1.out 8 rfl
  have c9 : w1.cell? ⟨w.heap.size, 9, none⟩ = some (.string s.cron) := blk_cell HX1.out 9 rfl
  have c10 : w1.cell? ⟨w.heap.size, 10, none⟩ = some (.int .i64 s.catch_) := blk_cell HX1.out 10 rfl
  go_wp2_with fail
  refine (HFW.out _ HB1.out).mono ?_
  rintro en w2 ⟨rfl, hb2⟩
  have HX2 := Lib.hid (bheap hb2 HX1.out (heap_lt HX1.out))
  have HB2 := Lib.hid (HB1.out.trans (hb2.mono HB1.out.size))
  clear hb2 HX1 HB1 HFW c0 c1 c2 c3 c4 c5 c6 c7 c8 c9 c10
  cases hf : fewB s
  · go_wp2_with fail
    refine (HL.out _ (HM.out.step HB2.out)).mono ?_
    rintro en w3 ⟨rfl, hb3⟩
    have HB3 := Lib.hid (HB2.out.trans (hb3.mono HB2.out.size))
    clear hb3
    go_wp2_with fail
    go_ret
    exact RetB.mk rfl HB3.out
  by_cases h60 : (60 : Int) < (nm.size : Int)
  · go_wp2_with fail
    refine (HL.out _ (HM.out.step HB2.out)).mono ?_
    rintro en w3 ⟨rfl, hb3⟩
    have HB3 := Lib.hid (HB2.out.trans (hb3.mono HB2.out.size))
    clear hb3
    go_wp2_with fail
    go_ret
    exact RetB.mk rfl HB3.out
  have HF := Lib.hid hf
  have hsn : s.name.size ≤ 60 := by
    unfold fewB at hf
    simp only [Bool.and_eq_true, decide_eq_true_eq] at hf
    exact hf.1.1.1.2
  have hnm60 : nm.size ≤ 60 := by omega
  have HI : Hid (Calls Tryz.prog 13 #[.agg #[.string s.name, .string s.ten, .int .i64 s.pri, .int .i64 s.delay, .slice a n cap, .int .i64 s.base, .int .i64 s.cap, .int .i64 s.att, .int .i64 s.lease, .string s.cron, .int .i64 s.catch_], .int .i64 k] w2 (RetB (.tuple #[(instF s k).1.v (.slice none 0 0), .int .i64 (instF s k).2]) w2)) := Lib.hid
    (inst_any w2 (HM.out.step HB2.out) (HT.out.below HB2.out) s a n cap ⟨H.out.wf, H.out.row.below HB2.out H.out.row.row_lt⟩ (by omega) k k0 k1)
  obtain ⟨X, er, hX⟩ : ∃ X er, instF s k = (X, er) := ⟨_, _, rfl⟩
  have hi := HI.out
  rw [hX] at hi
  have HX := Lib.hid hX
  clear HI hX hf h60 hsn hnm k0 k1 HL
  unfold Sp.v Sp.cells at hi
  simp only at hi
  go_wp2_with (first | (refine wpList_load_all _ rfl _ _ rfl _ rfl _ _ _ _ HX2.out rfl _ Tryz.underlying24 rfl info_spec ?_) | fail)
  refine hi.mono ?_
  rintro en w3 ⟨rfl, hb3⟩
  have HX3 := Lib.hid (bheap hb3 HX2.out (heap_lt HX2.out))
  have HB3 := Lib.hid (HB2.out.trans (hb3.mono HB2.out.size))
  clear hb3 hi HX2 HB2
  have HS3 : Hid (w.heap.size < w3.heap.size) := Lib.hid (heap_lt HX3.out)
  obtain ⟨l, hl⟩ : ∃ l : Bs, nm = ⟨l.toArray⟩ := ⟨nm.data.toList, rfl⟩
  have hln : nm.size = l.length := by rw [hl]; show l.toArray.size = _; simp
  obtain ⟨tS, kI, ok, ho1, ho2, ho3, ho4⟩ := ofV_parts l
  have HO2 := Lib.hid ho2
  have HO3 := Lib.hid ho3
  have HO4 := Lib.hid ho4
  have HOF : Hid (∀ W, Tabs W → Calls Tryz.prog 14 #[.string nm] W (RetB (.tuple #[.string tS, .int .i64 kI, .bool ok]) W)) := Lib.hid fun W hW => by
    have := of_any W hW l (by omega)
    rw [ho1, ← hl] at this
    exact this
  have HLN := Lib.hid hln
  have HNL := Lib.hid hl
  have HAT := Lib.hid (at_some l nm hl)
  clear ho1 ho2 ho3 ho4 hl hln
  go_wp2_with (first | (refine wpList_store_fresh _ rfl _ _ _ rfl _ rfl _ rfl _ _ _ rfl ?_ ?_ rfl info_spec ?_ ?_; (focus (simp; done)); (focus (simp; done)); (focus (simp [OneCells, Value.oneCell']; done))) | fail)
  obtain ⟨w4, hw4⟩ : ∃ w4, w4 = w3.alloc (.cells #[.string X.name, .string X.ten, .int .i64 X.pri, .int .i64 X.delay, .slice none 0 0, .int .i64 X.base, .int .i64 X.cap, .int .i64 X.att, .int .i64 X.lease, .string X.cron, .int .i64 X.catch_] 24) := ⟨_, rfl⟩
  rw [← hw4]
  have HS4 : Hid (w4.heap[w.heap.size]? = some (.cells #[.string s.name, .string s.ten, .int .i64 s.pri, .int .i64 s.delay, .slice a n cap, .int .i64 s.base, .int .i64 s.cap, .int .i64 s.att, .int .i64 s.lease, .string s.cron, .int .i64 s.catch_] 24)) := Lib.hid (by rw [hw4]; exact aheap HX3.out _)
  have HX4 : Hid (w4.heap[w3.heap.size]? = some (.cells #[.string X.name, .string X.ten, .int .i64 X.pri, .int .i64 X.delay, .slice none 0 0, .int .i64 X.base, .int .i64 X.cap, .int .i64 X.att, .int .i64 X.lease, .string X.cron, .int .i64 X.catch_] 24)) := Lib.hid (by rw [hw4]; exact heap_new _ _)
  have HB4 : Hid (Below w.heap.size w w4) := Lib.hid (by rw [hw4]; exact HB3.out.alloc HB3.out.size _)
  clear hw4 HX3 HB3
  refine (HOF.out _ (HT.out.below HB4.out)).mono ?_
  rintro en w5 ⟨rfl, hb5⟩
  have HS5 := Lib.hid (bheap hb5 HS4.out (heap_lt HS4.out))
  have HX5 := Lib.hid (bheap hb5 HX4.out (heap_lt HX4.out))
  have HB5 := Lib.hid (HB4.out.trans (hb5.mono HB4.out.size))
  clear hb5 HS4 HX4 HB4
  obtain ⟨F, hF⟩ : ∃ F : Nat → Int, F = lastP l 46 := ⟨_, rfl⟩
  have HF0 : Hid (F 0 = -1) := Lib.hid (by rw [hF]; rfl)
  have HF1 : Hid (∀ j, l[j]? = some 46 → F (j + 1) = (j : Int)) := Lib.hid fun j h => by rw [hF, lastP, if_pos h]
  have HF2 : Hid (∀ j, l[j]? ≠ some 46 → F (j + 1) = F j) := Lib.hid fun j h => by rw [hF, lastP, if_neg h]
  have HFE : Hid (F nm.size = lastP l 46 l.length) := Lib.hid (by rw [hF, HLN.out])
  clear hF
  go_wp2_with fail
  go_loop [12, 48] (fun dv iv => ∃ j : Nat, j ≤ nm.size ∧ iv = .int .i64 j ∧ dv = .int .i64 (F j)) (fun _ iv => nm.size - (intOf iv).toNat)
  case atStart => exact ⟨0, by omega, rfl, by rw [HF0.out]⟩
  case round =>
    obtain ⟨j, hj, rfl, rfl⟩ := hrel
    by_cases hlt : j < nm.size
    · have HAJ := Lib.hid (HAT.out j hlt)
      by_cases hc : nm[j] = 46
      · have hcb : ((nm[j].toNat : Int) == 46) = true := by rw [hc]; rfl
        have HFJ : Hid (F (j + 1) = (j : Int)) := Lib.hid (HF1.out j (by rw [HAJ.out, hc]))
        clear hc
        go_wp2_with fail
        go_round
        case rel => exact ⟨j + 1, by omega, by go_num, by rw [HFJ.out]⟩
        case measure => simp [intOf] <;> omega
      · have hcb : ((nm[j].toNat : Int) == 46) = false := by
          have : nm[j].toNat ≠ 46 := fun e => hc (UInt8.toNat_inj.1 e)
          simp; omega
        have HFJ : Hid (F (j + 1) = F j) := Lib.hid (HF2.out j (by rw [HAJ.out]; exact fun e => hc (Option.some.inj e)))
        clear hc
        go_wp2_with fail
        go_round
        case rel => exact ⟨j + 1, by omega, by go_num, by rw [HFJ.out]⟩
        case measure => simp [intOf] <;> omega
    · obtain rfl : j = nm.size := by omega
      have HD := Lib.hid HFE.out
      have hd1 : -1 ≤ F nm.size ∧ F nm.size < nm.size := by
        rw [HFE.out]
        have h1 := lastP_lo l 46 l.length
        have h2 := lastP_lt l 46 l.length
        have h3 := HLN.out
        omega
      generalize F nm.size = d at *
      obtain ⟨hd1, hd2⟩ := hd1
      go_upto_region 12 with (fail)
      go_cut [14, 15] (fun s14 s15 wx => s14 = .bool (wantB d nm.size) ∧ s15 = .int .i64 0 ∧ wx = w5)
      case first =>
        as_aux_lemma =>
          have HW : Hid (wantB d nm.size = (decide (0 ≤ d) && decide (d ≤ 16) && decide (d + 1 < (nm.size : Int)) && decide ((nm.size : Int) ≤ d + 7))) := Lib.hid rfl
          by_cases e1 : 0 ≤ d
          case neg =>
            have HWF : Hid (wantB d nm.size = false) := Lib.hid (by rw [HW.out, decide_eq_false e1]; rfl)
            go_wp2_with fail
            go_meet
            exact ⟨by rw [HWF.out], rfl, rfl⟩
          by_cases e2 : d ≤ 16
          case neg =>
            have HWF : Hid (wantB d nm.size = false) := Lib.hid (by rw [HW.out, decide_eq_false e2, Bool.and_false]; rfl)
            go_wp2_with fail
            go_meet
            exact ⟨by rw [HWF.out], rfl, rfl⟩
          by_cases e3 : d + 1 < (nm.size : Int)
          case neg =>
            have HWF : Hid (wantB d nm.size = false) := Lib.hid (by rw [HW.out, decide_eq_false e3, Bool.and_false]; rfl)
            go_wp2_with fail
            go_meet
            exact ⟨by rw [HWF.out], rfl, rfl⟩
          by_cases e4 : (nm.size : Int) ≤ d + 7
          case neg =>
            have HWF : Hid (wantB d nm.size = false) := Lib.hid (by rw [HW.out, decide_eq_false e4, Bool.and_false])
            go_wp2_with fail
            go_meet
            exact ⟨by rw [HWF.out], rfl, rfl⟩
          have HWF : Hid (wantB d nm.size = true) := Lib.hid (by rw [HW.out, decide_eq_true e1, decide_eq_true e2, decide_eq_true e3, decide_eq_true e4]; rfl)
          go_wp2_with fail
          go_meet
          exact ⟨by rw [HWF.out], rfl, rfl⟩
      obtain ⟨rfl, rfl, rfl⟩ := hcut
      go_upto_if 77 with (fail)
      go_cut [14, 15] (fun s14 s15 wx => ∃ v : Int, s14 = .bool ok ∧ s15 = .int .i64 v ∧ (ok = true → v = kI ∧ tS = nm.extract 0 d.toNat ∧ 0 ≤ d) ∧ wx = wc)
      case first =>
        as_aux_lemma =>
          have HDL : Hid (lastP l 46 l.length = d) := Lib.hid HD.out.symm
          cases hw : wantB d nm.size
          case false =>
            have HOK : Hid (ok = false) := Lib.hid (by
              rw [HO2.out, of_want (l := l) (by rw [HDL.out, ← HLN.out]; exact hw)]; rfl)
            clear hw
            go_wp2_with fail
            go_meet
            exact ⟨0, by rw [HOK.out], rfl, fun e => (by rw [HOK.out] at e; cases e), rfl⟩
          have HWW := Lib.hid hw
          unfold wantB at hw
          simp only [Bool.and_eq_true, decide_eq_true_eq] at hw
          obtain ⟨⟨⟨e1, e2⟩, e3⟩, e4⟩ := hw
          obtain ⟨D, rfl⟩ : ∃ D : Nat, d = (D : Int) := ⟨d.toNat, by omega⟩
          have hof := of_wanted (l := l) (d := D) HDL.out (by rw [← HLN.out]; exact HWW.out)
          obtain ⟨R, hR⟩ : ∃ R, R = l.drop (D + 1) := ⟨_, rfl⟩
          have eT : nm.extract 0 D = ⟨(l.take D).toArray⟩ := by rw [HNL.out]; exact ext_take l D
          have hRL : R.length = nm.size - (D + 1) := by rw [hR, List.length_drop, HLN.out]
          have hD1 : D + 1 < nm.size := by omega
          have hR0 : R.head? = some nm[D + 1] := by
            rw [hR, List.head?_drop]
            exact HAT.out (D + 1) hD1
          have HRA : Hid (∀ j (h : D + 1 + j < nm.size), R[j]? = some nm[D + 1 + j]) := Lib.hid fun j h => by
            rw [hR, List.getElem?_drop]
            exact HAT.out _ h
          rw [← hR, ← eT] at hof
          have HOFF : Hid (ok = (nameB (nm.extract 0 D) && decide (nm[D + 1] ≠ 48) && R.all digB)) := Lib.hid (by
            rw [HO2.out, hof.1, hR0]
            congr 2
            simp)
          have HOFV : Hid (ok = true → vI 0 R = kI ∧ tS = nm.extract 0 D) := Lib.hid fun e => by
            obtain ⟨t, q, g1, g2, g3⟩ := HO3.out e
            obtain ⟨g4, g5⟩ := hof.2 t q g1
            exact ⟨by rw [g3, g5], by rw [g2, g4, eT]⟩
          have HRL := Lib.hid hRL
          have hxs : (nm.extract 0 D).size ≤ 60 := by rw [eT]; show (l.take D).toArray.size ≤ 60; have := List.length_take_le D l; simp; omega
          have HNM := Lib.hid fun W => refName_any (nm.extract 0 D) W hxs
          clear hof hR eT hRL hR0 hxs
          obtain ⟨cb, hcb⟩ : ∃ cb, cb = nm[D + 1] := ⟨_, rfl⟩
          have f1 : (D : Int) + 1 < (nm.size : Int) := by omega
          have f2 : (D : Int) ≤ (nm.size : Int) := by omega
          go_upto_region 14 with (fail)
          go_cut [14] (fun s14 wx => s14 = .bool (nameB (nm.extract 0 D) && decide (nm[D + 1] ≠ 48)) ∧ wx = wc)
          case first =>
            have hn := HNM.out wc
            cases hnb : nameB (nm.extract 0 D)
            · rw [hnb] at hn
              have HNB := Lib.hid hnb
              clear hnb
              go_wp2_with fail
              refine hn.mono ?_
              rintro en w' ⟨rfl, rfl⟩
              go_wp2_with fail
              go_meet
              exact ⟨by rw [HNB.out]; rfl, rfl⟩
            · rw [hnb] at hn
              have HNB := Lib.hid hnb
              clear hnb
              by_cases hc : nm[D + 1] = 48
              · have hcc : ((nm[D + 1].toNat : Int) == 48) = true := by rw [hc]; rfl
                have HC : Hid (nm[D + 1] = 48) := Lib.hid hc
                clear hc
                go_wp2_with fail
                refine hn.mono ?_
                rintro en w' ⟨rfl, rfl⟩
                go_wp2_with fail
                go_meet
                exact ⟨by rw [HNB.out, HC.out]; rfl, rfl⟩
              · have hcc : ((nm[D + 1].toNat : Int) == 48) = false := by
                  have : nm[D + 1].toNat ≠ 48 := fun e => hc (UInt8.toNat_inj.1 e)
                  simp; omega
                have HC : Hid (nm[D + 1] ≠ 48) := Lib.hid hc
                clear hc
                go_wp2_with fail
                refine hn.mono ?_
                rintro en w' ⟨rfl, rfl⟩
                go_wp2_with fail
                go_meet
                exact ⟨bool_eq (by rw [HNB.out, decide_eq_true HC.out]; show (!(_ == _)) = _; rw [hcc]; rfl), rfl⟩
          obtain ⟨rfl, rfl⟩ := hcut
          obtain ⟨W1, hW1⟩ : ∃ W1, W1 = (nameB (nm.extract 0 D) && decide (nm[D + 1] ≠ 48)) := ⟨_, rfl⟩
          rw [← hW1] at HOFF ⊢
          clear hW1 HNM cb hcb
          go_wp2_with fail
          go_loop [14, 15, 16] (fun s14 s15 s16 => ∃ j u : Nat, u = D + 1 + j ∧ u ≤ nm.size ∧ s14 = .bool (W1 && (R.take j).all digB) ∧ s15 = .int .i64 (vI 0 (R.take j)) ∧ s16 = .int .i64 u) (fun _ _ s16 => nm.size - (intOf s16).toNat)
          case atStart => exact ⟨0, D + 1, by omega, by omega, by simp, by rw [List.take_zero, vI_nil], by go_num⟩
          case round =>
            obtain ⟨j, u, hu, hun, rfl, rfl, rfl⟩ := hrel
            by_cases hlt : u < nm.size
            · have hRj : R[j]? = some nm[u] := by subst hu; exact HRA.out j hlt
              have hTK : R.take (j + 1) = R.take j ++ [nm[u]] := by rw [List.take_add_one, hRj]; rfl
              have hlen : (R.take j).length ≤ 7 := by have h1 := List.length_take_le j R; have h2 := HRL.out; omega
              have hvb := vI_small hlen
              have HVN : Hid (vI 0 (R.take (j + 1)) = vI 0 (R.take j) * 10 + (nm[u].toNat : Int) - 48) := Lib.hid (by rw [hTK, vI_snoc])
              have HWN : Hid ((W1 && (R.take (j + 1)).all digB) = ((W1 && (R.take j).all digB) && (decide (48 ≤ nm[u].toNat) && decide (nm[u].toNat ≤ 57)))) := Lib.hid (by rw [hTK, List.all_append, List.all_cons, List.all_nil, Bool.and_true, Bool.and_assoc]; rfl)
              have HU := Lib.hid hu
              have HUN := Lib.hid hlt
              have hcl := nm[u].toNat_lt
              clear hRj hTK hlen hu
              generalize hv : vI 0 (R.take j) = v at *
              generalize hwq : (W1 && (R.take j).all digB) = wq at *
              clear hv hwq
              have hc256 : nm[u].toNat < 256 := by omega
              clear hcl
              cases wq
              · go_wp2_with fail
                go_round
                case rel => exact ⟨j + 1, u + 1, by have := HU.out; omega, by omega, by rw [HWN.out]; rfl, by rw [HVN.out], by go_num⟩
                case measure => simp [intOf] <;> omega
              · have HWQ : Hid ((W1 && (R.take (j + 1)).all digB) = (decide ((48 : Int) ≤ (nm[u].toNat : Int)) && decide ((nm[u].toNat : Int) ≤ 57))) := Lib.hid (by
                  rw [HWN.out, Bool.true_and]
                  congr 1 <;> (rw [decide_eq_decide]; omega))
                by_cases g1 : (48 : Int) ≤ (nm[u].toNat : Int)
                case neg =>
                  have HG1 := Lib.hid g1
                  go_wp2_with fail
                  go_round
                  case rel => exact ⟨j + 1, u + 1, by have := HU.out; omega, by omega, by rw [HWQ.out, decide_eq_false HG1.out]; rfl, by rw [HVN.out], by go_num⟩
                  case measure => simp [intOf] <;> omega
                by_cases g2 : (nm[u].toNat : Int) ≤ 57
                all_goals
                  have HG1 := Lib.hid g1
                  have HG2 := Lib.hid g2
                  go_wp2_with fail
                  go_round
                  case rel => exact ⟨j + 1, u + 1, by have := HU.out; omega, by omega, by rw [HWQ.out]; (try simp [HG1.out, HG2.out]); try (have h1 := HG1.out; have h2 := HG2.out; omega), by rw [HVN.out], by go_num⟩
                  case measure => simp [intOf] <;> omega
            · obtain rfl : u = nm.size := by omega
              have hTK : R.take j = R := List.take_of_length_le (by have := HRL.out; omega)
              rw [hTK, ← HOFF.out]
              have HQ := Lib.hid hTK
              clear hu hTK hun
              generalize hv : vI 0 R = v at *
              go_wp2_with fail
              go_meet
              exact ⟨v, rfl, rfl, fun e => ⟨(HOFV.out e).1, by simpa using (HOFV.out e).2, by omega⟩, rfl⟩
      obtain ⟨v, rfl, rfl, hvk, hww⟩ := hcut
      subst hww
      go_upto_region 20 with (fail)
      go_cut [147] (fun s147 wx => s147 = .bool false ∧ wx = wc)
      case first =>
        as_aux_lemma =>
          cases ok
          case true =>
            obtain ⟨hv1, hts, hd0⟩ := hvk rfl
            obtain ⟨D, rfl⟩ : ∃ D : Nat, d = (D : Int) := ⟨d.toNat, by omega⟩
            rw [show ((D : Int)).toNat = D by omega] at hts
            subst hv1 hts
            have f2 : (D : Int) ≤ (nm.size : Int) := by omega
            clear HOF
            go_wp2_with fail
            go_meet
            exact ⟨rfl, rfl⟩
          case false =>
            obtain ⟨h1, h2⟩ := HO4.out rfl
            subst h1 h2
            clear HOF
            go_wp2_with fail
            go_meet
            exact ⟨rfl, rfl⟩
      obtain ⟨rfl, hww⟩ := hcut
      subst hww
      as_aux_lemma =>
        have HCK : Hid (∀ W, Below w.heap.size w W → Calls Tryz.prog 9 #[.agg #[.string s.name, .string s.ten, .int .i64 s.pri, .int .i64 s.delay, .slice a n cap, .int .i64 s.base, .int .i64 s.cap, .int .i64 s.att, .int .i64 s.lease, .string s.cron, .int .i64 s.catch_]] W (RetB (.int .i64 (checkF s)) W)) := Lib.hid fun W hb => refCheck_any W s a n cap ⟨H.out.wf, H.out.row.below hb H.out.row.row_lt⟩ HF.out
        obtain ⟨k0, k1⟩ := HK.out
        have HBAD : Hid (¬ (tmplB s = true ∧ 1 ≤ k ∧ k ≤ 999999) → X = ⟨⟨#[]⟩, ⟨#[]⟩, 0, 0, [], 0, 0, 0, 0, ⟨#[]⟩, 0⟩ ∧ er = 1) := Lib.hid fun hb => by
          have := HX.out
          rw [instF_no hb] at this
          injection this with h1 h2
          exact ⟨h1.symm, h2.symm⟩
        have HTM : Hid (tmplB s = true → checkF s = 0 ∧ s.cron.size ≠ 0) := Lib.hid fun h => by
          unfold tmplB at h
          simp only [Bool.and_eq_true, decide_eq_true_eq] at h
          exact ⟨h.2, h.1⟩
        have HTY : Hid (checkF s = 0 → s.cron.size ≠ 0 → tmplB s = true) := Lib.hid fun h1 h2 => by
          unfold tmplB
          rw [decide_eq_true h1, decide_eq_true h2]; rfl
        clear hvk HO2 HO3 HO4 HAT HNL HLN HF0 HF1 HF2 HFE HD hlt hj hd1 hd2
        have hch := HCK.out wc HB5.out
        by_cases ck : checkF s = 0
        case neg =>
          obtain ⟨rfl, rfl⟩ := HBAD.out fun hh => ck (HTM.out hh.1).1
          generalize checkF s = r at *
          have ckb : (r == 0) = false := by simp [ck]
          clear HCK
          go_wp2_with (first | (refine wpList_load_all _ rfl _ _ rfl _ rfl _ _ _ _ HS5.out rfl _ Tryz.underlying24 rfl info_spec ?_) | fail)
          refine hch.mono ?_
          rintro en w6 ⟨rfl, hb6⟩
          have HX6 := Lib.hid (bheap hb6 HX5.out (heap_lt HX5.out))
          have HB6 := Lib.hid (HB5.out.trans (hb6.mono HB5.out.size))
          have x0 : w6.cell? ⟨w3.heap.size, 0, none⟩ = some (.string ⟨#[]⟩) := blk_cell HX6.out 0 rfl
          clear hb6
          go_wp2_with fail
          go_ret
          exact RetB.mk rfl HB6.out
        rw [ck] at hch
        have HCZ := Lib.hid ck
        have hcq := HCK.out
        rw [ck] at hcq
        replace HCK := Lib.hid hcq
        clear ck hcq
        by_cases hz : s.cron.size = 0
        case pos =>
          obtain ⟨rfl, rfl⟩ := HBAD.out fun hh => (HTM.out hh.1).2 hz
          have e9 := empty_yes hz
          have e9' : s.cron.toList.isEmpty = true := by rw [e9]; rfl
          clear hz
          go_wp2_with (first | (refine wpList_load_all _ rfl _ _ rfl _ rfl _ _ _ _ HS5.out rfl _ Tryz.underlying24 rfl info_spec ?_) | fail)
          refine hch.mono ?_
          rintro en w6 ⟨rfl, hb6⟩
          have HS6 := Lib.hid (bheap hb6 HS5.out (heap_lt HS5.out))
          have HX6 := Lib.hid (bheap hb6 HX5.out (heap_lt HX5.out))
          have HB6 := Lib.hid (HB5.out.trans (hb6.mono HB5.out.size))
          have c9 : w6.cell? ⟨w.heap.size, 9, none⟩ = some (.string s.cron) := blk_cell HS6.out 9 rfl
          have x0 : w6.cell? ⟨w3.heap.size, 0, none⟩ = some (.string ⟨#[]⟩) := blk_cell HX6.out 0 rfl
          clear hb6
          go_wp2_with fail
          go_ret
          exact RetB.mk rfl HB6.out
        have e9 := empty_no hz
        have e9' : s.cron.toList.isEmpty = false := by simpa using e9
        by_cases kr : 1 ≤ k ∧ k ≤ 999999
        case neg =>
          obtain ⟨rfl, rfl⟩ := HBAD.out fun hh => kr hh.2
          have HKR := Lib.hid kr
          clear kr hz
          go_wp2_with (first | (refine wpList_load_all _ rfl _ _ rfl _ rfl _ _ _ _ HS5.out rfl _ Tryz.underlying24 rfl info_spec ?_) | fail)
          refine hch.mono ?_
          rintro en w6 ⟨rfl, hb6⟩
          have HS6 := Lib.hid (bheap hb6 HS5.out (heap_lt HS5.out))
          have HX6 := Lib.hid (bheap hb6 HX5.out (heap_lt HX5.out))
          have HB6 := Lib.hid (HB5.out.trans (hb6.mono HB5.out.size))
          have c9 : w6.cell? ⟨w.heap.size, 9, none⟩ = some (.string s.cron) := blk_cell HS6.out 9 rfl
          have x0 : w6.cell? ⟨w3.heap.size, 0, none⟩ = some (.string ⟨#[]⟩) := blk_cell HX6.out 0 rfl
          clear hb6
          by_cases kl : k < 1
          case' neg => have kg : 999999 < k := by have := HKR.out; omega
          all_goals
            go_wp2_with fail
            go_ret
            exact RetB.mk rfl HB6.out
        have HTT : Hid (tmplB s = true) := Lib.hid (HTY.out HCZ.out hz)
        obtain ⟨kr1, kr2⟩ := kr
        clear HBAD HTM HTY hz
        go_wp2_with (first | (refine wpList_load_all _ rfl _ _ rfl _ rfl _ _ _ _ HS5.out rfl _ Tryz.underlying24 rfl info_spec ?_) | fail)
        refine hch.mono ?_
        rintro en w6 ⟨rfl, hb6⟩
        have HS6 := Lib.hid (bheap hb6 HS5.out (heap_lt HS5.out))
        have HX6 := Lib.hid (bheap hb6 HX5.out (heap_lt HX5.out))
        have HB6 := Lib.hid (HB5.out.trans (hb6.mono HB5.out.size))
        have c9 : w6.cell? ⟨w.heap.size, 9, none⟩ = some (.string s.cron) := blk_cell HS6.out 9 rfl
        clear hb6 hch HS5 HX5 HB5
        have hx := HX.out
        rw [instF_yes ⟨HTT.out, kr1, kr2⟩] at hx
        injection hx with hx1 hx2
        have HCX : Hid (checkF X = 0) := Lib.hid (by
          have := check_inst HTT.out kr1 kr2
          rw [HX.out] at this
          exact this)
        have htis := tmpl_is HTT.out
        have hfew := HF.out
        unfold fewB at hfew
        simp only [Bool.and_eq_true, decide_eq_true_eq] at hfew
        obtain ⟨⟨⟨⟨_, z1⟩, z2⟩, _⟩, z3⟩ := hfew
        have hgp := good_parts (itoa_good kr1 kr2)
        have hil : (instN s k).length ≤ 60 := by
          unfold instN
          rw [List.length_append, List.length_cons, bs_len]
          have h1 := htis.2.2.2.2.2.2.2.2
          have h2 := hgp.2.2.1
          omega
        have hnb : nameB s.name = true := by
          have := htis.1
          unfold spNamesB at this
          simp only [Bool.and_eq_true] at this
          exact this.1.1
        have hoi := of_inst kr1 kr2 htis.2.2.2.2.2.2.2.2 hnb
        have HOI : Hid (∀ W, Tabs W → Calls Tryz.prog 14 #[.string ⟨(instN s k).toArray⟩] W (RetB (.tuple #[.string s.name, .int .i64 k, .bool true]) W)) := Lib.hid fun W hW => by
          have := of_any W hW (instN s k) hil
          rw [hoi] at this
          unfold ofV at this
          simp only [bs_back] at this
          rw [show ((k.toNat : Nat) : Int) = k by omega] at this
          exact this
        have hn0 : n = 0 := by
          rw [H.out.len.1, htis.2.2.2.2.2.2.1]; rfl
        have HWF := Lib.hid H.out.wf
        have HKX : Hid (∀ W, Calls Tryz.prog 9 #[.agg #[.string ⟨(instN s k).toArray⟩, .string s.ten, .int .i64 s.pri, .int .i64 s.delay, .slice none 0 0, .int .i64 s.base, .int .i64 s.cap, .int .i64 s.att, .int .i64 s.lease, .string ⟨#[]⟩, .int .i64 0]] W (RetB (.int .i64 0) W)) := Lib.hid fun W => by
          have hxn : (⟨(instN s k).toArray⟩ : ByteArray).size ≤ 60 := by show (instN s k).toArray.size ≤ 60; simp; exact hil
          have hsp : SpAt W X none 0 0 := by
            rw [← hx1]
            refine ⟨⟨by unfold maxLen; simp only; omega, HWF.out.ten, (by unfold maxLen; show (0 : Nat) ≤ _; omega), fun d hd => (by cases hd), HWF.out.pri, HWF.out.delay, HWF.out.base, HWF.out.cap, HWF.out.att, HWF.out.lease, (by unfold i64B; simp only; omega)⟩, Sl.nil _ _⟩
          have hfx : fewB X = true := by
            rw [← hx1]
            unfold fewB
            simp only [List.all_nil, Bool.true_and, List.length_nil]
            rw [decide_eq_true hxn, decide_eq_true z2]; rfl
          have := refCheck_any W X none 0 0 hsp hfx
          rw [HCX.out, ← hx1] at this
          exact this
        obtain ⟨SB, hSB⟩ : ∃ SB : ByteArray, SB = ⟨(specB s).toArray⟩ := ⟨_, rfl⟩
        have HBY : Hid (∀ W, Calls Tryz.prog 16 #[.agg #[.string s.name, .string s.ten, .int .i64 s.pri, .int .i64 s.delay, .slice none 0 0, .int .i64 s.base, .int .i64 s.cap, .int .i64 s.att, .int .i64 s.lease, .string s.cron, .int .i64 s.catch_]] W (RetB (.string SB) W)) := Lib.hid fun W => by
          rw [hSB]; exact refbytes_any W s none 0 HWF.out z1 z2 z3
        have HBS : Hid (∀ W, Calls Tryz.prog 16 #[.agg #[.string s.name, .string s.ten, .int .i64 s.pri, .int .i64 s.delay, .slice a 0 cap, .int .i64 s.base, .int .i64 s.cap, .int .i64 s.att, .int .i64 s.lease, .string s.cron, .int .i64 s.catch_]] W (RetB (.string SB) W)) := Lib.hid fun W => by
          rw [hSB]; exact refbytes_any W s a cap HWF.out z1 z2 z3
        subst hn0 hx2
        have HXV : Hid (w6.heap[w3.heap.size]? = some (.cells #[.string ⟨(instN s k).toArray⟩, .string s.ten, .int .i64 s.pri, .int .i64 s.delay, .slice none 0 0, .int .i64 s.base, .int .i64 s.cap, .int .i64 s.att, .int .i64 s.lease, .string ⟨#[]⟩, .int .i64 0] 24)) := Lib.hid (by have := HX6.out; rw [← hx1] at this; exact this)
        clear hx1 htis z1 z2 z3 hgp hil hnb hoi hSB HX HCX HX6 HF H HTT HCK HCZ HWF
        generalize (⟨(instN s k).toArray⟩ : ByteArray) = XN at *
        have x0 : w6.cell? ⟨w3.heap.size, 0, none⟩ = some (.string XN) := blk_cell HXV.out 0 rfl
        go_wp2_with fail
        refine (HOI.out _ (HT.out.below HB6.out)).mono ?_
        rintro en w7 ⟨rfl, hb7⟩
        have HS7 := Lib.hid (bheap hb7 HS6.out (heap_lt HS6.out))
        have HX7 := Lib.hid (bheap hb7 HXV.out (heap_lt HXV.out))
        have HB7 := Lib.hid (HB6.out.trans (hb7.mono HB6.out.size))
        clear hb7 x0 c9 e9 e9' HS6 HXV HB6 HOI
        go_upto_region 26 with (first | (refine wpList_load_all _ rfl _ _ rfl _ rfl _ _ _ _ HX7.out rfl _ Tryz.underlying24 rfl info_spec ?_) | (refine wpList_store_fresh _ rfl _ _ _ rfl _ rfl _ rfl _ _ _ rfl ?_ ?_ rfl info_spec ?_ ?_; (focus (simp; done)); (focus (simp; done)); (focus (simp [OneCells, Value.oneCell']; done))) | fail)
        obtain ⟨w8, hw8⟩ : ∃ w8, w8 = w7.alloc (.cells #[.string XN, .string s.ten, .int .i64 s.pri, .int .i64 s.delay, .slice none 0 0, .int .i64 s.base, .int .i64 s.cap, .int .i64 s.att, .int .i64 s.lease, .string ⟨#[]⟩, .int .i64 0] 24) := ⟨_, rfl⟩
        rw [← hw8]
        have HS8 : Hid (w8.heap[w.heap.size]? = some (.cells #[.string s.name, .string s.ten, .int .i64 s.pri, .int .i64 s.delay, .slice a 0 cap, .int .i64 s.base, .int .i64 s.cap, .int .i64 s.att, .int .i64 s.lease, .string s.cron, .int .i64 s.catch_] 24)) := Lib.hid (by rw [hw8]; exact aheap HS7.out _)
        have HX8 : Hid (w8.heap[w3.heap.size]? = some (.cells #[.string XN, .string s.ten, .int .i64 s.pri, .int .i64 s.delay, .slice none 0 0, .int .i64 s.base, .int .i64 s.cap, .int .i64 s.att, .int .i64 s.lease, .string ⟨#[]⟩, .int .i64 0] 24)) := Lib.hid (by rw [hw8]; exact aheap HX7.out _)
        have HY8 : Hid (w8.heap[w7.heap.size]? = some (.cells #[.string XN, .string s.ten, .int .i64 s.pri, .int .i64 s.delay, .slice none 0 0, .int .i64 s.base, .int .i64 s.cap, .int .i64 s.att, .int .i64 s.lease, .string ⟨#[]⟩, .int .i64 0] 24)) := Lib.hid (by rw [hw8]; exact heap_new _ _)
        have HB8 : Hid (Below w.heap.size w w8) := Lib.hid (by rw [hw8]; exact HB7.out.alloc HB7.out.size _)
        have hne1 : w.heap.size ≠ w7.heap.size := by have := heap_lt HS7.out; omega
        have hne2 : w3.heap.size ≠ w7.heap.size := by have := heap_lt HX7.out; omega
        have HYG : Hid (w.heap.size ≤ w7.heap.size) := Lib.hid HB7.out.size
        have HNE := Lib.hid (And.intro hne1 hne2)
        clear hw8 HS7 HX7 HB7 hne1 hne2
        have HSF : Hid (∀ W : World, W.heap[w.heap.size]? = some (.cells #[.string s.name, .string s.ten, .int .i64 s.pri, .int .i64 s.delay, .slice a 0 cap, .int .i64 s.base, .int .i64 s.cap, .int .i64 s.att, .int .i64 s.lease, .string s.cron, .int .i64 s.catch_] 24) → W.cell? ⟨w.heap.size, 0, none⟩ = some (.string s.name) ∧ W.cell? ⟨w.heap.size, 9, none⟩ = some (.string s.cron) ∧ W.cell? ⟨w.heap.size, 10, none⟩ = some (.int .i64 s.catch_)) := Lib.hid fun W h => ⟨blk_cell h 0 rfl, blk_cell h 9 rfl, blk_cell h 10 rfl⟩
        obtain ⟨g0, g9, g10⟩ := HSF.out w8 HS8.out
        have a0 : w8.cell? ⟨w7.heap.size, 0, none⟩ = some (.string XN) := blk_cell HY8.out 0 rfl
        have b0 : w8.frozen? ⟨w7.heap.size, 0, none⟩ = false := blk_free HY8.out 0
        have h5 := blk_set HY8.out 0 (.string s.name)
        have a9 : (w8.setCell ⟨w7.heap.size, 0, none⟩ (.string s.name)).cell? ⟨w7.heap.size, 9, none⟩ = some (.string ⟨#[]⟩) := blk_cell h5 9 rfl
        have b9 : (w8.setCell ⟨w7.heap.size, 0, none⟩ (.string s.name)).frozen? ⟨w7.heap.size, 9, none⟩ = false := blk_free h5 9
        have h6 := blk_set h5 9 (.string s.cron)
        have a10 : ((w8.setCell ⟨w7.heap.size, 0, none⟩ (.string s.name)).setCell ⟨w7.heap.size, 9, none⟩ (.string s.cron)).cell? ⟨w7.heap.size, 10, none⟩ = some (.int .i64 0) := blk_cell h6 10 rfl
        have b10 : ((w8.setCell ⟨w7.heap.size, 0, none⟩ (.string s.name)).setCell ⟨w7.heap.size, 9, none⟩ (.string s.cron)).frozen? ⟨w7.heap.size, 10, none⟩ = false := blk_free h6 10
        have H7 := Lib.hid (blk_set h6 10 (.int .i64 s.catch_))
        clear h5 h6
        go_region_held3 (fun w' => w'.cell? ⟨w.heap.size, 0, none⟩ = some (.string s.name) ∧ w'.cell? ⟨w.heap.size, 9, none⟩ = some (.string s.cron) ∧ w'.cell? ⟨w.heap.size, 10, none⟩ = some (.int .i64 s.catch_))
          (first | exact ⟨g0, g9, g10⟩ | exact HSF.out _ (by repeat (first | exact HS8.out | refine blk_set_other ?_ HNE.out.1 _)) | go_keep)
          (fail)
        rename_i hheld
        clear hheld
        go_upto_region 27 with (fail)
        obtain ⟨w10, hw10⟩ : ∃ w10, w10 = (((w8.setCell ⟨w7.heap.size, 0, none⟩ (.string s.name)).setCell ⟨w7.heap.size, 9, none⟩ (.string s.cron)).setCell ⟨w7.heap.size, 10, none⟩ (.int .i64 s.catch_)).drew := ⟨_, rfl⟩
        rw [← hw10]
        have HY10 : Hid (w10.heap[w7.heap.size]? = some (.cells #[.string s.name, .string s.ten, .int .i64 s.pri, .int .i64 s.delay, .slice none 0 0, .int .i64 s.base, .int .i64 s.cap, .int .i64 s.att, .int .i64 s.lease, .string s.cron, .int .i64 s.catch_] 24)) := Lib.hid (by rw [hw10]; exact H7.out)
        have HS10 : Hid (w10.heap[w.heap.size]? = some (.cells #[.string s.name, .string s.ten, .int .i64 s.pri, .int .i64 s.delay, .slice a 0 cap, .int .i64 s.base, .int .i64 s.cap, .int .i64 s.att, .int .i64 s.lease, .string s.cron, .int .i64 s.catch_] 24)) := Lib.hid (by rw [hw10]; exact blk_set_other (blk_set_other (blk_set_other HS8.out HNE.out.1 _) HNE.out.1 _) HNE.out.1 _)
        have HX10 : Hid (w10.heap[w3.heap.size]? = some (.cells #[.string XN, .string s.ten, .int .i64 s.pri, .int .i64 s.delay, .slice none 0 0, .int .i64 s.base, .int .i64 s.cap, .int .i64 s.att, .int .i64 s.lease, .string ⟨#[]⟩, .int .i64 0] 24)) := Lib.hid (by rw [hw10]; exact blk_set_other (blk_set_other (blk_set_other HX8.out HNE.out.2 _) HNE.out.2 _) HNE.out.2 _)
        have KB10 : Hid (Keeps (fun j => w.heap.size ≤ j) w w10) := Lib.hid (by rw [hw10]; exact ((((Keeps.of_below HB8.out).setCell (.inl HYG.out) _).setCell (.inl HYG.out) _).setCell (.inl HYG.out) _).drew)
        clear hw10 a0 b0 a9 b9 a10 b10 H7 HS8 HX8 HY8 HB8 g0 g9 g10 HSF
        have HB10 : Hid (Below w.heap.size w w10) := Lib.hid (KB10.out.below (Nat.le_refl _) fun j hj => hj)
        clear KB10
        have gs0 : ∀ d os, (grow (redrawn w10 d) os).cell? ⟨w.heap.size, 0, none⟩ = some (.string s.name) := cell_regrown (blk_cell HS10.out 0 rfl)
        have gs1 : ∀ d os, (grow (redrawn w10 d) os).cell? ⟨w.heap.size, 1, none⟩ = some (.string s.ten) := cell_regrown (blk_cell HS10.out 1 rfl)
        have gs2 : ∀ d os, (grow (redrawn w10 d) os).cell? ⟨w.heap.size, 2, none⟩ = some (.int .i64 s.pri) := cell_regrown (blk_cell HS10.out 2 rfl)
        have gs3 : ∀ d os, (grow (redrawn w10 d) os).cell? ⟨w.heap.size, 3, none⟩ = some (.int .i64 s.delay) := cell_regrown (blk_cell HS10.out 3 rfl)
        have gs4 : ∀ d os, (grow (redrawn w10 d) os).cell? ⟨w.heap.size, 4, none⟩ = some (.slice a 0 cap) := cell_regrown (blk_cell HS10.out 4 rfl)
        have gs5 : ∀ d os, (grow (redrawn w10 d) os).cell? ⟨w.heap.size, 5, none⟩ = some (.int .i64 s.base) := cell_regrown (blk_cell HS10.out 5 rfl)
        have gs6 : ∀ d os, (grow (redrawn w10 d) os).cell? ⟨w.heap.size, 6, none⟩ = some (.int .i64 s.cap) := cell_regrown (blk_cell HS10.out 6 rfl)
        have gs7 : ∀ d os, (grow (redrawn w10 d) os).cell? ⟨w.heap.size, 7, none⟩ = some (.int .i64 s.att) := cell_regrown (blk_cell HS10.out 7 rfl)
        have gs8 : ∀ d os, (grow (redrawn w10 d) os).cell? ⟨w.heap.size, 8, none⟩ = some (.int .i64 s.lease) := cell_regrown (blk_cell HS10.out 8 rfl)
        have gs9 : ∀ d os, (grow (redrawn w10 d) os).cell? ⟨w.heap.size, 9, none⟩ = some (.string s.cron) := cell_regrown (blk_cell HS10.out 9 rfl)
        have gs10 : ∀ d os, (grow (redrawn w10 d) os).cell? ⟨w.heap.size, 10, none⟩ = some (.int .i64 s.catch_) := cell_regrown (blk_cell HS10.out 10 rfl)
        have gx0 : ∀ d os, (grow (redrawn w10 d) os).cell? ⟨w3.heap.size, 0, none⟩ = some (.string XN) := cell_regrown (blk_cell HX10.out 0 rfl)
        have gx1 : ∀ d os, (grow (redrawn w10 d) os).cell? ⟨w3.heap.size, 1, none⟩ = some (.string s.ten) := cell_regrown (blk_cell HX10.out 1 rfl)
        have gx2 : ∀ d os, (grow (redrawn w10 d) os).cell? ⟨w3.heap.size, 2, none⟩ = some (.int .i64 s.pri) := cell_regrown (blk_cell HX10.out 2 rfl)
        have gx3 : ∀ d os, (grow (redrawn w10 d) os).cell? ⟨w3.heap.size, 3, none⟩ = some (.int .i64 s.delay) := cell_regrown (blk_cell HX10.out 3 rfl)
        have gx4 : ∀ d os, (grow (redrawn w10 d) os).cell? ⟨w3.heap.size, 4, none⟩ = some (.slice none 0 0) := cell_regrown (blk_cell HX10.out 4 rfl)
        have gx5 : ∀ d os, (grow (redrawn w10 d) os).cell? ⟨w3.heap.size, 5, none⟩ = some (.int .i64 s.base) := cell_regrown (blk_cell HX10.out 5 rfl)
        have gx6 : ∀ d os, (grow (redrawn w10 d) os).cell? ⟨w3.heap.size, 6, none⟩ = some (.int .i64 s.cap) := cell_regrown (blk_cell HX10.out 6 rfl)
        have gx7 : ∀ d os, (grow (redrawn w10 d) os).cell? ⟨w3.heap.size, 7, none⟩ = some (.int .i64 s.att) := cell_regrown (blk_cell HX10.out 7 rfl)
        have gx8 : ∀ d os, (grow (redrawn w10 d) os).cell? ⟨w3.heap.size, 8, none⟩ = some (.int .i64 s.lease) := cell_regrown (blk_cell HX10.out 8 rfl)
        have gx9 : ∀ d os, (grow (redrawn w10 d) os).cell? ⟨w3.heap.size, 9, none⟩ = some (.string ⟨#[]⟩) := cell_regrown (blk_cell HX10.out 9 rfl)
        have gx10 : ∀ d os, (grow (redrawn w10 d) os).cell? ⟨w3.heap.size, 10, none⟩ = some (.int .i64 0) := cell_regrown (blk_cell HX10.out 10 rfl)
        have gy0 : ∀ d os, (grow (redrawn w10 d) os).cell? ⟨w7.heap.size, 0, none⟩ = some (.string s.name) := cell_regrown (blk_cell HY10.out 0 rfl)
        have gy1 : ∀ d os, (grow (redrawn w10 d) os).cell? ⟨w7.heap.size, 1, none⟩ = some (.string s.ten) := cell_regrown (blk_cell HY10.out 1 rfl)
        have gy2 : ∀ d os, (grow (redrawn w10 d) os).cell? ⟨w7.heap.size, 2, none⟩ = some (.int .i64 s.pri) := cell_regrown (blk_cell HY10.out 2 rfl)
        have gy3 : ∀ d os, (grow (redrawn w10 d) os).cell? ⟨w7.heap.size, 3, none⟩ = some (.int .i64 s.delay) := cell_regrown (blk_cell HY10.out 3 rfl)
        have gy4 : ∀ d os, (grow (redrawn w10 d) os).cell? ⟨w7.heap.size, 4, none⟩ = some (.slice none 0 0) := cell_regrown (blk_cell HY10.out 4 rfl)
        have gy5 : ∀ d os, (grow (redrawn w10 d) os).cell? ⟨w7.heap.size, 5, none⟩ = some (.int .i64 s.base) := cell_regrown (blk_cell HY10.out 5 rfl)
        have gy6 : ∀ d os, (grow (redrawn w10 d) os).cell? ⟨w7.heap.size, 6, none⟩ = some (.int .i64 s.cap) := cell_regrown (blk_cell HY10.out 6 rfl)
        have gy7 : ∀ d os, (grow (redrawn w10 d) os).cell? ⟨w7.heap.size, 7, none⟩ = some (.int .i64 s.att) := cell_regrown (blk_cell HY10.out 7 rfl)
        have gy8 : ∀ d os, (grow (redrawn w10 d) os).cell? ⟨w7.heap.size, 8, none⟩ = some (.int .i64 s.lease) := cell_regrown (blk_cell HY10.out 8 rfl)
        have gy9 : ∀ d os, (grow (redrawn w10 d) os).cell? ⟨w7.heap.size, 9, none⟩ = some (.string s.cron) := cell_regrown (blk_cell HY10.out 9 rfl)
        have gy10 : ∀ d os, (grow (redrawn w10 d) os).cell? ⟨w7.heap.size, 10, none⟩ = some (.int .i64 s.catch_) := cell_regrown (blk_cell HY10.out 10 rfl)
        have QK := Lib.hid fun d os => Calls.regrown_of ((HKX.out (grow (redrawn w10 d) os)).mono fun e w' h => ⟨h.1, h.2⟩)
        have QY := Lib.hid fun d os => Calls.regrown_of ((HBY.out (grow (redrawn w10 d) os)).mono fun e w' h => ⟨h.1, h.2⟩)
        have QS := Lib.hid fun d os => Calls.regrown_of ((HBS.out (grow (redrawn w10 d) os)).mono fun e w' h => ⟨h.1, h.2⟩)
        clear HKX HBY HBS
        refine wp_region_quiet_below (by kernel_rfl) (by kernel_rfl) ?_
        repeat (quiet_step (first | (with_reducible exact QK.out _ _) | (with_reducible exact QY.out _ _) | (with_reducible exact QS.out _ _)))
        refine wpQuiet_nil ?_
        intro w11 hw'
        have HB11 : Hid (Below w.heap.size w w11) := Lib.hid (by
          obtain ⟨⟨dq, osq⟩, hw''⟩ := hw'
          subst hw''
          exact HB10.out.trans (Below.mono (below_regrown w10 dq osq) HB10.out.size))
        clear hw'
        go_wp2_with fail
        go_ret
        exact RetB.mk rfl HB11.out

/-- In the form that the card asks. -/
theorem names_card (W : World) (hm : MaxL W) (s : Sp) (b : Option Addr) (n cap : Nat) (k : Int) (nm : ByteArray) (h : SpAt W s b n cap) (hk : (Lit.int .i64 k).wf = true) (hnm : nm.size ≤ maxLen) (ht : Tabs W) :
    Calls Tryz.prog 5 #[s.v (.slice b n cap), .int .i64 k, .string nm] W (RetB (.bool true) W) := by
  simp [Lit.wf, IntKind.min, IntKind.max, IntKind.bits, IntKind.signed] at hk
  unfold maxLen at hnm
  exact names_walk W hm ht s b n cap h k (by omega) (by omega) nm hnm

end Go.Proofs.YtldieadbkaphkaaGreatDoor

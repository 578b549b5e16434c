/- Package sched: Restore, walked. -/
import Derived.Test.YtheipmallojdkaaGreatDoorIrM20
import Derived.Test.YtheipmallojdkaaGreatDoorIrM24
import Derived.Test.YtheipmallojdkaaGreatDoorIrM25
import Derived.Test.YtheipmallojdkaaGreatDoorIrM26

namespace Go.Proofs.YtheipmallojdkaaGreatDoor
open Go.RowKit Go.Maps Go.ChangeMaps
open Go.«Sort» (grow)

theorem MaxL.stepB {w w' : World} {B : Nat} (h : MaxL w) (hb : Below B w w') (hB : w.heap.size ≤ B) : MaxL w' := h.below hb (Nat.lt_of_lt_of_le h.lt hB)

theorem spl_job (j : Jb) (a b : Value) : spl (j.cells a) 0 (j.sp.cells b).toList = j.cells b := by kernel_rfl

theorem keysS_any (w : World) (m : Nat) : Calls Tryz.prog 44 #[.map (some m)] w (fun e w' => e = .returned (.func (.func 66) #[] #[.pointer (some ⟨w.heap.size, 0, none⟩)]) ∧ w' = w.alloc (.cells #[.map (some m)] 66)) := by
  go_enter Tryz.func44, Tryz.ntmps44
  go_wp2
  go_ret
  exact ⟨rfl, rfl⟩

/-- The names of a map, rising. -/
theorem sorted_keys (w0 w : World) (m : Nat) (l : List (ByteArray × Nat)) (hw : w = w0.alloc (.cells #[.map (some m)] 66)) (hM : SMap ptrV w m l) (hl : l.length ≤ 100000) :
    Calls Tryz.prog 43 #[.func (.func 66) #[] #[.pointer (some ⟨w0.heap.size, 0, none⟩)]] w (RisePS w (keys l)) := by
  have hx : w.heap[w0.heap.size]? = some (.cells #[.map (some m)] 66 (0, 0)) := by rw [hw]; exact heap_new _ _
  refine sortedS_any w 66 #[.pointer (some ⟨w0.heap.size, 0, none⟩)] (enters_of Tryz.func66 (by kernel_rfl) rfl) (keys l) (by simp [keys]; exact hl) ?_ (KeysRS w0.heap.size m l) (keysS_iter 4 w0.heap.size m l) fun A hA => ⟨bheap hA hx (heap_lt hx), hM.same (hA.block m hM.lt)⟩
  obtain ⟨_, _, _, _, h, _⟩ := hM
  exact h

/-- A scheduler under way, and a row of names beside it. -/
def MidN (w0 : World) (s mj g r u q : Nat) (now each order : Int) (jes : List JE) (ys : List ByteArray) (v : Value) (m : Nat) (w : World) : Prop :=
  Below w0.heap.size w0 w ∧ ∃ F n, SAt w w0.heap.size s mj g r u q F now each order jes n ∧ n ≤ m ∧ Sl keyS w v ys ∧ ∀ k, v.ownBlock = some k → ¬ F k

theorem MidN.go {w0 w w1 : World} {s mj g r u q : Nat} {F : Nat → Prop} {now each order : Int} {jes : List JE} {ys : List ByteArray} {v : Value} {m n n' : Nat} (hb : Below w0.heap.size w0 w) (hS : SAt w w0.heap.size s mj g r u q F now each order jes n) (hv : Sl keyS w v ys) (hn : ∀ k, v.ownBlock = some k → ¬ F k)
    (he : Eng w1 g r u q (gr F w w1) n') (hk : Keeps F w w1) (hm : n' ≤ m) : MidN w0 s mj g r u q now each order jes ys v m w1 := by
  refine ⟨hb.trans (hk.below hb.size hS.ff), _, n', hS.step he hk hb.size, hm, hv.kept hk hn, fun k hk' e => e.elim (hn k hk') fun e => by have := hv.row_lt k hk'; omega⟩

/-- right, as this text leans on it. -/
def RightAll : Prop := ∀ (w : World) (_ : MaxL w) (s mj : Nat) (now each order : Int) (g r u q : Option Addr) (_ : w.heap[s]? = some (.cells #[.int .i64 now, .int .i64 each, .int .u64 order, .map (some mj), .pointer g, .pointer r, .pointer u, .pointer q] 72 (0, 0))) (l : List (ByteArray × Nat)) (_ : SMap ptrV w mj l) (j : Jb) (ad : Option Addr) (n cp : Nat) (_ : SpAt w j.sp ad n cp),
  Calls Tryz.prog 38 #[.pointer (some ⟨s, 0, none⟩), j.v (.slice ad n cp)] w (RightP w l j.sp.name)

set_option maxRecDepth 100000 in
set_option maxHeartbeats 6400000 in
theorem srestore_any (hright : RightAll) (w : World) (hm : MaxL w) (now each order : Int) (v : Value) (xs : List JD) (hown : w.ownsRow 0 42 21 v xs.length (flatJ xs)) (hd : ∀ x ∈ xs, Sl strv w x.2 x.1.sp.deps ∧ x.1.small) (hn : xs.length ≤ 128) :
    Calls Tryz.prog 14 #[.int .i64 now, .int .i64 each, .int .u64 order, v] w (RestP w now each order (xs.map (·.1))) := by
  obtain ⟨n, hnn⟩ : ∃ n, n = xs.length := ⟨_, rfl⟩
  obtain ⟨ad, cp, rfl⟩ : ∃ ad cp, v = .slice ad n cp := by
    rcases hown.2 with ⟨e1, e2⟩ | ⟨g, c, cur, e1, _⟩
    · exact ⟨none, 0, by rw [e1, hnn, e2]⟩
    · exact ⟨_, _, by rw [e1, hnn]⟩
  have hnew := snew_any w now each
  have HRI := Lib.hid hright
  clear hright
  have HM := Lib.hid hm
  have HO := Lib.hid hown
  have HD := Lib.hid hd
  have HNN := Lib.hid hnn
  have hn' : n ≤ 128 := by omega
  clear hm hown hd hnn hn
  go_enter Tryz.func14, Tryz.ntmps14
  go_wp2_with fail
  refine hnew.mono ?_
  clear hnew
  rintro e w1 ⟨hb1, ⟨_, er, her, rfl⟩ | ⟨hyes, s, mj, g, r, u, q, F, rfl, hS⟩⟩
  · have HB1 := Lib.hid hb1
    clear hb1
    have hde : decide (er = 0) = false := by simpa using her
    go_wp2_with fail
    go_ret2
    exact .inl ⟨HB1.out, er, her, rfl⟩
  have HY := Lib.hid hyes
  have c2 := blk_cell hS.box 2 rfl
  have f2 := blk_free hS.box 2
  have ls := heap_lt hS.box
  have HS0 : Hid (Mid w s mj g r u q now each order [] 0 (w1.setCell ⟨s, 2, none⟩ (.int .u64 order))) := Lib.hid ⟨hb1.setCell hS.bs _, F, [], 0, hS.order_ order, rfl, Nat.le_refl _⟩
  clear hb1 hyes hS
  go_wp2_with fail
  clear c2 f2 ls
  go_loopw [35] (fun iv wr => ∃ i : Nat, iv = .int .i64 i ∧ i ≤ n ∧ Hid (Mid w s mj g r u q now each order ((xs.take i).map (·.1)) i wr)) (fun iv _ => n - (intOf iv).toNat)
  case atStart => exact ⟨0, rfl, by omega, HS0⟩
  case round =>
    obtain ⟨i, rfl, hi, HR⟩ := hrel
    clear HS0
    by_cases hlt : i < n
    · obtain ⟨x, hx⟩ : ∃ x, xs[i]? = some x := ⟨xs[i]'(by have := HNN.out; omega), by simp⟩
      have HX := Lib.hid hx
      have hxd := HD.out x (List.mem_of_getElem? hx)
      obtain ⟨hbw, F1, jes, m, hS, hjs, hmi⟩ := HR.out
      have hkw : Keeps (fun _ => False) w wr := Keeps.of_belowS hbw
      have hown' : wr.ownsRow 0 42 21 (.slice ad n cp) xs.length (flatJ xs) := owns_kept HO.out hkw fun k hk e => e
      obtain ⟨g0, cap, C, hv, hg, hC, hcap1, hcap2⟩ := job_at hown' hx
      have hv' : ad = some ⟨g0, 0, none⟩ ∧ cp = cap := by
        injection hv with e1 e2 e3
        exact ⟨e1, e3⟩
      obtain ⟨rfl, rfl⟩ := hv'
      obtain ⟨j, dv⟩ := x
      simp only at hxd hC
      obtain ⟨hs0, hsm⟩ := hxd
      have hdep : Sl strv wr dv j.sp.deps := hs0.kept hkw fun _ _ e => e
      obtain ⟨ad2, cp2, rfl, _⟩ := id hs0
      have HG := Lib.hid hg
      have lg := heap_lt hg
      have hcn : n ≤ cp := by have := HNN.out; omega
      have z1 : (i : Int) < (n : Int) := by omega
      obtain ⟨D, hD⟩ : ∃ D, D = j.cells (.slice ad2 j.sp.deps.length cp2) := ⟨_, rfl⟩
      have hDs : D.size = 21 := by rw [hD]; rfl
      have HDS := Lib.hid hDs
      have HCD : Hid ((C.toList.drop (i * 21)).take D.size = D.toList) := Lib.hid (by rw [hDs, hD]; exact hC)
      have HD1 : Hid (OneCells D.toList) := Lib.hid (by rw [hD]; simp [Jb.cells, OneCells, Value.oneCell'])
      have hba : Below wr.heap.size wr (wr.alloc (.cells D 42)) := (Below.refl _ _).alloc (Nat.le_refl _) _
      have hSA := hS.below hba
      have HSR := Lib.hid hS
      have HT : Hid (Calls Tryz.prog 38 #[.pointer (some ⟨s, 0, none⟩), .agg D] (wr.alloc (.cells D 42)) (RightP (wr.alloc (.cells D 42)) (jes.map fun x => (x.j.sp.name, x.b)) j.sp.name)) := Lib.hid (by
        rw [hD]
        rw [hD] at hSA
        exact HRI.out _ ((HM.out.stepB hbw (Nat.le_refl _)).alloc _) s mj now each order _ _ _ _ hSA.box _ hSA.map j ad2 _ cp2 ⟨hsm.sp.wf, hdep.alloc _⟩)
      have HS := Lib.hid hSA
      have HBW := Lib.hid hbw
      have HBA := Lib.hid hba
      have HEQ := Lib.hid hD
      have HDEP : Hid (Sl strv (wr.alloc (.cells D 42)) (.slice ad2 j.sp.deps.length cp2) j.sp.deps) := Lib.hid (hdep.alloc _)
      have HJS := Lib.hid hjs
      have HMI := Lib.hid hmi
      have HSM := Lib.hid hsm
      clear hown' hv hg hC hs0 hdep hcap1 hSA hba hD hDs hx hkw hbw hS hjs hmi hsm
      go_wp2_with (first | (refine wpList_load_blk _ rfl _ _ rfl _ (i * 21) rfl _ _ _ HG.out D HCD.out _ Tryz.underlying42 rfl (by rw [HDS.out]; exact info_jobG) ?_) | (refine wpList_store_fresh _ rfl _ _ _ rfl _ rfl D rfl wr _ _ rfl rfl (by rw [HDS.out]; decide) (by rw [HDS.out]; rfl) (by rw [HDS.out]; exact info_jobG) HD1.out ?_) | (refine wpList_load_fresh _ rfl _ _ rfl _ rfl wr _ _ rfl _ Tryz.underlying42 rfl rfl (by rw [HDS.out]; exact info_jobG) ?_) | fail)
      refine HT.out.mono ?_
      rintro e w2 ⟨hb2, rb, rfl, hnone⟩
      have HB2 := Lib.hid hb2
      have HNO := Lib.hid hnone
      clear hb2 hnone lg z1
      cases rb
      · go_wp2_with fail
        go_ret2
        exact .inl ⟨(HBW.out.trans (HBA.out.mono HBW.out.size)).trans (HB2.out.mono (by have := HBW.out.size; simp; omega)), 2, by decide, rfl⟩
      have hjb : w2.heap[wr.heap.size]? = some (.cells D 42 (0, 0)) := bheap HB2.out (heap_new wr _) (by simp)
      have HJB := Lib.hid hjb
      obtain ⟨D1, hD1⟩ : ∃ D1, D1 = j.sp.cells (.slice ad2 j.sp.deps.length cp2) := ⟨_, rfl⟩
      have HE1 := Lib.hid hD1
      have HS1 : Hid (D1.size = 11) := Lib.hid (by rw [hD1]; rfl)
      have HC1 : Hid ((D.toList.drop 0).take D1.size = D1.toList) := Lib.hid (by rw [HS1.out, hD1, HEQ.out]; rfl)
      have HCL : Hid (Calls Tryz.prog 39 #[.agg D1] w2 (ClonedP w2 j.sp)) := Lib.hid (by
        rw [hD1]
        exact sclone_any w2 j.sp ad2 _ cp2 (HDEP.out.below HB2.out (HDEP.out.row_lt)) (by have := HSM.out.sp.dlen; omega))
      have lb2 := heap_lt hjb
      clear hjb hD1
      go_wp2_with (first | (refine wpList_load_blk _ rfl _ _ rfl _ 0 rfl _ _ _ HJB.out D1 HC1.out _ Tryz.underlying40 rfl (by rw [HS1.out]; exact info_spec4) ?_) | fail)
      refine HCL.out.mono ?_
      rintro e w3 ⟨v', rfl, hb3, hsl3, hv3⟩
      obtain ⟨ad3, cp3, rfl, _⟩ := id hsl3
      have HB3 := Lib.hid hb3
      have HSL3 := Lib.hid hsl3
      have HV3 := Lib.hid hv3
      have HJB3 : Hid (w3.heap[wr.heap.size]? = some (.cells D 42 (0, 0))) := Lib.hid (bheap hb3 HJB.out lb2)
      obtain ⟨D2, hD2⟩ : ∃ D2, D2 = j.sp.cells (.slice ad3 j.sp.deps.length cp3) := ⟨_, rfl⟩
      unfold Sp.v
      rw [← hD2]
      have HE2 := Lib.hid hD2
      have HS2 : Hid (D2.size = 11) := Lib.hid (by rw [hD2]; rfl)
      have HO2 : Hid (OneCells D2.toList) := Lib.hid (by rw [hD2]; simp [Sp.cells, OneCells, Value.oneCell'])
      have HSP : Hid (spl D 0 D2.toList = j.cells (.slice ad3 j.sp.deps.length cp3)) := Lib.hid (by rw [hD2, HEQ.out]; exact spl_job j _ _)
      have hsz3 := HB3.out.size
      clear hb3 hsl3 hv3 hD2 HJB HC1 HCL HE1 HS1
      go_wp2_with (first | (refine wpList_store_at _ rfl _ _ _ rfl _ 0 rfl D2 rfl D _ _ HJB3.out (by rw [HS2.out]; decide) (by rw [HS2.out, HDS.out]; decide) HSP.out (by rw [HS2.out]; exact info_spec4) HO2.out ?_; intro w4 hc4 hk4 hz4) | fail)
      have hk34 : Keeps (fun _ => False) (wr.alloc (.cells D 42)) w3 := Keeps.of_belowS (HB2.out.trans (HB3.out.mono HB2.out.size))
      have hkr4 : Keeps (fun _ => False) wr w4 := (((Keeps.of_belowS HBA.out).andThen hk34 fun _ h => h.elim).andThen hk4 fun k h => .inl (by omega))
      have hb4 : Below wr.heap.size wr w4 := hkr4.below (Nat.le_refl _) fun k h => h.elim
      have hS4 := HSR.out.below hb4
      have hsl4 : Sl strv w4 (.slice ad3 j.sp.deps.length cp3) j.sp.deps := HSL3.out.kept hk4 fun k hk e => by have := HV3.out k hk; omega
      have HB4 := Lib.hid (HBW.out.trans (hb4.mono HBW.out.size))
      have HS4 := Lib.hid hS4
      have HJ4 := Lib.hid hc4
      have HSL4 := Lib.hid hsl4
      have hN4 : Hid (∀ k, (Value.slice ad3 j.sp.deps.length cp3).ownBlock = some k → wr.heap.size < k) := Lib.hid fun k hk => by have := HV3.out k hk; omega
      have HZ4 : Hid (wr.heap.size < w4.heap.size) := Lib.hid (by omega)
      have HNM : Hid (j.sp.name.size ≤ maxLen) := Lib.hid HSM.out.sp.wf.name
      have HTN : Hid (j.sp.ten.size ≤ maxLen) := Lib.hid HSM.out.sp.wf.ten
      clear hk34 hkr4 hb4 hS4 hsl4 hc4 hk4 hz4 hsz3 HJB3 HSP HO2 HS2 HE2 HV3 HSL3 HB3 HB2 HDEP HBA HS HT HD1 HCD HDS HEQ HG lb2
      refine still_tail 7 (by kernel_rfl) (by kernel_rfl) ?_
      intro W hW
      have hbW : Below w4.heap.size w4 W := by rw [hW]; exact (Below.refl _ _).drew
      have hSW := HS4.out.below hbW
      have hJW := bheap hbW HJ4.out (heap_lt HJ4.out)
      have HSLW := Lib.hid (HSL4.out.below hbW HSL4.out.row_lt)
      have HBW5 := Lib.hid (HB4.out.trans (hbW.mono HB4.out.size))
      have g3 : W.cell? ⟨s, 3, none⟩ = some (.map (some mj)) := blk_cell hSW.box 3 rfl
      have g0 : W.cell? ⟨wr.heap.size, 0, none⟩ = some (.string j.sp.name) := blk_cell hJW 0 rfl
      have ls1 := heap_lt hSW.box
      have ls2 := heap_lt hJW
      have HSW := Lib.hid hSW
      have HJW := Lib.hid hJW
      clear hW hbW hSW hJW HS4 HJ4 HSL4 HB4 HZ4
      simp only [List.take_succ_cons, List.take_zero, List.drop_succ_cons, List.drop_zero]
      repeat still_step
      refine wpStill_nil ?_
      refine wpList_map_update W rfl _ _ _ _ rfl _ skeyed keyS_inj Tryz.underlying66 mj _ rfl HSW.out.map j.sp.name _ rfl (skey HNM.out) wr.heap.size rfl ?_
      intro ob hM
      have hF1 : ∀ k, F1 k → k < wr.heap.size := HSR.out.eng.ltF
      have hsz := HBW.out.size
      have hmjl := HSR.out.map.lt
      have hsl := heap_lt HSR.out.box
      have hpush := HSW.out.push HJW.out HSLW.out (fun k hk => by
        have := hN4.out k hk
        exact ⟨by omega, fun e => by have := hF1 k e; omega, by omega, by omega⟩) hsz (fun e => by have := hF1 _ e; omega) (by omega) (HNO.out trivial) ob hM
      have HP := Lib.hid hpush
      have HB5 : Hid (Below w.heap.size w (setBlock W mj ob)) := Lib.hid (HBW5.out.trans (((Keeps.refl (fun k => k = mj) W).setBlock (.inl rfl) ob).below HBW5.out.size fun k e => by rw [e]; exact HSR.out.bm))
      obtain ⟨W5, hW5⟩ : ∃ W5, W5 = setBlock W mj ob := ⟨_, rfl⟩
      rw [← hW5] at HP HB5 ⊢
      clear hM hpush hF1 hsz hmjl hsl hW5 g3 g0 ls1 ls2 HSW HJW HSLW HBW5 HSR HNO hN4
      go_wp2_with fail
      refine still_tail 7 (by kernel_rfl) (by kernel_rfl) ?_
      intro W6 hW6
      have hb6 : Below W5.heap.size W5 W6 := by rw [hW6]; exact (Below.refl _ _).drew
      have hS6 := HP.out.below hb6
      have HB6 := Lib.hid (HB5.out.trans (hb6.mono HB5.out.size))
      obtain ⟨hj6, hd6, hf6, hB6, hF6, hs6⟩ := hS6.jobs ⟨j, wr.heap.size, .slice ad3 j.sp.deps.length cp3⟩ (by simp)
      have g4 : W6.cell? ⟨s, 4, none⟩ = some (.pointer (some ⟨g, 0, none⟩)) := blk_cell hS6.box 4 rfl
      have g0 : W6.cell? ⟨wr.heap.size, 0, none⟩ = some (.string j.sp.name) := blk_cell hj6 0 rfl
      have ls1 := heap_lt hS6.box
      have ls2 := heap_lt hj6
      have hc := eng_add hS6.eng j.sp.name HNM.out
      have HS6 := Lib.hid hS6
      clear hW6 hb6 hS6 hj6 hd6 hf6 hB6 hF6 hs6 HP HB5
      simp only [List.take_succ_cons, List.take_zero, List.drop_succ_cons, List.drop_zero]
      repeat still_step
      refine wpStill_nil ?_
      go_wp2_with fail
      refine hc.mono ?_
      rintro e w7 ⟨⟨x7, rfl⟩, he7, hk7⟩
      have hS7 := HS6.out.step he7 hk7 HB6.out.size
      have HB7 := Lib.hid (HB6.out.trans (hk7.below HB6.out.size HS6.out.ff))
      have HS7 := Lib.hid hS7
      obtain ⟨hj7, hd7, hf7, hB7, hF7, hs7⟩ := hS7.jobs ⟨j, wr.heap.size, .slice ad3 j.sp.deps.length cp3⟩ (by simp)
      have HJ7 := Lib.hid hj7
      clear hc he7 hk7 hS7 hj7 hd7 hf7 hB7 hF7 hs7 g4 g0 ls1 ls2 HS6 HB6
      go_wp2_with fail
      obtain ⟨fin, hfin⟩ : ∃ fin, (decide (j.state = 4) || decide (j.state = 5) || decide (j.state = 6)) = fin := ⟨_, rfl⟩
      have hq : ∀ d os, Calls Tryz.prog 41 #[.int .i64 j.state] (grow (redrawn w7 d) os) (fun e w'' => e = .returned (.bool fin) ∧ ∃ p : Regrown, w'' = grow (redrawn w7 p.d) p.os) := fun d os => Calls.regrown_of ((final_any _ j.state).mono (by rintro e w' ⟨rfl, rfl⟩; exact ⟨by rw [hfin], Below.refl _ _⟩))
      have e11 : ∀ d os, (grow (redrawn w7 d) os).cell? ⟨wr.heap.size, 11, none⟩ = some (.int .i64 j.state) := cell_regrown (blk_cell HJ7.out 11 rfl)
      have e1 : ∀ d os, (grow (redrawn w7 d) os).cell? ⟨wr.heap.size, 1, none⟩ = some (.string j.sp.ten) := cell_regrown (blk_cell HJ7.out 1 rfl)
      have e7 : ∀ d os, (grow (redrawn w7 d) os).cell? ⟨s, 7, none⟩ = some (.pointer (some ⟨q, 0, none⟩)) := cell_regrown (blk_cell HS7.out.box 7 rfl)
      have l1 := heap_lt HJ7.out
      have l2 := heap_lt HS7.out.box
      clear hfin
      have HQ := Lib.hid hq
      clear hq
      cases fin
      · refine region_quiet_tail 12 (by kernel_rfl) (by kernel_rfl) ?_
        simp only [List.take_succ_cons, List.take_zero, List.drop_succ_cons, List.drop_zero]
        repeat (quiet_step (first | (with_reducible exact HQ.out _ _)))
        refine wpQuiet_nil ?_
        intro w8 hw'
        have hb8 : Below w7.heap.size w7 w8 := by
          obtain ⟨⟨dq, osq⟩, hw''⟩ := hw'
          subst hw''
          exact below_regrown w7 dq osq
        have hS8 := HS7.out.below hb8
        have HB8 := Lib.hid (HB7.out.trans (hb8.mono HB7.out.size))
        have hc := eng_take hS8.eng j.sp.ten HTN.out
        have HS8 := Lib.hid hS8
        clear hw' hb8 hS8 HS7 HB7 HJ7 e11 e1 e7 l1 l2 HQ
        go_wp2_with fail
        refine hc.mono ?_
        rintro e w9 ⟨⟨x9, rfl⟩, he9, hk9⟩
        have HS9 := Lib.hid (HS8.out.step he9 hk9 HB8.out.size)
        have HB9 := Lib.hid (HB8.out.trans (hk9.below HB8.out.size HS8.out.ff))
        clear hc he9 hk9 HS8 HB8
        by_cases hx9 : x9 = 0
        · subst hx9
          go_wp2_with fail
          go_roundw
          case rel => exact ⟨i + 1, by go_num, by omega, Lib.hid ⟨HB9.out, _, _, _, HS9.out, by rw [List.map_append, HJS.out, List.take_add_one, HX.out]; simp, by have := HMI.out; omega⟩⟩
          case measure => simp [intOf]; omega
        · have hne : (x9 == 0) = false := by simpa using hx9
          go_wp2_with fail
          go_ret2
          exact .inl ⟨HB9.out, 2, by decide, rfl⟩
      · refine region_quiet_tail 12 (by kernel_rfl) (by kernel_rfl) ?_
        simp only [List.take_succ_cons, List.take_zero, List.drop_succ_cons, List.drop_zero]
        iterate 5 (quiet_step (first | (with_reducible exact HQ.out _ _)))
        iterate 7 (with_reducible refine wpQuiet_skip (by kernel_rfl) ?_)
        with_reducible refine wpQuiet_nil ?_
        intro w8 hw'
        have hb8 : Below w7.heap.size w7 w8 := by
          obtain ⟨⟨dq, osq⟩, hw''⟩ := hw'
          subst hw''
          exact below_regrown w7 dq osq
        have HS8 := Lib.hid (HS7.out.below hb8)
        have HB8 := Lib.hid (HB7.out.trans (hb8.mono HB7.out.size))
        clear hw' hb8 HS7 HB7 HJ7 e11 e1 e7 l1 l2 HQ
        simp only [Act.put]
        go_wp2_with fail
        go_roundw
        case rel => exact ⟨i + 1, by go_num, by omega, Lib.hid ⟨HB8.out, _, _, _, HS8.out, by rw [List.map_append, HJS.out, List.take_add_one, HX.out]; simp, by have := HMI.out; omega⟩⟩
        case measure => simp [intOf]; omega
    · obtain rfl : i = n := by omega
      obtain ⟨hbw, F, jes, m, hS, hjs, hmi⟩ := HR.out
      have hxs : xs.take i = xs := by rw [HNN.out]; exact List.take_length
      rw [hxs] at hjs
      have hjl : jes.length ≤ 128 := by
        have := congrArg List.length hjs
        simp at this
        have := HNN.out
        omega
      have HSMALL : Hid (∀ x ∈ jes, x.j.small) := Lib.hid fun x hx => by
        have : x.j ∈ jes.map (·.j) := List.mem_map.2 ⟨x, hx, rfl⟩
        rw [hjs] at this
        obtain ⟨y, hy, e⟩ := List.mem_map.1 this
        rw [← e]
        exact (HD.out y hy).2
      have HB := Lib.hid hbw
      have HS := Lib.hid hS
      have HJS := Lib.hid hjs
      have g3 := blk_cell hS.box 3 rfl
      have ls := heap_lt hS.box
      have hmi' : m ≤ 128 := by omega
      obtain ⟨l, hl⟩ : ∃ l, l = jes.map fun x => (x.j.sp.name, x.b) := ⟨_, rfl⟩
      have hll : l.length ≤ 100000 := by rw [hl]; simp; omega
      have HM0 : Hid (SMap ptrV wr mj l) := Lib.hid (by rw [hl]; exact hS.map)
      have HL := Lib.hid hl
      clear HR hbw hS hjs hxs hl hmi
      go_wp2_with fail
      refine (keysS_any wr mj).mono ?_
      rintro e w1 ⟨rfl, hw1⟩
      have hb1 : Below wr.heap.size wr w1 := by rw [hw1]; exact (Below.refl _ _).alloc (Nat.le_refl _) _
      have hso := sorted_keys wr w1 mj l hw1 (HM0.out.kept (Keeps.of_belowS (S := fun _ => False) hb1) fun h => h) hll
      have HSO := Lib.hid hso
      have HS1 := Lib.hid (HS.out.below hb1)
      have HB1 := Lib.hid (HB.out.trans (hb1.mono HB.out.size))
      have HZ1 : Hid (wr.heap.size ≤ w1.heap.size) := Lib.hid hb1.size
      clear hw1 hb1 hso g3 ls HM0
      go_wp2_with fail
      refine HSO.out.mono ?_
      rintro e w2 ⟨v, ys, rfl, hperm, hrise, hown, hb2⟩
      have hsl : Sl keyS w2 v ys := owns_sl (owns_mono hown (Nat.zero_le _))
      have hvF : ∀ k, v.ownBlock = some k → ¬ F k := fun k hk e => by
        have := (hown.lt k hk).1
        have := HS.out.eng.ltF k e
        have := HZ1.out
        omega
      have hyl : ys.length ≤ 128 := by
        have := hperm.length_eq
        rw [HL.out] at this
        simp [keys] at this
        omega
      obtain ⟨ad2, cp2, rfl, hcp1, hcp2, _⟩ := id hsl
      obtain ⟨nn, hnn2⟩ : ∃ nn, nn = ys.length := ⟨_, rfl⟩
      have HYN := Lib.hid hnn2
      have HPERM := Lib.hid hperm
      have HV0 : Hid (MidN w s mj g r u q now each order jes ys (.slice ad2 nn cp2) (128 + 0) w2) := Lib.hid (by
        rw [hnn2]
        exact ⟨HB1.out.trans (hb2.mono HB1.out.size), F, m, HS1.out.below hb2, hmi', hsl, hvF⟩)
      have hnn128 : nn ≤ 128 := by omega
      unfold maxLen at hcp2
      rw [← hnn2]
      rw [← hnn2] at hcp1
      clear hperm hrise hown hb2 hsl hvF HSO HS1 HB1 HZ1 hnn2 hyl HS HB hmi' hll
      go_wp2_with fail
      go_loopw [85] (fun iv wr => ∃ i : Nat, iv = .int .i64 i ∧ i ≤ nn ∧ Hid (MidN w s mj g r u q now each order jes ys (.slice ad2 nn cp2) (128 + i) wr)) (fun iv _ => nn - (intOf iv).toNat)
      case atStart => exact ⟨0, rfl, by omega, HV0⟩
      case round =>
        obtain ⟨k, rfl, hk, HR⟩ := hrel
        clear HV0
        by_cases hlt2 : k < nn
        · obtain ⟨y, hy⟩ : ∃ y, ys[k]? = some y := ⟨ys[k]'(by have := HYN.out; omega), by simp⟩
          obtain ⟨hbw, F1, m1, hS, hm1, hv, hvF⟩ := HR.out
          have hyk : y ∈ keys l := HPERM.out.mem_iff.1 (List.mem_of_getElem? hy)
          obtain ⟨b, hgb, hbm⟩ := look_some hyk
          obtain ⟨x, hxj, hxe⟩ : ∃ x ∈ jes, (x.j.sp.name, x.b) = (y, b) := by rw [HL.out] at hbm; exact List.mem_map.1 hbm
          simp only [Prod.mk.injEq] at hxe
          obtain ⟨hxn, hxb⟩ := hxe
          have hjx := hS.jobs x hxj
          rw [hxb] at hjx
          have hsm := HSMALL.out x hxj
          have hyz : y.size ≤ maxLen := by rw [← hxn]; exact hsm.sp.wf.name
          have hr := jget (HL.out ▸ hS.map) hyz
          rw [hgb] at hr
          simp only [Option.map] at hr
          have hl1 := slink_any wr s mj now each order g r u q hS.box F1 m1 hS.eng x.j b x.dv hjx.1 (by omega) hsm.sp.wf.name hjx.2.1 hsm.sp.wf.deps ⟨hS.fs, hjx.2.2.2.2.1, fun k hk => (hjx.2.2.1 k hk).2.1⟩
          obtain ⟨_, _, hveq, _, _, hcase⟩ := id hv
          obtain ⟨lb, lo, rfl, hbl, hcell⟩ : ∃ b' o', ad2 = some ⟨b', o', none⟩ ∧ b' < wr.heap.size ∧ wr.cell? ⟨b', o' + k, none⟩ = some (.string y) := by
            injection hveq with e1 e2 e3
            subst e1
            rcases hcase with ⟨h0, h0'⟩ | ⟨b', o', e, h1, h2⟩
            · omega
            · exact ⟨b', o', e, h1, h2 k y hy⟩
          have g3 := blk_cell hS.box 3 rfl
          have ls := heap_lt hS.box
          have z1 : (k : Int) < (nn : Int) := by omega
          have z2 : k < cp2 := by omega
          have HS := Lib.hid hS
          have HBW := Lib.hid hbw
          have HV := Lib.hid hv
          have HVF := Lib.hid hvF
          have HSM := Lib.hid hsm
          have HX := Lib.hid (show x ∈ jes ∧ x.j.sp.name = y ∧ x.b = b from ⟨hxj, hxn, hxb⟩)
          have HGB := Lib.hid hgb
          have HYZ := Lib.hid hyz
          have HM1 := Lib.hid hm1
          clear hy hyk hbm hxn hxb hjx hsm hyz hgb hS hbw hv hvF hveq hcase hxj hm1 HR
          go_wp2_with fail
          refine hl1.mono ?_
          rintro e w3 ⟨⟨x3, rfl⟩, he3, hk3⟩
          have HM3 : Hid (MidN w s mj g r u q now each order jes ys (.slice (some ⟨lb, lo, none⟩) nn cp2) (128 + k) w3) := Lib.hid (MidN.go HBW.out HS.out HV.out HVF.out he3 hk3 HM1.out)
          clear hl1 he3 hk3 hr g3 ls hbl hcell HS HBW HV HVF HM1
          by_cases hx3 : x3 = 0
          · subst hx3
            obtain ⟨hbw, F3, m3, hS, hm3, hv, hvF⟩ := HM3.out
            have hjx := hS.jobs x HX.out.1
            rw [HX.out.2.2] at hjx
            have hr := jget (HL.out ▸ hS.map) HYZ.out
            rw [HGB.out] at hr
            simp only [Option.map] at hr
            have hp1 := place_any w3 s mj now each order g r u q hS.box F3 m3 hS.eng x.j b x.dv hjx.1 HSM.out.sp.wf.name (by omega)
            have g3 := blk_cell hS.box 3 rfl
            have ls := heap_lt hS.box
            have HS := Lib.hid hS
            have HBW := Lib.hid hbw
            have HV := Lib.hid hv
            have HVF := Lib.hid hvF
            have HM3' := Lib.hid hm3
            clear hbw hS hm3 hv hvF hjx HM3
            go_wp2_with fail
            refine hp1.mono ?_
            rintro e w4 ⟨rfl, he4, hk4⟩
            have HM4 : Hid (MidN w s mj g r u q now each order jes ys (.slice (some ⟨lb, lo, none⟩) nn cp2) (128 + (k + 1)) w4) := Lib.hid (MidN.go HBW.out HS.out HV.out HVF.out he4 hk4 (by have := HM3'.out; omega))
            clear hp1 he4 hk4 hr g3 ls HS HBW HV HVF HM3'
            go_wp2_with fail
            go_roundw
            case rel => exact ⟨k + 1, by go_num, by omega, HM4⟩
            case measure => simp [intOf]; omega
          · have hne : (x3 == 0) = false := by simpa using hx3
            go_wp2_with fail
            go_ret2
            exact .inl ⟨HM3.out.1, x3, hx3, rfl⟩
        · obtain rfl : k = nn := by omega
          go_wp2_with fail
          go_ret2
          obtain ⟨hbw, F1, m1, hS, hm1, _, _⟩ := HR.out
          exact .inr ⟨s, mj, g, r, u, q, rfl, ⟨hbw, F1, jes, m1, hS, HJS.out, by omega⟩, by rw [List.length_map]; have := HNN.out; omega, HY.out⟩

end Go.Proofs.YtheipmallojdkaaGreatDoor

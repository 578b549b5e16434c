/- Package cron: part, values, bounds, Parse. Package cron: values, bounds, Parse. -/
import Derived.Test.YtheipmallojdkaaGreatDoorIrM20
import Derived.Deep.DeepCutAuto
import Derived.Deep.CutBlock

namespace Go.Proofs.YtheipmallojdkaaGreatDoor
open Go.RowKit

theorem cutL_len (c : UInt8) : ∀ s : Bs, (cutL c s).1.length ≤ s.length ∧ (cutL c s).2.1.length ≤ s.length
  | [] => by simp [cutL]
  | x :: r => by
    have ih := cutL_len c r
    unfold cutL
    split
    · simp
    · simp; omega

theorem or_bit (o : Nat) (y : Int) (h0 : 0 ≤ y) (h1 : y ≤ 63) (ho : o < 18446744073709551616) : bits .or .u64 (o : Int) (IntKind.u64.wrap (2 ^ y.toNat)) = ((o ||| bitOf y : Nat) : Int) := by
  have h2 : bitOf y < 2 ^ 64 := Nat.pow_lt_pow_right (by decide) (by omega)
  have e : ((2 : Int) ^ y.toNat) = ((bitOf y : Nat) : Int) := by unfold bitOf; simp
  rw [e, IntWalk.u64_in _ (by omega)]
  exact (bits_nat .u64 64 (by decide) (fun n a b => IntWalk.u64_in n (by omega)) o (bitOf y) ho h2).2

def partV (f : Fld) (s : Bs) : Value := .tuple #[.int .u64 (orBits (partF f s).1), .int .i64 (partF f s).2]

set_option maxRecDepth 100000 in
set_option maxHeartbeats 4000000 in
theorem cronPart_any (w : World) (i : Nat) (s : Bs) (hm : MaxL w) (hs : s.length ≤ 200) :
    Calls Tryz.prog 107 #[(fld i).v, .string ⟨s.toArray⟩] w (RetB (partV (fld i) s) w) := by
  have hf1 := fld_low i
  have hf2 := fld_names i
  have hf3 := fld_high i
  obtain ⟨l1, l2⟩ := cutL_len 47 s
  obtain ⟨l3, l4⟩ := cutL_len 45 (cutL 47 s).1
  have hc := strCut_any (w.alloc (.cells #[.int .i64 (fld i).low, .int .i64 (fld i).high, .string ⟨(fld i).names.toArray⟩] 161)) 47 s (hm.alloc _) (by omega)
  have hc2 := fun W (hW : MaxL W) => strCut_any W 45 (cutL 47 s).1 hW (by omega)
  have EP := Lib.hid (show partF (fld i) s = match spanF (fld i) (cutL 47 s).1 (cutL 47 s).2.2 with
    | .none => ([], 2)
    | some (a, b, e) => if (stepF (cutL 47 s).2.1 (cutL 47 s).2.2).2 = 2 then ([], 2) else if e ≠ 0 then ([], e) else if (stepF (cutL 47 s).2.1 (cutL 47 s).2.2).2 ≠ 0 then ([], (stepF (cutL 47 s).2.1 (cutL 47 s).2.2).2) else (rangeL 64 a b (stepF (cutL 47 s).2.1 (cutL 47 s).2.2).1, 0) from rfl)
  have HIN := Lib.hid fun a b (h : spanF (fld i) (cutL 47 s).1 (cutL 47 s).2.2 = some (a, b, 0)) => spanF_in i _ _ a b h
  have HSP := Lib.hid (stepF_pos (cutL 47 s).2.1 (cutL 47 s).2.2)
  have HST : Hid (∀ W, MaxL W → Calls Tryz.prog 122 #[.string ⟨(cutL 47 s).2.1.toArray⟩, .bool (cutL 47 s).2.2] W (RetB (stepV (cutL 47 s).2.1 (cutL 47 s).2.2) W)) := Lib.hid fun W hW => cronStep_any W _ _ hW (by omega)
  have HN : Hid (∀ W t, MaxL W → t.length ≤ 200 → Calls Tryz.prog 120 #[.agg #[.int .i64 (fld i).low, .int .i64 (fld i).high, .string ⟨(fld i).names.toArray⟩], .string ⟨t.toArray⟩] W (RetB (numV (fld i) t) W)) :=
    Lib.hid fun W t hW ht => cronNumber_any W (fld i) t hW hf2 hf1 (by omega)
  have HI : Hid (∀ W n, Calls Tryz.prog 121 #[.agg #[.int .i64 (fld i).low, .int .i64 (fld i).high, .string ⟨(fld i).names.toArray⟩], .int .i64 n] W (RetB (.bool (inF (fld i) n)) W)) := Lib.hid fun W n => cronIn_any W (fld i) n
  have HM := Lib.hid hm
  clear hm
  have HF := Lib.hid (And.intro hf1 hf3)
  unfold Fld.v partV
  clear hf1 hf2 hf3
  generalize fld i = f at *
  generalize cutL 47 s = q at *
  obtain ⟨body, by_, stepped⟩ := q
  simp only at *
  generalize partF f s = P at *
  go_enter Tryz.func107, Tryz.ntmps107
  go_wp2_with fail
  refine hc.mono ?_
  rintro e w' ⟨rfl, n, rfl⟩
  clear hc
  go_wp2_with fail
  go_quiet (fail)
  go_wp2_with fail
  refine (hc2 _ ?hm).mono ?_
  case hm => exact HM.out.alloc _
  rintro e w' ⟨rfl, n2, rfl⟩
  clear hc2
  go_upto_block 0 with (fail)
  go_cut [9, 10, 11] (fun s9 s10 s11 wx => ∃ a b e : Int, s9 = .int .i64 a ∧ s10 = .int .i64 b ∧ s11 = .int .i64 e ∧ spanF f body stepped = some (a, b, e) ∧ Below w.heap.size w wx)
  case first =>
    clear HST HSP HIN
    by_cases hbody : body = [42]
    · subst hbody
      have hsp : spanF f [42] stepped = some (f.low, f.high, 0) := by unfold spanF; rw [if_pos rfl]
      have HS := Lib.hid hsp
      clear hsp EP
      go_wp2_with fail
      go_meet
      exact ⟨_, _, _, rfl, rfl, rfl, HS.out, bel_drewN ((Below.refl _ _).alloc (Nat.le_refl _) _) _⟩
    · have hbe : (body == [42]) = false := by simpa using hbody
      have ESP := Lib.hid (show spanF f body stepped = _ by unfold spanF; rw [if_neg hbody])
      clear hbody
      have hq1 := l3
      have hq2 := l4
      generalize cutL 45 body = q2 at *
      obtain ⟨ta, tb, ranged⟩ := q2
      simp only at *
      have HBW : Hid (∀ k, Below w.heap.size w (((w.alloc (.cells #[.int .i64 f.low, .int .i64 f.high, .string ⟨f.names.toArray⟩] 161)).drewN k))) := Lib.hid fun k => bel_drewN ((Below.refl _ _).alloc (Nat.le_refl _) _) k
      have HBH : Hid ((w.alloc (.cells #[.int .i64 f.low, .int .i64 f.high, .string ⟨f.names.toArray⟩] 161)).heap[w.heap.size]? = some (.cells #[.int .i64 f.low, .int .i64 f.high, .string ⟨f.names.toArray⟩] 161)) := Lib.hid (heap_new _ _)
      cases ranged
      · have hnum := fun W (hW : MaxL W) => HN.out W body hW (by omega)
        unfold numV at hnum
        have HR := Lib.hid (show spanF f body stepped = if (numF f body).2 = false ∨ stepped = true then .none else some ((numF f body).1, (numF f body).1, if inF f (numF f body).1 = false then 3 else 0) by rw [ESP.out, if_neg (by simp)])
        clear ESP
        generalize numF f body = r at *
        obtain ⟨x, ok⟩ := r
        simp only at *
        cases ok
        · have hsp : spanF f body stepped = .none := by rw [HR.out, if_pos (.inl rfl)]
          have HE := Lib.hid (show P = ([], 2) by rw [EP.out, hsp])
          clear hsp EP
          go_wp2_with fail
          refine (hnum _ ?hm).mono ?_
          case hm => exact HM.out.alloc _
          rintro en w1 ⟨rfl, hb1⟩
          go_wp2_with fail
          go_ret2
          exact RetB.mk (by rw [HE.out]; rfl) ((HBW.out _).trans (hb1.mono (by simp)))
        · cases stepped
          · cases hin : inF f x
            · have hsp : spanF f body false = some (x, x, 3) := by rw [HR.out, hin]; rfl
              have HS := Lib.hid hsp
              have hii := fun W => HI.out W x
              rw [hin] at hii
              clear hsp EP hin
              go_wp2_with fail
              refine (hnum _ ?hm).mono ?_
              case hm => exact HM.out.alloc _
              rintro en w1 ⟨rfl, hb1⟩
              have hx := bheap hb1 HBH.out (by simp)
              have c0 := blk_cell hx 0 rfl
              have c1 := blk_cell hx 1 rfl
              have c2 := blk_cell hx 2 rfl
              clear hx
              go_wp2_with fail
              refine (hii _).mono ?_
              rintro en w2 ⟨rfl, hb2⟩
              go_wp2_with fail
              go_meet
              have hbb := (HBW.out _).trans (hb1.mono (by simp))
              exact ⟨_, _, _, rfl, rfl, rfl, HS.out, hbb.trans (hb2.mono hbb.size)⟩
            · have hsp : spanF f body false = some (x, x, 0) := by rw [HR.out, hin]; rfl
              have HS := Lib.hid hsp
              have hii := fun W => HI.out W x
              rw [hin] at hii
              clear hsp EP hin
              go_wp2_with fail
              refine (hnum _ ?hm).mono ?_
              case hm => exact HM.out.alloc _
              rintro en w1 ⟨rfl, hb1⟩
              have hx := bheap hb1 HBH.out (by simp)
              have c0 := blk_cell hx 0 rfl
              have c1 := blk_cell hx 1 rfl
              have c2 := blk_cell hx 2 rfl
              clear hx
              go_wp2_with fail
              refine (hii _).mono ?_
              rintro en w2 ⟨rfl, hb2⟩
              go_wp2_with fail
              go_meet
              have hbb := (HBW.out _).trans (hb1.mono (by simp))
              exact ⟨_, _, _, rfl, rfl, rfl, HS.out, hbb.trans (hb2.mono hbb.size)⟩
          · have hsp : spanF f body true = .none := by rw [HR.out, if_pos (.inr rfl)]
            have HE := Lib.hid (show P = ([], 2) by rw [EP.out, hsp])
            clear hsp EP
            go_wp2_with fail
            refine (hnum _ ?hm).mono ?_
            case hm => exact HM.out.alloc _
            rintro en w1 ⟨rfl, hb1⟩
            go_wp2_with fail
            go_ret2
            exact RetB.mk (by rw [HE.out]; rfl) ((HBW.out _).trans (hb1.mono (by simp)))
      · have hnA := fun W (hW : MaxL W) => HN.out W ta hW (by omega)
        have hnB := fun W (hW : MaxL W) => HN.out W tb hW (by omega)
        unfold numV at hnA hnB
        have HR := Lib.hid (show spanF f body stepped = if (numF f ta).2 = false ∨ (numF f tb).2 = false then .none else some ((numF f ta).1, (numF f tb).1, if inF f (numF f ta).1 = false ∨ inF f (numF f tb).1 = false ∨ (numF f tb).1 < (numF f ta).1 then 3 else 0) by rw [ESP.out, if_pos rfl])
        clear ESP
        generalize numF f ta = rA at *
        generalize numF f tb = rB at *
        obtain ⟨x, okA⟩ := rA
        obtain ⟨y, okB⟩ := rB
        simp only at *
        by_cases hok : okA = false ∨ okB = false
        · have hsp : spanF f body stepped = .none := by rw [HR.out, if_pos hok]
          have HE := Lib.hid (show P = ([], 2) by rw [EP.out, hsp])
          clear hsp EP
          cases okA
          case' true => obtain rfl : okB = false := by simpa using hok
          all_goals
            clear hok
            go_wp2_with fail
            refine (hnA _ ?hm).mono ?_
            case hm => exact HM.out.alloc _
            rintro en w1 ⟨rfl, hb1⟩
            have hx := bheap hb1 HBH.out (by simp)
            have c0 := blk_cell hx 0 rfl
            have c1 := blk_cell hx 1 rfl
            have c2 := blk_cell hx 2 rfl
            have hbb := (HBW.out _).trans (hb1.mono (by simp))
            have HBB := Lib.hid hbb
            clear hx hbb hb1
            go_wp2_with fail
            refine (hnB _ ?hm).mono ?_
            case hm => exact HM.out.step HBB.out
            rintro en w2 ⟨rfl, hb2⟩
            go_wp2_with fail
            go_ret2
            exact RetB.mk (by rw [HE.out]; rfl) (HBB.out.trans (hb2.mono HBB.out.size))
        · obtain rfl : okA = true := by cases okA; exact absurd (.inl rfl) hok; rfl
          obtain rfl : okB = true := by cases okB; exact absurd (.inr rfl) hok; rfl
          clear hok
          have HR2 := Lib.hid (show spanF f body stepped = some (x, y, if inF f x = false ∨ inF f y = false ∨ y < x then 3 else 0) by rw [HR.out, if_neg (by simp)])
          have hiA := fun W => HI.out W x
          have hiB := fun W => HI.out W y
          clear HR EP
          cases hx1 : inF f x
          · rw [hx1] at hiA HR2
            have HS := Lib.hid (show spanF f body stepped = some (x, y, 3) by rw [HR2.out]; rfl)
            clear HR2 hx1
            go_wp2_with fail
            refine (hnA _ ?hm).mono ?_
            case hm => exact HM.out.alloc _
            rintro en w1 ⟨rfl, hb1⟩
            have hx := bheap hb1 HBH.out (by simp)
            have HX := Lib.hid hx
            have c0 := blk_cell hx 0 rfl
            have c1 := blk_cell hx 1 rfl
            have c2 := blk_cell hx 2 rfl
            have hbb := (HBW.out _).trans (hb1.mono (by simp))
            have HBB := Lib.hid hbb
            clear hx hbb hb1
            go_wp2_with fail
            refine (hnB _ ?hm).mono ?_
            case hm => exact HM.out.step HBB.out
            rintro en w2 ⟨rfl, hb2⟩
            have hx := bheap hb2 HX.out (heap_lt HX.out)
            have HX2 := Lib.hid hx
            have d0 := blk_cell hx 0 rfl
            have d1 := blk_cell hx 1 rfl
            have d2 := blk_cell hx 2 rfl
            have HBB2 := Lib.hid (HBB.out.trans (hb2.mono HBB.out.size))
            clear hx hb2 c0 c1 c2
            go_wp2_with fail
            refine (hiA _).mono ?_
            rintro en w3 ⟨rfl, hb3⟩
            go_wp2_with fail
            go_meet
            exact ⟨_, _, _, rfl, rfl, rfl, HS.out, HBB2.out.trans (hb3.mono HBB2.out.size)⟩
          · rw [hx1] at hiA HR2
            cases hy1 : inF f y
            all_goals
              rw [hy1] at hiB HR2
              by_cases hxy : y < x
              all_goals
                have HS : Hid (spanF f body stepped = some (x, y, 3) ∨ spanF f body stepped = some (x, y, 0)) := Lib.hid (by rw [HR2.out]; split <;> simp)
                have HV := Lib.hid (show spanF f body stepped = some (x, y, _) from HR2.out)
                clear HR2 hx1 hy1
                go_wp2_with fail
                refine (hnA _ ?hm).mono ?_
                case hm => exact HM.out.alloc _
                rintro en w1 ⟨rfl, hb1⟩
                have hx := bheap hb1 HBH.out (by simp)
                have HX := Lib.hid hx
                have c0 := blk_cell hx 0 rfl
                have c1 := blk_cell hx 1 rfl
                have c2 := blk_cell hx 2 rfl
                have hbb := (HBW.out _).trans (hb1.mono (by simp))
                have HBB := Lib.hid hbb
                clear hx hbb hb1
                go_wp2_with fail
                refine (hnB _ ?hm).mono ?_
                case hm => exact HM.out.step HBB.out
                rintro en w2 ⟨rfl, hb2⟩
                have hx := bheap hb2 HX.out (heap_lt HX.out)
                have HX2 := Lib.hid hx
                have d0 := blk_cell hx 0 rfl
                have d1 := blk_cell hx 1 rfl
                have d2 := blk_cell hx 2 rfl
                have HBB2 := Lib.hid (HBB.out.trans (hb2.mono HBB.out.size))
                clear hx hb2 c0 c1 c2
                go_wp2_with fail
                refine (hiA _).mono ?_
                rintro en w3 ⟨rfl, hb3⟩
                have hx := bheap hb3 HX2.out (heap_lt HX2.out)
                have c0 := blk_cell hx 0 rfl
                have c1 := blk_cell hx 1 rfl
                have c2 := blk_cell hx 2 rfl
                have HBB3 := Lib.hid (HBB2.out.trans (hb3.mono HBB2.out.size))
                clear hx hb3 d0 d1 d2
                go_wp2_with fail
                refine (hiB _).mono ?_
                rintro en w4 ⟨rfl, hb4⟩
                go_wp2_with fail
                go_meet
                exact ⟨_, _, _, rfl, rfl, rfl, by rw [HV.out]; simp [*], HBB3.out.trans (hb4.mono HBB3.out.size)⟩
  case rest =>
    obtain ⟨a, b, e, rfl, rfl, rfl, hsp, hb⟩ := hcut
    have HB := Lib.hid hb
    have EP2 := EP.out
    rw [hsp] at EP2
    simp only at EP2
    have EPP := Lib.hid EP2
    have HSPP := Lib.hid hsp
    have hst := HST.out wc (HM.out.step hb)
    unfold stepV at hst
    clear EP2 hsp hb EP
    generalize stepF by_ stepped = r at *
    obtain ⟨n, g⟩ := r
    simp only at *
    by_cases hg2 : g = 2
    · subst hg2
      have e0 := EPP.out
      rw [if_pos rfl] at e0
      have e0 := Lib.hid e0
      clear EPP
      go_wp2_with fail
      refine hst.mono ?_
      rintro en w' ⟨rfl, hb⟩
      go_wp2_with fail
      go_ret2
      exact RetB.mk (by rw [e0.out]; rfl) (HB.out.trans (hb.mono HB.out.size))
    · have hgb : (g == 2) = false := by simpa using hg2
      have EP3 := Lib.hid (show P = _ by rw [EPP.out, if_neg hg2])
      clear hg2 EPP
      by_cases he : e = 0
      · subst he
        by_cases hg : g = 0
        · subst hg
          have e0 := Lib.hid (show P = _ by rw [EP3.out, if_neg (by simp), if_neg (by simp)])
          obtain ⟨ha, hb2, hab⟩ := HIN.out a b HSPP.out
          obtain ⟨hn1, hn2⟩ := HSP.out rfl
          have hfl := HF.out
          have ha0 : 0 ≤ a := by omega
          have hb59 : b ≤ 59 := by omega
          clear EP3 ha hb2 hfl
          go_wp2_with fail
          refine hst.mono ?_
          rintro en w' ⟨rfl, hb⟩
          clear hst
          go_wp2_with fail
          go_loop [23, 24] (fun o x => ∃ (done : List Int) (k : Nat) (y : Int), x = .int .i64 y ∧ o = .int .u64 (orBits done) ∧ done ++ rangeL k y b n = rangeL 64 a b n ∧ b < y + k ∧ 0 ≤ y ∧ y ≤ 200 ∧ ∀ z ∈ done, 0 ≤ z ∧ z ≤ 63) (fun _ x => (200 - intOf x).toNat)
          case atStart => exact ⟨[], 64, a, rfl, rfl, rfl, by omega, ha0, by omega, by simp⟩
          case round =>
            obtain ⟨done, k, y, rfl, rfl, hd, hk, hy0, hy1, hz⟩ := hrel
            have HD := Lib.hid hd
            have HZ := Lib.hid hz
            have hlt := orBits_lt done hz
            clear hd hz
            obtain ⟨o, ho⟩ : ∃ o, o = orBits done := ⟨_, rfl⟩
            rw [← ho] at hlt ⊢
            have HO := Lib.hid ho
            clear ho
            by_cases hle : y ≤ b
            · go_wp2_with fail
              go_roundw
              case rel =>
                have hk0 : k ≠ 0 := by rintro rfl; omega
                obtain ⟨k2, rfl⟩ : ∃ k2, k = k2 + 1 := ⟨k - 1, by omega⟩
                have hu : rangeL (k2 + 1) y b n = y :: rangeL k2 (y + n) b n := by rw [rangeL, if_pos hle]
                have hd := HD.out
                rw [hu] at hd
                exact ⟨done ++ [y], k2, y + n, rfl, by rw [or_bit o y hy0 (by omega) hlt, HO.out, orBits_snoc], by rw [← hd]; simp, by omega, by omega, by omega, fun z hz => by
                  rcases List.mem_append.1 hz with h | h
                  · exact HZ.out z h
                  · simp at h; omega⟩
              case measure => simp [intOf]; omega
            · go_wp2_with fail
              go_ret2
              have hu : rangeL k y b n = [] := by cases k with
                | zero => rfl
                | succ k => rw [rangeL, if_neg (by omega)]
              have hd := HD.out
              rw [hu, List.append_nil] at hd
              exact RetB.mk (by rw [e0.out, ← hd, ← HO.out]; rfl) (HB.out.trans (hb.mono HB.out.size))
        · have e0 := Lib.hid (show P = _ by rw [EP3.out, if_neg (by simp), if_pos hg])
          have hgb2 : (g == 0) = false := by simpa using hg
          have hgb3 : (g != 0) = true := by simpa using hg
          clear hg EP3
          go_wp2_with fail
          refine hst.mono ?_
          rintro en w' ⟨rfl, hb⟩
          go_wp2_with fail
          go_ret2
          exact RetB.mk (by rw [e0.out]; rfl) (HB.out.trans (hb.mono HB.out.size))
      · have e0 := Lib.hid (show P = _ by rw [EP3.out, if_pos he])
        have heb : (e != 0) = true := by simpa using he
        clear he EP3
        go_wp2_with fail
        refine hst.mono ?_
        rintro en w' ⟨rfl, hb⟩
        go_wp2_with fail
        go_ret2
        exact RetB.mk (by rw [e0.out]; rfl) (HB.out.trans (hb.mono HB.out.size))

end Go.Proofs.YtheipmallojdkaaGreatDoor

namespace Go.Proofs.YtheipmallojdkaaGreatDoor
open Go.RowKit

theorem partsF_err (f : Fld) : ∀ (l : List Bs) (p : Bs) (r : List Bs), (partsF f l).2 = 0 → (partF f p).2 ≠ 0 → partsF f (l ++ p :: r) = ([], (partF f p).2)
  | [], p, r, _, hp => by simp [partsF, hp]
  | x :: l, p, r, hl, hp => by
    have ih := partsF_err f l p r
    simp only [partsF] at hl
    split at hl
    · rename_i h; exact absurd hl h
    · rename_i h
      split at hl
      · rename_i h2; exact absurd hl h2
      · rename_i h2
        have ih' := ih (by simpa using h2) hp
        simp only [List.cons_append, partsF, ih']
        simp [h, hp]
theorem partsF_snoc (f : Fld) : ∀ (l : List Bs) (p : Bs), (partsF f l).2 = 0 → (partF f p).2 = 0 → partsF f (l ++ [p]) = ((partsF f l).1 ++ (partF f p).1, 0)
  | [], p, _, hp => by simp [partsF, hp]
  | x :: l, p, hl, hp => by
    have ih := partsF_snoc f l p
    simp only [partsF] at hl
    split at hl
    · rename_i h; exact absurd hl h
    · rename_i h
      split at hl
      · rename_i h2; exact absurd hl h2
      · rename_i h2
        have ih' := ih (by simpa using h2) hp
        simp only [List.cons_append, partsF, ih']
        simp [h, h2]

def valuesV (f : Fld) (s : Bs) : Value := .tuple #[.int .u64 (orBits (valuesF f s).1), .int .i64 (valuesF f s).2]

theorem or_or (a b : Nat) (ha : a < 18446744073709551616) (hb : b < 18446744073709551616) : bits .or .u64 (a : Int) (b : Int) = ((a ||| b : Nat) : Int) :=
  (bits_nat .u64 64 (by decide) (fun n a b => IntWalk.u64_in n (by omega)) a b ha hb).2

theorem piece_cell {w : World} {b : Nat} {L : List Bs} {T : TypeId} {fr : Nat × Nat} (hb : w.heap[b]? = some (.cells (L.map fun p => Value.string ⟨p.toArray⟩).toArray T fr)) {k : Nat} {p : Bs} (hp : L[k]? = some p) :
    w.cell? ⟨b, k, none⟩ = some (.string ⟨p.toArray⟩) := blk_cell hb k (by simp [hp])

set_option maxRecDepth 100000 in
set_option maxHeartbeats 4000000 in
theorem cronValues_any (w : World) (i : Nat) (s : Bs) (hm : MaxL w) (hs : s.length ≤ 200) :
    Calls Tryz.prog 89 #[(fld i).v, .string ⟨s.toArray⟩] w (RetB (valuesV (fld i) s) w) := by
  have hsp := strSplit_any (w.alloc (.cells #[.int .i64 (fld i).low, .int .i64 (fld i).high, .string ⟨(fld i).names.toArray⟩] 161)) 44 s (hm.alloc _) (by omega)
  have HP : Hid (∀ W p, MaxL W → p ∈ splitL 44 s → Calls Tryz.prog 107 #[.agg #[.int .i64 (fld i).low, .int .i64 (fld i).high, .string ⟨(fld i).names.toArray⟩], .string ⟨p.toArray⟩] W (RetB (partV (fld i) p) W)) :=
    Lib.hid fun W p hW hp => cronPart_any W i p hW (by have := splitL_mem_len 44 s p hp; omega)
  have HV := Lib.hid (show valuesF (fld i) s = partsF (fld i) (splitL 44 s) from rfl)
  have hlen := splitL_le 44 s
  have HIN := Lib.hid (partF_in i)
  have HFL := Lib.hid (And.intro (fld_low i) (fld_high i))
  have HPS := Lib.hid (partsF_in i)
  have HM := Lib.hid hm
  clear hm
  unfold Fld.v valuesV
  rw [HV.out]
  generalize fld i = f at *
  generalize splitL 44 s = L at *
  go_enter Tryz.func89, Tryz.ntmps89
  go_wp2_with fail
  refine hsp.mono ?_
  rintro en w1 ⟨rfl, hw1⟩
  have hbel : Below w.heap.size w w1 := by rw [hw1]; exact ((Below.refl _ _).alloc (Nat.le_refl _) _).alloc (by simp) _
  have hx : w1.heap[w.heap.size]? = some (.cells #[.int .i64 f.low, .int .i64 f.high, .string ⟨f.names.toArray⟩] 161) := by rw [hw1]; exact aheap (heap_new w _) _
  have hy := heap_new (w.alloc (.cells #[.int .i64 f.low, .int .i64 f.high, .string ⟨f.names.toArray⟩] 161)) (.cells (L.map fun p => Value.string ⟨p.toArray⟩).toArray 9)
  rw [← hw1] at hy
  obtain ⟨b1, hb1⟩ : ∃ b1, b1 = (w.alloc (.cells #[.int .i64 f.low, .int .i64 f.high, .string ⟨f.names.toArray⟩] 161)).heap.size := ⟨_, rfl⟩
  rw [← hb1] at hy ⊢
  have HBEL := Lib.hid hbel
  have HX := Lib.hid hx
  have HY := Lib.hid hy
  clear hbel hx hy hw1 hsp
  have hb1' : b1 = w.heap.size + 1 := by rw [hb1]; simp
  clear hb1
  subst hb1'
  go_wp2_with fail
  go_loopw [6, 14] (fun o ix wr => ∃ k : Nat, k ≤ L.length ∧ ix = .int .i64 k ∧ o = .int .u64 (orBits (partsF f (L.take k)).1) ∧ (partsF f (L.take k)).2 = 0 ∧ Below w1.heap.size w1 wr) (fun _ ix _ => L.length - (intOf ix).toNat)
  case atStart => exact ⟨0, by omega, rfl, rfl, rfl, Below.refl _ _⟩
  case round =>
    obtain ⟨k, hk, rfl, rfl, h0, hb⟩ := hrel
    obtain ⟨wo, rfl⟩ : ∃ wo : World, wo = wr := ⟨_, rfl⟩
    have H0 := Lib.hid h0
    have HB := Lib.hid hb
    have hbw := HBEL.out.trans (hb.mono HBEL.out.size)
    have HBW := Lib.hid hbw
    have hx := bheap hb HX.out (heap_lt HX.out)
    have hy := bheap hb HY.out (heap_lt HY.out)
    have hfl := HFL.out
    have hin : ∀ z ∈ (partsF f (L.take k)).1, 0 ≤ z ∧ z ≤ 63 := fun z hz => by have := HPS.out _ z hz; omega
    have hlt := orBits_lt _ hin
    clear h0 hb hbw hfl hin
    by_cases hlt2 : k < L.length
    · obtain ⟨p, hp⟩ : ∃ p, L[k]? = some p := ⟨L[k], List.getElem?_eq_getElem hlt2⟩
      have hpm := List.mem_of_getElem? hp
      have hcell := piece_cell hy hp
      have c0 := blk_cell hx 0 rfl
      have c1 := blk_cell hx 1 rfl
      have c2 := blk_cell hx 2 rfl
      have hpc := HP.out wo p (HM.out.step HBW.out) hpm
      have htk : L.take (k + 1) = L.take k ++ [p] := by rw [List.take_add_one, hp]; rfl
      have hdr : L = L.take k ++ p :: L.drop (k + 1) := by
        conv => lhs; rw [← List.take_append_drop k L]
        congr 1
        rw [List.drop_eq_getElem_cons hlt2]
        congr 1
        rw [List.getElem?_eq_getElem hlt2] at hp
        exact Option.some.inj hp
      have hpin : ∀ z ∈ (partF f p).1, 0 ≤ z ∧ z ≤ 63 := fun z hz => by have := HIN.out p z hz; have := HFL.out; omega
      have hltp := orBits_lt _ hpin
      have HE := Lib.hid (partsF_err f (L.take k) p (L.drop (k + 1)) H0.out)
      have HS := Lib.hid (partsF_snoc f (L.take k) p H0.out)
      rw [← hdr] at HE
      rw [← htk] at HS
      have HOA := Lib.hid (orBits_append (partsF f (L.take k)).1 (partF f p).1)
      unfold partV at hpc
      clear hx hy hp hpm htk hdr hpin
      generalize partF f p = r at *
      obtain ⟨vs, e⟩ := r
      obtain ⟨o, ho⟩ : ∃ o, o = orBits (partsF f (L.take k)).1 := ⟨_, rfl⟩
      rw [← ho] at hlt HOA ⊢
      simp only at *
      obtain ⟨o2, ho2⟩ : ∃ o2, o2 = orBits vs := ⟨_, rfl⟩
      rw [← ho2] at hltp HOA hpc
      have HOO := Lib.hid (or_or o o2 hlt hltp)
      clear ho ho2
      by_cases he : e = 0
      · subst he
        have HSS := Lib.hid (HS.out rfl)
        clear HS HE
        go_wp2_with fail
        refine hpc.mono ?_
        rintro en w2 ⟨rfl, hb2⟩
        clear hpc
        go_wp2_with fail
        go_roundw
        case rel => exact ⟨k + 1, by omega, by go_num, by rw [HSS.out, HOO.out, HOA.out], by rw [HSS.out], HB.out.trans (hb2.mono HB.out.size)⟩
        case measure => simp [intOf]; omega
      · have heb : (e != 0) = true := by simpa using he
        have HEE := Lib.hid (HE.out he)
        clear he
        go_wp2_with fail
        refine hpc.mono ?_
        rintro en w2 ⟨rfl, hb2⟩
        clear hpc
        go_wp2_with fail
        go_ret2
        exact RetB.mk (by rw [HEE.out]; rfl) (HBW.out.trans (hb2.mono HBW.out.size))
    · obtain rfl : k = L.length := by omega
      have HT := Lib.hid (List.take_length (l := L))
      rw [HT.out] at H0 ⊢
      clear hx hy
      go_wp2_with fail
      go_ret2
      exact RetB.mk (by rw [H0.out]; rfl) HBW.out

end Go.Proofs.YtheipmallojdkaaGreatDoor

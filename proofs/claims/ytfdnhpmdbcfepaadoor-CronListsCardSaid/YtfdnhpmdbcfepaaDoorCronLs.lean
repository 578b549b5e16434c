/- The statement CronLists: its walk (printed by wip/tools/gen_cronlists.py). -/
import Derived.Test.YtfdnhpmdbcfepaaDoorCronK
import Derived.Test.YtfdnhpmdbcfepaaDoorLives07
import Derived.Lib.QuietBelow
namespace Go.Proofs.YtfdnhpmdbcfepaaDoor
open Go.RowKit Go.ChangeMaps Go.Sort

theorem lists_long (w : World) (hm : MaxL w) (a b rest : Bs) (t : Int) (h : 20 < a.length ∨ a.length ≤ 20 ∧ 20 < b.length ∨ a.length ≤ 20 ∧ b.length ≤ 20 ∧ 60 < rest.length) (h1 : a.length ≤ 9223372036854775807) (h2 : b.length ≤ 9223372036854775807) (h3 : rest.length ≤ 9223372036854775807) :
    Calls Tryd.prog 4 #[.string ⟨a.toArray⟩, .string ⟨b.toArray⟩, .string ⟨rest.toArray⟩, .int .i64 t] w (RetB (.bool true) w) := by
  have HM := Lib.hid hm
  clear hm
  rcases h with h | ⟨h, h'⟩ | ⟨h, h', h''⟩
  all_goals
    go_enter Tryd.func4, Tryd.ntmps4
    go_wp2_with fail
    refine (lives07 _ HM.out).mono ?_
    rintro e w1 ⟨rfl, hb1⟩
    go_wp2_with fail
    refine (lives07 _ (HM.out.step hb1)).mono ?_
    rintro e w2 ⟨rfl, hb2⟩
    go_wp2_with fail
    go_ret
    exact RetB.mk rfl (hb1.trans (hb2.mono hb1.size))

theorem strApp (a b : Bs) : (⟨a.toArray⟩ : ByteArray) ++ ⟨b.toArray⟩ = ⟨(a ++ b).toArray⟩ := by
  apply ByteArray.ext
  simp [ByteArray.data_append]

theorem exV (e : Ex) (i : Int) : cronV (e, i) = .tuple #[.agg #[.int .u64 e.mi, .int .u64 e.ho, .int .u64 e.da, .int .u64 e.mo, .int .u64 e.we, .bool e.ad, .bool e.aw], .int .i64 i] := rfl

theorem cronF_ok (s : Bs) (h : (cronF s).2 = 0) : (cronF s).1.Ok := by
  unfold cronF at h ⊢
  split
  · rename_i h2; exact exF_ok s h2
  · rename_i h2; rw [if_neg h2] at h; exact absurd h h2

set_option maxRecDepth 100000 in
set_option maxHeartbeats 8000000 in
theorem lists_main (w : World) (hm : MaxL w) (a b rest : Bs) (t : Int) (h1 : a.length ≤ 20) (h2 : b.length ≤ 20) (h3 : rest.length ≤ 60) :
    Calls Tryd.prog 4 #[.string ⟨a.toArray⟩, .string ⟨b.toArray⟩, .string ⟨rest.toArray⟩, .int .i64 t] w (RetB (.bool true) w) := by
  have hlaw := lists_law a b rest h1 h2 h3
  have PA : ∀ W, MaxL W → Calls Tryd.prog 12 #[.string (⟨a.toArray⟩ ++ ⟨#[32]⟩ ++ ⟨rest.toArray⟩)] W (RetB (cronV (cronF (a ++ 32 :: rest))) W) := fun W hW => by
    have h := cronParse_any W (a ++ 32 :: rest) hW (by simp; omega)
    rw [show ((⟨a.toArray⟩ : ByteArray) ++ ⟨#[32]⟩ ++ ⟨rest.toArray⟩) = ⟨(a ++ 32 :: rest).toArray⟩ by rw [show (⟨#[32]⟩ : ByteArray) = ⟨([32] : Bs).toArray⟩ from rfl, strApp, strApp]; simp]
    exact h
  have PB : ∀ W, MaxL W → Calls Tryd.prog 12 #[.string (⟨b.toArray⟩ ++ ⟨#[32]⟩ ++ ⟨rest.toArray⟩)] W (RetB (cronV (cronF (b ++ 32 :: rest))) W) := fun W hW => by
    have h := cronParse_any W (b ++ 32 :: rest) hW (by simp; omega)
    rw [show ((⟨b.toArray⟩ : ByteArray) ++ ⟨#[32]⟩ ++ ⟨rest.toArray⟩) = ⟨(b ++ 32 :: rest).toArray⟩ by rw [show (⟨#[32]⟩ : ByteArray) = ⟨([32] : Bs).toArray⟩ from rfl, strApp, strApp]; simp]
    exact h
  have PC : ∀ W, MaxL W → Calls Tryd.prog 12 #[.string (⟨a.toArray⟩ ++ ⟨#[44]⟩ ++ ⟨b.toArray⟩ ++ ⟨#[32]⟩ ++ ⟨rest.toArray⟩)] W (RetB (cronV (cronF (a ++ 44 :: b ++ 32 :: rest))) W) := fun W hW => by
    have h := cronParse_any W (a ++ 44 :: b ++ 32 :: rest) hW (by simp; omega)
    rw [show ((⟨a.toArray⟩ : ByteArray) ++ ⟨#[44]⟩ ++ ⟨b.toArray⟩ ++ ⟨#[32]⟩ ++ ⟨rest.toArray⟩) = ⟨(a ++ 44 :: b ++ 32 :: rest).toArray⟩ by rw [show (⟨#[32]⟩ : ByteArray) = ⟨([32] : Bs).toArray⟩ from rfl, show (⟨#[44]⟩ : ByteArray) = ⟨([44] : Bs).toArray⟩ from rfl, strApp, strApp, strApp, strApp]; simp]
    exact h
  have OA := Lib.hid (cronF_ok (a ++ 32 :: rest))
  have OB := Lib.hid (cronF_ok (b ++ 32 :: rest))
  have OC := Lib.hid (cronF_ok (a ++ 44 :: b ++ 32 :: rest))
  have HLAW := Lib.hid hlaw
  have HPA := Lib.hid PA
  have HPB := Lib.hid PB
  have HPC := Lib.hid PC
  have HM := Lib.hid hm
  clear hm hlaw PA PB PC
  generalize cronF (a ++ 32 :: rest) = ra at *
  generalize cronF (b ++ 32 :: rest) = rb at *
  generalize cronF (a ++ 44 :: b ++ 32 :: rest) = rc at *
  obtain ⟨⟨xmi, xho, xda, xmo, xwe, xad, xaw⟩, xe⟩ := ra
  obtain ⟨⟨ymi, yho, yda, ymo, ywe, yad, yaw⟩, ye⟩ := rb
  obtain ⟨⟨zmi, zho, zda, zmo, zwe, zad, zaw⟩, ze⟩ := rc
  simp only [exV] at HPA HPB HPC
  simp only at HLAW OA OB OC
  go_enter Tryd.func4, Tryd.ntmps4
  go_wp2_with fail
  refine (lives07 _ HM.out).mono ?_
  rintro e w1 ⟨rfl, hb1⟩
  have HB1 := Lib.hid hb1
  clear hb1
  go_wp2_with fail
  refine (HPA.out _ (HM.out.step HB1.out)).mono ?_
  rintro e w2 ⟨rfl, hb2⟩
  have HB2 := Lib.hid (HB1.out.trans (hb2.mono HB1.out.size))
  have HB2A := Lib.hid (HB2.out.alloc HB2.out.size (.cells #[.int .u64 xmi, .int .u64 xho, .int .u64 xda, .int .u64 xmo, .int .u64 xwe, .bool xad, .bool xaw] 25))
  have HXx := Lib.hid (heap_new w2 (.cells #[.int .u64 xmi, .int .u64 xho, .int .u64 xda, .int .u64 xmo, .int .u64 xwe, .bool xad, .bool xaw] 25))
  clear hb2
  go_wp2_with fail
  refine (HPB.out _ (HM.out.step HB2A.out)).mono ?_
  rintro e w3 ⟨rfl, hb3⟩
  have HB3 := Lib.hid (HB2A.out.trans (hb3.mono HB2A.out.size))
  have HXx3 := Lib.hid (bheap hb3 HXx.out (heap_lt HXx.out))
  have HB3A := Lib.hid (HB3.out.alloc HB3.out.size (.cells #[.int .u64 ymi, .int .u64 yho, .int .u64 yda, .int .u64 ymo, .int .u64 ywe, .bool yad, .bool yaw] 25))
  have HXy := Lib.hid (heap_new w3 (.cells #[.int .u64 ymi, .int .u64 yho, .int .u64 yda, .int .u64 ymo, .int .u64 ywe, .bool yad, .bool yaw] 25))
  clear hb3
  go_wp2_with fail
  refine (HPC.out _ (HM.out.step HB3A.out)).mono ?_
  rintro e w4 ⟨rfl, hb4⟩
  have HB4 := Lib.hid (HB3A.out.trans (hb4.mono HB3A.out.size))
  have HXy4 := Lib.hid (bheap hb4 HXy.out (heap_lt HXy.out))
  have HXx4 := Lib.hid (bheap hb4 (aheap HXx3.out (.cells #[.int .u64 ymi, .int .u64 yho, .int .u64 yda, .int .u64 ymo, .int .u64 ywe, .bool yad, .bool yaw] 25)) (by have := heap_lt HXx3.out; simp; omega))
  have HB4A := Lib.hid (HB4.out.alloc HB4.out.size (.cells #[.int .u64 zmi, .int .u64 zho, .int .u64 zda, .int .u64 zmo, .int .u64 zwe, .bool zad, .bool zaw] 25))
  have HXz := Lib.hid (heap_new w4 (.cells #[.int .u64 zmi, .int .u64 zho, .int .u64 zda, .int .u64 zmo, .int .u64 zwe, .bool zad, .bool zaw] 25))
  have HXxF := Lib.hid (aheap HXx4.out (.cells #[.int .u64 zmi, .int .u64 zho, .int .u64 zda, .int .u64 zmo, .int .u64 zwe, .bool zad, .bool zaw] 25))
  have HXyF := Lib.hid (aheap HXy4.out (.cells #[.int .u64 zmi, .int .u64 zho, .int .u64 zda, .int .u64 zmo, .int .u64 zwe, .bool zad, .bool zaw] 25))
  clear hb4 HPA HPB HPC HXx HXy HXx3
  have hS : (⟨a.toArray⟩ : ByteArray) ++ ⟨b.toArray⟩ = ⟨(a ++ b).toArray⟩ := strApp a b
  obtain ⟨S, hSS⟩ : ∃ S : ByteArray, S = ⟨(a ++ b).toArray⟩ := ⟨_, rfl⟩
  rw [← hSS] at hS
  have hsz : S.size = a.length + b.length := by rw [hSS]; show (a ++ b).toArray.size = _; simp
  have HSZ := Lib.hid hsz
  have HGET : Hid (∀ k (h : k < S.size), (a ++ b)[k]? = some S[k]) := Lib.hid fun k h => by
    subst hSS
    have h2 : k < (a ++ b).toArray.size := h
    exact List.getElem?_eq_getElem (l := a ++ b) (by simpa using h2)
  clear hSS hsz
  go_wp2_with fail
  go_loop [66, 15] (fun i _ => ∃ k : Nat, k ≤ a.length + b.length ∧ i = .int .i64 k ∧ ∀ j, j < k → (a ++ b)[j]? ≠ some 32) (fun i _ => a.length + b.length - (intOf i).toNat)
  case atStart => exact ⟨0, by omega, rfl, fun j hj => by omega⟩
  case round =>
    obtain ⟨k, hk, rfl, hno⟩ := hrel
    have HNO := Lib.hid hno
    clear hno
    by_cases hlt : k < a.length + b.length
    · have hks : k < S.size := by have := HSZ.out; omega
      have hgk := Lib.hid (HGET.out k hks)
      by_cases hc : S[k] = 32
      · have hcb : ((S[k].toNat : Int) == 32) = true := by rw [hc]; rfl
        clear hc
        go_wp2_with fail
        go_ret
        exact RetB.mk rfl HB4A.out
      · have hcb : ((S[k].toNat : Int) == 32) = false := by
          have : S[k].toNat ≠ 32 := fun e => hc (UInt8.toNat_inj.1 (by rw [e]; rfl))
          simp; omega
        have HC := Lib.hid hc
        clear hc
        go_wp2_with fail
        go_round
        case rel => exact ⟨k + 1, by omega, by go_num, fun j hj => by
          by_cases e : j = k
          · subst e; rw [hgk.out]; intro h; exact HC.out (Option.some.inj h)
          · exact HNO.out j (by omega)⟩
        case measure => simp [intOf]; omega
    · have hmem : (32 : UInt8) ∉ a ++ b := fun hm => by
        obtain ⟨j, hj⟩ := List.mem_iff_getElem?.1 hm
        have hjl := (List.getElem?_eq_some_iff.1 hj).1
        simp at hjl
        exact HNO.out j (by omega) hj
      have hl := HLAW.out (fun h => hmem (List.mem_append_left _ h)) (fun h => hmem (List.mem_append_right _ h)) t
      clear hmem HLAW HNO HGET HSZ
      by_cases he : xe ≠ 0 ∨ ye ≠ 0
      · rw [if_pos he] at hl
        have hzb : (ze != 0) = true := by simpa using hl
        have HZ := Lib.hid hl
        clear hl
        by_cases hx : xe = 0
        · have hy : ye ≠ 0 := by rcases he with h | h; exact absurd hx h; exact h
          have hyb : (ye != 0) = true := by simpa using hy
          subst hx
          clear he hy
          go_wp2_with fail
          go_ret
          exact RetB.mk rfl HB4A.out
        · have hxb : (xe != 0) = true := by simpa using hx
          clear he hx
          go_wp2_with fail
          go_ret
          exact RetB.mk rfl HB4A.out
      · rw [if_neg he] at hl
        obtain ⟨hz, hmi, hat⟩ := hl
        have hx0 : xe = 0 := Classical.byContradiction fun h => he (.inl h)
        have hy0 : ye = 0 := Classical.byContradiction fun h => he (.inr h)
        subst hx0 hy0 hz
        clear he
        have okx := OA.out rfl
        have oky := OB.out rfl
        have okz := OC.out rfl
        have HOR := u64_or_nat xmi ymi okx.1 oky.1
        rw [← hmi] at HOR
        clear hmi OA OB OC
        obtain ⟨wz, hwz⟩ : ∃ wz, wz = w4.alloc (.cells #[.int .u64 zmi, .int .u64 zho, .int .u64 zda, .int .u64 zmo, .int .u64 zwe, .bool zad, .bool zaw] 25) := ⟨_, rfl⟩
        rw [← hwz] at HB4A HXz HXxF HXyF ⊢
        clear hwz
        have g0 : ∀ d os, (grow (redrawn wz d) os).cell? ⟨w2.heap.size, 0, none⟩ = some (.int .u64 xmi) := cell_regrown (blk_cell HXxF.out 0 rfl)
        have g1 : ∀ d os, (grow (redrawn wz d) os).cell? ⟨w2.heap.size, 1, none⟩ = some (.int .u64 xho) := cell_regrown (blk_cell HXxF.out 1 rfl)
        have g2 : ∀ d os, (grow (redrawn wz d) os).cell? ⟨w2.heap.size, 2, none⟩ = some (.int .u64 xda) := cell_regrown (blk_cell HXxF.out 2 rfl)
        have g3 : ∀ d os, (grow (redrawn wz d) os).cell? ⟨w2.heap.size, 3, none⟩ = some (.int .u64 xmo) := cell_regrown (blk_cell HXxF.out 3 rfl)
        have g4 : ∀ d os, (grow (redrawn wz d) os).cell? ⟨w2.heap.size, 4, none⟩ = some (.int .u64 xwe) := cell_regrown (blk_cell HXxF.out 4 rfl)
        have g5 : ∀ d os, (grow (redrawn wz d) os).cell? ⟨w2.heap.size, 5, none⟩ = some (.bool xad) := cell_regrown (blk_cell HXxF.out 5 rfl)
        have g6 : ∀ d os, (grow (redrawn wz d) os).cell? ⟨w2.heap.size, 6, none⟩ = some (.bool xaw) := cell_regrown (blk_cell HXxF.out 6 rfl)
        have g7 : ∀ d os, (grow (redrawn wz d) os).cell? ⟨w3.heap.size, 0, none⟩ = some (.int .u64 ymi) := cell_regrown (blk_cell HXyF.out 0 rfl)
        have g8 : ∀ d os, (grow (redrawn wz d) os).cell? ⟨w3.heap.size, 1, none⟩ = some (.int .u64 yho) := cell_regrown (blk_cell HXyF.out 1 rfl)
        have g9 : ∀ d os, (grow (redrawn wz d) os).cell? ⟨w3.heap.size, 2, none⟩ = some (.int .u64 yda) := cell_regrown (blk_cell HXyF.out 2 rfl)
        have g10 : ∀ d os, (grow (redrawn wz d) os).cell? ⟨w3.heap.size, 3, none⟩ = some (.int .u64 ymo) := cell_regrown (blk_cell HXyF.out 3 rfl)
        have g11 : ∀ d os, (grow (redrawn wz d) os).cell? ⟨w3.heap.size, 4, none⟩ = some (.int .u64 ywe) := cell_regrown (blk_cell HXyF.out 4 rfl)
        have g12 : ∀ d os, (grow (redrawn wz d) os).cell? ⟨w3.heap.size, 5, none⟩ = some (.bool yad) := cell_regrown (blk_cell HXyF.out 5 rfl)
        have g13 : ∀ d os, (grow (redrawn wz d) os).cell? ⟨w3.heap.size, 6, none⟩ = some (.bool yaw) := cell_regrown (blk_cell HXyF.out 6 rfl)
        have g14 : ∀ d os, (grow (redrawn wz d) os).cell? ⟨w4.heap.size, 0, none⟩ = some (.int .u64 zmi) := cell_regrown (blk_cell HXz.out 0 rfl)
        have g15 : ∀ d os, (grow (redrawn wz d) os).cell? ⟨w4.heap.size, 1, none⟩ = some (.int .u64 zho) := cell_regrown (blk_cell HXz.out 1 rfl)
        have g16 : ∀ d os, (grow (redrawn wz d) os).cell? ⟨w4.heap.size, 2, none⟩ = some (.int .u64 zda) := cell_regrown (blk_cell HXz.out 2 rfl)
        have g17 : ∀ d os, (grow (redrawn wz d) os).cell? ⟨w4.heap.size, 3, none⟩ = some (.int .u64 zmo) := cell_regrown (blk_cell HXz.out 3 rfl)
        have g18 : ∀ d os, (grow (redrawn wz d) os).cell? ⟨w4.heap.size, 4, none⟩ = some (.int .u64 zwe) := cell_regrown (blk_cell HXz.out 4 rfl)
        have g19 : ∀ d os, (grow (redrawn wz d) os).cell? ⟨w4.heap.size, 5, none⟩ = some (.bool zad) := cell_regrown (blk_cell HXz.out 5 rfl)
        have g20 : ∀ d os, (grow (redrawn wz d) os).cell? ⟨w4.heap.size, 6, none⟩ = some (.bool zaw) := cell_regrown (blk_cell HXz.out 6 rfl)
        have QX : ∀ d os, Calls Tryd.prog 13 #[.agg #[.int .u64 xmi, .int .u64 xho, .int .u64 xda, .int .u64 xmo, .int .u64 xwe, .bool xad, .bool xaw], .int .i64 t] (grow (redrawn wz d) os) (fun e w'' => e = .returned (.bool (atB ⟨xmi, xho, xda, xmo, xwe, xad, xaw⟩ t)) ∧ ∃ p : Regrown, w'' = grow (redrawn wz p.d) p.os) := fun d os => Calls.regrown_of ((cronAt_any _ _ okx t).mono fun e w' h => ⟨h.1, h.2⟩)
        have QY : ∀ d os, Calls Tryd.prog 13 #[.agg #[.int .u64 ymi, .int .u64 yho, .int .u64 yda, .int .u64 ymo, .int .u64 ywe, .bool yad, .bool yaw], .int .i64 t] (grow (redrawn wz d) os) (fun e w'' => e = .returned (.bool (atB ⟨ymi, yho, yda, ymo, ywe, yad, yaw⟩ t)) ∧ ∃ p : Regrown, w'' = grow (redrawn wz p.d) p.os) := fun d os => Calls.regrown_of ((cronAt_any _ _ oky t).mono fun e w' h => ⟨h.1, h.2⟩)
        have QZ : ∀ d os, Calls Tryd.prog 13 #[.agg #[.int .u64 zmi, .int .u64 zho, .int .u64 zda, .int .u64 zmo, .int .u64 zwe, .bool zad, .bool zaw], .int .i64 t] (grow (redrawn wz d) os) (fun e w'' => e = .returned (.bool (atB ⟨zmi, zho, zda, zmo, zwe, zad, zaw⟩ t)) ∧ ∃ p : Regrown, w'' = grow (redrawn wz p.d) p.os) := fun d os => Calls.regrown_of ((cronAt_any _ _ okz t).mono fun e w' h => ⟨h.1, h.2⟩)
        clear okx oky okz HXz HXxF HXyF
        generalize atB ⟨xmi, xho, xda, xmo, xwe, xad, xaw⟩ t = px at *
        generalize atB ⟨ymi, yho, yda, ymo, ywe, yad, yaw⟩ t = py at *
        generalize atB ⟨zmi, zho, zda, zmo, zwe, zad, zaw⟩ t = pz at *
        have HQX := Lib.hid QX
        have HQY := Lib.hid QY
        have HQZ := Lib.hid QZ
        clear QX QY QZ
        cases px <;> cases py <;> simp only [Bool.or_false, Bool.or_true] at hat <;> subst hat
        all_goals
          go_wp2_with fail
          refine wp_region_quiet_below (by kernel_rfl) (by kernel_rfl) ?_
          repeat (quiet_step (first | (with_reducible exact HQZ.out _ _) | (with_reducible exact HQX.out _ _) | (with_reducible exact HQY.out _ _)))
          refine wpQuiet_nil ?_
          intro _ hw'
          obtain ⟨⟨dq, osq⟩, hw''⟩ := hw'
          subst hw''
          go_wp2_with fail
          go_ret
          exact RetB.mk rfl (HB4A.out.trans (Below.mono (below_regrown wz dq osq) HB4A.out.size))

theorem bsL (a : ByteArray) : a = ⟨a.data.toList.toArray⟩ := rfl
theorem lists_walk (w : World) (hm : MaxL w) (a b rest : ByteArray) (t : Int) (h1 : a.size ≤ maxLen) (h2 : b.size ≤ maxLen) (h3 : rest.size ≤ maxLen) (_ : (Lit.int .i64 t).wf = true) :
    Calls Tryd.prog 4 #[.string a, .string b, .string rest, .int .i64 t] w (RetB (.bool true) w) := by
  have e1 : a.data.toList.length = a.size := rfl
  have e2 : b.data.toList.length = b.size := rfl
  have e3 : rest.data.toList.length = rest.size := rfl
  have em : maxLen = 9223372036854775807 := rfl
  by_cases h : a.data.toList.length ≤ 20 ∧ b.data.toList.length ≤ 20 ∧ rest.data.toList.length ≤ 60
  · exact lists_main w hm a.data.toList b.data.toList rest.data.toList t h.1 h.2.1 h.2.2
  · exact lists_long w hm a.data.toList b.data.toList rest.data.toList t (by omega) (by omega) (by omega) (by omega)

end Go.Proofs.YtfdnhpmdbcfepaaDoor

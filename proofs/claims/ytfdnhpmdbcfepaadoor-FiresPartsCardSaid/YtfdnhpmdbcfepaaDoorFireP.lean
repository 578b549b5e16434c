/- The statement FiresParts: its walk. -/
import Derived.Test.YtfdnhpmdbcfepaaDoorPartsL
import Derived.Lib.QuietBelow
namespace Go.Proofs.YtfdnhpmdbcfepaaDoor
open Go.RowKit Go.ChangeMaps Go.Sort

theorem cronF_okP (s : Bs) (h : (cronF s).2 = 0) : (cronF s).1.Ok := by
  unfold cronF at h ⊢
  split
  · rename_i h2; exact exF_ok s h2
  · rename_i h2; rw [if_neg h2] at h; exact absurd h h2
theorem exVP (e : Ex) (i : Int) : cronV (e, i) = .tuple #[.agg #[.int .u64 e.mi, .int .u64 e.ho, .int .u64 e.da, .int .u64 e.mo, .int .u64 e.we, .bool e.ad, .bool e.aw], .int .i64 i] := rfl

theorem fparts_long (w : World) (hm : MaxL w) (s : Bs) (t a b : Int) (h : 200 < s.length) (h1 : s.length ≤ 9223372036854775807) :
    Calls Tryd.prog 7 #[.string ⟨s.toArray⟩, .int .u32 t, .int .u16 a, .int .u16 b] w (RetB (.bool true) w) := by
  have HM := Lib.hid hm
  clear hm
  go_enter Tryd.func7, Tryd.ntmps7
  go_wp2_with fail
  refine (lives08 _ HM.out).mono ?_
  rintro e w1 ⟨rfl, hb1⟩
  go_wp2_with fail
  refine (lives08 _ (HM.out.step hb1)).mono ?_
  rintro e w2 ⟨rfl, hb2⟩
  go_wp2_with fail
  go_ret
  exact RetB.mk rfl (hb1.trans (hb2.mono hb1.size))

set_option maxRecDepth 100000 in
set_option maxHeartbeats 8000000 in
theorem fparts_main (w : World) (hm : MaxL w) (s : Bs) (t a b : Int) (h1 : s.length ≤ 200) (t0 : 0 ≤ t) (t1 : t ≤ 4294967295) (a0 : 0 ≤ a) (a1 : a ≤ 65535) (b0 : 0 ≤ b) (b1 : b ≤ 65535) :
    Calls Tryd.prog 7 #[.string ⟨s.toArray⟩, .int .u32 t, .int .u16 a, .int .u16 b] w (RetB (.bool true) w) := by
  have HPA := Lib.hid fun W hW => cronParse_any W s hW (by omega)
  have OA := Lib.hid (cronF_okP s)
  have HM := Lib.hid hm
  clear hm
  generalize cronF s = ra at *
  obtain ⟨x, xe⟩ := ra
  obtain ⟨m, hmm⟩ : ∃ m, m = a % 2000 := ⟨_, rfl⟩
  obtain ⟨n, hn⟩ : ∃ n, n = b % 2000 := ⟨_, rfl⟩
  have m0 : 0 ≤ m := by omega
  have m1 : m < 2000 := by omega
  have n0 : 0 ≤ n := by omega
  have n1 : n < 2000 := by omega
  have e1 : a.tmod 2000 = m := by rw [hmm, Int.tmod_eq_emod_of_nonneg a0]
  have e2 : b.tmod 2000 = n := by rw [hn, Int.tmod_eq_emod_of_nonneg b0]
  have e3 : a % 2000 = m := hmm.symm
  have e4 : b % 2000 = n := hn.symm
  have HC : Hid (∀ W u v, x.Ok → -9223372036854775808 ≤ u → u ≤ 9223372036854775807 → Calls Tryd.prog 21 #[x.v, .int .i64 u, .int .i64 v, .int .i64 10000] W (RetB (.int .i64 (cntF x v 10000 u)) W)) := Lib.hid fun W u v ok h1 h2 => count_any W x ok u v 10000 h1 h2 (by decide) (by decide)
  have HL := Lib.hid (parts_law x t m n t0 t1 m0 m1 n0 n1)
  have HR1 := Lib.hid (cnt_range x (t + m) 10000 t)
  have HR2 := Lib.hid (cnt_range x (t + m + n) 10000 (t + m))
  have ev : x.v = .agg #[.int .u64 x.mi, .int .u64 x.ho, .int .u64 x.da, .int .u64 x.mo, .int .u64 x.we, .bool x.ad, .bool x.aw] := rfl
  rw [ev] at HC
  simp only [exVP] at HPA
  simp only at OA
  clear ev hmm hn
  generalize x.mi = xmi at *
  generalize x.ho = xho at *
  generalize x.da = xda at *
  generalize x.mo = xmo at *
  generalize x.we = xwe at *
  generalize x.ad = xad at *
  generalize x.aw = xaw at *
  go_enter Tryd.func7, Tryd.ntmps7
  go_wp2_with fail
  refine (lives08 _ HM.out).mono ?_
  rintro e w1 ⟨rfl, hb1⟩
  have HB1 := Lib.hid hb1
  clear hb1
  go_wp2_with fail
  refine (HPA.out _ (HM.out.step HB1.out)).mono ?_
  rintro e w2 ⟨rfl, hb2⟩
  have HB2 := Lib.hid (HB1.out.trans (hb2.mono HB1.out.size))
  have HB2A := Lib.hid (HB2.out.alloc HB2.out.size (.cells #[.int .u64 xmi, .int .u64 xho, .int .u64 xda, .int .u64 xmo, .int .u64 xwe, .bool xad, .bool xaw] 25))
  have HX := Lib.hid (heap_new w2 (.cells #[.int .u64 xmi, .int .u64 xho, .int .u64 xda, .int .u64 xmo, .int .u64 xwe, .bool xad, .bool xaw] 25))
  clear hb2 HPA
  by_cases he : xe = 0
  · subst he
    have ok := OA.out rfl
    have HCX := Lib.hid fun W u v h1 h2 => HC.out W u v ok h1 h2
    clear HC OA ok
    go_upto_region 9 with (fail)
    obtain ⟨wz, hwz⟩ : ∃ wz, wz = w2.alloc (.cells #[.int .u64 xmi, .int .u64 xho, .int .u64 xda, .int .u64 xmo, .int .u64 xwe, .bool xad, .bool xaw] 25) := ⟨_, rfl⟩
    rw [← hwz] at HB2A HX ⊢
    clear hwz
    have g0 : ∀ d os, (grow (redrawn wz d) os).cell? ⟨w2.heap.size, 0, none⟩ = some (.int .u64 xmi) := cell_regrown (blk_cell HX.out 0 rfl)
    have g1 : ∀ d os, (grow (redrawn wz d) os).cell? ⟨w2.heap.size, 1, none⟩ = some (.int .u64 xho) := cell_regrown (blk_cell HX.out 1 rfl)
    have g2 : ∀ d os, (grow (redrawn wz d) os).cell? ⟨w2.heap.size, 2, none⟩ = some (.int .u64 xda) := cell_regrown (blk_cell HX.out 2 rfl)
    have g3 : ∀ d os, (grow (redrawn wz d) os).cell? ⟨w2.heap.size, 3, none⟩ = some (.int .u64 xmo) := cell_regrown (blk_cell HX.out 3 rfl)
    have g4 : ∀ d os, (grow (redrawn wz d) os).cell? ⟨w2.heap.size, 4, none⟩ = some (.int .u64 xwe) := cell_regrown (blk_cell HX.out 4 rfl)
    have g5 : ∀ d os, (grow (redrawn wz d) os).cell? ⟨w2.heap.size, 5, none⟩ = some (.bool xad) := cell_regrown (blk_cell HX.out 5 rfl)
    have g6 : ∀ d os, (grow (redrawn wz d) os).cell? ⟨w2.heap.size, 6, none⟩ = some (.bool xaw) := cell_regrown (blk_cell HX.out 6 rfl)
    have QA := Lib.hid fun d os => Calls.regrown_of ((HCX.out (grow (redrawn wz d) os) t (t + m) (by omega) (by omega)).mono fun e w' h => ⟨h.1, h.2⟩)
    have QB := Lib.hid fun d os => Calls.regrown_of ((HCX.out (grow (redrawn wz d) os) (t + m) (t + m + n) (by omega) (by omega)).mono fun e w' h => ⟨h.1, h.2⟩)
    have QC := Lib.hid fun d os => Calls.regrown_of ((HCX.out (grow (redrawn wz d) os) t (t + m + n) (by omega) (by omega)).mono fun e w' h => ⟨h.1, h.2⟩)
    rw [← HL.out] at QC
    have r1 := HR1.out
    have r2 := HR2.out
    generalize cntF x (t + m) 10000 t = c1 at *
    generalize cntF x (t + m + n) 10000 (t + m) = c2 at *
    have hwr : IntKind.i64.wrap (c1 + c2) = c1 + c2 := wrap_civ _ (by omega) (by omega)
    clear HCX HL HR1 HR2 r1 r2
    refine wp_region_quiet_below (by kernel_rfl) (by kernel_rfl) ?_
    repeat (quiet_step (first | (with_reducible exact QA.out _ _) | (with_reducible exact QB.out _ _) | (with_reducible exact QC.out _ _)))
    refine wpQuiet_nil ?_
    intro w3 hw'
    have hb3 : Below wz.heap.size wz w3 := by
      obtain ⟨⟨dq, osq⟩, hw''⟩ := hw'
      subst hw''
      exact below_regrown wz dq osq
    go_wp2_with fail
    go_ret
    exact RetB.mk (by simp) (HB2A.out.trans (hb3.mono HB2A.out.size))
  · have hb : (xe != 0) = true := by simpa using he
    clear he HC HL
    go_wp2_with fail
    go_ret
    exact RetB.mk rfl HB2A.out

theorem fparts_walk (w : World) (hm : MaxL w) (s : ByteArray) (t a b : Int) (h1 : s.size ≤ maxLen) (ht : (Lit.int .u32 t).wf = true) (ha : (Lit.int .u16 a).wf = true) (hb : (Lit.int .u16 b).wf = true) :
    Calls Tryd.prog 7 #[.string s, .int .u32 t, .int .u16 a, .int .u16 b] w (RetB (.bool true) w) := by
  have e1 : s.data.toList.length = s.size := rfl
  have em : maxLen = 9223372036854775807 := rfl
  obtain ⟨t0, t1⟩ : 0 ≤ t ∧ t ≤ 4294967295 := by simp [Lit.wf, IntKind.min, IntKind.max, IntKind.bits, IntKind.signed] at ht; omega
  obtain ⟨a0, a1⟩ : 0 ≤ a ∧ a ≤ 65535 := by simp [Lit.wf, IntKind.min, IntKind.max, IntKind.bits, IntKind.signed] at ha; omega
  obtain ⟨b0, b1⟩ : 0 ≤ b ∧ b ≤ 65535 := by simp [Lit.wf, IntKind.min, IntKind.max, IntKind.bits, IntKind.signed] at hb; omega
  by_cases h : s.data.toList.length ≤ 200
  · exact fparts_main w hm s.data.toList t a b h t0 t1 a0 a1 b0 b1
  · exact fparts_long w hm s.data.toList t a b (by omega) (by omega)

end Go.Proofs.YtfdnhpmdbcfepaaDoor

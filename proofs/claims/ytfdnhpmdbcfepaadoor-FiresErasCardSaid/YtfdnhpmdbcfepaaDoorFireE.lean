/- The statement FiresEras: its walk (printed by wip/tools/gen_fires.py). -/
import Derived.Test.YtfdnhpmdbcfepaaDoorFireN
import Derived.Lib.QuietBelow
namespace Go.Proofs.YtfdnhpmdbcfepaaDoor
open Go.RowKit Go.ChangeMaps Go.Sort

theorem nextF_range (e : Ex) (t : Int) : 0 ≤ (nextF e t).1 ∧ (nextF e t).1 ≤ 1099511627776 := by
  unfold nextF
  split
  · exact ⟨by decide, by decide⟩
  · rename_i h
    have hp : perEra = 210379680 := rfl
    rcases nxt_cases e (min (max t (-1) + 1 + perEra) 1099511627776 + 1 - (max t (-1) + 1)).toNat (max t (-1) + 1) with ⟨u, h1, h2, h3, _⟩ | ⟨h1, _⟩
    · rw [h1]; simp only; omega
    · rw [h1]; exact ⟨by decide, by decide⟩

theorem cronF_ok8 (s : Bs) (h : (cronF s).2 = 0) : (cronF s).1.Ok := by
  unfold cronF at h ⊢
  split
  · rename_i h2; exact exF_ok s h2
  · rename_i h2; rw [if_neg h2] at h; exact absurd h h2
theorem exV8 (e : Ex) (i : Int) : cronV (e, i) = .tuple #[.agg #[.int .u64 e.mi, .int .u64 e.ho, .int .u64 e.da, .int .u64 e.mo, .int .u64 e.we, .bool e.ad, .bool e.aw], .int .i64 i] := rfl

theorem eras_long (w : World) (hm : MaxL w) (s : Bs) (t : Int) (h : 200 < s.length) (h1 : s.length ≤ 9223372036854775807) :
    Calls Tryd.prog 6 #[.string ⟨s.toArray⟩, .int .u32 t] w (RetB (.bool true) w) := by
  have HM := Lib.hid hm
  clear hm
  go_enter Tryd.func6, Tryd.ntmps6
  go_wp2_with fail
  refine (lives08 _ HM.out).mono ?_
  rintro e w1 ⟨rfl, hb1⟩
  go_wp2_with fail
  refine (lives08 _ (HM.out.step hb1)).mono ?_
  rintro e w2 ⟨rfl, hb2⟩
  go_wp2_with fail
  go_ret
  exact RetB.mk rfl (hb1.trans (hb2.mono hb1.size))

set_option maxRecDepth 100000 in
set_option maxHeartbeats 8000000 in
theorem eras_main (w : World) (hm : MaxL w) (s : Bs) (t : Int) (h1 : s.length ≤ 200) (t0 : 0 ≤ t) (t1 : t ≤ 4294967295) :
    Calls Tryd.prog 6 #[.string ⟨s.toArray⟩, .int .u32 t] w (RetB (.bool true) w) := by
  have HPA := Lib.hid fun W hW => cronParse_any W s hW (by omega)
  have OA := Lib.hid (cronF_ok8 s)
  have HM := Lib.hid hm
  clear hm
  generalize cronF s = ra at *
  obtain ⟨x, xe⟩ := ra
  have HA : Hid (∀ W u, x.Ok → Calls Tryd.prog 13 #[x.v, .int .i64 u] W (RetB (.bool (atB x u)) W)) := Lib.hid fun W u ok => cronAt_any W x ok u
  have HN : Hid (∀ W u, x.Ok → -9223372036854775808 ≤ u → u ≤ 9223372036854775807 → Calls Tryd.prog 19 #[x.v, .int .i64 u] W (RetB (nextV (nextF x u)) W)) := Lib.hid fun W u ok => next_any W x ok u
  have HE : Hid (∀ W, x.Ok → Calls Tryd.prog 20 #[x.v] W (RetB (.bool (nextF x (-1)).2) W)) := Lib.hid fun W ok => ever_any W x ok
  have HL := Lib.hid (eras_law x t t0 t1)
  have HR1 := Lib.hid (nextF_range x t)
  have HR2 := Lib.hid (nextF_range x (t + perEra))
  rw [show perEra = (210379680 : Int) from rfl] at HL HR2
  have ev : x.v = .agg #[.int .u64 x.mi, .int .u64 x.ho, .int .u64 x.da, .int .u64 x.mo, .int .u64 x.we, .bool x.ad, .bool x.aw] := rfl
  rw [ev] at HA HN HE
  simp only [exV8] at HPA
  simp only at OA
  clear ev
  generalize x.mi = xmi at *
  generalize x.ho = xho at *
  generalize x.da = xda at *
  generalize x.mo = xmo at *
  generalize x.we = xwe at *
  generalize x.ad = xad at *
  generalize x.aw = xaw at *
  go_enter Tryd.func6, Tryd.ntmps6
  go_wp2_with fail
  refine (lives08 _ HM.out).mono ?_
  rintro e w1 ⟨rfl, hb1⟩
  have HB1 := Lib.hid hb1
  clear hb1
  go_wp2_with fail
  refine (HPA.out _ (HM.out.step HB1.out)).mono ?_
  rintro e w2 ⟨rfl, hb2⟩
  have HB2 := Lib.hid (HB1.out.trans (hb2.mono HB1.out.size))
  have HB2A := Lib.hid (HB2.out.alloc HB2.out.size (.cells #[.int .u64 xmi, .int .u64 xho, .int .u64 xda, .int .u64 xmo, .int .u64 xwe, .bool xad, .bool xaw] 25))
  have HX := Lib.hid (heap_new w2 (.cells #[.int .u64 xmi, .int .u64 xho, .int .u64 xda, .int .u64 xmo, .int .u64 xwe, .bool xad, .bool xaw] 25))
  clear hb2 HPA
  by_cases he : xe = 0
  · subst he
    have ok := OA.out rfl
    have HAX := Lib.hid fun W u => HA.out W u ok
    have HNX := Lib.hid fun W => HN.out W t ok (by omega) (by omega)
    have HNY := Lib.hid fun W => HN.out W (t + 210379680) ok (by omega) (by omega)
    have HEX := Lib.hid fun W => HE.out W ok
    clear HA HN HE OA ok
    go_upto_region 7 with (fail)
    obtain ⟨wz, hwz⟩ : ∃ wz, wz = w2.alloc (.cells #[.int .u64 xmi, .int .u64 xho, .int .u64 xda, .int .u64 xmo, .int .u64 xwe, .bool xad, .bool xaw] 25) := ⟨_, rfl⟩
    rw [← hwz] at HB2A HX ⊢
    clear hwz
    have g0 : ∀ d os, (grow (redrawn wz d) os).cell? ⟨w2.heap.size, 0, none⟩ = some (.int .u64 xmi) := cell_regrown (blk_cell HX.out 0 rfl)
    have g1 : ∀ d os, (grow (redrawn wz d) os).cell? ⟨w2.heap.size, 1, none⟩ = some (.int .u64 xho) := cell_regrown (blk_cell HX.out 1 rfl)
    have g2 : ∀ d os, (grow (redrawn wz d) os).cell? ⟨w2.heap.size, 2, none⟩ = some (.int .u64 xda) := cell_regrown (blk_cell HX.out 2 rfl)
    have g3 : ∀ d os, (grow (redrawn wz d) os).cell? ⟨w2.heap.size, 3, none⟩ = some (.int .u64 xmo) := cell_regrown (blk_cell HX.out 3 rfl)
    have g4 : ∀ d os, (grow (redrawn wz d) os).cell? ⟨w2.heap.size, 4, none⟩ = some (.int .u64 xwe) := cell_regrown (blk_cell HX.out 4 rfl)
    have g5 : ∀ d os, (grow (redrawn wz d) os).cell? ⟨w2.heap.size, 5, none⟩ = some (.bool xad) := cell_regrown (blk_cell HX.out 5 rfl)
    have g6 : ∀ d os, (grow (redrawn wz d) os).cell? ⟨w2.heap.size, 6, none⟩ = some (.bool xaw) := cell_regrown (blk_cell HX.out 6 rfl)
    have QX := Lib.hid fun d os u => Calls.regrown_of ((HAX.out (grow (redrawn wz d) os) u).mono fun e w' h => ⟨h.1, h.2⟩)
    have QA := Lib.hid fun d os => QX.out d os t
    have QB := Lib.hid fun d os => QX.out d os (t + 210379680)
    have e1 := HL.out.1
    rw [e1] at QB
    clear HAX QX e1
    generalize atB x t = pa at *
    have hwr : IntKind.i64.wrap (t + 210379680) = t + 210379680 := wrap_civ _ (by omega) (by omega)
    refine wp_region_quiet_below (by kernel_rfl) (by kernel_rfl) ?_
    repeat (quiet_step (first | (with_reducible exact QA.out _ _) | (with_reducible exact QB.out _ _)))
    refine wpQuiet_nil ?_
    intro w3 hw'
    have hb3 : Below wz.heap.size wz w3 := by
      obtain ⟨⟨dq, osq⟩, hw''⟩ := hw'
      subst hw''
      exact below_regrown wz dq osq
    clear hw' g0 g1 g2 g3 g4 g5 g6
    have hx3 := bheap hb3 HX.out (heap_lt HX.out)
    have HX3 := Lib.hid hx3
    have HB3 := Lib.hid (HB2A.out.trans (hb3.mono HB2A.out.size))
    have c0 : w3.cell? ⟨w2.heap.size, 0, none⟩ = some (.int .u64 xmi) := blk_cell hx3 0 rfl
    have c1 : w3.cell? ⟨w2.heap.size, 1, none⟩ = some (.int .u64 xho) := blk_cell hx3 1 rfl
    have c2 : w3.cell? ⟨w2.heap.size, 2, none⟩ = some (.int .u64 xda) := blk_cell hx3 2 rfl
    have c3 : w3.cell? ⟨w2.heap.size, 3, none⟩ = some (.int .u64 xmo) := blk_cell hx3 3 rfl
    have c4 : w3.cell? ⟨w2.heap.size, 4, none⟩ = some (.int .u64 xwe) := blk_cell hx3 4 rfl
    have c5 : w3.cell? ⟨w2.heap.size, 5, none⟩ = some (.bool xad) := blk_cell hx3 5 rfl
    have c6 : w3.cell? ⟨w2.heap.size, 6, none⟩ = some (.bool xaw) := blk_cell hx3 6 rfl
    clear hx3 hb3
    have HL2 := Lib.hid HL.out.2
    have HNEG := Lib.hid HL.out.2.2.1
    clear HL
    rw [HL2.out.2.1] at HEX
    clear HNEG
    generalize nextF x (-1) = Z at *
    generalize nextF x (t + 210379680) = M at *
    generalize nextF x t = N at *
    obtain ⟨n1, n2⟩ := N
    obtain ⟨m1, m2⟩ := M
    obtain ⟨a1, a2, a3⟩ := HL2.out
    obtain ⟨i1, i2⟩ := HR1.out
    obtain ⟨i3, i4⟩ := HR2.out
    unfold nextV at HNX HNY
    simp only at a1 a2 a3 i1 i2 i3 i4 HNX HNY HEX
    clear HL2 HR1 HR2
    subst a1
    cases m2
    all_goals
      simp only [Bool.false_eq_true, false_implies, true_implies] at a3
      try subst a3
      go_wp2_with fail
      refine (HNX.out _).mono ?_
      rintro e w4 ⟨rfl, hb4⟩
      have hx4 := bheap hb4 HX3.out (heap_lt HX3.out)
      have HX4 := Lib.hid hx4
      have HB4 := Lib.hid (HB3.out.trans (hb4.mono HB3.out.size))
      have d0 : w4.cell? ⟨w2.heap.size, 0, none⟩ = some (.int .u64 xmi) := blk_cell hx4 0 rfl
      have d1 : w4.cell? ⟨w2.heap.size, 1, none⟩ = some (.int .u64 xho) := blk_cell hx4 1 rfl
      have d2 : w4.cell? ⟨w2.heap.size, 2, none⟩ = some (.int .u64 xda) := blk_cell hx4 2 rfl
      have d3 : w4.cell? ⟨w2.heap.size, 3, none⟩ = some (.int .u64 xmo) := blk_cell hx4 3 rfl
      have d4 : w4.cell? ⟨w2.heap.size, 4, none⟩ = some (.int .u64 xwe) := blk_cell hx4 4 rfl
      have d5 : w4.cell? ⟨w2.heap.size, 5, none⟩ = some (.bool xad) := blk_cell hx4 5 rfl
      have d6 : w4.cell? ⟨w2.heap.size, 6, none⟩ = some (.bool xaw) := blk_cell hx4 6 rfl
      clear hx4 hb4 c0 c1 c2 c3 c4 c5 c6
      go_wp2_with fail
      refine (HNY.out _).mono ?_
      rintro e w5 ⟨rfl, hb5⟩
      have hx5 := bheap hb5 HX4.out (heap_lt HX4.out)
      have HB5 := Lib.hid (HB4.out.trans (hb5.mono HB4.out.size))
      have e0 : w5.cell? ⟨w2.heap.size, 0, none⟩ = some (.int .u64 xmi) := blk_cell hx5 0 rfl
      have e1 : w5.cell? ⟨w2.heap.size, 1, none⟩ = some (.int .u64 xho) := blk_cell hx5 1 rfl
      have e2 : w5.cell? ⟨w2.heap.size, 2, none⟩ = some (.int .u64 xda) := blk_cell hx5 2 rfl
      have e3 : w5.cell? ⟨w2.heap.size, 3, none⟩ = some (.int .u64 xmo) := blk_cell hx5 3 rfl
      have e4 : w5.cell? ⟨w2.heap.size, 4, none⟩ = some (.int .u64 xwe) := blk_cell hx5 4 rfl
      have e5 : w5.cell? ⟨w2.heap.size, 5, none⟩ = some (.bool xad) := blk_cell hx5 5 rfl
      have e6 : w5.cell? ⟨w2.heap.size, 6, none⟩ = some (.bool xaw) := blk_cell hx5 6 rfl
      clear hx5 hb5 d0 d1 d2 d3 d4 d5 d6
      go_wp2_with fail
      refine (HEX.out _).mono ?_
      rintro e w6 ⟨rfl, hb6⟩
      go_wp2_with fail
      go_ret
      exact RetB.mk rfl (HB5.out.trans (hb6.mono HB5.out.size))
  · have hb : (xe != 0) = true := by simpa using he
    clear he HA HN HE HL
    go_wp2_with fail
    go_ret
    exact RetB.mk rfl HB2A.out

theorem eras_walk (w : World) (hm : MaxL w) (s : ByteArray) (t : Int) (h1 : s.size ≤ maxLen) (ht : (Lit.int .u32 t).wf = true) :
    Calls Tryd.prog 6 #[.string s, .int .u32 t] w (RetB (.bool true) w) := by
  have e1 : s.data.toList.length = s.size := rfl
  have em : maxLen = 9223372036854775807 := rfl
  obtain ⟨t0, t1⟩ : 0 ≤ t ∧ t ≤ 4294967295 := by simp [Lit.wf, IntKind.min, IntKind.max, IntKind.bits, IntKind.signed] at ht; omega
  by_cases h : s.data.toList.length ≤ 200
  · exact eras_main w hm s.data.toList t h t0 t1
  · exact eras_long w hm s.data.toList t (by omega) (by omega)

end Go.Proofs.YtfdnhpmdbcfepaaDoor

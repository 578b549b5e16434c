/- The statement CronNames: its walk. -/
import Derived.Test.YtfdnhpmdbcfepaaDoorRefK
import Derived.Test.YtfdnhpmdbcfepaaDoorLives07
namespace Go.Proofs.YtfdnhpmdbcfepaaDoor
open Go.RowKit Go.Maps Go.ChangeMaps

theorem names_long (w : World) (hm : MaxL w) (s : Bs) (t : Int) (h : 200 < s.length) (h1 : s.length ≤ 9223372036854775807) :
    Calls Tryd.prog 3 #[.string ⟨s.toArray⟩, .int .i64 t] w (RetB (.bool true) w) := by
  have HM := Lib.hid hm
  clear hm
  go_enter Tryd.func3, Tryd.ntmps3
  go_wp2_with fail
  refine (lives07 _ HM.out).mono ?_
  rintro e w1 ⟨rfl, hb1⟩
  go_wp2_with fail
  refine (lives07 _ (HM.out.step hb1)).mono ?_
  rintro e w2 ⟨rfl, hb2⟩
  go_wp2_with fail
  go_ret
  exact RetB.mk rfl (hb1.trans (hb2.mono hb1.size))

theorem cronF_is (s : Bs) (h : (cronF s).2 = 0) : (parseF s).2 = 0 ∧ (cronF s).1 = exF s ∧ (cronF s).1.Ok := by
  unfold cronF at h ⊢
  split
  · rename_i h2; exact ⟨h2, rfl, exF_ok s h2⟩
  · rename_i h2; rw [if_neg h2] at h; exact absurd h h2
theorem exV7 (e : Ex) (i : Int) : cronV (e, i) = .tuple #[.agg #[.int .u64 e.mi, .int .u64 e.ho, .int .u64 e.da, .int .u64 e.mo, .int .u64 e.we, .bool e.ad, .bool e.aw], .int .i64 i] := rfl

set_option maxRecDepth 100000 in
set_option maxHeartbeats 8000000 in
theorem names_main (w : World) (hm : MaxL w) (s : Bs) (t : Int) (h1 : s.length ≤ 200) :
    Calls Tryd.prog 3 #[.string ⟨s.toArray⟩, .int .i64 t] w (RetB (.bool true) w) := by
  have HPA := Lib.hid fun W hW => cronParse_any W s hW (by omega)
  have OA := Lib.hid (cronF_is s)
  have HM := Lib.hid hm
  clear hm
  generalize cronF s = ra at *
  obtain ⟨x, xe⟩ := ra
  have HA : Hid (∀ W, x.Ok → Calls Tryd.prog 13 #[x.v, .int .i64 t] W (RetB (.bool (atB x t)) W)) := Lib.hid fun W ok => cronAt_any W x ok t
  have HN : Hid (∀ W, x.Ok → 0 ≤ t → Calls Tryd.prog 17 #[x.v, (momF t).v] W (RetB (.bool (namesM x (momF t))) W)) := Lib.hid fun W ok h0 => namesM_any W x ok t h0
  have HK : Hid ((parseF s).2 = 0 → x = exF s → 0 ≤ t → t ≤ 1099511627776 → namedF (refV s) (splitL 32 s) (momF t) = atB x t ∧ namesM x (momF t) = atB x t) := Lib.hid fun h e a b => by
    subst e
    exact ⟨named_at h a b, by unfold atB; rw [if_pos ⟨a, b⟩]⟩
  have HOUT : Hid (t < 0 ∨ 1099511627776 < t → atB x t = false) := Lib.hid fun h => by unfold atB; rw [if_neg (by omega)]
  have ev : x.v = .agg #[.int .u64 x.mi, .int .u64 x.ho, .int .u64 x.da, .int .u64 x.mo, .int .u64 x.we, .bool x.ad, .bool x.aw] := rfl
  rw [ev] at HA HN
  simp only [exV7] at HPA
  simp only at OA
  clear ev
  generalize x.mi = xmi at *
  generalize x.ho = xho at *
  generalize x.da = xda at *
  generalize x.mo = xmo at *
  generalize x.we = xwe at *
  generalize x.ad = xad at *
  generalize x.aw = xaw at *
  go_enter Tryd.func3, Tryd.ntmps3
  go_wp2_with fail
  refine (lives07 _ HM.out).mono ?_
  rintro e w1 ⟨rfl, hb1⟩
  have HB1 := Lib.hid hb1
  clear hb1
  go_wp2_with fail
  refine (HPA.out _ (HM.out.step HB1.out)).mono ?_
  rintro e w2 ⟨rfl, hb2⟩
  have HB2 := Lib.hid (HB1.out.trans (hb2.mono HB1.out.size))
  have HB2A := Lib.hid (HB2.out.alloc HB2.out.size (.cells #[.int .u64 xmi, .int .u64 xho, .int .u64 xda, .int .u64 xmo, .int .u64 xwe, .bool xad, .bool xaw] 25))
  have HX := Lib.hid (heap_new w2 (.cells #[.int .u64 xmi, .int .u64 xho, .int .u64 xda, .int .u64 xmo, .int .u64 xwe, .bool xad, .bool xaw] 25))
  clear hb2 HPA
  by_cases he : xe = 0
  · subst he
    obtain ⟨hpz, hex, ok⟩ := OA.out rfl
    have HAX := Lib.hid fun W => HA.out W ok
    by_cases hout : t < 0 ∨ 1099511627776 < t
    · have hat := HOUT.out hout
      rw [hat] at HAX
      clear HN HK HOUT OA ok hat hex
      by_cases hneg : t < 0
      all_goals
        try have hbig : 1099511627776 < t := by omega
        go_wp2_with fail
        refine (HAX.out _).mono ?_
        rintro e w3 ⟨rfl, hb3⟩
        go_wp2_with fail
        go_ret
        exact RetB.mk rfl (HB2A.out.trans (hb3.mono HB2A.out.size))
    · have t0 : 0 ≤ t := by omega
      have t1 : t ≤ 1099511627776 := by omega
      obtain ⟨k1, k2⟩ := HK.out hpz hex t0 t1
      have HNX := Lib.hid fun W => HN.out W ok t0
      rw [k2] at HNX
      have hr := mom_range t0
      have HNM : Hid (∀ W v l, RefAt W v l (refV s) (splitL 32 s) → Calls Tryd.prog 16 #[v, l, (momF t).v] W (RetB (.bool (atB x t)) W)) := Lib.hid fun W v l h => by
        have := named_any W v l (refV s) (splitL 32 s) (momF t) h (by omega) (by omega) (by omega) (by omega) (by omega)
        rw [k1] at this; exact this
      have HRP := Lib.hid fun W => refParse_ok W s hpz
      have HRM := Lib.hid fun W => refMoment_any W t t0 t1
      clear HN HK HOUT OA ok hex k1 k2 hr HA hout
      generalize atB x t = pa at *
      generalize momF t = M at *
      obtain ⟨my, mmo, md, mwd, mh, mmi⟩ := M
      unfold Mom.v at *
      simp only at *
      go_wp2_with fail
      refine (HRP.out _).mono ?_
      rintro e w3 ⟨v, l, rfl, href, hb3⟩
      have hx3 := bheap hb3 HX.out (heap_lt HX.out)
      have HX3 := Lib.hid hx3
      have HB3 := Lib.hid (HB2A.out.trans (hb3.mono HB2A.out.size))
      have HREF := Lib.hid href
      clear hx3 hb3 href
      go_wp2_with fail
      refine (HRM.out _).mono ?_
      rintro e w4 ⟨rfl, hb4⟩
      have HX4 := Lib.hid (bheap hb4 HX3.out (heap_lt HX3.out))
      have HB4 := Lib.hid (HB3.out.trans (hb4.mono HB3.out.size))
      have HREF4 := Lib.hid (HREF.out.below hb4)
      have HX4A := Lib.hid (aheap HX4.out (.cells #[.int .i64 my, .int .i64 mmo, .int .i64 md, .int .i64 mwd, .int .i64 mh, .int .i64 mmi] 35))
      have HM4A := Lib.hid (heap_new w4 (.cells #[.int .i64 my, .int .i64 mmo, .int .i64 md, .int .i64 mwd, .int .i64 mh, .int .i64 mmi] 35))
      have HB4A := Lib.hid (HB4.out.alloc HB4.out.size (.cells #[.int .i64 my, .int .i64 mmo, .int .i64 md, .int .i64 mwd, .int .i64 mh, .int .i64 mmi] 35))
      have HREF4A := Lib.hid (HREF4.out.below ((Below.refl _ w4).alloc (Nat.le_refl _) (.cells #[.int .i64 my, .int .i64 mmo, .int .i64 md, .int .i64 mwd, .int .i64 mh, .int .i64 mmi] 35)))
      clear hb4
      go_wp2_with fail
      refine (HNM.out _ _ _ HREF4A.out).mono ?_
      rintro e w5 ⟨rfl, hb5⟩
      have hx5 := bheap hb5 HX4A.out (heap_lt HX4A.out)
      have hm5 := bheap hb5 HM4A.out (heap_lt HM4A.out)
      have HX5 := Lib.hid hx5
      have HM5 := Lib.hid hm5
      have HB5 := Lib.hid (HB4A.out.trans (hb5.mono HB4A.out.size))
      have c0 : w5.cell? ⟨w2.heap.size, 0, none⟩ = some (.int .u64 xmi) := blk_cell hx5 0 rfl
      have c1 : w5.cell? ⟨w2.heap.size, 1, none⟩ = some (.int .u64 xho) := blk_cell hx5 1 rfl
      have c2 : w5.cell? ⟨w2.heap.size, 2, none⟩ = some (.int .u64 xda) := blk_cell hx5 2 rfl
      have c3 : w5.cell? ⟨w2.heap.size, 3, none⟩ = some (.int .u64 xmo) := blk_cell hx5 3 rfl
      have c4 : w5.cell? ⟨w2.heap.size, 4, none⟩ = some (.int .u64 xwe) := blk_cell hx5 4 rfl
      have c5 : w5.cell? ⟨w2.heap.size, 5, none⟩ = some (.bool xad) := blk_cell hx5 5 rfl
      have c6 : w5.cell? ⟨w2.heap.size, 6, none⟩ = some (.bool xaw) := blk_cell hx5 6 rfl
      clear hx5 hm5 hb5
      go_wp2_with fail
      refine (HAX.out _).mono ?_
      rintro e w6 ⟨rfl, hb6⟩
      have hx6 := bheap hb6 HX5.out (heap_lt HX5.out)
      have hm6 := bheap hb6 HM5.out (heap_lt HM5.out)
      have HB6 := Lib.hid (HB5.out.trans (hb6.mono HB5.out.size))
      have d0 : w6.cell? ⟨w2.heap.size, 0, none⟩ = some (.int .u64 xmi) := blk_cell hx6 0 rfl
      have d1 : w6.cell? ⟨w2.heap.size, 1, none⟩ = some (.int .u64 xho) := blk_cell hx6 1 rfl
      have d2 : w6.cell? ⟨w2.heap.size, 2, none⟩ = some (.int .u64 xda) := blk_cell hx6 2 rfl
      have d3 : w6.cell? ⟨w2.heap.size, 3, none⟩ = some (.int .u64 xmo) := blk_cell hx6 3 rfl
      have d4 : w6.cell? ⟨w2.heap.size, 4, none⟩ = some (.int .u64 xwe) := blk_cell hx6 4 rfl
      have d5 : w6.cell? ⟨w2.heap.size, 5, none⟩ = some (.bool xad) := blk_cell hx6 5 rfl
      have d6 : w6.cell? ⟨w2.heap.size, 6, none⟩ = some (.bool xaw) := blk_cell hx6 6 rfl
      have m0 : w6.cell? ⟨w4.heap.size, 0, none⟩ = some (.int .i64 my) := blk_cell hm6 0 rfl
      have m1 : w6.cell? ⟨w4.heap.size, 1, none⟩ = some (.int .i64 mmo) := blk_cell hm6 1 rfl
      have m2 : w6.cell? ⟨w4.heap.size, 2, none⟩ = some (.int .i64 md) := blk_cell hm6 2 rfl
      have m3 : w6.cell? ⟨w4.heap.size, 3, none⟩ = some (.int .i64 mwd) := blk_cell hm6 3 rfl
      have m4 : w6.cell? ⟨w4.heap.size, 4, none⟩ = some (.int .i64 mh) := blk_cell hm6 4 rfl
      have m5 : w6.cell? ⟨w4.heap.size, 5, none⟩ = some (.int .i64 mmi) := blk_cell hm6 5 rfl
      clear hx6 hm6 hb6 c0 c1 c2 c3 c4 c5 c6
      go_wp2_with fail
      refine (HNX.out _).mono ?_
      rintro e w7 ⟨rfl, hb7⟩
      cases pa
      all_goals
        go_wp2_with fail
        go_ret
        exact RetB.mk rfl (HB6.out.trans (hb7.mono HB6.out.size))
  · have hb : (xe != 0) = true := by simpa using he
    clear he HA HN HK
    go_wp2_with fail
    go_ret
    exact RetB.mk rfl HB2A.out

theorem names_walk (w : World) (hm : MaxL w) (s : ByteArray) (t : Int) (h1 : s.size ≤ maxLen) (_ : (Lit.int .i64 t).wf = true) :
    Calls Tryd.prog 3 #[.string s, .int .i64 t] w (RetB (.bool true) w) := by
  have e1 : s.data.toList.length = s.size := rfl
  have em : maxLen = 9223372036854775807 := rfl
  by_cases h : s.data.toList.length ≤ 200
  · exact names_main w hm s.data.toList t h
  · exact names_long w hm s.data.toList t (by omega) (by omega)

end Go.Proofs.YtfdnhpmdbcfepaaDoor

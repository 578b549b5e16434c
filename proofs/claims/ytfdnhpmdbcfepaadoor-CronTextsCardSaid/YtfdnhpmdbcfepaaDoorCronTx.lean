/- The statement CronTexts: its walk. -/
import Derived.Test.YtfdnhpmdbcfepaaDoorTextE
import Derived.Test.YtfdnhpmdbcfepaaDoorTextK
import Derived.Test.YtfdnhpmdbcfepaaDoorTabL
import Derived.Test.YtfdnhpmdbcfepaaDoorLives07
namespace Go.Proofs.YtfdnhpmdbcfepaaDoor
open Go.RowKit Go.ChangeMaps

theorem texts_long (w : World) (hm : MaxL w) (s : Bs) (h : 200 < s.length) (h1 : s.length ≤ 9223372036854775807) :
    Calls Tryd.prog 9 #[.string ⟨s.toArray⟩] w (RetB (.bool true) w) := by
  have HM := Lib.hid hm
  clear hm
  go_enter Tryd.func9, Tryd.ntmps9
  go_wp2_with fail
  refine (lives07 _ HM.out).mono ?_
  rintro e w1 ⟨rfl, hb1⟩
  go_wp2_with fail
  refine (lives07 _ (HM.out.step hb1)).mono ?_
  rintro e w2 ⟨rfl, hb2⟩
  go_wp2_with fail
  go_ret
  exact RetB.mk rfl (hb1.trans (hb2.mono hb1.size))

theorem cronF_isT (s : Bs) (h : (cronF s).2 = 0) : (parseF s).2 = 0 ∧ (cronF s).1 = exF s ∧ (cronF s).1.Ok := by
  unfold cronF at h ⊢
  split
  · rename_i h2; exact ⟨h2, rfl, exF_ok s h2⟩
  · rename_i h2; rw [if_neg h2] at h; exact absurd h h2
theorem cronF_longT (s : Bs) (h : 128 < s.length) : cronF s = (Ex.zero, 15) := by
  have : (parseF s).2 = 15 := by unfold parseF; rw [if_pos h]
  unfold cronF; rw [this, if_neg (by decide)]
theorem exVT (e : Ex) (i : Int) : cronV (e, i) = .tuple #[.agg #[.int .u64 e.mi, .int .u64 e.ho, .int .u64 e.da, .int .u64 e.mo, .int .u64 e.we, .bool e.ad, .bool e.aw], .int .i64 i] := rfl

set_option maxRecDepth 100000 in
set_option maxHeartbeats 8000000 in
theorem texts_main (w : World) (hm : MaxL w) (hT : TabL w) (s : Bs) (h1 : s.length ≤ 200) :
    Calls Tryd.prog 9 #[.string ⟨s.toArray⟩] w (RetB (.bool true) w) := by
  have HPA := Lib.hid fun W hW => cronParse_any W s hW (by omega)
  have OA := Lib.hid (cronF_isT s)
  have HM := Lib.hid hm
  have HT := Lib.hid hT
  clear hm hT
  generalize cronF s = ra at *
  obtain ⟨x, xe⟩ := ra
  have hlen := textE_len x
  have HP2 := Lib.hid fun W (hW : MaxL W) => cronParse_any W (textE x) hW (by omega)
  have HTE : Hid (∀ W, TabL W → x.Ok → Calls Tryd.prog 23 #[x.v] W (RetB (.string ⟨(textE x).toArray⟩) W)) := Lib.hid fun W h ok => exprText_any W h x ok
  have HLG : Hid (128 < (textE x).length → cronF (textE x) = (Ex.zero, 15)) := Lib.hid (cronF_longT (textE x))
  have HSM : Hid ((parseF s).2 = 0 → x = exF s → (textE x).length ≤ 128 → cronF (textE x) = (x, 0)) := Lib.hid fun h e hl => by subst e; exact text_parse h hl
  have ev : x.v = .agg #[.int .u64 x.mi, .int .u64 x.ho, .int .u64 x.da, .int .u64 x.mo, .int .u64 x.we, .bool x.ad, .bool x.aw] := rfl
  rw [ev] at HTE
  simp only [exVT] at HPA
  simp only at OA
  have exv : cronV (x, 0) = .tuple #[.agg #[.int .u64 x.mi, .int .u64 x.ho, .int .u64 x.da, .int .u64 x.mo, .int .u64 x.we, .bool x.ad, .bool x.aw], .int .i64 0] := rfl
  have HEXV := Lib.hid exv
  have HEXZ : Hid (cronV (Ex.zero, 15) = .tuple #[.agg #[.int .u64 0, .int .u64 0, .int .u64 0, .int .u64 0, .int .u64 0, .bool false, .bool false], .int .i64 15]) := Lib.hid rfl
  clear ev exv
  generalize textE x = TX at *
  generalize x.mi = xmi at *
  generalize x.ho = xho at *
  generalize x.da = xda at *
  generalize x.mo = xmo at *
  generalize x.we = xwe at *
  generalize x.ad = xad at *
  generalize x.aw = xaw at *
  go_enter Tryd.func9, Tryd.ntmps9
  go_wp2_with fail
  refine (lives07 _ HM.out).mono ?_
  rintro e w1 ⟨rfl, hb1⟩
  have HB1 := Lib.hid hb1
  clear hb1
  go_wp2_with fail
  refine (HPA.out _ (HM.out.step HB1.out)).mono ?_
  rintro e w2 ⟨rfl, hb2⟩
  have HB2 := Lib.hid (HB1.out.trans (hb2.mono HB1.out.size))
  have HB2A := Lib.hid (HB2.out.alloc HB2.out.size (.cells #[.int .u64 xmi, .int .u64 xho, .int .u64 xda, .int .u64 xmo, .int .u64 xwe, .bool xad, .bool xaw] 25))
  have HX := Lib.hid (heap_new w2 (.cells #[.int .u64 xmi, .int .u64 xho, .int .u64 xda, .int .u64 xmo, .int .u64 xwe, .bool xad, .bool xaw] 25))
  clear hb2 HPA
  by_cases he : xe = 0
  · subst he
    obtain ⟨hpz, hex, ok⟩ := OA.out rfl
    have HTX := Lib.hid fun W h => HTE.out W h ok
    clear HTE OA ok
    go_wp2_with fail
    refine (HTX.out _ (HT.out.step HB2A.out)).mono ?_
    rintro e w3 ⟨rfl, hb3⟩
    have hx3 := bheap hb3 HX.out (heap_lt HX.out)
    have HX3 := Lib.hid hx3
    have HB3 := Lib.hid (HB2A.out.trans (hb3.mono HB2A.out.size))
    have hp2 := HP2.out w3 (HM.out.step HB3.out)
    clear hx3 hb3 HP2
    by_cases hl : 128 < TX.length
    · rw [HLG.out hl, HEXZ.out] at hp2
      clear HLG HSM HEXV HEXZ
      go_wp2_with fail
      refine hp2.mono ?_
      rintro e w4 ⟨rfl, hb4⟩
      have HB4 := Lib.hid (HB3.out.trans (hb4.mono HB3.out.size))
      have HB4A := Lib.hid (HB4.out.alloc HB4.out.size (.cells #[.int .u64 0, .int .u64 0, .int .u64 0, .int .u64 0, .int .u64 0, .bool false, .bool false] 25))
      clear hb4
      go_wp2_with fail
      go_ret
      exact RetB.mk rfl HB4A.out
    · rw [HSM.out hpz hex (by omega), HEXV.out] at hp2
      clear HLG HSM HEXV HEXZ hpz hex
      go_wp2_with fail
      refine hp2.mono ?_
      rintro e w4 ⟨rfl, hb4⟩
      have hx4 := bheap hb4 HX3.out (heap_lt HX3.out)
      have HB4 := Lib.hid (HB3.out.trans (hb4.mono HB3.out.size))
      have HB4A := Lib.hid (HB4.out.alloc HB4.out.size (.cells #[.int .u64 xmi, .int .u64 xho, .int .u64 xda, .int .u64 xmo, .int .u64 xwe, .bool xad, .bool xaw] 25))
      have hlt4 := heap_lt hx4
      have c0 : w4.cell? ⟨w2.heap.size, 0, none⟩ = some (.int .u64 xmi) := blk_cell hx4 0 rfl
      have c1 : w4.cell? ⟨w2.heap.size, 1, none⟩ = some (.int .u64 xho) := blk_cell hx4 1 rfl
      have c2 : w4.cell? ⟨w2.heap.size, 2, none⟩ = some (.int .u64 xda) := blk_cell hx4 2 rfl
      have c3 : w4.cell? ⟨w2.heap.size, 3, none⟩ = some (.int .u64 xmo) := blk_cell hx4 3 rfl
      have c4 : w4.cell? ⟨w2.heap.size, 4, none⟩ = some (.int .u64 xwe) := blk_cell hx4 4 rfl
      have c5 : w4.cell? ⟨w2.heap.size, 5, none⟩ = some (.bool xad) := blk_cell hx4 5 rfl
      have c6 : w4.cell? ⟨w2.heap.size, 6, none⟩ = some (.bool xaw) := blk_cell hx4 6 rfl
      clear hx4 hb4
      go_wp2_with fail
      refine (HTX.out _ (HT.out.step HB4A.out)).mono ?_
      rintro e w5 ⟨rfl, hb5⟩
      go_wp2_with fail
      go_ret
      exact RetB.mk rfl (HB4A.out.trans (hb5.mono HB4A.out.size))
  · have hb : (xe != 0) = true := by simpa using he
    clear he HTE HLG HSM
    go_wp2_with fail
    go_ret
    exact RetB.mk rfl HB2A.out

theorem texts_walk (w : World) (hm : MaxL w) (s : ByteArray) (h1 : s.size ≤ maxLen) (hT : TabL w) :
    Calls Tryd.prog 9 #[.string s] w (RetB (.bool true) w) := by
  have e1 : s.data.toList.length = s.size := rfl
  have em : maxLen = 9223372036854775807 := rfl
  by_cases h : s.data.toList.length ≤ 200
  · exact texts_main w hm hT s.data.toList h
  · exact texts_long w hm s.data.toList (by omega) (by omega)

end Go.Proofs.YtfdnhpmdbcfepaaDoor

/- The statement FiresNext: its walk. -/
import Derived.Test.YtfdnhpmdbcfepaaDoorFireN
import Derived.Test.YtfdnhpmdbcfepaaDoorRefK
import Derived.Test.YtfdnhpmdbcfepaaDoorOpenSl
namespace Go.Proofs.YtfdnhpmdbcfepaaDoor
open Go.RowKit Go.Maps Go.ChangeMaps

/-- What Next answers: the first one; or none is named at all. -/
theorem next_spec (e : Ex) (t f : Int) (hf : max t (-1) = f) (h1 : f < 1099511627776) :
    (∃ n, nextF e t = (n, true) ∧ f < n ∧ n ≤ 1099511627776 ∧ atB e n = true ∧ ∀ u, f < u → u < n → atB e u = false) ∨
    (nextF e t = (0, false) ∧ ∀ u, f < u → atB e u = false) := by
  have hp : perEra = 210379680 := rfl
  have hv : nextF e t = nxt e (f + 1) (min (f + 1 + 210379680) 1099511627776 + 1 - (f + 1)).toNat := by
    rw [nextF_val e t (by omega), hf, hp]
  rcases nxt_cases e (min (f + 1 + 210379680) 1099511627776 + 1 - (f + 1)).toNat (f + 1) with ⟨n, e1, a, b, c, d⟩ | ⟨e1, a⟩
  · left
    refine ⟨n, by rw [hv, e1], by omega, by omega, c, fun u h2 h3 => d u (by omega) h3⟩
  · right
    refine ⟨by rw [hv, e1], fun u h2 => ?_⟩
    by_cases hu : u ≤ 1099511627776
    · by_cases hw : u ≤ f + 1 + 210379680
      · exact a u (by omega) (by omega)
      · have hq := atB_eras e ((u - (f + 1)) / 210379680).toNat (t := f + 1 + (u - (f + 1)) % 210379680) (by omega) (by rw [hp]; omega)
        rw [show f + 1 + (u - (f + 1)) % 210379680 + perEra * (((u - (f + 1)) / 210379680).toNat : Int) = u by rw [hp]; omega] at hq
        rw [hq]
        exact a _ (by omega) (by omega)
    · unfold atB; rw [if_neg (by omega)]

theorem cronF_is9 (s : Bs) (h : (cronF s).2 = 0) : (parseF s).2 = 0 ∧ (cronF s).1 = exF s ∧ (cronF s).1.Ok := by
  unfold cronF at h ⊢
  split
  · rename_i h2; exact ⟨h2, rfl, exF_ok s h2⟩
  · rename_i h2; rw [if_neg h2] at h; exact absurd h h2
theorem exV9 (e : Ex) (i : Int) : cronV (e, i) = .tuple #[.agg #[.int .u64 e.mi, .int .u64 e.ho, .int .u64 e.da, .int .u64 e.mo, .int .u64 e.we, .bool e.ad, .bool e.aw], .int .i64 i] := rfl

theorem fnext_long (w : World) (hm : MaxL w) (s : Bs) (t : Int) (a : Option Addr) (len cap : Nat) (h : 200 < s.length ∨ s.length ≤ 200 ∧ 200 < len) (h1 : s.length ≤ 9223372036854775807) (h2 : len ≤ 9223372036854775807) :
    Calls Tryd.prog 5 #[.string ⟨s.toArray⟩, .int .i64 t, .slice a len cap] w (RetB (.bool true) w) := by
  have HM := Lib.hid hm
  clear hm
  rcases h with h | ⟨h, h'⟩
  all_goals
    go_enter Tryd.func5, Tryd.ntmps5
    go_wp2_with fail
    refine (lives08 _ HM.out).mono ?_
    rintro e w1 ⟨rfl, hb1⟩
    go_wp2_with fail
    refine (lives08 _ (HM.out.step hb1)).mono ?_
    rintro e w2 ⟨rfl, hb2⟩
    go_wp2_with fail
    go_ret
    exact RetB.mk rfl (hb1.trans (hb2.mono hb1.size))

set_option maxRecDepth 100000 in
set_option maxHeartbeats 8000000 in
theorem fnext_main (w : World) (hm : MaxL w) (s : Bs) (t : Int) (a : Option Addr) (cap : Nat) (zs : List Int) (hs : s.length ≤ 200) (hz : zs.length ≤ 200) (t0 : -9223372036854775808 ≤ t) (t1 : t ≤ 9223372036854775807)
    (hsl : Sl (fun n => .int .u32 n) w (.slice a zs.length cap) zs) (hzr : ∀ n ∈ zs, 0 ≤ n ∧ n ≤ 4294967295) :
    Calls Tryd.prog 5 #[.string ⟨s.toArray⟩, .int .i64 t, .slice a zs.length cap] w (RetB (.bool true) w) := by
  obtain ⟨f, hf⟩ : ∃ f : Int, f = max t (-1) := ⟨_, rfl⟩
  have hmx : max t (-1) = f := hf.symm
  have f0 : -1 ≤ f := by omega
  have f1 : f ≤ 9223372036854775807 := by omega
  have HPA := Lib.hid fun W hW => cronParse_any W s hW (by omega)
  have OA := Lib.hid (cronF_is9 s)
  have HM := Lib.hid hm
  have HSL := Lib.hid hsl
  have HZR := Lib.hid hzr
  clear hm hsl hzr hf
  generalize cronF s = ra at *
  obtain ⟨x, xe⟩ := ra
  have HN : Hid (∀ W, x.Ok → Calls Tryd.prog 19 #[x.v, .int .i64 t] W (RetB (nextV (nextF x t)) W)) := Lib.hid fun W ok => next_any W x ok t t0 t1
  have HBIG : Hid (1099511627776 ≤ f → nextF x t = (0, false)) := Lib.hid fun h => by unfold nextF; rw [if_pos (by omega)]
  have HSPEC := Lib.hid (next_spec x t f hmx)
  have ev : x.v = .agg #[.int .u64 x.mi, .int .u64 x.ho, .int .u64 x.da, .int .u64 x.mo, .int .u64 x.we, .bool x.ad, .bool x.aw] := rfl
  rw [ev] at HN
  simp only [exV9] at HPA
  simp only at OA
  clear ev
  have HNM : Hid ((parseF s).2 = 0 → x = exF s → ∀ W v l u, 0 ≤ u → u ≤ 1099511627776 → RefAt W v l (refV s) (splitL 32 s) → Calls Tryd.prog 16 #[v, l, (momF u).v] W (RetB (.bool (atB x u)) W)) := Lib.hid fun h0 he W v l u h1 h2 h => by
    have hr := mom_range h1
    have := named_any W v l (refV s) (splitL 32 s) (momF u) h (by omega) (by omega) (by omega) (by omega) (by omega)
    rw [named_at h0 h1 h2, ← he] at this; exact this
  have HRM : Hid (∀ W u, 0 ≤ u → u ≤ 1099511627776 → Calls Tryd.prog 15 #[.int .i64 u] W (RetB (momF u).v W)) := Lib.hid refMoment_any
  generalize x.mi = xmi at *
  generalize x.ho = xho at *
  generalize x.da = xda at *
  generalize x.mo = xmo at *
  generalize x.we = xwe at *
  generalize x.ad = xad at *
  generalize x.aw = xaw at *
  go_enter Tryd.func5, Tryd.ntmps5
  go_wp2_with fail
  refine (lives08 _ HM.out).mono ?_
  rintro e w1 ⟨rfl, hb1⟩
  have HB1 := Lib.hid hb1
  clear hb1
  go_wp2_with fail
  refine (HPA.out _ (HM.out.step HB1.out)).mono ?_
  rintro e w2 ⟨rfl, hb2⟩
  have HB2 := Lib.hid (HB1.out.trans (hb2.mono HB1.out.size))
  have HB2A := Lib.hid (HB2.out.alloc HB2.out.size (.cells #[.int .u64 xmi, .int .u64 xho, .int .u64 xda, .int .u64 xmo, .int .u64 xwe, .bool xad, .bool xaw] 25))
  have HX := Lib.hid (heap_new w2 (.cells #[.int .u64 xmi, .int .u64 xho, .int .u64 xda, .int .u64 xmo, .int .u64 xwe, .bool xad, .bool xaw] 25))
  clear hb2 HPA
  by_cases he : xe = 0
  · subst he
    obtain ⟨hpz, hex, ok⟩ := OA.out rfl
    have HNX := Lib.hid fun W => HN.out W ok
    have HNMX := Lib.hid (HNM.out hpz hex)
    have HRP := Lib.hid fun W => refParse_ok W s hpz
    clear HN HNM OA ok hex hpz
    go_wp2_with fail
    refine (HRP.out _).mono ?_
    rintro e w3 ⟨v, l, rfl, href, hb3⟩
    have hx3 := bheap hb3 HX.out (heap_lt HX.out)
    have HB3 := Lib.hid (HB2A.out.trans (hb3.mono HB2A.out.size))
    have HREF := Lib.hid href
    have c0 : w3.cell? ⟨w2.heap.size, 0, none⟩ = some (.int .u64 xmi) := blk_cell hx3 0 rfl
    have c1 : w3.cell? ⟨w2.heap.size, 1, none⟩ = some (.int .u64 xho) := blk_cell hx3 1 rfl
    have c2 : w3.cell? ⟨w2.heap.size, 2, none⟩ = some (.int .u64 xda) := blk_cell hx3 2 rfl
    have c3 : w3.cell? ⟨w2.heap.size, 3, none⟩ = some (.int .u64 xmo) := blk_cell hx3 3 rfl
    have c4 : w3.cell? ⟨w2.heap.size, 4, none⟩ = some (.int .u64 xwe) := blk_cell hx3 4 rfl
    have c5 : w3.cell? ⟨w2.heap.size, 5, none⟩ = some (.bool xad) := blk_cell hx3 5 rfl
    have c6 : w3.cell? ⟨w2.heap.size, 6, none⟩ = some (.bool xaw) := blk_cell hx3 6 rfl
    clear hx3 hb3 href HRP
    by_cases hbig : 1099511627776 ≤ f
    · have hn := HBIG.out hbig
      rw [hn] at HNX
      unfold nextV at HNX
      simp only at HNX
      clear hn HBIG HSPEC HNMX HRM
      go_wp2_with fail
      refine (HNX.out _).mono ?_
      rintro e w4 ⟨rfl, hb4⟩
      go_wp2_with fail
      go_ret
      exact RetB.mk rfl (HB3.out.trans (hb4.mono HB3.out.size))
    · have f2 : f < 1099511627776 := by omega
      -- the two loops
      have hsp := HSPEC.out f2
      have HE : Hid (∃ (n : Int) (ok : Bool) (q : Int), nextF x t = (n, ok) ∧ (ok = true ∧ q = n ∧ f < n ∧ n ≤ 1099511627776 ∧ atB x n = true ∨ ok = false ∧ n = 0 ∧ q = 1099511627777) ∧ (f < q ∧ q ≤ 1099511627777) ∧ ∀ u, f < u → u < q → atB x u = false) := Lib.hid (by
        rcases hsp with ⟨n, e1, a1, a2, a3, a4⟩ | ⟨e1, a1⟩
        · exact ⟨n, true, n, e1, .inl ⟨rfl, rfl, a1, a2, a3⟩, ⟨a1, by omega⟩, a4⟩
        · exact ⟨0, false, 1099511627777, e1, .inr ⟨rfl, rfl, rfl⟩, ⟨by omega, by omega⟩, fun u h1 h2 => a1 u h1⟩)
      obtain ⟨n, okn, q, hn, hcs, ⟨q1, q2⟩, hno⟩ := HE.out
      have HNO := Lib.hid hno
      rw [hn] at HNX
      unfold nextV at HNX
      simp only at HNX
      clear hsp HE HSPEC HBIG hn hno
      have HNO2 : Hid (∀ W vv ll u, f < u → u < q → RefAt W vv ll (refV s) (splitL 32 s) → Calls Tryd.prog 16 #[vv, ll, (momF u).v] W (RetB (.bool false) W)) := Lib.hid fun W vv ll u h1 h2 h => by
        have := HNMX.out W vv ll u (by omega) (by omega) h
        rw [HNO.out u h1 h2] at this; exact this
      go_wp2_with fail
      refine (HNX.out _).mono ?_
      rintro e w4 ⟨rfl, hb4⟩
      have HB4 := Lib.hid (HB3.out.trans (hb4.mono HB3.out.size))
      have HREF4 := Lib.hid (HREF.out.below hb4)
      clear hb4 HNX c0 c1 c2 c3 c4 c5 c6
      rcases hcs with ⟨rfl, rfl, g1, g2, g3⟩ | ⟨rfl, rfl, rfl⟩
      · have HAT : Hid (∀ W, RefAt W v l (refV s) (splitL 32 s) → Calls Tryd.prog 16 #[v, l, (momF q).v] W (RetB (.bool true) W)) := Lib.hid fun W h => by
          have := HNMX.out W v l q (by omega) g2 h
          rw [g3] at this; exact this
        have HRMQ := Lib.hid fun W => HRM.out W q (by omega) g2
        generalize (momF q).v = mq at *
        clear HNMX HNO g3
        go_wp2_with fail
        refine (HRMQ.out _).mono ?_
        rintro e w5 ⟨rfl, hb5⟩
        have HB5 := Lib.hid (HB4.out.trans (hb5.mono HB4.out.size))
        have HREF5 := Lib.hid (HREF4.out.below hb5)
        clear hb5
        go_wp2_with fail
        refine (HAT.out _ HREF5.out).mono ?_
        rintro e w6 ⟨rfl, hb6⟩
        have HB6 := Lib.hid (HB5.out.trans (hb6.mono HB5.out.size))
        have HREF6 := Lib.hid (HREF5.out.below hb6)
        clear hb6 HAT HRMQ
        go_wp2_with fail
        go_loopw [16] (fun s16 wr => ∃ u : Int, s16 = .int .i64 u ∧ f < u ∧ u ≤ f + 2501 ∧ Below w.heap.size w wr ∧ RefAt wr v l (refV s) (splitL 32 s)) (fun s16 _ => (f + 2501 - intOf s16).toNat)
        case atStart => exact ⟨f + 1, rfl, by omega, by omega, HB6.out, HREF6.out⟩
        case round =>
          obtain ⟨u, rfl, u1, u2, hbw, hrf⟩ := hrel
          have HBW := Lib.hid hbw
          have HRF := Lib.hid hrf
          clear hbw hrf
          by_cases hgo : u < q ∧ u < f + 2500
          · obtain ⟨y1, y2⟩ := hgo
            have HRMU := Lib.hid fun W => HRM.out W u (by omega) (by omega)
            have HNU := Lib.hid fun W (h : RefAt W v l (refV s) (splitL 32 s)) => HNO2.out W v l u u1 y1 h
            generalize (momF u).v = mu at *
            go_wp2_with fail
            refine (HRMU.out _).mono ?_
            rintro e v5 ⟨rfl, gb5⟩
            have GB5 := Lib.hid (HBW.out.trans (gb5.mono HBW.out.size))
            have GR5 := Lib.hid (HRF.out.below gb5)
            clear gb5
            go_wp2_with fail
            refine (HNU.out _ GR5.out).mono ?_
            rintro e v6 ⟨rfl, gb6⟩
            have GB6 := Lib.hid (GB5.out.trans (gb6.mono GB5.out.size))
            have GR6 := Lib.hid (GR5.out.below gb6)
            clear gb6
            go_wp2_with fail
            go_roundw
            case rel => exact ⟨u + 1, rfl, by omega, by omega, GB6.out, GR6.out⟩
            case measure => simp [intOf]; omega
          · by_cases y1 : u < q
            case' pos => have y2 : ¬ u < f + 2500 := fun h => hgo ⟨y1, h⟩
            all_goals
              clear hgo
              obtain ⟨a', cap', hae, hc1, hc2, hax⟩ := HSL.out
              cases hae
              have HAX := Lib.hid hax
              clear hax
              go_wp2_with fail
              go_loopw [102] (fun ix wq => ∃ k : Nat, k ≤ zs.length ∧ ix = .int .i64 k ∧ Below w.heap.size w wq ∧ RefAt wq v l (refV s) (splitL 32 s)) (fun ix _ => zs.length - (intOf ix).toNat)
              case atStart => exact ⟨0, by omega, rfl, HBW.out, HRF.out⟩
              case round =>
                obtain ⟨k, hk, rfl, hbq, hrq⟩ := hrel
                have HBQ := Lib.hid hbq
                have HRQ := Lib.hid hrq
                clear hbq hrq
                by_cases hlt : k < zs.length
                · rcases HAX.out with ⟨_, h0⟩ | ⟨ab, ao, rfl, hab, hac⟩
                  · exfalso; omega
                  have d0 : wr.cell? ⟨ab, ao + k, none⟩ = some (.int .u32 zs[k]) := by
                    rw [World.cell?_of_block (HBQ.out.block ab hab)]; exact hac k zs[k] (List.getElem?_eq_getElem hlt)
                  obtain ⟨z0, z1⟩ := HZR.out zs[k] (List.getElem_mem hlt)
                  generalize zs[k] = z at *
                  clear hac
                  by_cases hin : f + 1 + z < q
                  · have HRMU := Lib.hid fun W => HRM.out W (f + 1 + z) (by omega) (by omega)
                    have HNU := Lib.hid fun W (h : RefAt W v l (refV s) (splitL 32 s)) => HNO2.out W v l (f + 1 + z) (by omega) hin h
                    generalize (momF (f + 1 + z)).v = mu at *
                    go_wp2_with fail
                    refine (HRMU.out _).mono ?_
                    rintro e v5 ⟨rfl, gb5⟩
                    have GB5 := Lib.hid (HBQ.out.trans (gb5.mono HBQ.out.size))
                    have GR5 := Lib.hid (HRQ.out.below gb5)
                    clear gb5 d0
                    go_wp2_with fail
                    refine (HNU.out _ GR5.out).mono ?_
                    rintro e v6 ⟨rfl, gb6⟩
                    have GB6 := Lib.hid (GB5.out.trans (gb6.mono GB5.out.size))
                    have GR6 := Lib.hid (GR5.out.below gb6)
                    clear gb6
                    go_wp2_with fail
                    go_roundw
                    case rel => exact ⟨k + 1, by omega, by go_num, GB6.out, GR6.out⟩
                    case measure => simp [intOf]; omega
                  · go_wp2_with fail
                    go_roundw
                    case rel => exact ⟨k + 1, by omega, by go_num, HBQ.out, HRQ.out⟩
                    case measure => simp [intOf]; omega
                · go_wp2_with fail
                  go_ret
                  exact RetB.mk rfl HBQ.out
      · clear HNMX HNO
        go_wp2_with fail
        go_loopw [16] (fun s16 wr => ∃ u : Int, s16 = .int .i64 u ∧ f < u ∧ u ≤ f + 2501 ∧ Below w.heap.size w wr ∧ RefAt wr v l (refV s) (splitL 32 s)) (fun s16 _ => (f + 2501 - intOf s16).toNat)
        case atStart => exact ⟨f + 1, rfl, by omega, by omega, HB4.out, HREF4.out⟩
        case round =>
          obtain ⟨u, rfl, u1, u2, hbw, hrf⟩ := hrel
          have HBW := Lib.hid hbw
          have HRF := Lib.hid hrf
          clear hbw hrf
          by_cases hgo : u < 1099511627777 ∧ u < f + 2500
          · obtain ⟨y1, y2⟩ := hgo
            have HRMU := Lib.hid fun W => HRM.out W u (by omega) (by omega)
            have HNU := Lib.hid fun W (h : RefAt W v l (refV s) (splitL 32 s)) => HNO2.out W v l u u1 y1 h
            generalize (momF u).v = mu at *
            go_wp2_with fail
            refine (HRMU.out _).mono ?_
            rintro e v5 ⟨rfl, gb5⟩
            have GB5 := Lib.hid (HBW.out.trans (gb5.mono HBW.out.size))
            have GR5 := Lib.hid (HRF.out.below gb5)
            clear gb5
            go_wp2_with fail
            refine (HNU.out _ GR5.out).mono ?_
            rintro e v6 ⟨rfl, gb6⟩
            have GB6 := Lib.hid (GB5.out.trans (gb6.mono GB5.out.size))
            have GR6 := Lib.hid (GR5.out.below gb6)
            clear gb6
            go_wp2_with fail
            go_roundw
            case rel => exact ⟨u + 1, rfl, by omega, by omega, GB6.out, GR6.out⟩
            case measure => simp [intOf]; omega
          · by_cases y1 : u < 1099511627777
            case' pos => have y2 : ¬ u < f + 2500 := fun h => hgo ⟨y1, h⟩
            all_goals
              clear hgo
              obtain ⟨a', cap', hae, hc1, hc2, hax⟩ := HSL.out
              cases hae
              have HAX := Lib.hid hax
              clear hax
              go_wp2_with fail
              go_loopw [102] (fun ix wq => ∃ k : Nat, k ≤ zs.length ∧ ix = .int .i64 k ∧ Below w.heap.size w wq ∧ RefAt wq v l (refV s) (splitL 32 s)) (fun ix _ => zs.length - (intOf ix).toNat)
              case atStart => exact ⟨0, by omega, rfl, HBW.out, HRF.out⟩
              case round =>
                obtain ⟨k, hk, rfl, hbq, hrq⟩ := hrel
                have HBQ := Lib.hid hbq
                have HRQ := Lib.hid hrq
                clear hbq hrq
                by_cases hlt : k < zs.length
                · rcases HAX.out with ⟨_, h0⟩ | ⟨ab, ao, rfl, hab, hac⟩
                  · exfalso; omega
                  have d0 : wr.cell? ⟨ab, ao + k, none⟩ = some (.int .u32 zs[k]) := by
                    rw [World.cell?_of_block (HBQ.out.block ab hab)]; exact hac k zs[k] (List.getElem?_eq_getElem hlt)
                  obtain ⟨z0, z1⟩ := HZR.out zs[k] (List.getElem_mem hlt)
                  generalize zs[k] = z at *
                  clear hac
                  by_cases hin : f + 1 + z < 1099511627777
                  · have HRMU := Lib.hid fun W => HRM.out W (f + 1 + z) (by omega) (by omega)
                    have HNU := Lib.hid fun W (h : RefAt W v l (refV s) (splitL 32 s)) => HNO2.out W v l (f + 1 + z) (by omega) hin h
                    generalize (momF (f + 1 + z)).v = mu at *
                    go_wp2_with fail
                    refine (HRMU.out _).mono ?_
                    rintro e v5 ⟨rfl, gb5⟩
                    have GB5 := Lib.hid (HBQ.out.trans (gb5.mono HBQ.out.size))
                    have GR5 := Lib.hid (HRQ.out.below gb5)
                    clear gb5 d0
                    go_wp2_with fail
                    refine (HNU.out _ GR5.out).mono ?_
                    rintro e v6 ⟨rfl, gb6⟩
                    have GB6 := Lib.hid (GB5.out.trans (gb6.mono GB5.out.size))
                    have GR6 := Lib.hid (GR5.out.below gb6)
                    clear gb6
                    go_wp2_with fail
                    go_roundw
                    case rel => exact ⟨k + 1, by omega, by go_num, GB6.out, GR6.out⟩
                    case measure => simp [intOf]; omega
                  · go_wp2_with fail
                    go_roundw
                    case rel => exact ⟨k + 1, by omega, by go_num, HBQ.out, HRQ.out⟩
                    case measure => simp [intOf]; omega
                · go_wp2_with fail
                  go_ret
                  exact RetB.mk rfl HBQ.out
  · have hb : (xe != 0) = true := by simpa using he
    clear he HN HNM
    go_wp2_with fail
    go_ret
    exact RetB.mk rfl HB2A.out

theorem fnext_walk (w : World) (hm : MaxL w) (s : ByteArray) (t : Int) (a : Option Addr) (len cap : Nat) (zs : List Int) (h1 : s.size ≤ maxLen) (ht : (Lit.int .i64 t).wf = true) (hsl : SlOk .u32 w (.slice a len cap) zs) :
    Calls Tryd.prog 5 #[.string s, .int .i64 t, .slice a len cap] w (RetB (.bool true) w) := by
  have e1 : s.data.toList.length = s.size := rfl
  have em : maxLen = 9223372036854775807 := rfl
  obtain ⟨t0, t1⟩ : -9223372036854775808 ≤ t ∧ t ≤ 9223372036854775807 := by simp [Lit.wf, IntKind.min, IntKind.max, IntKind.bits, IntKind.signed] at ht; omega
  obtain ⟨hsl, hzr⟩ := hsl
  have hsl2 := hsl
  obtain ⟨a', cap', he, hc1, hc2, _⟩ := hsl2
  cases he
  by_cases h : s.data.toList.length ≤ 200
  · by_cases h2 : zs.length ≤ 200
    · exact fnext_main w hm s.data.toList t a cap zs h h2 t0 t1 hsl fun n hn => by
        have := hzr n hn; simp [Lit.wf, IntKind.min, IntKind.max, IntKind.bits, IntKind.signed] at this; omega
    · exact fnext_long w hm s.data.toList t a zs.length cap (.inr ⟨h, by omega⟩) (by omega) (by omega)
  · exact fnext_long w hm s.data.toList t a zs.length cap (.inl (by omega)) (by omega) (by omega)

end Go.Proofs.YtfdnhpmdbcfepaaDoor

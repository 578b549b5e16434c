/- Package fires: Next, Ever; the statements' own first check (lives). -/
import Derived.Test.YtfdnhpmdbcfepaaDoorFireW
namespace Go.Proofs.YtfdnhpmdbcfepaaDoor
open Go.RowKit Go.ChangeMaps

def nextV (r : Int × Bool) : Value := .tuple #[.int .i64 r.1, .bool r.2]
theorem nextF_val (e : Ex) (after : Int) (h : after < 1099511627776) : nextF e after = nxt e (max after (-1) + 1) (min (max after (-1) + 1 + perEra) 1099511627776 + 1 - (max after (-1) + 1)).toNat := by
  unfold nextF; rw [if_neg (by omega)]

set_option maxRecDepth 100000 in
set_option maxHeartbeats 4000000 in
theorem next_any (w : World) (e : Ex) (ok : e.Ok) (t : Int) (h0 : -9223372036854775808 ≤ t) (h1 : t ≤ 9223372036854775807) : Calls Tryd.prog 19 #[e.v, .int .i64 t] w (RetB (nextV (nextF e t)) w) := by
  have hp : perEra = 210379680 := rfl
  by_cases hbig : 1099511627776 ≤ t
  · have HE : Hid (nextF e t = (0, false)) := Lib.hid (by unfold nextF; rw [if_pos hbig])
    clear hp ok
    obtain ⟨em, eh, ed, eo, ew, ad, aw⟩ := e
    unfold Ex.v Ex.cells
    simp only at *
    go_enter Tryd.func19, Tryd.ntmps19
    go_wp2_with fail
    go_ret2
    exact RetB.mk (by rw [HE.out]; rfl) ((Below.refl _ _).alloc (Nat.le_refl _) _)
  · obtain ⟨f, hf⟩ : ∃ f : Int, f = max t (-1) + 1 := ⟨_, rfl⟩
    have HE : Hid (nextF e t = nxt e f (min (f + perEra) 1099511627776 + 1 - f).toNat) := Lib.hid (by rw [nextF_val e t (by omega), ← hf])
    have hf0 : 0 ≤ f ∧ f ≤ 1099511627776 := by omega
    have HS : Hid (∀ W b, b ≤ 1099511627776 → Calls Tryd.prog 34 #[e.v, .int .i64 f, .int .i64 b] W (RetB (nextV (nxt e f (b + 1 - f).toNat)) W)) := Lib.hid fun W b hb => search_any W e ok f b hf0.1 (by omega) hb
    rw [hp] at HE
    clear ok hp
    generalize nextF e t = R at *
    by_cases hneg : t ≤ -1
    · obtain rfl : f = 0 := by omega
      have hmx : max t (-1) = -1 := by omega
      have HS2 := Lib.hid fun W => HS.out W 210379680 (by decide)
      have HE2 : Hid (R = nxt e 0 (210379680 + 1 - 0 : Int).toNat) := Lib.hid (by rw [HE.out]; rfl)
      clear HE HS
      generalize nxt e 0 (210379680 + 1 - 0 : Int).toNat = N at *
      obtain ⟨n1, n2⟩ := N
      obtain ⟨em, eh, ed, eo, ew, ad, aw⟩ := e
      unfold Ex.v Ex.cells nextV at *
      simp only at *
      go_enter Tryd.func19, Tryd.ntmps19
      go_wp2_with fail
      refine (HS2.out _).mono ?_
      rintro en w1 ⟨rfl, hb1⟩
      go_wp2_with fail
      go_ret2
      exact RetB.mk (by rw [HE2.out]; rfl) (((Below.refl _ _).alloc (Nat.le_refl _) _).trans (hb1.mono (by simp)))
    · have hmx : max t (-1) = t := by omega
      obtain rfl : f = t + 1 := by omega
      by_cases hm : t + 1 + 210379680 ≤ 1099511627776
      · have hmn : min (t + 1 + 210379680) 1099511627776 = t + 1 + 210379680 := by omega
        have HS2 := Lib.hid fun W => HS.out W (t + 1 + 210379680) hm
        rw [hmn] at HE
        clear HS hm hf
        generalize nxt e (t + 1) (t + 1 + 210379680 + 1 - (t + 1)).toNat = N at *
        obtain ⟨n1, n2⟩ := N
        obtain ⟨em, eh, ed, eo, ew, ad, aw⟩ := e
        unfold Ex.v Ex.cells nextV at *
        simp only at *
        go_enter Tryd.func19, Tryd.ntmps19
        go_wp2_with fail
        refine (HS2.out _).mono ?_
        rintro en w1 ⟨rfl, hb1⟩
        go_wp2_with fail
        go_ret2
        exact RetB.mk (by rw [HE.out]; rfl) (((Below.refl _ _).alloc (Nat.le_refl _) _).trans (hb1.mono (by simp)))
      · have hmn : min (t + 1 + 210379680) 1099511627776 = 1099511627776 := by omega
        have HS2 := Lib.hid fun W => HS.out W 1099511627776 (by decide)
        rw [hmn] at HE
        clear HS hf
        generalize nxt e (t + 1) (1099511627776 + 1 - (t + 1)).toNat = N at *
        obtain ⟨n1, n2⟩ := N
        obtain ⟨em, eh, ed, eo, ew, ad, aw⟩ := e
        unfold Ex.v Ex.cells nextV at *
        simp only at *
        go_enter Tryd.func19, Tryd.ntmps19
        go_wp2_with fail
        refine (HS2.out _).mono ?_
        rintro en w1 ⟨rfl, hb1⟩
        go_wp2_with fail
        go_ret2
        exact RetB.mk (by rw [HE.out]; rfl) (((Below.refl _ _).alloc (Nat.le_refl _) _).trans (hb1.mono (by simp)))

set_option maxHeartbeats 4000000 in
theorem ever_any (w : World) (e : Ex) (ok : e.Ok) : Calls Tryd.prog 20 #[e.v] w (RetB (.bool (nextF e (-1)).2) w) := by
  have HS := Lib.hid fun W => next_any W e ok (-1) (by decide) (by decide)
  clear ok
  generalize nextF e (-1) = N at *
  obtain ⟨n1, n2⟩ := N
  obtain ⟨em, eh, ed, eo, ew, ad, aw⟩ := e
  unfold Ex.v Ex.cells nextV at *
  simp only at *
  go_enter Tryd.func20, Tryd.ntmps20
  go_wp2_with fail
  refine (HS.out _).mono ?_
  rintro en w1 ⟨rfl, hb1⟩
  go_wp2_with fail
  go_ret
  exact RetB.mk rfl (((Below.refl _ _).alloc (Nat.le_refl _) _).trans (hb1.mono (by simp)))

set_option maxRecDepth 100000 in
set_option maxHeartbeats 4000000 in
theorem lives08 (w : World) (hm : MaxL w) : Calls Tryd.prog 18 #[] w (RetB (.bool true) w) := by
  have hp := cronParse_any w live8B hm (by decide)
  rw [live8_parse] at hp
  change Calls Tryd.prog 12 #[.string ⟨#[48, 32, 48, 32, 50, 57, 32, 50, 32, 42]⟩] w (RetB (.tuple #[.agg #[.int .u64 1, .int .u64 1, .int .u64 536870912, .int .u64 4, .int .u64 127, .bool false, .bool true], .int .i64 0]) w) at hp
  have ok : live8E.Ok := ⟨by decide, by decide, by decide, by decide, by decide⟩
  have h1 : ∀ W, Calls Tryd.prog 19 #[.agg #[.int .u64 1, .int .u64 1, .int .u64 536870912, .int .u64 4, .int .u64 127, .bool false, .bool true], .int .i64 0] W (RetB (.tuple #[.int .i64 84960, .bool true]) W) := fun W => by
    have h := next_any W live8E ok 0 (by decide) (by decide)
    rw [live8_n1] at h
    exact h
  have h2 : ∀ W, Calls Tryd.prog 19 #[.agg #[.int .u64 1, .int .u64 1, .int .u64 536870912, .int .u64 4, .int .u64 127, .bool false, .bool true], .int .i64 84960] W (RetB (.tuple #[.int .i64 2188800, .bool true]) W) := fun W => by
    have h := next_any W live8E ok 84960 (by decide) (by decide)
    rw [live8_n2] at h
    exact h
  clear ok
  go_enter Tryd.func18, Tryd.ntmps18
  go_wp2_with fail
  refine hp.mono ?_
  rintro en w1 ⟨rfl, hb1⟩
  have HB1 := Lib.hid (hb1.alloc hb1.size (.cells #[.int .u64 1, .int .u64 1, .int .u64 536870912, .int .u64 4, .int .u64 127, .bool false, .bool true] 25))
  have HX1 := Lib.hid (heap_new w1 (.cells #[.int .u64 1, .int .u64 1, .int .u64 536870912, .int .u64 4, .int .u64 127, .bool false, .bool true] 25))
  clear hb1 hp
  go_wp2_with fail
  refine (h1 _).mono ?_
  rintro en w2 ⟨rfl, hb2⟩
  have hx := bheap hb2 HX1.out (heap_lt HX1.out)
  have HB2 := Lib.hid (HB1.out.trans (hb2.mono HB1.out.size))
  have c0 : w2.cell? ⟨w1.heap.size, 0, none⟩ = some (.int .u64 1) := blk_cell hx 0 rfl
  have c1 : w2.cell? ⟨w1.heap.size, 1, none⟩ = some (.int .u64 1) := blk_cell hx 1 rfl
  have c2 : w2.cell? ⟨w1.heap.size, 2, none⟩ = some (.int .u64 536870912) := blk_cell hx 2 rfl
  have c3 : w2.cell? ⟨w1.heap.size, 3, none⟩ = some (.int .u64 4) := blk_cell hx 3 rfl
  have c4 : w2.cell? ⟨w1.heap.size, 4, none⟩ = some (.int .u64 127) := blk_cell hx 4 rfl
  have c5 : w2.cell? ⟨w1.heap.size, 5, none⟩ = some (.bool false) := blk_cell hx 5 rfl
  have c6 : w2.cell? ⟨w1.heap.size, 6, none⟩ = some (.bool true) := blk_cell hx 6 rfl
  clear hx hb2
  go_wp2_with fail
  refine (h2 _).mono ?_
  rintro en w3 ⟨rfl, hb3⟩
  go_wp2_with fail
  go_ret
  exact RetB.mk rfl (HB2.out.trans (hb3.mono HB2.out.size))

end Go.Proofs.YtfdnhpmdbcfepaaDoor

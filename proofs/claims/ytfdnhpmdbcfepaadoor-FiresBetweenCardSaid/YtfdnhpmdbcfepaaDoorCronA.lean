/- Package cron: At. -/
import Derived.Test.YtfdnhpmdbcfepaaDoorCronN
import Derived.Test.YtfdnhpmdbcfepaaDoorMomW
namespace Go.Proofs.YtfdnhpmdbcfepaaDoor
open Go.RowKit Go.ChangeMaps

theorem mom_range {t : Int} (h0 : 0 ≤ t) : 1 ≤ (momF t).m ∧ (momF t).m ≤ 12 ∧ 1 ≤ (momF t).d ∧ (momF t).d ≤ 31 ∧ 0 ≤ (momF t).wd ∧ (momF t).wd ≤ 6 ∧ 0 ≤ (momF t).h ∧ (momF t).h ≤ 23 ∧ 0 ≤ (momF t).mi ∧ (momF t).mi ≤ 59 := by
  have hc := civ_date (t / 1440 + 730425) (by omega)
  have hl := lenM_pos (lpY_01 (civY (t / 1440 + 730425))) (civM (t / 1440 + 730425))
  have h1 := hc.m1
  have h2 := hc.m12
  have h3 := hc.d1
  have h4 := hc.dl
  unfold momF
  simp only
  omega

/-- Is a moment named? -/
def namesM (e : Ex) (m : Mom) : Bool := namesB e m.mi.toNat m.h.toNat m.d.toNat m.m.toNat m.wd.toNat
/-- Is a tick named? -/
def atB (e : Ex) (t : Int) : Bool := if 0 ≤ t ∧ t ≤ 1099511627776 then namesM e (momF t) else false

theorem namesM_any (w : World) (e : Ex) (ok : e.Ok) (t : Int) (h0 : 0 ≤ t) :
    Calls Tryd.prog 17 #[e.v, (momF t).v] w (RetB (.bool (namesM e (momF t))) w) := by
  have hr := mom_range h0
  have h := cronNames_any w e ok (momF t).y (momF t).m.toNat (momF t).d.toNat (momF t).wd.toNat (momF t).h.toNat (momF t).mi.toNat (by omega) (by omega) (by omega) (by omega) (by omega)
  have e1 : (((momF t).m.toNat : Nat) : Int) = (momF t).m := by omega
  have e2 : (((momF t).d.toNat : Nat) : Int) = (momF t).d := by omega
  have e3 : (((momF t).wd.toNat : Nat) : Int) = (momF t).wd := by omega
  have e4 : (((momF t).h.toNat : Nat) : Int) = (momF t).h := by omega
  have e5 : (((momF t).mi.toNat : Nat) : Int) = (momF t).mi := by omega
  rw [e1, e2, e3, e4, e5] at h
  exact h

set_option maxRecDepth 100000 in
set_option maxHeartbeats 4000000 in
theorem cronAt_any (w : World) (e : Ex) (ok : e.Ok) (t : Int) : Calls Tryd.prog 13 #[e.v, .int .i64 t] w (RetB (.bool (atB e t)) w) := by
  have EA := Lib.hid (show atB e t = if 0 ≤ t ∧ t ≤ 1099511627776 then namesM e (momF t) else false from rfl)
  by_cases h : 0 ≤ t ∧ t ≤ 1099511627776
  · obtain ⟨h0, h1⟩ := h
    have HE := Lib.hid (show atB e t = namesM e (momF t) by rw [EA.out, if_pos ⟨h0, h1⟩])
    have hn := Lib.hid (fun W => namesM_any W e ok t h0)
    have hof := fun W => calOf_yes W t h0 h1
    clear EA ok
    generalize namesM e (momF t) = R at *
    generalize momF t = M at *
    obtain ⟨y, mo, d, wd, hh, mi⟩ := M
    obtain ⟨em, eh, ed, eo, ew, ad, aw⟩ := e
    unfold Ex.v Ex.cells Mom.v at *
    simp only at *
    go_enter Tryd.func13, Tryd.ntmps13
    go_wp2_with fail
    refine (hof _).mono ?_
    rintro en w1 ⟨rfl, hb1⟩
    have hx := bheap hb1 (heap_new w (.cells #[.int .u64 em, .int .u64 eh, .int .u64 ed, .int .u64 eo, .int .u64 ew, .bool ad, .bool aw] 25)) (by simp)
    have c0 : w1.cell? ⟨w.heap.size, 0, none⟩ = some (.int .u64 em) := blk_cell hx 0 rfl
    have c1 : w1.cell? ⟨w.heap.size, 1, none⟩ = some (.int .u64 eh) := blk_cell hx 1 rfl
    have c2 : w1.cell? ⟨w.heap.size, 2, none⟩ = some (.int .u64 ed) := blk_cell hx 2 rfl
    have c3 : w1.cell? ⟨w.heap.size, 3, none⟩ = some (.int .u64 eo) := blk_cell hx 3 rfl
    have c4 : w1.cell? ⟨w.heap.size, 4, none⟩ = some (.int .u64 ew) := blk_cell hx 4 rfl
    have c5 : w1.cell? ⟨w.heap.size, 5, none⟩ = some (.bool ad) := blk_cell hx 5 rfl
    have c6 : w1.cell? ⟨w.heap.size, 6, none⟩ = some (.bool aw) := blk_cell hx 6 rfl
    have hlt := heap_lt hx
    have HB := Lib.hid (((Below.refl _ w).alloc (Nat.le_refl _) (.cells #[.int .u64 em, .int .u64 eh, .int .u64 ed, .int .u64 eo, .int .u64 ew, .bool ad, .bool aw] 25)).trans (hb1.mono (by simp)))
    clear hx hb1
    go_wp2_with fail
    refine (hn.out _).mono ?_
    rintro en w2 ⟨rfl, hb2⟩
    go_wp2_with fail
    go_ret
    exact RetB.mk (by rw [HE.out]; rfl) ((HB.out.alloc HB.out.size _).trans (hb2.mono (by have := HB.out.size; simp; omega)))
  · have HE := Lib.hid (show atB e t = false by rw [EA.out, if_neg h])
    have hof := fun W => calOf_no W t (by omega)
    clear EA ok h
    obtain ⟨em, eh, ed, eo, ew, ad, aw⟩ := e
    unfold Ex.v Ex.cells Mom.v Mom.zero at *
    simp only at *
    go_enter Tryd.func13, Tryd.ntmps13
    go_wp2_with fail
    refine (hof _).mono ?_
    rintro en w1 ⟨rfl, hb1⟩
    have HB := Lib.hid (((Below.refl _ w).alloc (Nat.le_refl _) (.cells #[.int .u64 em, .int .u64 eh, .int .u64 ed, .int .u64 eo, .int .u64 ew, .bool ad, .bool aw] 25)).trans (hb1.mono (by simp)))
    clear hb1
    go_wp2_with fail
    go_ret
    exact RetB.mk (by rw [HE.out]; rfl) (HB.out.alloc HB.out.size _)

theorem exF_ok (s : Bs) (h : (parseF s).2 = 0) : (exF s).Ok := by
  have key : ∀ k, k < 5 → orBits ((parseF s).1.getD k []) < 18446744073709551616 := fun k hk => orBits_lt _ fun x hx => by
    have := parseF_in h hk x hx
    have h1 := fld_low k
    have h2 := fld_high k
    omega
  exact ⟨key 0 (by decide), key 1 (by decide), key 2 (by decide), key 3 (by decide), sunday_lt _⟩

end Go.Proofs.YtfdnhpmdbcfepaaDoor

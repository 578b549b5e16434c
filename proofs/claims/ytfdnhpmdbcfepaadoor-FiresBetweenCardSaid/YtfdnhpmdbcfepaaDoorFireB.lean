/- The statement FiresBetween: its walk. -/
import Derived.Test.YtfdnhpmdbcfepaaDoorBetwL
import Derived.Lib.QuietBelow
import Derived.Deep.RegionHeld3
namespace Go.Proofs.YtfdnhpmdbcfepaaDoor
open Go.RowKit Go.Shelf

attribute [local go_sem] Oper.semAt_some

/-- The cells that a round may turn. -/
def BS (v : Nat) (k : Nat) : Prop := k = v + 1 ∨ k = v + 2 ∨ k = v + 3 ∨ k = v + 5
/-- Between two rounds. -/
def BI (w3 : World) (v : Nat) (e : Ex) (to_ a0 : Int) (s : List Int × Int) (W : World) : Prop :=
  W.heap[v + 1]? = some (.cells #[.int .i64 (s.1.length : Int)] 3) ∧ W.heap[v + 2]? = some (.cells #[.int .i64 s.2] 2) ∧ W.heap[v + 3]? = some (.cells #[.bool true] 4) ∧ W.heap[v + 5]? = some (.cells #[.int .i64 s.2] 2) ∧
  Keeps (BS v) w3 W ∧ s.1.length < 60 ∧ cntF e to_ 60 a0 = s.1.length + cntF e to_ (60 - s.1.length) s.2 ∧ -9223372036854775808 ≤ s.2 ∧ s.2 ≤ 9223372036854775807
def BI1 (w3 : World) (v : Nat) (e : Ex) (to_ a0 : Int) (p : List Int) (b x : Int) (W : World) : Prop :=
  W.heap[v + 1]? = some (.cells #[.int .i64 ((p.length : Int) + 1)] 3) ∧ W.heap[v + 2]? = some (.cells #[.int .i64 x] 2) ∧ W.heap[v + 3]? = some (.cells #[.bool true] 4) ∧ W.heap[v + 5]? = some (.cells #[.int .i64 b] 2) ∧
  Keeps (BS v) w3 W ∧ p.length + 1 < 60 ∧ cntF e to_ 60 a0 = p.length + cntF e to_ (60 - p.length) b ∧ StepB e to_ b x
def BX (w3 : World) (v : Nat) (e : Ex) (to_ a0 : Int) (ex : Code) (c : Code) (_p : List Int) (W : World) : Prop :=
  c = ex ∧ W.heap[v + 1]? = some (.cells #[.int .i64 60] 3) ∧ (∃ lv : Int, W.heap[v + 2]? = some (.cells #[.int .i64 lv] 2) ∧ -9223372036854775808 ≤ lv ∧ lv ≤ 9223372036854775807) ∧ W.heap[v + 3]? = some (.cells #[.bool false] 4) ∧
  Keeps (BS v) w3 W ∧ cntF e to_ 60 a0 = 60

theorem cronF_okB (s : Bs) (h : (cronF s).2 = 0) : (cronF s).1.Ok := by
  unfold cronF at h ⊢
  split
  · rename_i h2; exact exF_ok s h2
  · rename_i h2; rw [if_neg h2] at h; exact absurd h h2
theorem exVB (e : Ex) (i : Int) : cronV (e, i) = .tuple #[.agg #[.int .u64 e.mi, .int .u64 e.ho, .int .u64 e.da, .int .u64 e.mo, .int .u64 e.we, .bool e.ad, .bool e.aw], .int .i64 i] := rfl

set_option maxRecDepth 100000 in
set_option maxHeartbeats 8000000 in
theorem between_main (w : World) (hm : MaxL w) (s : Bs) (a to_ most : Int) (h1 : s.length ≤ 200) (r1 : -9223372036854775808 ≤ a) (r2 : a ≤ 9223372036854775807) (m1 : -9223372036854775808 ≤ most) (m2 : most ≤ 9223372036854775807) :
    Calls Tryd.prog 8 #[.string ⟨s.toArray⟩, .int .i64 a, .int .i64 to_, .int .i64 most] w (RetB (.bool true) w) := by
  refine (callsIn_wide (n := 5)).1 (callsIn_of_wp_marks Tryd.func8 rfl trivial ?_ rfl)
  have HPA := Lib.hid fun W hW => cronParse_any W s hW (by omega)
  have OA := Lib.hid (cronF_okB s)
  have HM := Lib.hid hm
  have HS : Hid (s.length ≤ 200) := Lib.hid h1
  have HLV : Hid (∀ W, MaxL W → Calls Tryd.prog 18 #[] W (RetB (.bool true) W)) := Lib.hid lives08
  clear hm
  generalize cronF s = ra at *
  obtain ⟨x, xe⟩ := ra
  simp only [exVB] at HPA
  simp only at OA
  have hw0 : ∃ w0, w0 = (w.alloc (.cells #[.int .i64 to_] 2)).alloc (.cells #[.bool false] 4) := ⟨_, rfl⟩
  obtain ⟨w0, hw0⟩ := hw0
  have HB0 : Hid (Below w.heap.size w w0) := Lib.hid (by rw [hw0]; exact ((Below.refl _ _).alloc (Nat.le_refl _) _).alloc (by simp) _)
  have HT0 : Hid (w0.heap[w.heap.size]? = some (.cells #[.int .i64 to_] 2)) := Lib.hid (by rw [hw0]; exact aheap (heap_new _ _) _)
  have HR0 : Hid (w0.heap[w.heap.size + 1]? = some (.cells #[.bool false] 4)) := Lib.hid (by rw [hw0]; have := heap_new (w.alloc (.cells #[.int .i64 to_] 2)) (.cells #[.bool false] 4); rwa [World.size_alloc] at this)
  simp only [Tryd.ntmps8, List.size_toArray, List.length_cons, List.length_nil, Nat.reduceAdd, Nat.reduceSub, Array.replicate_succ, Array.replicate_zero, List.push_toArray, List.append_toArray, List.nil_append, List.cons_append]
  gi_wp2
  refine ⟨trivial, ?_⟩
  rw [← hw0]
  have HM0 : Hid (MaxL w0) := Lib.hid (HM.out.step HB0.out)
  refine (callsIn_wide.2 (HLV.out _ HM0.out)).mono ?_
  rintro en w1 ⟨rfl, hb1⟩
  have HB1 := Lib.hid hb1
  have hlen := HS.out
  clear hb1 hw0
  gi_wp2
  refine ⟨trivial, ?_⟩
  refine (callsIn_wide.2 (HPA.out _ (HM0.out.step HB1.out))).mono ?_
  rintro en w2 ⟨rfl, hb2⟩
  have HB2 : Hid (Below w0.heap.size w0 w2) := Lib.hid (HB1.out.trans (hb2.mono HB1.out.size))
  have HR2 : Hid (w2.heap[w.heap.size + 1]? = some (.cells #[.bool false] 4)) := Lib.hid (bheap HB2.out HR0.out (heap_lt HR0.out))
  have HT2 : Hid (w2.heap[w.heap.size]? = some (.cells #[.int .i64 to_] 2)) := Lib.hid (bheap HB2.out HT0.out (heap_lt HT0.out))
  have hlt2 : w.heap.size + 1 < w2.heap.size := heap_lt HR2.out
  have HBW : Hid (Below w.heap.size w w2) := Lib.hid (HB0.out.trans (HB2.out.mono HB0.out.size))
  clear hb2 HPA HLV hlen
  have c8 : w2.cell? ⟨w.heap.size + 1, 0, none⟩ = some (.bool false) := blk_cell HR2.out 0 rfl
  have f8 : w2.frozen? ⟨w.heap.size + 1, 0, none⟩ = false := blk_free HR2.out 0
  have cT : w2.cell? ⟨w.heap.size, 0, none⟩ = some (.int .i64 to_) := blk_cell HT2.out 0 rfl
  by_cases he : xe = 0
  · subst he
    have ok := OA.out rfl
    have HOK := Lib.hid ok
    have HBT : Hid (∀ W, Calls Tryd.prog 22 #[x.v, .int .i64 a, .int .i64 to_] W fun en w' => en = .returned (.func (.func 35) #[] #[.pointer (some ⟨W.heap.size, 0, none⟩), .pointer (some ⟨W.heap.size + 1, 0, none⟩), .pointer (some ⟨W.heap.size + 2, 0, none⟩)]) ∧ w' = ((W.alloc (.cells x.cells 25)).alloc (.cells #[.int .i64 a] 2)).alloc (.cells #[.int .i64 to_] 2)) := Lib.hid fun W => between_any W x a to_
    have hcs : x.v = .agg #[.int .u64 x.mi, .int .u64 x.ho, .int .u64 x.da, .int .u64 x.mo, .int .u64 x.we, .bool x.ad, .bool x.aw] := rfl
    rw [hcs] at HBT
    have cT4 : ((((w2.alloc (.cells #[.int .u64 x.mi, .int .u64 x.ho, .int .u64 x.da, .int .u64 x.mo, .int .u64 x.we, .bool x.ad, .bool x.aw] 25)).alloc (.cells #[.int .i64 0] 3)).alloc (.cells #[.int .i64 a] 2)).alloc (.cells #[.bool true] 4)).cell? ⟨w.heap.size, 0, none⟩ = some (.int .i64 to_) := blk_cell (aheap (aheap (aheap (aheap HT2.out _) _) _) _) 0 rfl
    have HNX : Hid (∀ W u, -9223372036854775808 ≤ u → u ≤ 9223372036854775807 → Calls Tryd.prog 19 #[x.v, .int .i64 u] W (RetB (nextV (nextF x u)) W)) := Lib.hid fun W u h1 h2 => next_any W x ok u h1 h2
    have HAT : Hid (∀ W u, Calls Tryd.prog 13 #[x.v, .int .i64 u] W (RetB (.bool (atB x u)) W)) := Lib.hid fun W u => cronAt_any W x ok u
    have HCNT : Hid (∀ W u, u ≤ 9223372036854775807 → Calls Tryd.prog 21 #[x.v, .int .i64 a, .int .i64 to_, .int .i64 u] W (RetB (.int .i64 (cntF x to_ u.toNat a)) W)) := Lib.hid fun W u h => count_all W x ok a to_ u r1 r2 h
    rw [hcs] at HNX HAT HCNT
    clear OA ok
    gi_wp2
    refine ⟨trivial, ?_⟩
    refine (callsIn_wide.2 (HBT.out _)).mono ?_
    rintro en w3 ⟨rfl, hw3⟩
    clear cT c8 f8 cT4
    gi_wp2
    rw [← hw3]
    have hsz : w3.heap.size = w2.heap.size + 7 := by rw [hw3]; simp
    have hE : w3.heap[w2.heap.size]? = some (.cells #[.int .u64 x.mi, .int .u64 x.ho, .int .u64 x.da, .int .u64 x.mo, .int .u64 x.we, .bool x.ad, .bool x.aw] 25) := by
      rw [hw3]; show (((((((w2.heap.push _).push _).push _).push _).push _).push _).push _)[w2.heap.size]? = _; simp only [Array.getElem?_push, Array.size_push]; repeat (rw [if_neg (by omega)])
      exact if_pos (by first | trivial | omega)
    have hN : w3.heap[w2.heap.size + 1]? = some (.cells #[.int .i64 0] 3) := by
      rw [hw3]; show (((((((w2.heap.push _).push _).push _).push _).push _).push _).push _)[w2.heap.size + 1]? = _; simp only [Array.getElem?_push, Array.size_push]; repeat (rw [if_neg (by omega)])
      exact if_pos (by first | trivial | omega)
    have hL : w3.heap[w2.heap.size + 2]? = some (.cells #[.int .i64 a] 2) := by
      rw [hw3]; show (((((((w2.heap.push _).push _).push _).push _).push _).push _).push _)[w2.heap.size + 2]? = _; simp only [Array.getElem?_push, Array.size_push]; repeat (rw [if_neg (by omega)])
      exact if_pos (by first | trivial | omega)
    have hWh : w3.heap[w2.heap.size + 3]? = some (.cells #[.bool true] 4) := by
      rw [hw3]; show (((((((w2.heap.push _).push _).push _).push _).push _).push _).push _)[w2.heap.size + 3]? = _; simp only [Array.getElem?_push, Array.size_push]; repeat (rw [if_neg (by omega)])
      exact if_pos (by first | trivial | omega)
    have hE2 : w3.heap[w2.heap.size + 4]? = some (.cells x.cells 25) := by
      rw [hw3]; show (((((((w2.heap.push _).push _).push _).push _).push _).push _).push _)[w2.heap.size + 4]? = _; simp only [Array.getElem?_push, Array.size_push]; repeat (rw [if_neg (by omega)])
      exact if_pos (by first | trivial | omega)
    have hA : w3.heap[w2.heap.size + 5]? = some (.cells #[.int .i64 a] 2) := by
      rw [hw3]; show (((((((w2.heap.push _).push _).push _).push _).push _).push _).push _)[w2.heap.size + 5]? = _; simp only [Array.getElem?_push, Array.size_push]; repeat (rw [if_neg (by omega)])
      exact if_pos (by first | trivial | omega)
    have hTo : w3.heap[w2.heap.size + 6]? = some (.cells #[.int .i64 to_] 2) := by
      rw [hw3]; show (((((((w2.heap.push _).push _).push _).push _).push _).push _).push _)[w2.heap.size + 6]? = _; simp only [Array.getElem?_push, Array.size_push]; repeat (rw [if_neg (by omega)])
      exact if_pos (by first | trivial | omega)
    have HR3 : Hid (w3.heap[w.heap.size + 1]? = some (.cells #[.bool false] 4)) := Lib.hid (by rw [hw3]; exact aheap (aheap (aheap (aheap (aheap (aheap (aheap HR2.out _) _) _) _) _) _) _)
    have HT3 : Hid (w3.heap[w.heap.size]? = some (.cells #[.int .i64 to_] 2)) := Lib.hid (by rw [hw3]; exact aheap (aheap (aheap (aheap (aheap (aheap (aheap HT2.out _) _) _) _) _) _) _)
    have HB3 : Hid (Below w.heap.size w w3) := Lib.hid (by
      rw [hw3]
      exact (((((((HBW.out.alloc (by omega) _).alloc (by simp; omega) _).alloc (by simp; omega) _).alloc (by simp; omega) _).alloc (by simp; omega) _).alloc (by simp; omega) _).alloc (by simp; omega) _))
    have HSZ := Lib.hid hsz
    have HE := Lib.hid hE
    clear hw3 HBW HT2 HR2 HB2
    refine range_law (n := 5) (gf := 35) (lb := #[.pointer (some ⟨w2.heap.size + 4, 0, none⟩), .pointer (some ⟨w2.heap.size + 5, 0, none⟩), .pointer (some ⟨w2.heap.size + 6, 0, none⟩)]) rfl (enters_of Tryd.func35 (by kernel_rfl) rfl) rfl
      (S := BS w2.heap.size) (ba := w2.heap.size + 5) (Step := StepB x to_) (Stop := StopB x to_) (a0 := a) (w0 := w3)
      (between_iter _ 4 w3 (w2.heap.size + 4) (w2.heap.size + 5) (w2.heap.size + 6) x HOK.out a to_ hE2 hTo (by unfold BS; omega) (by unfold BS; omega)) (Below.refl _ _) (by rw [hsz]; omega)
      (BI w3 w2.heap.size x to_ a) (BI1 w3 w2.heap.size x to_ a) (BX w3 w2.heap.size x to_ a (.exit 0))
      ?ib ?is ?ic ?io ?i1o ?ixo ?h0 ?a1 ?assign ?body ?done ?stop
    case assign =>
      intro l y W K hK
      gi_wp2
      exact hK
    case ib =>
      rintro s A B ⟨g1, g2, g3, g4, g5, g6⟩ hb
      exact ⟨bheap hb g1 (heap_lt g1), bheap hb g2 (heap_lt g2), bheap hb g3 (heap_lt g3), bheap hb g4 (heap_lt g4), g5.trans (Keeps.of_belowS hb), g6⟩
    case is =>
      rintro p b y A ⟨g1, g2, g3, g4, g5, g6, g7, g8⟩
      have h1 := blk_set_other g1 (a := ⟨w2.heap.size + 5, 0, none⟩) (by simp) (.int .i64 y)
      have h2 := blk_set_other g2 (a := ⟨w2.heap.size + 5, 0, none⟩) (by simp) (.int .i64 y)
      have h3 := blk_set_other g3 (a := ⟨w2.heap.size + 5, 0, none⟩) (by simp) (.int .i64 y)
      refine ⟨⟨?_, h2, h3, blk_set g4 0 _, g5.setCell (.inl (.inr (.inr (.inr rfl)))) _, by simp; omega, ?_, ?_⟩, g4⟩
      · simpa using h1
      · have hk : 60 - p.length = (60 - (p.length + 1)) + 1 := by omega
        rw [g7, hk, cnt_step g8]
        simp
        omega
      · have := step_up g8
        show -9223372036854775808 ≤ y ∧ y ≤ 9223372036854775807
        omega
    case ic =>
      rintro s A ⟨g1, g2, g3, g4, g5, g6, g7, g8⟩
      exact ⟨g5, g4, g8⟩
    case io =>
      rintro s A l o o' ⟨g1, g2, g3, g4, g5, g6⟩ hl _ _
      exact ⟨(World.putObj_heap_other (by omega)).trans g1, (World.putObj_heap_other (by omega)).trans g2, (World.putObj_heap_other (by omega)).trans g3, (World.putObj_heap_other (by omega)).trans g4, g5.putObj hl o', g6⟩
    case i1o =>
      rintro p b y A l o o' ⟨g1, g2, g3, g4, g5, g6⟩ hl _ _
      exact ⟨(World.putObj_heap_other (by omega)).trans g1, (World.putObj_heap_other (by omega)).trans g2, (World.putObj_heap_other (by omega)).trans g3, (World.putObj_heap_other (by omega)).trans g4, g5.putObj hl o', g6⟩
    case ixo =>
      rintro c p A l o o' ⟨g0, g1, ⟨lv, g2, g2'⟩, g3, g5, g6⟩ hl _ _
      exact ⟨g0, (World.putObj_heap_other (by omega)).trans g1, ⟨lv, (World.putObj_heap_other (by omega)).trans g2, g2'⟩, (World.putObj_heap_other (by omega)).trans g3, g5.putObj hl o', g6⟩
    case h0 => exact ⟨hN, hL, hWh, hA, Keeps.refl _ _, by simp, by simp, r1, r2⟩
    case body =>
      rintro l p b y W ⟨g1, g2, g3, g4, g5, g6, g7, g8, g9⟩ hst
      have hWE := g5.heap (by unfold BS; omega) HE.out
      have hWT := g5.heap (by unfold BS; omega) HT3.out
      have cE0 : W.cell? ⟨w2.heap.size, 0, none⟩ = some (.int .u64 x.mi) := blk_cell hWE 0 rfl
      have cE1 : W.cell? ⟨w2.heap.size, 1, none⟩ = some (.int .u64 x.ho) := blk_cell hWE 1 rfl
      have cE2 : W.cell? ⟨w2.heap.size, 2, none⟩ = some (.int .u64 x.da) := blk_cell hWE 2 rfl
      have cE3 : W.cell? ⟨w2.heap.size, 3, none⟩ = some (.int .u64 x.mo) := blk_cell hWE 3 rfl
      have cE4 : W.cell? ⟨w2.heap.size, 4, none⟩ = some (.int .u64 x.we) := blk_cell hWE 4 rfl
      have cE5 : W.cell? ⟨w2.heap.size, 5, none⟩ = some (.bool x.ad) := blk_cell hWE 5 rfl
      have cE6 : W.cell? ⟨w2.heap.size, 6, none⟩ = some (.bool x.aw) := blk_cell hWE 6 rfl
      have cL : W.cell? ⟨w2.heap.size + 1 + 1, 0, none⟩ = some (.int .i64 b) := blk_cell g2 0 rfl
      have hn := HNX.out W b g8 g9
      rw [hst.1] at hn
      have hle := hst.2
      have HST := Lib.hid hst
      have G1 := Lib.hid g1
      have G2 := Lib.hid g2
      have G3 := Lib.hid g3
      have G4 := Lib.hid g4
      have G5 := Lib.hid g5
      have G7 := Lib.hid g7
      have HWE := Lib.hid hWE
      have HWT := Lib.hid hWT
      simp only at g6 hn
      unfold nextV at hn
      have hgt : ¬ to_ < y := by omega
      have hat := HAT.out (W := W) y
      clear g1 g2 g3 g4 g5 g7 g8 g9 hst hWE hWT hE hN hL hWh hE2 hA hTo hsz hat
      gi_wp2
      refine ⟨trivial, ?_⟩
      refine (CallsIn.inRound l (callsIn_wide.2 hn)).mono ?_
      rintro en w4 ⟨rfl, hb4⟩
      have HB4 := Lib.hid hb4
      have HWE4 := Lib.hid (bheap hb4 HWE.out (heap_lt HWE.out))
      have HWT4 := Lib.hid (bheap hb4 HWT.out (heap_lt HWT.out))
      clear hn cE0 cE1 cE2 cE3 cE4 cE5 cE6 cL hb4
      have cE0 : w4.cell? ⟨w2.heap.size, 0, none⟩ = some (.int .u64 x.mi) := blk_cell HWE4.out 0 rfl
      have cE1 : w4.cell? ⟨w2.heap.size, 1, none⟩ = some (.int .u64 x.ho) := blk_cell HWE4.out 1 rfl
      have cE2 : w4.cell? ⟨w2.heap.size, 2, none⟩ = some (.int .u64 x.da) := blk_cell HWE4.out 2 rfl
      have cE3 : w4.cell? ⟨w2.heap.size, 3, none⟩ = some (.int .u64 x.mo) := blk_cell HWE4.out 3 rfl
      have cE4 : w4.cell? ⟨w2.heap.size, 4, none⟩ = some (.int .u64 x.we) := blk_cell HWE4.out 4 rfl
      have cE5 : w4.cell? ⟨w2.heap.size, 5, none⟩ = some (.bool x.ad) := blk_cell HWE4.out 5 rfl
      have cE6 : w4.cell? ⟨w2.heap.size, 6, none⟩ = some (.bool x.aw) := blk_cell HWE4.out 6 rfl
      have cT4 : w4.cell? ⟨w.heap.size, 0, none⟩ = some (.int .i64 to_) := blk_cell HWT4.out 0 rfl
      have hat := HAT.out w4 y
      rw [step_at HST.out] at hat
      gi_wp2
      refine ⟨trivial, ?_⟩
      refine (CallsIn.inRound l (callsIn_wide.2 hat)).mono ?_
      rintro en w5 ⟨rfl, hb5⟩
      have hbb := HB4.out.trans (hb5.mono HB4.out.size)
      have HK5 : Hid (KeepsOthers W w5) := Lib.hid ⟨hbb.size, fun k o hk _ => (hbb.block k (Array.getElem?_eq_some_iff.1 hk).1).trans hk⟩
      have HG5 : Hid (Keeps (BS w2.heap.size) w3 w5) := Lib.hid (G5.out.trans (Keeps.of_belowS hbb))
      have K1 := Lib.hid (bheap hbb G1.out (heap_lt G1.out))
      have K2 := Lib.hid (bheap hbb G2.out (heap_lt G2.out))
      have K3 := Lib.hid (bheap hbb G3.out (heap_lt G3.out))
      have K4 := Lib.hid (bheap hbb G4.out (heap_lt G4.out))
      clear hat cE0 cE1 cE2 cE3 cE4 cE5 cE6 cT4 hb5 hbb
      have cN : w5.cell? ⟨w2.heap.size + 1, 0, none⟩ = some (.int .i64 (p.length : Int)) := blk_cell K1.out 0 rfl
      have fN : w5.frozen? ⟨w2.heap.size + 1, 0, none⟩ = false := blk_free K1.out 0
      have cL : w5.cell? ⟨w2.heap.size + 1 + 1, 0, none⟩ = some (.int .i64 b) := blk_cell K2.out 0 rfl
      have fL : w5.frozen? ⟨w2.heap.size + 1 + 1, 0, none⟩ = false := blk_free K2.out 0
      have cW : w5.cell? ⟨w2.heap.size + 1 + 1 + 1, 0, none⟩ = some (.bool true) := blk_cell K3.out 0 rfl
      have fW : w5.frozen? ⟨w2.heap.size + 1 + 1 + 1, 0, none⟩ = false := blk_free K3.out 0
      have HP6 := Lib.hid g6
      have hp0 : (0 : Int) ≤ (p.length : Int) := by omega
      have hp1 : (p.length : Int) < 60 := by omega
      have E1 : (w5.setCell ⟨w2.heap.size + 2, 0, none⟩ (.int .i64 y)).heap[w2.heap.size + 1]? = some (.cells #[.int .i64 (p.length : Int)] 3) := blk_set_other K1.out (by simp) _
      have E1 := Lib.hid (blk_set E1 0 (.int .i64 ((p.length : Int) + 1)))
      have E2 : (w5.setCell ⟨w2.heap.size + 2, 0, none⟩ (.int .i64 y)).heap[w2.heap.size + 2]? = some (.cells #[.int .i64 y] 2) := blk_set K2.out 0 _
      have E2 := Lib.hid (blk_set_other E2 (a := ⟨w2.heap.size + 1, 0, none⟩) (by simp) (.int .i64 ((p.length : Int) + 1)))
      have E3 : (w5.setCell ⟨w2.heap.size + 2, 0, none⟩ (.int .i64 y)).heap[w2.heap.size + 3]? = some (.cells #[.bool true] 4) := blk_set_other K3.out (by simp) _
      have E3 := Lib.hid (blk_set_other E3 (a := ⟨w2.heap.size + 1, 0, none⟩) (by simp) (.int .i64 ((p.length : Int) + 1)))
      have E4 : (w5.setCell ⟨w2.heap.size + 2, 0, none⟩ (.int .i64 y)).heap[w2.heap.size + 5]? = some (.cells #[.int .i64 b] 2) := blk_set_other K4.out (by simp) _
      have E4 := Lib.hid (blk_set_other E4 (a := ⟨w2.heap.size + 1, 0, none⟩) (by simp) (.int .i64 ((p.length : Int) + 1)))
      have E5 : Hid (Keeps (BS w2.heap.size) w3 ((w5.setCell ⟨w2.heap.size + 2, 0, none⟩ (.int .i64 y)).setCell ⟨w2.heap.size + 1, 0, none⟩ (.int .i64 ((p.length : Int) + 1)))) := Lib.hid ((HG5.out.setCell (.inl (.inr (.inl rfl))) _).setCell (.inl (.inl rfl)) _)
      have E6 : Hid (KeepsOthers W ((w5.setCell ⟨w2.heap.size + 2, 0, none⟩ (.int .i64 y)).setCell ⟨w2.heap.size + 1, 0, none⟩ (.int .i64 ((p.length : Int) + 1)))) := Lib.hid ((HK5.out.trans (KeepsOthers.setCell _ _ _)).trans (KeepsOthers.setCell _ _ _))
      clear g6
      by_cases hbrk : (p.length : Int) + 1 = 60
      · have hc : Hid (cntF x to_ 60 a = 60) := Lib.hid (by
          rw [G7.out, show 60 - p.length = 0 + 1 by omega, cnt_step HST.out 0]
          show (p.length : Int) + (1 + 0) = 60
          omega)
        have hy := step_up HST.out
        have hy : Hid (-9223372036854775808 ≤ y ∧ y ≤ 9223372036854775807) := Lib.hid (by omega)
        gi_wp2
        rw [hbrk] at E1 E2 E3 E5 E6
        refine ⟨E6.out.trans (KeepsOthers.setCell _ _ _), rfl, ?_, ⟨y, ?_, hy.out⟩, ?_, E5.out.setCell (.inl (.inr (.inr (.inl rfl)))) _, hc.out⟩
        · have := blk_set_other E1.out (a := ⟨w2.heap.size + 3, 0, none⟩) (by simp) (.bool false)
          simpa using this
        · have := blk_set_other E2.out (a := ⟨w2.heap.size + 3, 0, none⟩) (by simp) (.bool false)
          simpa using this
        · exact blk_set E3.out 0 (.bool false)
      · have hbk : ((p.length : Int) + 1 == 60) = false := by simpa using hbrk
        have hlt60 : p.length + 1 < 60 := by omega
        have HLT := Lib.hid hlt60
        clear hbrk hlt60
        gi_wp2
        refine ⟨E6.out, ?_, ?_, E3.out, E4.out, E5.out, HLT.out, G7.out, HST.out⟩
        · simpa using E1.out
        · simpa using E2.out
    case done =>
      rintro D p b W hD hstop ⟨g1, g2, g3, g4, g5, g6, g7, g8, g9⟩ hDef
      have HC : Hid (cntF x to_ 60 a = (p.length : Int)) := Lib.hid (by rw [g7, cnt_stop hstop]; simp)
      simp only at g8 g9 g6 g1
      have hpl0 : (0 : Int) ≤ (p.length : Int) := by omega
      have hpl : (p.length : Int) ≤ 60 := by omega
      clear g4 g7 g6
      obtain ⟨nn, hnn⟩ : ∃ nn : Int, nn = (p.length : Int) := ⟨_, rfl⟩
      rw [← hnn] at g1 HC hpl hpl0
      clear hnn
      have hWE := g5.heap (by unfold BS; omega) HE.out
      have hWT := g5.heap (by unfold BS; omega) HT3.out
      have hWR := g5.heap (by unfold BS; omega) HR3.out
      have cE0 : W.cell? ⟨w2.heap.size, 0, none⟩ = some (.int .u64 x.mi) := blk_cell hWE 0 rfl
      have cE1 : W.cell? ⟨w2.heap.size, 1, none⟩ = some (.int .u64 x.ho) := blk_cell hWE 1 rfl
      have cE2 : W.cell? ⟨w2.heap.size, 2, none⟩ = some (.int .u64 x.da) := blk_cell hWE 2 rfl
      have cE3 : W.cell? ⟨w2.heap.size, 3, none⟩ = some (.int .u64 x.mo) := blk_cell hWE 3 rfl
      have cE4 : W.cell? ⟨w2.heap.size, 4, none⟩ = some (.int .u64 x.we) := blk_cell hWE 4 rfl
      have cE5 : W.cell? ⟨w2.heap.size, 5, none⟩ = some (.bool x.ad) := blk_cell hWE 5 rfl
      have cE6 : W.cell? ⟨w2.heap.size, 6, none⟩ = some (.bool x.aw) := blk_cell hWE 6 rfl
      have cL : W.cell? ⟨w2.heap.size + 1 + 1, 0, none⟩ = some (.int .i64 b) := blk_cell g2 0 rfl
      have hn := HNX.out W b g8 g9
      obtain ⟨y, oky, hN⟩ : ∃ y oky, nextF x b = (y, oky) := ⟨_, _, rfl⟩
      rw [hN] at hn
      unfold nextV at hn
      simp only at hn
      have HSTOP : Hid (oky = true → to_ < y) := Lib.hid fun h => by
        subst h
        by_cases hlt : to_ < y
        · exact hlt
        · exact absurd ⟨hN, by omega⟩ (hstop y)
      have G1 := Lib.hid g1
      have G3 := Lib.hid g3
      have G5 := Lib.hid g5
      have HWE := Lib.hid hWE
      have HWT := Lib.hid hWT
      have HWR := Lib.hid hWR
      have HDF := Lib.hid hDef
      have HDD := Lib.hid hD
      clear g1 g2 g3 g5 g8 g9 hWE hWT hWR
      clear hstop hDef hD
      clear hE hL hWh hE2 hA hTo hsz
      clear hN
      gi_wp2
      refine ⟨trivial, ?_⟩
      refine (callsIn_wide.2 hn).mono ?_
      rintro en w6 ⟨rfl, hb6⟩
      have HB6 := Lib.hid hb6
      have G16 := Lib.hid (bheap hb6 G1.out (heap_lt G1.out))
      have HWE6 := Lib.hid (bheap hb6 HWE.out (heap_lt HWE.out))
      have HWT6 := Lib.hid (bheap hb6 HWT.out (heap_lt HWT.out))
      have HWR6 := Lib.hid (bheap hb6 HWR.out (heap_lt HWR.out))
      have HDF6 := Lib.hid (bheap hb6 HDF.out (heap_lt HDF.out))
      have hWh6 := bheap hb6 G3.out (heap_lt G3.out)
      have cW : w6.cell? ⟨w2.heap.size + 1 + 1 + 1, 0, none⟩ = some (.bool true) := blk_cell hWh6 0 rfl
      have cT6 : w6.cell? ⟨w.heap.size, 0, none⟩ = some (.int .i64 to_) := blk_cell HWT6.out 0 rfl
      have FIN : Hid (∀ w7, Below w6.drew.heap.size w6.drew w7 → w7.heap[w.heap.size + 1]? = some (.cells #[.bool false] 4) →
          (w7.setCell ⟨w.heap.size + 1, 0, none⟩ (.bool true)).heap[D]? = some (.deferred (some [])) ∧
          ((w7.setCell ⟨w.heap.size + 1, 0, none⟩ (.bool true)).putObj D (.deferred none)).cell? ⟨w.heap.size + 1, 0, none⟩ = some (.bool true) ∧
          Below w.heap.size w ((w7.setCell ⟨w.heap.size + 1, 0, none⟩ (.bool true)).putObj D (.deferred none))) := Lib.hid fun w7 hb7 hr => by
        have hDw := HDD.out
        have h7 := HSZ.out
        have hd7 := bheap hb7 (show w6.drew.heap[D]? = _ from HDF6.out) (heap_lt HDF6.out)
        refine ⟨blk_set_other hd7 (by simp only; omega) _, blk_cell ((World.putObj_heap_other (by omega)).trans (blk_set hr 0 _)) 0 rfl, ?_⟩
        have k1 : Keeps (fun k => BS w2.heap.size k ∨ k = w.heap.size + 1) w3 W := (Keeps.refl _ w3).andThen G5.out (fun i h => .inr (.inl h))
        have k2 : Keeps (fun k => BS w2.heap.size k ∨ k = w.heap.size + 1) w3 w7 := (k1.trans (Keeps.of_belowS HB6.out)).drew.trans (Keeps.of_belowS hb7)
        have k3 : Keeps (fun k => BS w2.heap.size k ∨ k = w.heap.size + 1) w3 ((w7.setCell ⟨w.heap.size + 1, 0, none⟩ (.bool true)).putObj D (.deferred none)) := (k2.setCell (.inl (.inr rfl)) _).putObj hDw _
        exact HB3.out.trans (k3.below (by omega) (fun k hk => by unfold BS at hk; omega))
      clear hn cE0 cE1 cE2 cE3 cE4 cE5 cE6 cL hb6 hWh6
      have hcount : ∀ W', Calls Tryd.prog 21 #[.agg #[.int .u64 x.mi, .int .u64 x.ho, .int .u64 x.da, .int .u64 x.mo, .int .u64 x.we, .bool x.ad, .bool x.aw], .int .i64 a, .int .i64 to_, .int .i64 (min most 60)] W' (RetB (.int .i64 (max 0 (min nn (min most 60)))) W') := fun W' => by
        have h := HCNT.out W' (min most 60) (by omega)
        rwa [between_law x to_ a most nn HC.out] at h
      have HCN := Lib.hid hcount
      clear hcount
      have cE0 : w6.cell? ⟨w2.heap.size, 0, none⟩ = some (.int .u64 x.mi) := blk_cell HWE6.out 0 rfl
      have cE1 : w6.cell? ⟨w2.heap.size, 1, none⟩ = some (.int .u64 x.ho) := blk_cell HWE6.out 1 rfl
      have cE2 : w6.cell? ⟨w2.heap.size, 2, none⟩ = some (.int .u64 x.da) := blk_cell HWE6.out 2 rfl
      have cE3 : w6.cell? ⟨w2.heap.size, 3, none⟩ = some (.int .u64 x.mo) := blk_cell HWE6.out 3 rfl
      have cE4 : w6.cell? ⟨w2.heap.size, 4, none⟩ = some (.int .u64 x.we) := blk_cell HWE6.out 4 rfl
      have cE5 : w6.cell? ⟨w2.heap.size, 5, none⟩ = some (.bool x.ad) := blk_cell HWE6.out 5 rfl
      have cE6 : w6.cell? ⟨w2.heap.size, 6, none⟩ = some (.bool x.aw) := blk_cell HWE6.out 6 rfl
      have cN : w6.cell? ⟨w2.heap.size + 1, 0, none⟩ = some (.int .i64 nn) := blk_cell G16.out 0 rfl
      cases oky with
      | false =>
        gi_wp2
        generalize min most 60 = mm at *
        refine wpIn_wide.2 ?_
        go_region_held3 (fun w' => w'.cell? ⟨w2.heap.size, 0, none⟩ = some (.int .u64 x.mi) ∧ w'.cell? ⟨w2.heap.size, 1, none⟩ = some (.int .u64 x.ho) ∧ w'.cell? ⟨w2.heap.size, 2, none⟩ = some (.int .u64 x.da) ∧ w'.cell? ⟨w2.heap.size, 3, none⟩ = some (.int .u64 x.mo) ∧ w'.cell? ⟨w2.heap.size, 4, none⟩ = some (.int .u64 x.we) ∧ w'.cell? ⟨w2.heap.size, 5, none⟩ = some (.bool x.ad) ∧ w'.cell? ⟨w2.heap.size, 6, none⟩ = some (.bool x.aw) ∧ w'.cell? ⟨w.heap.size, 0, none⟩ = some (.int .i64 to_) ∧ w'.cell? ⟨w2.heap.size + 1, 0, none⟩ = some (.int .i64 nn))
          (first | exact ⟨cE0, cE1, cE2, cE3, cE4, cE5, cE6, cT6, cN⟩ | exact ⟨k0, k1, k2, k3, k4, k5, k6, k7, k8⟩ | exact ⟨blk_cell sE 0 rfl, blk_cell sE 1 rfl, blk_cell sE 2 rfl, blk_cell sE 3 rfl, blk_cell sE 4 rfl, blk_cell sE 5 rfl, blk_cell sE 6 rfl, blk_cell sT 0 rfl, blk_cell sN 0 rfl⟩ | go_keep)
          (first
            | (go_at_call 21; refine (HCN.out _).mono ?_; rintro e w7 ⟨rfl, hb7⟩; have qE := bheap hb7 HWE6.out (heap_lt HWE6.out); have qT := bheap hb7 HWT6.out (heap_lt HWT6.out); have qN := bheap hb7 G16.out (heap_lt G16.out); have k0 : w7.cell? ⟨w2.heap.size, 0, none⟩ = some (.int .u64 x.mi) := blk_cell qE 0 rfl; have k1 : w7.cell? ⟨w2.heap.size, 1, none⟩ = some (.int .u64 x.ho) := blk_cell qE 1 rfl; have k2 : w7.cell? ⟨w2.heap.size, 2, none⟩ = some (.int .u64 x.da) := blk_cell qE 2 rfl; have k3 : w7.cell? ⟨w2.heap.size, 3, none⟩ = some (.int .u64 x.mo) := blk_cell qE 3 rfl; have k4 : w7.cell? ⟨w2.heap.size, 4, none⟩ = some (.int .u64 x.we) := blk_cell qE 4 rfl; have k5 : w7.cell? ⟨w2.heap.size, 5, none⟩ = some (.bool x.ad) := blk_cell qE 5 rfl; have k6 : w7.cell? ⟨w2.heap.size, 6, none⟩ = some (.bool x.aw) := blk_cell qE 6 rfl; have k7 : w7.cell? ⟨w.heap.size, 0, none⟩ = some (.int .i64 to_) := blk_cell qT 0 rfl; have k8 : w7.cell? ⟨w2.heap.size + 1, 0, none⟩ = some (.int .i64 nn) := blk_cell qN 0 rfl; have qR := bheap hb7 HWR6.out (heap_lt HWR6.out); have kR : w7.cell? ⟨w.heap.size + 1, 0, none⟩ = some (.bool false) := blk_cell qR 0 rfl; have kF : w7.frozen? ⟨w.heap.size + 1, 0, none⟩ = false := blk_free qR 0; have sE := blk_set_other qE (a := ⟨w.heap.size + 1, 0, none⟩) (by simp only; omega) (.bool true); have sT := blk_set_other qT (a := ⟨w.heap.size + 1, 0, none⟩) (by simp only; omega) (.bool true); have sN := blk_set_other qN (a := ⟨w.heap.size + 1, 0, none⟩) (by simp only; omega) (.bool true)))
        all_goals
          gi_wp2
          obtain ⟨f1, f2, f3⟩ := FIN.out _ hb7 qR
          refine ⟨by simp, .inl ⟨_, _, rfl, run_takeDeferred f1, ?_⟩⟩
          exact ⟨.bool true, by simp [results, Tryd.f8, go_sem, f2], rfl, f3⟩
      | true =>
        have hlty := HSTOP.out rfl
        gi_wp2
        generalize min most 60 = mm at *
        refine wpIn_wide.2 ?_
        go_region_held3 (fun w' => w'.cell? ⟨w2.heap.size, 0, none⟩ = some (.int .u64 x.mi) ∧ w'.cell? ⟨w2.heap.size, 1, none⟩ = some (.int .u64 x.ho) ∧ w'.cell? ⟨w2.heap.size, 2, none⟩ = some (.int .u64 x.da) ∧ w'.cell? ⟨w2.heap.size, 3, none⟩ = some (.int .u64 x.mo) ∧ w'.cell? ⟨w2.heap.size, 4, none⟩ = some (.int .u64 x.we) ∧ w'.cell? ⟨w2.heap.size, 5, none⟩ = some (.bool x.ad) ∧ w'.cell? ⟨w2.heap.size, 6, none⟩ = some (.bool x.aw) ∧ w'.cell? ⟨w.heap.size, 0, none⟩ = some (.int .i64 to_) ∧ w'.cell? ⟨w2.heap.size + 1, 0, none⟩ = some (.int .i64 nn))
          (first | exact ⟨cE0, cE1, cE2, cE3, cE4, cE5, cE6, cT6, cN⟩ | exact ⟨k0, k1, k2, k3, k4, k5, k6, k7, k8⟩ | exact ⟨blk_cell sE 0 rfl, blk_cell sE 1 rfl, blk_cell sE 2 rfl, blk_cell sE 3 rfl, blk_cell sE 4 rfl, blk_cell sE 5 rfl, blk_cell sE 6 rfl, blk_cell sT 0 rfl, blk_cell sN 0 rfl⟩ | go_keep)
          (first
            | (go_at_call 21; refine (HCN.out _).mono ?_; rintro e w7 ⟨rfl, hb7⟩; have qE := bheap hb7 HWE6.out (heap_lt HWE6.out); have qT := bheap hb7 HWT6.out (heap_lt HWT6.out); have qN := bheap hb7 G16.out (heap_lt G16.out); have k0 : w7.cell? ⟨w2.heap.size, 0, none⟩ = some (.int .u64 x.mi) := blk_cell qE 0 rfl; have k1 : w7.cell? ⟨w2.heap.size, 1, none⟩ = some (.int .u64 x.ho) := blk_cell qE 1 rfl; have k2 : w7.cell? ⟨w2.heap.size, 2, none⟩ = some (.int .u64 x.da) := blk_cell qE 2 rfl; have k3 : w7.cell? ⟨w2.heap.size, 3, none⟩ = some (.int .u64 x.mo) := blk_cell qE 3 rfl; have k4 : w7.cell? ⟨w2.heap.size, 4, none⟩ = some (.int .u64 x.we) := blk_cell qE 4 rfl; have k5 : w7.cell? ⟨w2.heap.size, 5, none⟩ = some (.bool x.ad) := blk_cell qE 5 rfl; have k6 : w7.cell? ⟨w2.heap.size, 6, none⟩ = some (.bool x.aw) := blk_cell qE 6 rfl; have k7 : w7.cell? ⟨w.heap.size, 0, none⟩ = some (.int .i64 to_) := blk_cell qT 0 rfl; have k8 : w7.cell? ⟨w2.heap.size + 1, 0, none⟩ = some (.int .i64 nn) := blk_cell qN 0 rfl; have qR := bheap hb7 HWR6.out (heap_lt HWR6.out); have kR : w7.cell? ⟨w.heap.size + 1, 0, none⟩ = some (.bool false) := blk_cell qR 0 rfl; have kF : w7.frozen? ⟨w.heap.size + 1, 0, none⟩ = false := blk_free qR 0; have sE := blk_set_other qE (a := ⟨w.heap.size + 1, 0, none⟩) (by simp only; omega) (.bool true); have sT := blk_set_other qT (a := ⟨w.heap.size + 1, 0, none⟩) (by simp only; omega) (.bool true); have sN := blk_set_other qN (a := ⟨w.heap.size + 1, 0, none⟩) (by simp only; omega) (.bool true)))
        all_goals
          gi_wp2
          obtain ⟨f1, f2, f3⟩ := FIN.out _ hb7 qR
          refine ⟨by simp, .inl ⟨_, _, rfl, run_takeDeferred f1, ?_⟩⟩
          exact ⟨.bool true, by simp [results, Tryd.f8, go_sem, f2], rfl, f3⟩
    case stop =>
      rintro D c q W hD ⟨rfl, g1, ⟨b, g2, g8, g9⟩, g3, g5, g7⟩ hDef
      obtain ⟨nn, hnn⟩ : ∃ nn : Int, nn = 60 := ⟨_, rfl⟩
      have HC : Hid (cntF x to_ 60 a = nn) := Lib.hid (by rw [g7, hnn])
      have hpl0 : (0 : Int) ≤ nn := by omega
      have hpl : nn ≤ 60 := by omega
      clear g7
      rw [← hnn] at g1
      clear hnn
      have hWE := g5.heap (by unfold BS; omega) HE.out
      have hWT := g5.heap (by unfold BS; omega) HT3.out
      have hWR := g5.heap (by unfold BS; omega) HR3.out
      have cE0 : W.cell? ⟨w2.heap.size, 0, none⟩ = some (.int .u64 x.mi) := blk_cell hWE 0 rfl
      have cE1 : W.cell? ⟨w2.heap.size, 1, none⟩ = some (.int .u64 x.ho) := blk_cell hWE 1 rfl
      have cE2 : W.cell? ⟨w2.heap.size, 2, none⟩ = some (.int .u64 x.da) := blk_cell hWE 2 rfl
      have cE3 : W.cell? ⟨w2.heap.size, 3, none⟩ = some (.int .u64 x.mo) := blk_cell hWE 3 rfl
      have cE4 : W.cell? ⟨w2.heap.size, 4, none⟩ = some (.int .u64 x.we) := blk_cell hWE 4 rfl
      have cE5 : W.cell? ⟨w2.heap.size, 5, none⟩ = some (.bool x.ad) := blk_cell hWE 5 rfl
      have cE6 : W.cell? ⟨w2.heap.size, 6, none⟩ = some (.bool x.aw) := blk_cell hWE 6 rfl
      have cL : W.cell? ⟨w2.heap.size + 1 + 1, 0, none⟩ = some (.int .i64 b) := blk_cell g2 0 rfl
      have hn := HNX.out W b g8 g9
      obtain ⟨y, oky, hN⟩ : ∃ y oky, nextF x b = (y, oky) := ⟨_, _, rfl⟩
      rw [hN] at hn
      unfold nextV at hn
      simp only at hn
      have G1 := Lib.hid g1
      have G3 := Lib.hid g3
      have G5 := Lib.hid g5
      have HWE := Lib.hid hWE
      have HWT := Lib.hid hWT
      have HWR := Lib.hid hWR
      have HDF := Lib.hid hDef
      have HDD := Lib.hid hD
      clear g1 g2 g3 g5 g8 g9 hWE hWT hWR
      clear hDef hD
      clear hE hL hWh hE2 hA hTo hsz
      clear hN
      gi_wp2
      refine ⟨trivial, ?_⟩
      refine (callsIn_wide.2 hn).mono ?_
      rintro en w6 ⟨rfl, hb6⟩
      have HB6 := Lib.hid hb6
      have G16 := Lib.hid (bheap hb6 G1.out (heap_lt G1.out))
      have HWE6 := Lib.hid (bheap hb6 HWE.out (heap_lt HWE.out))
      have HWT6 := Lib.hid (bheap hb6 HWT.out (heap_lt HWT.out))
      have HWR6 := Lib.hid (bheap hb6 HWR.out (heap_lt HWR.out))
      have HDF6 := Lib.hid (bheap hb6 HDF.out (heap_lt HDF.out))
      have hWh6 := bheap hb6 G3.out (heap_lt G3.out)
      have cW : w6.cell? ⟨w2.heap.size + 1 + 1 + 1, 0, none⟩ = some (.bool false) := blk_cell hWh6 0 rfl
      have cT6 : w6.cell? ⟨w.heap.size, 0, none⟩ = some (.int .i64 to_) := blk_cell HWT6.out 0 rfl
      have FIN : Hid (∀ w7, Below w6.drew.heap.size w6.drew w7 → w7.heap[w.heap.size + 1]? = some (.cells #[.bool false] 4) →
          (w7.setCell ⟨w.heap.size + 1, 0, none⟩ (.bool true)).heap[D]? = some (.deferred (some [])) ∧
          ((w7.setCell ⟨w.heap.size + 1, 0, none⟩ (.bool true)).putObj D (.deferred none)).cell? ⟨w.heap.size + 1, 0, none⟩ = some (.bool true) ∧
          Below w.heap.size w ((w7.setCell ⟨w.heap.size + 1, 0, none⟩ (.bool true)).putObj D (.deferred none))) := Lib.hid fun w7 hb7 hr => by
        have hDw := HDD.out
        have h7 := HSZ.out
        have hd7 := bheap hb7 (show w6.drew.heap[D]? = _ from HDF6.out) (heap_lt HDF6.out)
        refine ⟨blk_set_other hd7 (by simp only; omega) _, blk_cell ((World.putObj_heap_other (by omega)).trans (blk_set hr 0 _)) 0 rfl, ?_⟩
        have k1 : Keeps (fun k => BS w2.heap.size k ∨ k = w.heap.size + 1) w3 W := (Keeps.refl _ w3).andThen G5.out (fun i h => .inr (.inl h))
        have k2 : Keeps (fun k => BS w2.heap.size k ∨ k = w.heap.size + 1) w3 w7 := (k1.trans (Keeps.of_belowS HB6.out)).drew.trans (Keeps.of_belowS hb7)
        have k3 : Keeps (fun k => BS w2.heap.size k ∨ k = w.heap.size + 1) w3 ((w7.setCell ⟨w.heap.size + 1, 0, none⟩ (.bool true)).putObj D (.deferred none)) := (k2.setCell (.inl (.inr rfl)) _).putObj hDw _
        exact HB3.out.trans (k3.below (by omega) (fun k hk => by unfold BS at hk; omega))
      clear hn cE0 cE1 cE2 cE3 cE4 cE5 cE6 cL hb6 hWh6
      have hcount : ∀ W', Calls Tryd.prog 21 #[.agg #[.int .u64 x.mi, .int .u64 x.ho, .int .u64 x.da, .int .u64 x.mo, .int .u64 x.we, .bool x.ad, .bool x.aw], .int .i64 a, .int .i64 to_, .int .i64 (min most 60)] W' (RetB (.int .i64 (max 0 (min nn (min most 60)))) W') := fun W' => by
        have h := HCNT.out W' (min most 60) (by omega)
        rwa [between_law x to_ a most nn HC.out] at h
      have HCN := Lib.hid hcount
      clear hcount
      have cE0 : w6.cell? ⟨w2.heap.size, 0, none⟩ = some (.int .u64 x.mi) := blk_cell HWE6.out 0 rfl
      have cE1 : w6.cell? ⟨w2.heap.size, 1, none⟩ = some (.int .u64 x.ho) := blk_cell HWE6.out 1 rfl
      have cE2 : w6.cell? ⟨w2.heap.size, 2, none⟩ = some (.int .u64 x.da) := blk_cell HWE6.out 2 rfl
      have cE3 : w6.cell? ⟨w2.heap.size, 3, none⟩ = some (.int .u64 x.mo) := blk_cell HWE6.out 3 rfl
      have cE4 : w6.cell? ⟨w2.heap.size, 4, none⟩ = some (.int .u64 x.we) := blk_cell HWE6.out 4 rfl
      have cE5 : w6.cell? ⟨w2.heap.size, 5, none⟩ = some (.bool x.ad) := blk_cell HWE6.out 5 rfl
      have cE6 : w6.cell? ⟨w2.heap.size, 6, none⟩ = some (.bool x.aw) := blk_cell HWE6.out 6 rfl
      have cN : w6.cell? ⟨w2.heap.size + 1, 0, none⟩ = some (.int .i64 nn) := blk_cell G16.out 0 rfl
      gi_wp2
      generalize min most 60 = mm at *
      refine wpIn_wide.2 ?_
      go_region_held3 (fun w' => w'.cell? ⟨w2.heap.size, 0, none⟩ = some (.int .u64 x.mi) ∧ w'.cell? ⟨w2.heap.size, 1, none⟩ = some (.int .u64 x.ho) ∧ w'.cell? ⟨w2.heap.size, 2, none⟩ = some (.int .u64 x.da) ∧ w'.cell? ⟨w2.heap.size, 3, none⟩ = some (.int .u64 x.mo) ∧ w'.cell? ⟨w2.heap.size, 4, none⟩ = some (.int .u64 x.we) ∧ w'.cell? ⟨w2.heap.size, 5, none⟩ = some (.bool x.ad) ∧ w'.cell? ⟨w2.heap.size, 6, none⟩ = some (.bool x.aw) ∧ w'.cell? ⟨w.heap.size, 0, none⟩ = some (.int .i64 to_) ∧ w'.cell? ⟨w2.heap.size + 1, 0, none⟩ = some (.int .i64 nn))
        (first | exact ⟨cE0, cE1, cE2, cE3, cE4, cE5, cE6, cT6, cN⟩ | exact ⟨k0, k1, k2, k3, k4, k5, k6, k7, k8⟩ | exact ⟨blk_cell sE 0 rfl, blk_cell sE 1 rfl, blk_cell sE 2 rfl, blk_cell sE 3 rfl, blk_cell sE 4 rfl, blk_cell sE 5 rfl, blk_cell sE 6 rfl, blk_cell sT 0 rfl, blk_cell sN 0 rfl⟩ | go_keep)
        (first
          | (go_at_call 21; refine (HCN.out _).mono ?_; rintro e w7 ⟨rfl, hb7⟩; have qE := bheap hb7 HWE6.out (heap_lt HWE6.out); have qT := bheap hb7 HWT6.out (heap_lt HWT6.out); have qN := bheap hb7 G16.out (heap_lt G16.out); have k0 : w7.cell? ⟨w2.heap.size, 0, none⟩ = some (.int .u64 x.mi) := blk_cell qE 0 rfl; have k1 : w7.cell? ⟨w2.heap.size, 1, none⟩ = some (.int .u64 x.ho) := blk_cell qE 1 rfl; have k2 : w7.cell? ⟨w2.heap.size, 2, none⟩ = some (.int .u64 x.da) := blk_cell qE 2 rfl; have k3 : w7.cell? ⟨w2.heap.size, 3, none⟩ = some (.int .u64 x.mo) := blk_cell qE 3 rfl; have k4 : w7.cell? ⟨w2.heap.size, 4, none⟩ = some (.int .u64 x.we) := blk_cell qE 4 rfl; have k5 : w7.cell? ⟨w2.heap.size, 5, none⟩ = some (.bool x.ad) := blk_cell qE 5 rfl; have k6 : w7.cell? ⟨w2.heap.size, 6, none⟩ = some (.bool x.aw) := blk_cell qE 6 rfl; have k7 : w7.cell? ⟨w.heap.size, 0, none⟩ = some (.int .i64 to_) := blk_cell qT 0 rfl; have k8 : w7.cell? ⟨w2.heap.size + 1, 0, none⟩ = some (.int .i64 nn) := blk_cell qN 0 rfl; have qR := bheap hb7 HWR6.out (heap_lt HWR6.out); have kR : w7.cell? ⟨w.heap.size + 1, 0, none⟩ = some (.bool false) := blk_cell qR 0 rfl; have kF : w7.frozen? ⟨w.heap.size + 1, 0, none⟩ = false := blk_free qR 0; have sE := blk_set_other qE (a := ⟨w.heap.size + 1, 0, none⟩) (by simp only; omega) (.bool true); have sT := blk_set_other qT (a := ⟨w.heap.size + 1, 0, none⟩) (by simp only; omega) (.bool true); have sN := blk_set_other qN (a := ⟨w.heap.size + 1, 0, none⟩) (by simp only; omega) (.bool true)))
      all_goals
        gi_wp2
        obtain ⟨f1, f2, f3⟩ := FIN.out _ hb7 qR
        refine ⟨by simp, .inl ⟨_, _, rfl, run_takeDeferred f1, ?_⟩⟩
        exact ⟨.bool true, by simp [results, Tryd.f8, go_sem, f2], rfl, f3⟩
  · have hb : (xe != 0) = true := by simpa using he
    clear he OA
    gi_wp2
    have hres := blk_cell (aheap (blk_set HR2.out 0 (.bool true)) (.cells #[.int .u64 x.mi, .int .u64 x.ho, .int .u64 x.da, .int .u64 x.mo, .int .u64 x.we, .bool x.ad, .bool x.aw] 25)) 0 (v := .bool true) rfl
    refine ⟨_, by simp [results, Tryd.f8, go_sem, hres], rfl, ?_⟩
    exact HBW.out.trans ((((Keeps.refl (fun k => k = w.heap.size + 1) w2).setCell (.inl rfl) _).alloc _).below (B := w.heap.size) (by omega) (fun k hk => by omega))

set_option maxRecDepth 100000 in
set_option maxHeartbeats 4000000 in
theorem between_long (w : World) (hm : MaxL w) (s : Bs) (a to_ most : Int) (h : 200 < s.length) (h1 : s.length ≤ 9223372036854775807) :
    Calls Tryd.prog 8 #[.string ⟨s.toArray⟩, .int .i64 a, .int .i64 to_, .int .i64 most] w (RetB (.bool true) w) := by
  refine (callsIn_wide (n := 5)).1 (callsIn_of_wp_marks Tryd.func8 rfl trivial ?_ rfl)
  have HM := Lib.hid hm
  have HH : Hid (200 < s.length) := Lib.hid h
  have HLV : Hid (∀ W, MaxL W → Calls Tryd.prog 18 #[] W (RetB (.bool true) W)) := Lib.hid lives08
  clear hm h
  have hw0 : ∃ w0, w0 = (w.alloc (.cells #[.int .i64 to_] 2)).alloc (.cells #[.bool false] 4) := ⟨_, rfl⟩
  obtain ⟨w0, hw0⟩ := hw0
  have HB0 : Hid (Below w.heap.size w w0) := Lib.hid (by rw [hw0]; exact ((Below.refl _ _).alloc (Nat.le_refl _) _).alloc (by simp) _)
  have HR0 : Hid (w0.heap[w.heap.size + 1]? = some (.cells #[.bool false] 4)) := Lib.hid (by rw [hw0]; have := heap_new (w.alloc (.cells #[.int .i64 to_] 2)) (.cells #[.bool false] 4); rwa [World.size_alloc] at this)
  simp only [Tryd.ntmps8, List.size_toArray, List.length_cons, List.length_nil, Nat.reduceAdd, Nat.reduceSub, Array.replicate_succ, Array.replicate_zero, List.push_toArray, List.append_toArray, List.nil_append, List.cons_append]
  gi_wp2
  refine ⟨trivial, ?_⟩
  rw [← hw0]
  have HM0 : Hid (MaxL w0) := Lib.hid (HM.out.step HB0.out)
  refine (callsIn_wide.2 (HLV.out _ HM0.out)).mono ?_
  rintro en w1 ⟨rfl, hb1⟩
  have HB1 := Lib.hid hb1
  have hlen := HH.out
  clear hb1 hw0
  gi_wp2
  refine ⟨trivial, ?_⟩
  refine (callsIn_wide.2 (HLV.out _ (HM0.out.step HB1.out))).mono ?_
  rintro en w2 ⟨rfl, hb2⟩
  have HB2 : Hid (Below w0.heap.size w0 w2) := Lib.hid (HB1.out.trans (hb2.mono HB1.out.size))
  have HR2 : Hid (w2.heap[w.heap.size + 1]? = some (.cells #[.bool false] 4)) := Lib.hid (bheap HB2.out HR0.out (heap_lt HR0.out))
  have HBW : Hid (Below w.heap.size w w2) := Lib.hid (HB0.out.trans (HB2.out.mono HB0.out.size))
  clear hb2 hlen
  have c8 : w2.cell? ⟨w.heap.size + 1, 0, none⟩ = some (.bool false) := blk_cell HR2.out 0 rfl
  have f8 : w2.frozen? ⟨w.heap.size + 1, 0, none⟩ = false := blk_free HR2.out 0
  gi_wp2
  have hres := blk_cell (blk_set HR2.out 0 (.bool true)) 0 (v := .bool true) rfl
  refine ⟨_, by simp [results, Tryd.f8, go_sem, hres], rfl, ?_⟩
  exact HBW.out.trans (((Keeps.refl (fun k => k = w.heap.size + 1) w2).setCell (.inl rfl) _).below (B := w.heap.size) HBW.out.size (fun k hk => by omega))

theorem between_walk (w : World) (hm : MaxL w) (s : ByteArray) (a to_ most : Int) (h1 : s.size ≤ maxLen) (ha : (Lit.int .i64 a).wf = true) (hb : (Lit.int .i64 to_).wf = true) (hc : (Lit.int .i64 most).wf = true) :
    Calls Tryd.prog 8 #[.string s, .int .i64 a, .int .i64 to_, .int .i64 most] w (RetB (.bool true) w) := by
  have e1 : s.data.toList.length = s.size := rfl
  have em : maxLen = 9223372036854775807 := rfl
  obtain ⟨a0, a1⟩ : -9223372036854775808 ≤ a ∧ a ≤ 9223372036854775807 := by simp [Lit.wf, IntKind.min, IntKind.max, IntKind.bits, IntKind.signed] at ha; omega
  obtain ⟨b0, b1⟩ : -9223372036854775808 ≤ most ∧ most ≤ 9223372036854775807 := by simp [Lit.wf, IntKind.min, IntKind.max, IntKind.bits, IntKind.signed] at hc; omega
  by_cases h : s.data.toList.length ≤ 200
  · exact between_main w hm s.data.toList a to_ most h a0 a1 b0 b1
  · exact between_long w hm s.data.toList a to_ most (by omega) (by omega)

end Go.Proofs.YtfdnhpmdbcfepaaDoor

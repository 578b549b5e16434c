/- Package fires: Count. -/
import Derived.Test.YtfdnhpmdbcfepaaDoorBetw
namespace Go.Proofs.YtfdnhpmdbcfepaaDoor
open Go.RowKit Go.Shelf

attribute [local go_sem] Oper.semAt_some

/-- How many, at most so many. -/
def cntF (e : Ex) (to_ : Int) : Nat → Int → Int
  | 0, _ => 0
  | k + 1, a => if (nextF e a).2 = true ∧ (nextF e a).1 ≤ to_ then 1 + cntF e to_ k (nextF e a).1 else 0
theorem cnt_step {e : Ex} {to_ a x : Int} (h : StepB e to_ a x) (k : Nat) : cntF e to_ (k + 1) a = 1 + cntF e to_ k x := by
  obtain ⟨h1, h2⟩ := h
  rw [cntF, h1, if_pos ⟨rfl, h2⟩]
theorem cnt_stop {e : Ex} {to_ a : Int} (h : StopB e to_ a) (k : Nat) : cntF e to_ k a = 0 := by
  cases k with
  | zero => rfl
  | succ k =>
    rw [cntF, if_neg]
    rintro ⟨h1, h2⟩
    exact h (nextF e a).1 ⟨by rw [← h1], h2⟩

/-- Between two rounds of Count. -/
def CntI (w1 : World) (bM bN ba : Nat) (e : Ex) (to_ a0 most : Int) (s : List Int × Int) (W : World) : Prop :=
  W.heap[bM]? = some (.cells #[.int .i64 most] 3) ∧ W.heap[bN]? = some (.cells #[.int .i64 (s.1.length : Int)] 3) ∧ W.heap[ba]? = some (.cells #[.int .i64 s.2] 2) ∧
  Keeps (fun k => k = ba ∨ k = bN) w1 W ∧ (s.1.length : Int) < most ∧ cntF e to_ most.toNat a0 = s.1.length + cntF e to_ (most.toNat - s.1.length) s.2 ∧ -9223372036854775808 ≤ s.2 ∧ s.2 ≤ 9223372036854775807
def CntI1 (w1 : World) (bM bN ba : Nat) (e : Ex) (to_ a0 most : Int) (p : List Int) (b x : Int) (W : World) : Prop :=
  W.heap[bM]? = some (.cells #[.int .i64 most] 3) ∧ W.heap[bN]? = some (.cells #[.int .i64 ((p.length : Int) + 1)] 3) ∧ W.heap[ba]? = some (.cells #[.int .i64 b] 2) ∧
  Keeps (fun k => k = ba ∨ k = bN) w1 W ∧ (p.length : Int) + 1 < most ∧ cntF e to_ most.toNat a0 = p.length + cntF e to_ (most.toNat - p.length) b ∧ StepB e to_ b x
def CntX (w1 : World) (bN ba : Nat) (e : Ex) (to_ a0 most : Int) (ex : Code) (c : Code) (_p : List Int) (W : World) : Prop :=
  c = ex ∧ W.heap[bN]? = some (.cells #[.int .i64 (cntF e to_ most.toNat a0)] 3) ∧ Keeps (fun k => k = ba ∨ k = bN) w1 W

set_option maxRecDepth 100000 in
set_option maxHeartbeats 4000000 in
theorem count_any (w : World) (e : Ex) (ok : e.Ok) (a to_ most : Int) (r1 : -9223372036854775808 ≤ a) (r2 : a ≤ 9223372036854775807) (m1 : 1 ≤ most) (m2 : most ≤ 9223372036854775807) :
    Calls Tryd.prog 21 #[e.v, .int .i64 a, .int .i64 to_, .int .i64 most] w (RetB (.int .i64 (cntF e to_ most.toNat a)) w) := by
  refine (callsIn_wide (n := 5)).1 (callsIn_of_wp_marks Tryd.func21 rfl trivial ?_ rfl)
  have HBT : Hid (∀ W, Calls Tryd.prog 22 #[e.v, .int .i64 a, .int .i64 to_] W fun en w' => en = .returned (.func (.func 35) #[] #[.pointer (some ⟨W.heap.size, 0, none⟩), .pointer (some ⟨W.heap.size + 1, 0, none⟩), .pointer (some ⟨W.heap.size + 2, 0, none⟩)]) ∧ w' = ((W.alloc (.cells e.cells 25)).alloc (.cells #[.int .i64 a] 2)).alloc (.cells #[.int .i64 to_] 2)) := Lib.hid fun W => between_any W e a to_
  obtain ⟨ee, hee⟩ : ∃ ee : Ex, ee = e := ⟨_, rfl⟩
  have hcs : e.v = .agg #[.int .u64 e.mi, .int .u64 e.ho, .int .u64 e.da, .int .u64 e.mo, .int .u64 e.we, .bool e.ad, .bool e.aw] := rfl
  rw [hcs] at HBT ⊢
  simp only [Tryd.ntmps21, List.size_toArray, List.length_cons, List.length_nil, Nat.reduceAdd, Nat.reduceSub, Array.replicate_succ, Array.replicate_zero, List.push_toArray, List.append_toArray, List.nil_append, List.cons_append]
  gi_wp2
  refine ⟨trivial, ?_⟩
  refine (callsIn_wide.2 (HBT.out _)).mono ?_
  rintro en w1 ⟨rfl, hw1⟩
  gi_wp2
  rw [← hw1]
  have hsz : w1.heap.size = w.heap.size + 6 := by rw [hw1]; simp
  have hE : w1.heap[w.heap.size + 3]? = some (.cells e.cells 25) := by
    rw [hw1]; show ((((((w.heap.push _).push _).push _).push _).push _).push _)[w.heap.size + 3]? = _; simp only [Array.getElem?_push, Array.size_push]; repeat (rw [if_neg (by omega)])
    exact if_pos (by first | trivial | omega)
  have hA : w1.heap[w.heap.size + 4]? = some (.cells #[.int .i64 a] 2) := by
    rw [hw1]; show ((((((w.heap.push _).push _).push _).push _).push _).push _)[w.heap.size + 4]? = _; simp only [Array.getElem?_push, Array.size_push]; repeat (rw [if_neg (by omega)])
    exact if_pos (by first | trivial | omega)
  have hTo : w1.heap[w.heap.size + 5]? = some (.cells #[.int .i64 to_] 2) := by
    rw [hw1]; show ((((((w.heap.push _).push _).push _).push _).push _).push _)[w.heap.size + 5]? = _; simp only [Array.getElem?_push, Array.size_push]; repeat (rw [if_neg (by omega)])
    exact if_pos (by first | trivial | omega)
  have hM : w1.heap[w.heap.size + 1]? = some (.cells #[.int .i64 most] 3) := by
    rw [hw1]; show ((((((w.heap.push _).push _).push _).push _).push _).push _)[w.heap.size + 1]? = _; simp only [Array.getElem?_push, Array.size_push]; repeat (rw [if_neg (by omega)])
    exact if_pos (by first | trivial | omega)
  have hN : w1.heap[w.heap.size + 2]? = some (.cells #[.int .i64 0] 3) := by
    rw [hw1]; show ((((((w.heap.push _).push _).push _).push _).push _).push _)[w.heap.size + 2]? = _; simp only [Array.getElem?_push, Array.size_push]; repeat (rw [if_neg (by omega)])
    exact if_pos (by first | trivial | omega)
  have hB1 : Below w.heap.size w w1 := by
    rw [hw1]
    exact ((((((Below.refl _ _).alloc (Nat.le_refl _) _).alloc (by simp) _).alloc (by simp; omega) _).alloc (by simp; omega) _).alloc (by simp; omega) _).alloc (by simp; omega) _
  have HSZ := Lib.hid hsz
  have HB1 := Lib.hid hB1
  have HOK := Lib.hid ok
  have fin : Hid (∀ (D : Nat) (W : World) (o : Obj), w1.heap.size ≤ D → Keeps (fun k => k = w.heap.size + 4 ∨ k = w.heap.size + 2) w1 W → Below w.heap.size w (W.putObj D o)) := Lib.hid fun D W o hD hK =>
    hB1.trans ((hK.putObj hD o).below (by rw [hsz]; omega) (fun k hk => by omega))
  clear hw1 hB1
  refine range_law (n := 5) (gf := 35) (lb := #[.pointer (some ⟨w.heap.size + 3, 0, none⟩), .pointer (some ⟨w.heap.size + 4, 0, none⟩), .pointer (some ⟨w.heap.size + 5, 0, none⟩)]) rfl (enters_of Tryd.func35 (by kernel_rfl) rfl) rfl
    (S := fun k => k = w.heap.size + 4 ∨ k = w.heap.size + 2) (ba := w.heap.size + 4) (Step := StepB e to_) (Stop := StopB e to_) (a0 := a) (w0 := w1)
    (between_iter _ 4 w1 (w.heap.size + 3) (w.heap.size + 4) (w.heap.size + 5) e ok a to_ hE hTo (by omega) (by omega)) (Below.refl _ _) (by rw [hsz]; omega)
    (CntI w1 (w.heap.size + 1) (w.heap.size + 2) (w.heap.size + 4) e to_ a most) (CntI1 w1 (w.heap.size + 1) (w.heap.size + 2) (w.heap.size + 4) e to_ a most) (CntX w1 (w.heap.size + 2) (w.heap.size + 4) e to_ a most (.exit 0))
    ?ib ?is ?ic ?io ?i1o ?ixo ?h0 (fun x => { tmps := #[.agg #[.int .u64 e.mi, .int .u64 e.ho, .int .u64 e.da, .int .u64 e.mo, .int .u64 e.we, .bool e.ad, .bool e.aw], .int .i64 a, .int .i64 to_, .int .i64 most, .pointer (some ⟨w.heap.size, 0, none⟩), undef, undef, .pointer (some ⟨w.heap.size + 1, 0, none⟩), .int .i64 0, .pointer (some ⟨w.heap.size + 1 + 1, 0, none⟩), .int .i64 most, .bool (decide (most ≤ 0)), .agg #[.int .u64 e.mi, .int .u64 e.ho, .int .u64 e.da, .int .u64 e.mo, .int .u64 e.we, .bool e.ad, .bool e.aw], .int .i64 a, .int .i64 to_, .func (.func 35) #[] #[.pointer (some ⟨w.heap.size + 1 + 1 + 1, 0, none⟩), .pointer (some ⟨w.heap.size + 1 + 1 + 1 + 1, 0, none⟩), .pointer (some ⟨w.heap.size + 1 + 1 + 1 + 2, 0, none⟩)], .int .i64 x, undef, undef, undef, undef, undef, undef], defers := [] }) ?assign ?body ?done ?stop
  case ib =>
    rintro s A B ⟨g1, g2, g3, g4, g5⟩ hb
    exact ⟨bheap hb g1 (heap_lt g1), bheap hb g2 (heap_lt g2), bheap hb g3 (heap_lt g3), g4.trans (Keeps.of_belowS hb), g5⟩
  case is =>
    rintro p b x A ⟨g1, g2, g3, g4, g5, g6, g7⟩
    refine ⟨⟨blk_set_other g1 (by simp) _, ?_, blk_set g3 0 _, g4.setCell (.inl (.inl rfl)) _, by simp; omega, ?_, ?_⟩, g3⟩
    · have := blk_set_other g2 (a := ⟨w.heap.size + 4, 0, none⟩) (by simp) (.int .i64 x)
      simpa using this
    · have hk : most.toNat - p.length = (most.toNat - (p.length + 1)) + 1 := by omega
      rw [g6, hk, cnt_step g7]
      simp
      omega
    · have := step_up g7
      show -9223372036854775808 ≤ x ∧ x ≤ 9223372036854775807
      omega
  case ic =>
    rintro s A ⟨g1, g2, g3, g4, g5, g6, g7⟩
    exact ⟨g4, g3, g7⟩
  case io =>
    rintro s A l o o' ⟨g1, g2, g3, g4, g5⟩ hl _ _
    exact ⟨(World.putObj_heap_other (by omega)).trans g1, (World.putObj_heap_other (by omega)).trans g2, (World.putObj_heap_other (by omega)).trans g3, g4.putObj hl o', g5⟩
  case i1o =>
    rintro p b x A l o o' ⟨g1, g2, g3, g4, g5⟩ hl _ _
    exact ⟨(World.putObj_heap_other (by omega)).trans g1, (World.putObj_heap_other (by omega)).trans g2, (World.putObj_heap_other (by omega)).trans g3, g4.putObj hl o', g5⟩
  case ixo =>
    rintro c p A l o o' ⟨g1, g2, g3⟩ hl _ _
    exact ⟨g1, (World.putObj_heap_other (by omega)).trans g2, g3.putObj hl o'⟩
  case h0 => exact ⟨hM, hN, hA, Keeps.refl _ _, by simp; omega, by simp, r1, r2⟩
  case assign =>
    intro l x W K hK
    gi_wp2
    first | exact hK | (simp; exact hK) | (simpa using hK)
  case body =>
    rintro l p b x W ⟨g1, g2, g3, g4, g5, g6, g7⟩ hst
    have cN : W.cell? ⟨w.heap.size + 1 + 1, 0, none⟩ = some (.int .i64 (p.length : Int)) := blk_cell g2 0 rfl
    have fN : W.frozen? ⟨w.heap.size + 1 + 1, 0, none⟩ = false := blk_free g2 0
    have cM : W.cell? ⟨w.heap.size + 1, 0, none⟩ = some (.int .i64 most) := blk_cell g1 0 rfl
    have G1 := Lib.hid g1
    have G2 := Lib.hid g2
    have G3 := Lib.hid g3
    have G4 := Lib.hid g4
    have G6 := Lib.hid g6
    simp only at g5
    clear g1 g2 g3 g4 g6 g7 hE hA hTo hM hN hsz
    by_cases hbrk : (p.length : Int) + 1 < most
    · gi_wp2
      refine ⟨KeepsOthers.setCell _ _ _, blk_set_other G1.out (by simp) _, ?_, blk_set_other G3.out (by simp) _, G4.out.setCell (.inl (.inr rfl)) _, hbrk, G6.out, hst⟩
      have := blk_set G2.out 0 (.int .i64 ((p.length : Int) + 1))
      simpa using this
    · gi_wp2
      have hcnt : cntF e to_ most.toNat a = (p.length : Int) + 1 := by
        rw [G6.out, show most.toNat - p.length = 0 + 1 by omega, cnt_step hst 0]
        rfl
      refine ⟨KeepsOthers.setCell _ _ _, rfl, ?_, G4.out.setCell (.inl (.inr rfl)) _⟩
      rw [hcnt]
      have := blk_set G2.out 0 (.int .i64 ((p.length : Int) + 1))
      simpa using this
  case done =>
    rintro D p b W hD hstop ⟨g1, g2, g3, g4, g5, g6, g7⟩ hDef
    have cN : W.cell? ⟨w.heap.size + 1 + 1, 0, none⟩ = some (.int .i64 (p.length : Int)) := blk_cell g2 0 rfl
    have HR : Hid (cntF e to_ most.toNat a = (p.length : Int)) := Lib.hid (by rw [g6, cnt_stop hstop]; simp)
    have HFN := Lib.hid (fin.out D W (.deferred none) hD g4)
    have HDF := Lib.hid hDef
    clear g1 g2 g3 g4 g5 g6 g7 hDef hE hA hTo hM hN hsz fin
    gi_wp2
    refine ⟨by simp, .inl ⟨_, _, rfl, run_takeDeferred HDF.out, ?_⟩⟩
    exact ⟨_, results_tmp rfl _ _ _, by rw [HR.out]; rfl, HFN.out⟩
  case stop =>
    rintro D c q W hD ⟨rfl, g2, g3⟩ hDef
    have cN : W.cell? ⟨w.heap.size + 1 + 1, 0, none⟩ = some (.int .i64 (cntF e to_ most.toNat a)) := blk_cell g2 0 rfl
    have HFN := Lib.hid (fin.out D W (.deferred none) hD g3)
    have HDF := Lib.hid hDef
    clear g2 g3 hDef hE hA hTo hM hN hsz fin
    gi_wp2
    refine ⟨by simp, .inl ⟨_, _, rfl, run_takeDeferred HDF.out, ?_⟩⟩
    exact ⟨_, results_tmp rfl _ _ _, rfl, HFN.out⟩

end Go.Proofs.YtfdnhpmdbcfepaaDoor

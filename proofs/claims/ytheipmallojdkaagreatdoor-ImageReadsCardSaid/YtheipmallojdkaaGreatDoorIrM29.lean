/- slices.Collect at jobs, over an iterator that tells some jobs, one behind the other. Package sched: Jobs, as an iterator; slices.Collect of it. -/
import Derived.Test.YtheipmallojdkaaGreatDoorIrM28
import Derived.Test.YtheipmallojdkaaGreatDoorIrM06
import Derived.Stop.RegionWithIn
import Derived.Maps.AppendAt
import Derived.OwnWalkIn
import Derived.TacticsInMore
import Derived.LoopIn

namespace Go.Proofs.YtheipmallojdkaaGreatDoor
open Go.RowKit Go.Maps Go.ChangeMaps
attribute [local go_sem] Oper.semAt_some

/-- What the range of AppendSeq has appended so far. -/
def CollIJ (w : World) (P : Jb → Prop) (p : List JD) (O : Nat → Prop) (A : World) : Prop :=
  ∃ v, A.heap[w.heap.size]? = some (.cells #[v] 36 (0, 0)) ∧ A.ownsRow 0 42 21 v p.length (flatJ p) ∧ (∀ k, v.ownBlock = some k → w.heap.size + 1 ≤ k) ∧
    (∀ x ∈ p, P x.1 ∧ Sl strv A x.2 x.1.sp.deps ∧ ∀ k, x.2.ownBlock = some k → w.heap.size + 1 ≤ k ∧ v.ownBlock ≠ some k) ∧ Below w.heap.size w A ∧ w.heap.size + 1 ≤ A.heap.size ∧ p.length ≤ 128 ∧ ∀ k, O k ↔ (k = w.heap.size ∨ v.ownBlock = some k)

/-- A slice of jobs, new. -/
def NewJ (w : World) (P : Jb → Prop) (xs : List JD) (v : Value) (w' : World) : Prop :=
  w'.ownsRow 0 42 21 v xs.length (flatJ xs) ∧ (∀ k, v.ownBlock = some k → w.heap.size ≤ k) ∧ (∀ x ∈ xs, P x.1 ∧ Sl strv w' x.2 x.1.sp.deps ∧ ∀ k, x.2.ownBlock = some k → w.heap.size ≤ k) ∧ Below w.heap.size w w' ∧ xs.length ≤ 128
def CollPJ (w : World) (P : Jb → Prop) (Done : List JD → Prop) (e : Ending) (w' : World) : Prop := ∃ v xs, e = .returned v ∧ Done xs ∧ NewJ w P xs v w'

theorem CollIJ.new {w : World} {P : Jb → Prop} {p : List JD} {O : Nat → Prop} {A : World} (h : CollIJ w P p O A) : ∃ v, A.heap[w.heap.size]? = some (.cells #[v] 36 (0, 0)) ∧ NewJ w P p v A ∧ (∀ k, v.ownBlock = some k → k ≠ w.heap.size) ∧ ∀ x ∈ p, ∀ k, x.2.ownBlock = some k → k ≠ w.heap.size := by
  obtain ⟨v, h1, h2, h3, h4, h5, h6, h7, _⟩ := h
  exact ⟨v, h1, ⟨h2, fun k hk => by have := h3 k hk; omega, fun x hx => ⟨(h4 x hx).1, (h4 x hx).2.1, fun k hk => by have := ((h4 x hx).2.2 k hk).1; omega⟩, h5, h7⟩, fun k hk => by have := h3 k hk; omega, fun x hx k hk => by have := ((h4 x hx).2.2 k hk).1; omega⟩

theorem jcells_one (j : Jb) (ad : Option Addr) (n cp : Nat) : OneCells (j.cells (.slice ad n cp)).toList := by simp [Jb.cells, OneCells, Value.oneCell']

set_option maxRecDepth 100000 in
set_option maxHeartbeats 1600000 in
theorem appendJ (w : World) (gf : Nat) (lb : Array Value) (eg : ∀ args w, (callFunc gf args).run Tryz.prog w = .ok (.enter gf args) w) (P : Jb → Prop) (Done : List JD → Prop) (R : World → Prop)
    (iter : IterJ P Done R 4 gf lb) (hR : ∀ A, Below w.heap.size w A → R A) :
    Calls Tryz.prog 48 #[.slice none 0 0, .func (.func gf) #[] lb] w (CollPJ w P Done) := by
  refine (callsIn_wide (n := 5)).1 (callsIn_of_wp_marks Tryz.func48 rfl trivial ?_ rfl)
  have HI := Lib.hid iter
  have HRR := Lib.hid hR
  clear iter hR
  simp only [Tryz.ntmps48, List.size_toArray, List.length_cons, List.length_nil, Nat.reduceAdd, Nat.reduceSub, Array.replicate_succ, Array.replicate_zero, List.push_toArray, List.append_toArray, List.nil_append, List.cons_append]
  refine wpIn_wide.2 ?_
  go_wp2
  obtain ⟨W0, hW0⟩ : ∃ W0, W0 = w.alloc (.cells #[.slice none 0 0] 36) := ⟨_, rfl⟩
  rw [← hW0]
  have hx : W0.heap[w.heap.size]? = some (.cells #[.slice none 0 0] 36 (0, 0)) := by rw [hW0]; exact heap_new _ _
  have hb : Below w.heap.size w W0 := by rw [hW0]; exact (Below.refl _ _).alloc (Nat.le_refl _) _
  have hz0 : W0.heap.size = w.heap.size + 1 := by rw [hW0]; simp
  clear hW0
  have HZ := Lib.hid hz0
  clear hz0
  refine (wpIn_wide (n := 5)).1 ?_
  refine range_jobs (n := 5) (gf := gf) (lb := lb) rfl eg rfl HI.out (CollIJ w P) (fun k => k = w.heap.size) ?o0 ?ib ?ir ?io ?h0 (fun x k => { tmps := #[.slice none 0 0, .func (.func gf) #[] lb, .pointer (some ⟨w.heap.size, 0, none⟩), undef, .slice none 0 0, .pointer (some ⟨k, 0, none⟩), .func (.func gf) #[] lb, .agg (x.1.cells x.2), undef, undef, undef, undef, undef], defers := [] }) ?assign ?body ?done
  case assign =>
    rintro l ⟨j, dv⟩ W K ⟨ad, n, cp, rfl⟩ hK
    unfold jdV Jb.v
    simp only at hK ⊢
    obtain ⟨D, hD⟩ : ∃ D, D = j.cells (.slice ad n cp) := ⟨_, rfl⟩
    rw [← hD] at hK ⊢
    have HDS : Hid (D.size = 21) := Lib.hid (by rw [hD]; rfl)
    have HD1 : Hid (OneCells D.toList) := Lib.hid (by rw [hD]; exact jcells_one j ad n cp)
    clear hD
    gi_wp2_with (first | (refine wpListIn_store_fresh _ rfl _ _ _ rfl _ rfl D rfl W _ _ rfl rfl (by rw [HDS.out]; decide) (by rw [HDS.out]; rfl) (by rw [HDS.out]; exact info_jobG) HD1.out ?_) | fail)
    exact hK
  case o0 => intro k hk; have := HZ.out; omega
  case ib => exact fun p O A B ⟨v, h1, h2, h3, h4, h5, h6, h7, h8⟩ hb => ⟨v, bheap hb h1 (heap_lt h1), owns_below h2 hb, h3, fun x hx => ⟨(h4 x hx).1, (h4 x hx).2.1.below hb (h4 x hx).2.1.row_lt, (h4 x hx).2.2⟩, h5.trans (hb.mono h5.size), Nat.le_trans h6 hb.size, h7, h8⟩
  case ir => exact fun p O A ⟨v, h1, h2, h3, h4, h5, h6⟩ => HRR.out A h5
  case io =>
    rintro p O A l o o' ⟨v, h1, h2, h3, h4, h5, h6, h7, h8⟩ hl ho hc
    have hzz := HZ.out
    have hne : w.heap.size ≠ l := by omega
    refine ⟨v, (World.putObj_heap_other hne).trans h1, ?_, h3, fun x hx => ⟨(h4 x hx).1, ?_, (h4 x hx).2.2⟩, h5.trans ((keeps_putObj A l o').below (by omega) fun k e => by omega), by simpa using h6, h7, h8⟩
    · exact ownsRow_putObj h2 o' ho hc
    · exact (StJ.putObj (P := fun _ => True) (x := x) (A0 := ⟨#[], default, default, default, default⟩) ⟨trivial, (h4 x hx).2.1, fun k _ => Nat.zero_le k⟩ ho hc o').2.1
  case h0 => exact ⟨_, hx, World.ownsRow_nil _ _ _ _, by simp [Value.ownBlock], (fun x hx => by cases hx), hb, by have := HZ.out; omega, by simp, fun k => by simp [Value.ownBlock]⟩
  case body =>
    rintro l p O ⟨⟨⟨ya, yb, yc, yd, ye, yf, yg, yh, yi, yj, yk⟩, b1, b2, b3, b4, b5, b6, b7, b8, b9, b10⟩, dv⟩ A0 V k hp128 hI0 hk0 hA0 hxk hst hI
    obtain ⟨hPx, hsl, hnew⟩ := hst
    simp only at hPx hsl hnew
    obtain ⟨ad, cp, rfl, _⟩ := id hsl
    obtain ⟨v0, _, how0, _, _, _, _, _, hO0⟩ := hI0
    obtain ⟨v, h1, h2, h3, h4, h5, h6, h7, hO⟩ := hI
    have hvk : ∀ i, v.ownBlock = some i → i < A0.heap.size := fun i hi => by
      rcases (hO0 i).1 ((hO i).2 (.inr hi)) with h | h
      · have := HZ.out; omega
      · exact (how0.lt i h).2
    obtain ⟨va, vc, rfl⟩ : ∃ va vc, v = .slice va p.length vc := by
      rcases h2.2 with ⟨e1, e2⟩ | ⟨g, c, cur, e1, _⟩
      · exact ⟨none, 0, by rw [e1, e2]⟩
      · exact ⟨_, _, e1⟩
    simp only [Jb.cells] at hxk ⊢
    have c0 : V.cell? ⟨w.heap.size, 0, none⟩ = some (.slice va p.length vc) := blk_cell h1 0 rfl
    have lt0 : w.heap.size < V.heap.size := by omega
    have lt1 := heap_lt hxk
    have H1 := Lib.hid h1
    have H2 := Lib.hid h2
    have HXK := Lib.hid hxk
    have HF := Lib.hid (show (∀ k, (Value.slice va p.length vc).ownBlock = some k → w.heap.size + 1 ≤ k) ∧ (∀ i, (Value.slice va p.length vc).ownBlock = some i → i < A0.heap.size) ∧ A0.heap.size ≤ k ∧ w.heap.size + 1 ≤ A0.heap.size from ⟨h3, hvk, hk0, by have := HZ.out; omega⟩)
    have HL1 : Hid (p.length + 1 ≤ maxLen) := Lib.hid (by unfold maxLen; omega)
    have HL2 : Hid ((p.length + 1) * 216 ≤ 140737488355328) := Lib.hid (by omega)
    have HREST := Lib.hid (show P _ ∧ Sl strv V (.slice ad ye.length cp) ye ∧ (∀ k, (Value.slice ad ye.length cp).ownBlock = some k → A0.heap.size ≤ k) ∧ (∀ x ∈ p, P x.1 ∧ Sl strv V x.2 x.1.sp.deps ∧ ∀ k, x.2.ownBlock = some k → w.heap.size + 1 ≤ k ∧ (Value.slice va p.length vc).ownBlock ≠ some k) ∧ Below w.heap.size w V ∧ ∀ k, O k ↔ (k = w.heap.size ∨ (Value.slice va p.length vc).ownBlock = some k) from ⟨hPx, hsl, hnew, h4, h5, hO⟩)
    obtain ⟨i0, hi, hz0, hz1, hz2⟩ := info_parts info_job3
    clear h1 h2 h3 h4 h5 h7 hO hO0 how0 hPx hsl hnew hxk hvk hk0 hA0
    gi_wp2_with (first | (refine wpListIn_load_all _ rfl _ _ rfl k rfl _ _ _ HXK.out _ Tryz.underlying42 rfl info_jobG ?_) | (gi_at_builtin; go_loud (refine wpListIn_append_more _ rfl _ _ 36 rfl 42 i0 _ 21 216 Tryz.underlying36 hi hz0 hz1 hz2 rfl (by decide) (.slice va p.length vc) p.length (flatJ p) rfl (H2.out.alloc _) ⟨V.heap.size, 0, none⟩ 1 1 [.string ya, .string yb, .int .i64 yc, .int .i64 yd, .slice ad ye.length cp, .int .i64 yf, .int .i64 yg, .int .i64 yh, .int .i64 yi, .string yj, .int .i64 yk, .int .i64 b1, .int .i64 b2, .int .u64 b3, .int .i64 b4, .int .i64 b5, .string b6, .int .u64 b7, .int .i64 b8, .int .i64 b9, .int .i64 b10] rfl rfl (cells21_new _ #[.string ya, .string yb, .int .i64 yc, .int .i64 yd, .slice ad ye.length cp, .int .i64 yf, .int .i64 yg, .int .i64 yh, .int .i64 yi, .string yj, .int .i64 yk, .int .i64 b1, .int .i64 b2, .int .u64 b3, .int .i64 b4, .int .i64 b5, .string b6, .int .u64 b7, .int .i64 b8, .int .i64 b9, .int .i64 b10] _) (by simp [Value.oneCell']) HL1.out HL2.out ?_; intro q' w4 hown4 hg4 hrow4; have HO4 := Lib.hid hown4; have HG4 := Lib.hid hg4; have HR4 := Lib.hid hrow4; obtain ⟨g4, cap4, rfl⟩ := ownsRow_succ hown4; have hT4 := (hg4.block w.heap.size (by simp; omega) (fun e => by have := HF.out.1 _ e.symm; omega)).trans (aheap H1.out _); have HT4 := Lib.hid hT4; have cT4 := blk_cell hT4 0 rfl; have fT4 := blk_free hT4 0; have lT4 := heap_lt hT4; clear hown4 hg4 hrow4 hT4)))
    obtain ⟨hPx, hsl, hnew, hdeps, hbw, hO⟩ := HREST.out
    obtain ⟨hf1, hf2, hf3, hf4⟩ := HF.out
    have hR4 : ∀ j, (Value.slice (some ⟨g4, 0, none⟩) (p.length + 1) cap4).ownBlock = some j → (Value.slice va p.length vc).ownBlock = some j ∨ V.heap.size < j := fun j hj => by
      rcases HR4.out with h | ⟨i, h, h', _⟩
      · exact .inl (h ▸ hj)
      · rw [h] at hj; cases hj; right; simp at h'; omega
    have kA : Keeps (fun k => (Value.slice va p.length vc).ownBlock = some k) V w4 := ((Keeps.refl _ V).alloc _).trans (grown_keeps HG4.out fun j hj => hj.symm)
    have kB : Keeps O V (w4.setCell ⟨w.heap.size, 0, none⟩ (.slice (some ⟨g4, 0, none⟩) (p.length + 1) cap4)) := (kA.mono fun k _ e => (hO k).2 (.inr e)).setCell (.inl ((hO _).2 (.inl rfl))) _
    have hzw := kB.size
    refine ⟨?_, fun k => k = w.heap.size ∨ (Value.slice (some ⟨g4, 0, none⟩) (p.length + 1) cap4).ownBlock = some k, ⟨_, blk_set HT4.out 0 _, ?_, fun j hj => ?_, fun x hx => ?_, ?_, by omega, by simp; omega, fun k => Iff.rfl⟩, kB, fun j hj => ?_⟩
    · refine ((KeepsOthers.alloc V _).trans (KeepsOthers.of_grownBy HG4.out fun j o hj ho => ?_)).trans (KeepsOthers.setCell _ _ _)
      rcases H2.out.2 with ⟨e, _⟩ | ⟨g, cap, cur, e, _, hgb, _⟩
      · rw [e] at hj; cases hj
      · rw [e] at hj
        obtain rfl : g = j := by simpa [Value.ownBlock] using hj
        rw [aheap hgb] at ho
        cases ho; rfl
    · rw [List.length_append, flatJ_snoc]
      refine owns_kept HO4.out ((Keeps.refl (fun k => k = w.heap.size) w4).setCell (p := ⟨w.heap.size, 0, none⟩) (.inl rfl) _) fun j hj e => ?_
      have e' : j = w.heap.size := e
      rcases hR4 j hj with h | h
      · have := hf1 j h; omega
      · omega
    · rcases hR4 j hj with h | h
      · exact hf1 j h
      · omega
    · rcases List.mem_append.1 hx with hx | hx
      · obtain ⟨a1, a2, a3⟩ := hdeps x hx
        refine ⟨a1, a2.kept kB fun j hj e => ?_, fun j hj => ⟨(a3 j hj).1, fun e => ?_⟩⟩
        · rcases (hO j).1 e with e | e
          · have := (a3 j hj).1; omega
          · exact (a3 j hj).2 e
        · rcases hR4 j e with h | h
          · exact (a3 j hj).2 h
          · have := a2.row_lt j hj; omega
      · simp at hx
        subst hx
        refine ⟨hPx, hsl.kept kB fun j hj e => ?_, fun j hj => ⟨by have := hnew j hj; omega, fun e => ?_⟩⟩
        · have := hnew j hj
          rcases (hO j).1 e with e | e
          · omega
          · have := hf2 j e; omega
        · have := hnew j hj
          rcases hR4 j e with h | h
          · have := hf2 j h; omega
          · have := hsl.row_lt j hj; omega
    · exact hbw.trans (kB.below hbw.size fun j e => by rcases (hO j).1 e with e | e; omega; have := hf1 j e; omega)
    · rcases hj with h | h
      · exact .inl ((hO j).2 (.inl h))
      · rcases hR4 j h with h | h
        · exact .inl ((hO j).2 (.inr h))
        · exact .inr (by omega)
  case done =>
    rintro D W xs O hD hp hI hDef
    obtain ⟨v, h1, h2, h3, h4⟩ := hI.new
    obtain ⟨va, vc, rfl⟩ : ∃ va vc, v = .slice va xs.length vc := by
      rcases h2.1.2 with ⟨e1, e2⟩ | ⟨g, c, cur, e1, _⟩
      · exact ⟨none, 0, by rw [e1, e2]⟩
      · exact ⟨_, _, e1⟩
    have c0 : W.cell? ⟨w.heap.size, 0, none⟩ = some (.slice va xs.length vc) := blk_cell h1 0 rfl
    have HDF := Lib.hid hDef
    have hN : NewJ w P xs (.slice va xs.length vc) (W.putObj D (.deferred none)) := ⟨ownsRow_putObj h2.1 (.deferred none) hDef rfl, h2.2.1, fun x hx => ⟨(h2.2.2.1 x hx).1, (StJ.putObj (P := fun _ => True) (x := x) (A0 := ⟨#[], default, default, default, default⟩) ⟨trivial, (h2.2.2.1 x hx).2.1, fun k _ => Nat.zero_le k⟩ hDef rfl _).2.1, (h2.2.2.1 x hx).2.2⟩, below_putObj h2.2.2.2.1 (l := D) (by have := HZ.out; omega) (.deferred none), h2.2.2.2.2⟩
    have HN := Lib.hid hN
    have HP := Lib.hid hp
    clear h1 h2 h3 h4 hDef hD hp hN hI
    go_wp2
    refine ⟨by simp, .inl ⟨_, _, rfl, run_takeDeferred HDF.out, ?_⟩⟩
    exact ⟨.slice va xs.length vc, by simp [results, Tryz.results48, go_sem], _, xs, rfl, HP.out, HN.out⟩

end Go.Proofs.YtheipmallojdkaaGreatDoor

namespace Go.Proofs.YtheipmallojdkaaGreatDoor
open Go.RowKit Go.Maps Go.ChangeMaps
attribute [local go_sem] Oper.semAt_some

/-- The jobs of a scheduler, by rising names. -/
def JobsDone (jes : List JE) (xs : List JD) : Prop := ∃ ys, ys.Perm (jes.map fun x => x.j.sp.name) ∧ RiseS ys ∧ xs.map (fun x => x.1.sp.name) = ys ∧ ∀ x ∈ xs, ∃ e ∈ jes, e.j = x.1
def InJobs (jes : List JE) (j : Jb) : Prop := ∃ e ∈ jes, e.j = j

/-- What the iterator leans on. -/
def JobsR (B bx s mj g r u q : Nat) (now each order : Int) (jes : List JE) (A : World) : Prop := A.heap[bx]? = some (.cells #[.pointer (some ⟨s, 0, none⟩)] 24 (0, 0)) ∧ ∃ F n, SAt A B s mj g r u q F now each order jes n

set_option maxRecDepth 100000 in
set_option maxHeartbeats 1600000 in
theorem jobs_iter (B bx s mj g r u q : Nat) (now each order : Int) (jes : List JE) (hsm : ∀ x ∈ jes, x.j.small) (hl : jes.length ≤ 128) :
    IterJ (InJobs jes) (JobsDone jes) (JobsR B bx s mj g r u q now each order jes) 4 49 #[.pointer (some ⟨bx, 0, none⟩)] := by
  intro lp J O0 W hJb hJr hO0 hY h0
  have HJB := Lib.hid hJb
  have HJR := Lib.hid hJr
  have HY := Lib.hid hY
  have HJ0 := Lib.hid h0
  have HO0 := Lib.hid hO0
  have HSMALL := Lib.hid hsm
  obtain ⟨hbx, F, m, hS⟩ := hJr _ _ _ h0
  have c1 : W.cell? ⟨bx, 0, none⟩ = some (.pointer (some ⟨s, 0, none⟩)) := blk_cell hbx 0 rfl
  have l1 := heap_lt hbx
  have c3 : W.cell? ⟨s, 3, none⟩ = some (.map (some mj)) := blk_cell hS.box 3 rfl
  have ls := heap_lt hS.box
  obtain ⟨l, hll⟩ : ∃ l, l = jes.map fun x => (x.j.sp.name, x.b) := ⟨_, rfl⟩
  have HL := Lib.hid hll
  have hlen : l.length ≤ 100000 := by rw [hll]; simp; omega
  have HM : Hid (SMap ptrV W mj l) := Lib.hid (by rw [hll]; exact hS.map)
  clear hJb hJr hY h0 hbx hS hll hO0 hsm
  refine callsIn_of_wp Tryz.func49 rfl trivial ?_ rfl
  simp only [Tryz.ntmps49, List.size_toArray, List.length_cons, List.length_nil, Nat.reduceAdd, Nat.reduceSub, Array.replicate_succ, Array.replicate_zero, List.push_toArray, List.append_toArray, List.nil_append, List.cons_append]
  gi_wp2_with fail
  refine ⟨trivial, (callsIn_wide.2 (keysS_any W mj)).mono ?_⟩
  rintro e w1 ⟨rfl, hw1⟩
  have hb1 : Below W.heap.size W w1 := by rw [hw1]; exact (Below.refl _ _).alloc (Nat.le_refl _) _
  have HSO := Lib.hid (sorted_keys W w1 mj l hw1 (HM.out.kept (Keeps.of_belowS (S := fun _ => False) hb1) fun h => h) hlen)
  have HJ1 := Lib.hid (HJB.out _ _ _ _ HJ0.out hb1)
  have HZ1 : Hid (W.heap.size ≤ w1.heap.size) := Lib.hid hb1.size
  clear hw1 hb1 c1 c3 l1 ls HM HJ0
  gi_wp2_with fail
  refine ⟨trivial, (callsIn_wide.2 HSO.out).mono ?_⟩
  rintro e w2 ⟨v, ys, rfl, hperm, hrise, hown, hb2⟩
  have hsl : Sl keyS w2 v ys := owns_sl (owns_mono hown (Nat.zero_le _))
  have hvF : ∀ k, v.ownBlock = some k → ¬ O0 k := fun k hk e => by
    have := (hown.lt k hk).1
    have := HO0.out k e
    have := HZ1.out
    omega
  have hyl : ys.length ≤ 128 := by
    have := hperm.length_eq
    rw [HL.out] at this
    simp [keys] at this
    omega
  obtain ⟨ad2, cp2, rfl, hcp1, hcp2, _⟩ := id hsl
  obtain ⟨nn, hnn2⟩ : ∃ nn, nn = ys.length := ⟨_, rfl⟩
  have HYN := Lib.hid hnn2
  have HPERM := Lib.hid hperm
  have HRISE := Lib.hid hrise
  have HI0 : Hid (J [] O0 w2 ∧ ([] : List JD).map (fun x => x.1.sp.name) = ys.take 0 ∧ (∀ x ∈ ([] : List JD), InJobs jes x.1) ∧ Sl keyS w2 (.slice ad2 nn cp2) ys ∧ ∀ k, (Value.slice ad2 nn cp2).ownBlock = some k → ¬ O0 k) := Lib.hid (by
    rw [hnn2]
    exact ⟨HJB.out _ _ _ _ HJ1.out hb2, rfl, fun x hx => (by cases hx), hsl, hvF⟩)
  have hnn128 : nn ≤ 128 := by omega
  unfold maxLen at hcp2
  rw [← hnn2]
  rw [← hnn2] at hcp1
  clear hperm hrise hown hb2 hsl hvF HSO HJ1 HZ1 hnn2 hyl hlen HO0
  gi_wp2_with fail
  gi_loopw [16] (fun iv wr => ∃ (i : Nat) (p : List JD) (O : Nat → Prop), iv = .int .i64 i ∧ i ≤ nn ∧ Hid (J p O wr ∧ p.map (fun x => x.1.sp.name) = ys.take i ∧ (∀ x ∈ p, InJobs jes x.1) ∧ Sl keyS wr (.slice ad2 nn cp2) ys ∧ ∀ k, (Value.slice ad2 nn cp2).ownBlock = some k → ¬ O k)) (fun iv _ => nn - (intOf iv).toNat)
  case atStart => exact ⟨0, [], O0, rfl, by omega, HI0⟩
  case round =>
    obtain ⟨i, p, O, rfl, hi, HR⟩ := hrel
    clear HI0
    by_cases hlt : i < nn
    · obtain ⟨y, hy⟩ : ∃ y, ys[i]? = some y := ⟨ys[i]'(by have := HYN.out; omega), by simp⟩
      obtain ⟨hJ, hpn, hpj, hv, hvF⟩ := HR.out
      obtain ⟨hbx, F, m, hS⟩ := HJR.out _ _ _ hJ
      have hyk : y ∈ keys l := HPERM.out.mem_iff.1 (List.mem_of_getElem? hy)
      obtain ⟨b, hgb, hbm⟩ := look_some hyk
      obtain ⟨x, hxj, hxe⟩ : ∃ x ∈ jes, (x.j.sp.name, x.b) = (y, b) := by rw [HL.out] at hbm; exact List.mem_map.1 hbm
      simp only [Prod.mk.injEq] at hxe
      obtain ⟨hxn, hxb⟩ := hxe
      have hjx := hS.jobs x hxj
      rw [hxb] at hjx
      have hsm := HSMALL.out x hxj
      have hyz : y.size ≤ maxLen := by rw [← hxn]; exact hsm.sp.wf.name
      have hjob := sjob_any wr s mj now each order _ _ _ _ hS.box l (by rw [HL.out]; exact hS.map) y hyz b hgb x.j x.dv hjx.1 hjx.2.1 (by have := hsm.sp.dlen; omega)
      obtain ⟨_, _, hveq, _, _, hcase⟩ := id hv
      obtain ⟨lb, lo, rfl, hbl, hcell⟩ : ∃ b' o', ad2 = some ⟨b', o', none⟩ ∧ b' < wr.heap.size ∧ wr.cell? ⟨b', o' + i, none⟩ = some (.string y) := by
        injection hveq with e1 e2 e3
        subst e1
        rcases hcase with ⟨h0, h0'⟩ | ⟨b', o', e, h1, h2⟩
        · omega
        · exact ⟨b', o', e, h1, h2 i y hy⟩
      have c1 : wr.cell? ⟨bx, 0, none⟩ = some (.pointer (some ⟨s, 0, none⟩)) := blk_cell hbx 0 rfl
      have l1 := heap_lt hbx
      have ls := heap_lt hS.box
      have z1 : (i : Int) < (nn : Int) := by omega
      have z2 : i < cp2 := by omega
      have HX := Lib.hid (show x ∈ jes ∧ x.j.sp.name = y from ⟨hxj, hxn⟩)
      have HYI := Lib.hid hy
      have HST := Lib.hid (show J p O wr ∧ p.map (fun x => x.1.sp.name) = ys.take i ∧ (∀ x ∈ p, InJobs jes x.1) ∧ Sl keyS wr (.slice (some ⟨lb, lo, none⟩) nn cp2) ys ∧ ∀ k, (Value.slice (some ⟨lb, lo, none⟩) nn cp2).ownBlock = some k → ¬ O k from ⟨hJ, hpn, hpj, hv, hvF⟩)
      clear HR hy hJ hpn hpj hv hvF hbx hS hyk hgb hbm hxj hxn hxb hjx hsm hyz hveq hcase
      gi_wp2_with fail
      refine ⟨trivial, (callsIn_wide.2 hjob).mono ?_⟩
      rintro e w3 ⟨dv, rfl, hb3, hsl3, hnew3⟩
      obtain ⟨ad3, cp3, rfl, _⟩ := id hsl3
      obtain ⟨D, hD⟩ : ∃ D, D = x.j.cells (.slice ad3 x.j.sp.deps.length cp3) := ⟨_, rfl⟩
      have HDS : Hid (D.size = 21) := Lib.hid (by rw [hD]; rfl)
      have HD1 : Hid (OneCells D.toList) := Lib.hid (by rw [hD]; exact jcells_one x.j ad3 _ cp3)
      have hlen : p.length = i := by
        have := congrArg List.length HST.out.2.1
        have h2 := HYN.out
        simp at this
        omega
      have hba : Below w3.heap.size w3 (w3.alloc (.cells D 42)) := (Below.refl _ _).alloc (Nat.le_refl _) _
      have hY2 := HY.out p O (x.j, .slice ad3 x.j.sp.deps.length cp3) wr (w3.alloc (.cells D 42)) (by omega) HST.out.1 (hb3.trans (hba.mono hb3.size)) ⟨⟨x, HX.out.1, rfl⟩, hsl3.alloc _, hnew3⟩
      rw [show jdV (x.j, .slice ad3 x.j.sp.deps.length cp3) = Value.agg D by rw [hD]; rfl] at hY2
      obtain ⟨fn, tmps, assign, body, hy, hR⟩ := hY2
      unfold Jb.v
      rw [← hD]
      have HHY := Lib.hid hy
      have HHR := Lib.hid hR
      have HB3 := Lib.hid (hb3.trans (hba.mono hb3.size))
      clear hjob hcell hbl c1 l1 ls z1 z2 hb3 hsl3 hnew3 hba hy hR hD hlen
      gi_wp2_with (first | (refine wpListIn_store_fresh _ rfl _ _ _ rfl _ rfl D rfl w3 _ _ rfl rfl (by rw [HDS.out]; decide) (by rw [HDS.out]; rfl) (by rw [HDS.out]; exact info_jobG) HD1.out ?_) | (refine wpListIn_load_all _ rfl _ _ rfl _ rfl D _ _ (heap_new w3 _) _ Tryz.underlying42 rfl (by rw [HDS.out]; exact info_jobG) ?_) | fail)
      rw [HHY.out]
      refine ⟨fun h => by simp [Fence.wide] at h, HHR.out.mono ?_⟩
      rintro en W5 ⟨rfl, O', hJ5, hk5, hO5⟩
      have hI5 : Hid (J (p ++ [(x.j, .slice ad3 x.j.sp.deps.length cp3)]) O' W5 ∧ (p ++ [((x.j, Value.slice ad3 x.j.sp.deps.length cp3) : JD)]).map (fun x : JD => x.1.sp.name) = ys.take (i + 1) ∧ (∀ z ∈ p ++ [((x.j, Value.slice ad3 x.j.sp.deps.length cp3) : JD)], InJobs jes z.1) ∧ Sl keyS W5 (.slice (some ⟨lb, lo, none⟩) nn cp2) ys ∧ ∀ k, (Value.slice (some ⟨lb, lo, none⟩) nn cp2).ownBlock = some k → ¬ O' k) := Lib.hid (by
        obtain ⟨hJ, hpn, hpj, hv, hvF⟩ := HST.out
        refine ⟨hJ5, ?_, fun z hz => ?_, (hv.below HB3.out hv.row_lt).kept hk5 hvF, fun k hk e => ?_⟩
        · rw [List.map_append, hpn, List.take_add_one, HYI.out]
          simp [HX.out.2]
        · rcases List.mem_append.1 hz with hz | hz
          · exact hpj z hz
          · simp at hz; subst hz; exact ⟨x, HX.out.1, rfl⟩
        · rcases hO5 k e with h | h
          · exact hvF k hk h
          · have := hv.row_lt k hk
            have := HB3.out.size
            omega)
      clear hJ5 hk5 hO5 HHY HHR
      gi_wp2
      go_roundw
      case rel => exact ⟨i + 1, _, O', by go_num, by omega, hI5⟩
      case measure => simp [intOf]; omega
    · obtain rfl : i = nn := by omega
      gi_wp2_with fail
      refine bodyPost_end (results_none rfl _ _ _) rfl ?_
      obtain ⟨hJ, hpn, hpj, _⟩ := HR.out
      exact ⟨⟨_, rfl⟩, p, O, ⟨ys, by have := HPERM.out; rw [HL.out, keys, List.map_map] at this; exact this, HRISE.out, by rw [hpn, HYN.out]; exact List.take_length, hpj⟩, hJ⟩

theorem sjobs_any (w : World) (s : Nat) : Calls Tryz.prog 23 #[.pointer (some ⟨s, 0, none⟩)] w (fun e w' => e = .returned (.func (.func 49) #[] #[.pointer (some ⟨w.heap.size, 0, none⟩)]) ∧ w' = w.alloc (.cells #[.pointer (some ⟨s, 0, none⟩)] 24)) := by
  go_enter Tryz.func23, Tryz.ntmps23
  go_wp2
  go_ret
  exact ⟨rfl, rfl⟩

theorem collectJ (w : World) (gf : Nat) (lb : Array Value) (eg : ∀ args w, (callFunc gf args).run Tryz.prog w = .ok (.enter gf args) w) (P : Jb → Prop) (Done : List JD → Prop) (R : World → Prop)
    (iter : IterJ P Done R 4 gf lb) (hR : ∀ A, Below w.heap.size w A → R A) :
    Calls Tryz.prog 22 #[.func (.func gf) #[] lb] w (CollPJ w P Done) := by
  have h := Lib.hid (appendJ w gf lb eg P Done R iter hR)
  generalize (Value.func (.func gf) #[] lb) = f at *
  clear iter hR eg
  go_enter Tryz.func22, Tryz.ntmps22
  go_wp2_with fail
  refine h.out.mono ?_
  rintro e w' ⟨v, xs, rfl, hp, hn⟩
  have HP := Lib.hid hp
  have HN := Lib.hid hn
  clear hp hn
  go_wp2_with fail
  go_ret
  exact ⟨v, xs, rfl, HP.out, HN.out⟩

end Go.Proofs.YtheipmallojdkaaGreatDoor

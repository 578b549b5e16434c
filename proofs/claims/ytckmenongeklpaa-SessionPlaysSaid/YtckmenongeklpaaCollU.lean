/- slices.Collect, slices.Sorted at uint64, over an iterator that tells some numbers, each once, in whatever order. -/
import Derived.Test.YtckmenongeklpaaKeysU
import Derived.Test.YtckmenongeklpaaOwnB
import Derived.Stop.RegionWithIn
import Derived.Maps.AppendAt
namespace Go.Proofs.Ytckmenongeklpaa
open Go.RowKit Go.Maps Go.ChangeMaps Go.Sort
attribute [local go_sem] Oper.semAt_some

theorem info_u64 : (Try.prog.info? 34).map (fun i => (i.zero, i.size, i.bytes)) = some (some (.int .u64 0), 1, 8) := by kernel_rfl

theorem owns_keptB {S : Nat → Prop} {w w' : World} {base : Nat} {e : TypeId} {size : Nat} {v : Value} {n : Nat} {xs : List Value} (h : w.ownsRow base e size v n xs) (hk : Keeps S w w') (hS : ∀ k, v.ownBlock = some k → ¬ S k) : w'.ownsRow base e size v n xs := by
  refine ⟨h.1, ?_⟩
  rcases h.2 with h | ⟨g, cap, cur, rfl, hb, hg, rest⟩
  · exact .inl h
  · exact .inr ⟨g, cap, cur, rfl, hb, hk.heap (hS g rfl) hg, rest⟩

/-- What the range of AppendSeq has appended so far. -/
def CollI (w : World) (p : List Int) (A : World) : Prop :=
  ∃ v, A.heap[w.heap.size]? = some (.cells #[v] 66 (0, 0)) ∧ A.ownsRow (w.heap.size + 1) 34 1 v p.length (p.map keyU) ∧ Below w.heap.size w A ∧ w.heap.size + 1 ≤ A.heap.size

/-- A slice of numbers, new. -/
def NewU (w : World) (xs : List Int) (v : Value) (w' : World) : Prop := w'.ownsRow w.heap.size 34 1 v xs.length (xs.map keyU) ∧ Below w.heap.size w w'

def CollP (w : World) (ks : List Int) (e : Ending) (w' : World) : Prop := ∃ v xs, e = .returned v ∧ xs.Perm ks ∧ NewU w xs v w'

set_option maxRecDepth 100000 in
set_option maxHeartbeats 1600000 in
theorem appendU (w : World) (gf : Nat) (lb : Array Value) (eg : ∀ args w, (callFunc gf args).run Try.prog w = .ok (.enter gf args) w) (ks : List Int) (hk : ks.length ≤ 100000) (R : World → Prop)
    (iter : IterK keyU ks R 4 gf lb) (hR : ∀ A, Below w.heap.size w A → R A) :
    Calls Try.prog 50 #[.slice none 0 0, .func (.func gf) #[] lb] w (CollP w ks) := by
  refine (callsIn_wide (n := 5)).1 (callsIn_of_wp_marks Try.func50 rfl trivial ?_ rfl)
  have HI := Lib.hid iter
  have HRR := Lib.hid hR
  clear iter hR
  simp only [Try.ntmps50, List.size_toArray, List.length_cons, List.length_nil, Nat.reduceAdd, Nat.reduceSub, Array.replicate_succ, Array.replicate_zero, List.push_toArray, List.append_toArray, List.nil_append, List.cons_append]
  refine wpIn_wide.2 ?_
  go_wp2
  obtain ⟨W0, hW0⟩ : ∃ W0, W0 = w.alloc (.cells #[.slice none 0 0] 66) := ⟨_, rfl⟩
  rw [← hW0]
  have hx : W0.heap[w.heap.size]? = some (.cells #[.slice none 0 0] 66) := by rw [hW0]; exact heap_new _ _
  have hb : Below w.heap.size w W0 := by rw [hW0]; exact (Below.refl _ _).alloc (Nat.le_refl _) _
  have hz0 : w.heap.size + 1 ≤ W0.heap.size := by rw [hW0]; simp
  clear hW0
  have HZ := Lib.hid hz0
  refine (wpIn_wide (n := 5)).1 ?_
  refine range_any (n := 5) (gf := gf) (lb := lb) rfl eg rfl HI.out (CollI w) ?ib ?ir ?ik ?h0 ?a1 ?assign ?body ?done
  case assign =>
    intro l z W K hK
    unfold keyU
    gi_wp2
    exact hK
  case ib => exact fun p A B ⟨v, h1, h2, h3, h4⟩ hb => ⟨v, bheap hb h1 (heap_lt h1), owns_below h2 hb, h3.trans (hb.mono h3.size), Nat.le_trans h4 hb.size⟩
  case ir => exact fun p A ⟨v, h1, h2, h3, h4⟩ => HRR.out A h3
  case ik =>
    rintro p A B r o ⟨v, h1, h2, h3, h4⟩ hr ho hc hkk
    have hne : r ≠ w.heap.size := by
      rintro rfl
      rw [h1] at ho
      cases ho
      cases hc
    refine ⟨v, hkk.heap (fun e => hne e.symm) h1, owns_keptB h2 hkk fun g hg e => ?_, h3.trans (hkk.below h3.size (fun k e => by omega)), Nat.le_trans h4 hkk.size⟩
    subst e
    rcases h2.2 with ⟨rfl, _⟩ | ⟨g', cap, cur, rfl, _, hgg, _⟩
    · cases hg
    · obtain rfl : g' = g := by simpa [Value.ownBlock] using hg
      rw [hgg] at ho
      cases ho
      cases hc
  case h0 => exact ⟨_, hx, World.ownsRow_nil _ _ _ _, hb, HZ.out⟩
  case body =>
    rintro l p x W hxk hnd hsub hsW ⟨v, h1, h2, h3, h4⟩
    have hlen : p.length + 1 ≤ ks.length := by
      have := hnd.length_le_of_subset (l₂ := ks) (fun y hy => by
        rcases List.mem_append.1 hy with hy | hy
        · exact hsub y hy
        · simp at hy; subst hy; exact hxk)
      simpa using this
    obtain ⟨va, vc, rfl⟩ : ∃ va vc, v = .slice va p.length vc := by
      rcases h2.2 with ⟨e1, e2⟩ | ⟨g, c, cur, e1, _⟩
      · exact ⟨none, 0, by rw [e1, e2]⟩
      · exact ⟨_, _, e1⟩
    have c0 : W.cell? ⟨w.heap.size, 0, none⟩ = some (.slice va p.length vc) := blk_cell h1 0 rfl
    have lt0 : w.heap.size < W.heap.size := by omega
    have H1 := Lib.hid h1
    have H2 := Lib.hid h2
    have H3 := Lib.hid h3
    have HL1 : Hid (p.length + 1 ≤ maxLen) := Lib.hid (by unfold maxLen; omega)
    have HL2 : Hid ((p.length + 1) * 8 ≤ 140737488355328) := Lib.hid (by omega)
    obtain ⟨i0, hi, hz0, hz1, hz2⟩ := info_parts info_u64
    clear h1 h2 h3
    gi_wp2_with (gi_at_builtin; go_loud (refine wpListIn_append_own _ rfl _ _ 66 rfl (w.heap.size + 1) 34 i0 (.int .u64 0) 1 8 Try.underlying66 hi hz0 hz1 hz2 rfl (by decide) _ _ _ rfl (H2.out.alloc _) ⟨W.heap.size, 0, none⟩ 1 1 [.int .u64 x] rfl rfl (cell_one_new _ _ _) (by simp [Value.oneCell']) HL1.out HL2.out (by simp; omega) ?_; intro q' w4 hown4 hg4 _; have HO4 := Lib.hid hown4; have HG4 := Lib.hid hg4; obtain ⟨g4, cap4, rfl⟩ := ownsRow_succ hown4; have cT4 := blk_cell (due_app H1.out (Nat.lt_succ_self _) h4 H2.out HO4.out HG4.out).1 0 rfl; have fT4 := blk_free (due_app H1.out (Nat.lt_succ_self _) h4 H2.out HO4.out HG4.out).1 0; clear hown4 hg4))
    obtain ⟨_, hot, hnew, hown, hko, hkp⟩ := due_app H1.out (Nat.lt_succ_self _) h4 H2.out HO4.out HG4.out
    have hsz : W.heap.size + 1 ≤ w4.heap.size := by have := HG4.out.size; simpa using this
    refine ⟨hko, _, hnew, ?_, ⟨HG4.out.os.trans H3.out.os, HG4.out.tape.trans H3.out.tape, HG4.out.output.trans H3.out.output, ?_, fun k hk => (hot k (by omega) (by omega)).trans (H3.out.block k hk)⟩, ?_⟩
    · rw [List.length_append, List.map_append]
      exact hown
    · have := H3.out.size
      simp
      omega
    · simp
      omega
  case done =>
    rintro D W xs hD hp ⟨v, h1, h2, h3, h4⟩ hDef
    obtain ⟨va, vc, rfl⟩ : ∃ va vc, v = .slice va xs.length vc := by
      rcases h2.2 with ⟨e1, e2⟩ | ⟨g, c, cur, e1, _⟩
      · exact ⟨none, 0, by rw [e1, e2]⟩
      · exact ⟨_, _, e1⟩
    have c0 : W.cell? ⟨w.heap.size, 0, none⟩ = some (.slice va xs.length vc) := blk_cell h1 0 rfl
    have HDF := Lib.hid hDef
    have HB1 := Lib.hid (below_putObj h3 (l := D) (by omega) (.deferred none))
    have HN := Lib.hid (owns_mono (ownsRow_putObj h2 (.deferred none) hDef rfl) (Nat.le_succ _))
    have HP := Lib.hid hp
    clear h1 h2 h3 hDef hD hp
    go_wp2
    refine ⟨by simp, .inl ⟨_, _, rfl, run_takeDeferred HDF.out, ?_⟩⟩
    exact ⟨.slice va xs.length vc, by simp [results, Try.results50, go_sem], _, xs, rfl, HP.out, HN.out, HB1.out⟩

end Go.Proofs.Ytckmenongeklpaa

/- A range over an iterator that tells some values, each once, in whatever order (a map's keys), whose body goes on always: the caller's law, under the wide fence. -/
import Derived.Test.YtckmenongeklpaaRangeN
import Derived.Test.YtckmenongeklpaaMap
namespace Go.Proofs.Ytckmenongeklpaa
open Go.RowKit

/-- The iterator's contract: it tells these, each once, in some order, over what R holds of; it writes its own walk's object. -/
def IterK {α : Type} (enc : α → Value) (ks : List α) (R : World → Prop) (n gf : Nat) (lb : Array Value) : Prop :=
  ∀ (l : Nat) (J : List α → World → Prop) (W : World), (∀ p A B, J p A → Below A.heap.size A B → J p B) →
    (∀ p A B r m s seen c, J p A → W.heap.size ≤ r → A.heap[r]? = some (.mapIter m s seen c) → Keeps (fun k => k = r) A B → J p B) → (∀ p A, J p A → R A) →
    (∀ p x A, x ∈ ks → (p ++ [x]).Nodup → (∀ y ∈ p, y ∈ ks) → J p A → YieldAt Fence.wide (n - 1) Try.prog l #[enc x] A fun e B => e = .returned (.bool true) ∧ J (p ++ [x]) B ∧ KeepsWalks A B) →
    J [] W → CallsIn Fence.wide n Try.prog gf (#[.func (.yield l) #[] #[]] ++ lb) W fun e B => (∃ v, e = .returned v) ∧ ∃ xs, xs.Perm ks ∧ J xs B

theorem keeps_putObj (w : World) (l : Nat) (o : Obj) : Keeps (fun k => k = l) w (w.putObj l o) :=
  ⟨rfl, rfl, rfl, by simp, fun k _ hn => World.putObj_heap_other hn⟩

theorem range_any {α : Type} {enc : α → Value} {g : Operand} {ps : Array Tmp} {assign body : Code} {Q : Exit → Act → World → Prop} {a : Act} {w : World} {n : Nat} {gf : Nat} {lb : Array Value}
    (hg : a.eval g = .func (.func gf) #[] lb) (eg : ∀ args w, (callFunc gf args).run Try.prog w = .ok (.enter gf args) w) (hps : ps.size = 1)
    {ks : List α} {R : World → Prop} (iter : IterK enc ks R (n - 1) gf lb)
    (I : List α → World → Prop)
    (hIb : ∀ p A B, I p A → Below A.heap.size A B → I p B)
    (hIr : ∀ p A, I p A → R A)
    (hIk : ∀ p A B r o, I p A → w.heap.size ≤ r → A.heap[r]? = some o → o.isCells = false → Keeps (fun k => k = r) A B → I p B)
    (h0 : I [] w) (a₁ : α → Act)
    (hassign : ∀ (l : Nat) (x : α) (W : World) (K : Act → World → Prop), K (a₁ x) W →
      assign.wpIn (Fence.wide.inRound l) (n - 1 - 1) Try.prog (Exit.then K (fun _ _ _ => False)) { tmps := (ps.zip #[enc x]).foldl (fun t (p, v) => t.setIfInBounds p v) a.tmps, defers := [] } W)
    (hbody : ∀ (l : Nat) (p : List α) (x : α) (W : World), x ∈ ks → (p ++ [x]).Nodup → (∀ y ∈ p, y ∈ ks) → w.heap.size ≤ W.heap.size → I p W → body.wpIn (Fence.wide.inRound l) (n - 1 - 1) Try.prog (fun e _ W' => e = .normal ∧ KeepsOthers W W' ∧ I (p ++ [x]) W') (a₁ x) W)
    (hdone : ∀ (D : Nat) (W : World) (xs : List α), w.heap.size ≤ D → xs.Perm ks → I xs W → W.heap[D]? = some (.deferred (some [])) → Q .normal { a with defers := { target := .collected D, args := #[] } :: a.defers } W) :
    (Code.rangeFunc g ps assign body).wpIn Fence.wide n Try.prog Q a w := by
  have hIo : ∀ p A l o o', I p A → w.heap.size ≤ l → A.heap[l]? = some o → o.isCells = false → I p (A.putObj l o') := fun p A l o o' h1 h2 h3 h4 => hIk p A _ l o h1 h2 h3 h4 (keeps_putObj A l o')
  refine wpIn_rangeFunc ?_
  intro fn hfn
  obtain ⟨rec, hrec⟩ : ∃ rec : LoopState → Option Code → Loop, rec = fun st pe => { state := st, pending := pe, fn, tmps := a.tmps, params := ps, assign, body, defers := w.heap.size } := ⟨_, rfl⟩
  obtain ⟨W1, hW1⟩ : ∃ W1, (w.alloc (.deferred (some []))).alloc (.loop (rec .ready none)) = W1 := ⟨_, rfl⟩
  have hL1 : W1.heap[w.heap.size + 1]? = some (.loop (rec .ready none)) := by
    rw [← hW1]; have := World.alloc_heap_new (w.alloc (.deferred (some []))) (.loop (rec .ready none)); rwa [World.size_alloc] at this
  have hK1 : W1.heap[w.heap.size]? = some (.deferred (some [])) := by
    rw [← hW1]; exact (Below.heap_alloc _ _ _ (by simp)).trans (World.alloc_heap_new w _)
  have hbw : Below w.heap.size w W1 := by rw [← hW1]; exact ((Below.refl _ w).alloc (Nat.le_refl _) _).alloc (by simp) _
  have hI1 : I [] W1 := hIb _ _ _ h0 hbw
  refine ⟨w.heap.size + 1, [{ target := .collected w.heap.size, args := #[] }], W1, { target := .fn (.func gf) lb, args := #[.func (.yield (w.heap.size + 1)) #[] #[]] }, W1, gf,
    #[.func (.yield (w.heap.size + 1)) #[] #[]] ++ lb, W1, ?_, ?_, ?_, ?_, fun h => by simp [Fence.wide] at h, ?_⟩
  · rw [← hW1, hrec]; exact run_enterLoop_outer _ _ _ _ _
  · simp only [resolve, hg]
    simp [go_sem]
  · intro f' _; trivial
  · simp [invoke, go_sem, eg]
  · refine (iter (w.heap.size + 1)
      (fun p W => I p W ∧ W.heap[w.heap.size + 1]? = some (.loop (rec .ready none)) ∧ W.heap[w.heap.size]? = some (.deferred (some [])))
      W1 ?_ ?_ ?_ ?_ ⟨hI1, hL1, hK1⟩).mono ?_
    · rintro p A B ⟨hi, hl, hk⟩ hb
      exact ⟨hIb _ _ _ hi hb, (hb.block _ (Array.getElem?_eq_some_iff.1 hl).1).trans hl, (hb.block _ (Array.getElem?_eq_some_iff.1 hk).1).trans hk⟩
    · rintro p A B r m s seen c ⟨hi, hl, hk⟩ hr hro hkp
      refine ⟨hIk _ _ _ r _ hi (by have := hbw.size; omega) hro rfl hkp, ?_, ?_⟩
      · refine hkp.heap ?_ hl
        rintro rfl
        rw [hro] at hl
        cases hl
      · refine hkp.heap ?_ hk
        rintro rfl
        rw [hro] at hk
        cases hk
    · rintro p A ⟨hi, _⟩
      exact hIr _ _ hi
    · rintro p x W hx hnd hsub ⟨hi, hl, hk⟩
      have hlt : w.heap.size + 1 < W.heap.size := (Array.getElem?_eq_some_iff.1 hl).1
      have hy := run_yield (P := Try.prog) (args := #[enc x]) hl (by rw [hrec]; simp [hps])
      rw [hrec] at hy
      refine ⟨fn, _, assign, body, hy, roundIn_of_wpIn hfn (hassign _ x W _ ⟨_, run_beginRound hl (by rw [hrec]), ?_⟩)⟩
      have hl2 : (W.putObj (w.heap.size + 1) (.loop { rec .ready none with state := .busy })).heap[w.heap.size + 1]? = some (.loop { rec .ready none with state := .busy }) := World.putObj_heap_same hlt
      have hk2 : (W.putObj (w.heap.size + 1) (.loop { rec .ready none with state := .busy })).heap[w.heap.size]? = some (.deferred (some [])) := (World.putObj_heap_other (by omega)).trans hk
      refine wpIn_mono (hbody _ p x _ hx hnd hsub (by simp; omega) (hIo _ _ _ _ _ hi (by omega) hl rfl)) ?_
      rintro e a3 W3 ⟨rfl, hk3, hi3⟩
      have hl0 := hl
      have hl3 := hk3.same _ _ hl2 rfl
      have hr := run_endRound (P := Try.prog) none hl3
      rw [hrec] at hr
      exact ⟨_, _, hr, rfl, ⟨hIo _ _ _ _ _ hi3 (by omega) hl3 rfl, by rw [hrec] at hl3 ⊢; exact World.putObj_heap_same (Array.getElem?_eq_some_iff.1 hl3).1, (World.putObj_heap_other (by omega)).trans (hk3.same _ _ hk2 rfl)⟩,
        ((KeepsWalks.putObj _ hl0 rfl).trans hk3.walks).trans (KeepsWalks.putObj _ hl3 rfl)⟩
    · rintro e W2 ⟨⟨v, rfl⟩, xs, hxs, hi, hl, hk⟩
      exact ⟨none, _, by have := run_endLoop (P := Try.prog) hl (by rw [hrec]; simp); rw [hrec] at this; exact this, hdone _ _ xs (Nat.le_refl _) hxs (hIo _ _ _ _ _ hi (by omega) hl rfl) ((World.putObj_heap_other (by omega)).trans hk)⟩

end Go.Proofs.Ytckmenongeklpaa

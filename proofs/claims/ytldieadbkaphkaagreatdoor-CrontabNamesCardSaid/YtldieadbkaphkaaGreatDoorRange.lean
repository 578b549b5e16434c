/- A range over an iterator whose state lies in a cell of its own (block ba): the caller's law, under the wide fence. -/
import Derived.RangeFuncNested
import Derived.RangeFuncBound
import Derived.RangeFuncCalls
import Derived.RangeFuncLeaves
import Derived.RangeFuncFrom
import Derived.Test.YtldieadbkaphkaaGreatDoorFireN
namespace Go.Proofs.YtldieadbkaphkaaGreatDoor
open Go.RowKit

/-- What a round leaves behind. -/
def roundEnd (I : List Int → World → Prop) (Ix : Code → List Int → World → Prop) (p : List Int) (W : World) : Exit → Act → World → Prop
  | .normal, _, W' => KeepsOthers W W' ∧ I p W'
  | .ret, _, W' => KeepsOthers W W' ∧ Ix .ret p W'
  | .exit id, _, W' => KeepsOthers W W' ∧ Ix (.exit id) p W'
  | .goto t, _, W' => KeepsOthers W W' ∧ Ix (.goto t) p W'
  | _, _, _ => False

/-- The iterator's contract: between two rounds J holds of what has come and of its cell's number; behind a round that goes on, and ahead of its own store, J1. -/
def IterC (S : Nat → Prop) (n : Nat) (gf : Nat) (lb : Array Value) (ba : Nat) (Step : Int → Int → Prop) (Stop : Int → Prop) (a0 : Int) (w : World) : Prop :=
  ∀ (l : Nat) (J : List Int × Int → World → Prop) (J1 : List Int → Int → Int → World → Prop) (Jx : List Int → World → Prop) (W : World), Below w.heap.size w W →
    (∀ s A B, J s A → Below A.heap.size A B → J s B) →
    (∀ p a x A, J1 p a x A → J (p ++ [x], x) (A.setCell ⟨ba, 0, none⟩ (.int .i64 x)) ∧ A.heap[ba]? = some (.cells #[.int .i64 a] 2)) →
    (∀ s A, J s A → Keeps S w A ∧ A.heap[ba]? = some (.cells #[.int .i64 s.2] 2) ∧ -9223372036854775808 ≤ s.2 ∧ s.2 ≤ 9223372036854775807) →
    (∀ p a x A, J (p, a) A → Step a x → YieldAt Fence.wide (n - 1) Tryz.prog l #[.int .i64 x] A fun e B => (e = .returned (.bool true) ∧ J1 p a x B) ∨ (e = .returned (.bool false) ∧ Jx (p ++ [x]) B)) →
    J ([], a0) W →
    CallsIn Fence.wide n Tryz.prog gf (#[.func (.yield l) #[] #[]] ++ lb) W fun e B => (∃ v, e = .returned v) ∧ ((∃ p a, Stop a ∧ J (p, a) B) ∨ ∃ p, Jx p B)

theorem Keeps.putObj {S : Nat → Prop} {a w : World} (h : Keeps S a w) {l : Nat} (hl : a.heap.size ≤ l) (o : Obj) : Keeps S a (w.putObj l o) :=
  ⟨h.os, h.tape, h.output, by simpa using h.size, fun k hk hn => (World.putObj_heap_other (by omega)).trans (h.block k hk hn)⟩

theorem range_law {g : Operand} {ps : Array Tmp} {assign body : Code} {Q : Exit → Act → World → Prop} {a : Act} {w : World} {n : Nat} {gf : Nat} {lb : Array Value}
    (hg : a.eval g = .func (.func gf) #[] lb) (eg : ∀ args w, (callFunc gf args).run Tryz.prog w = .ok (.enter gf args) w) (hps : ps.size = 1)
    {S : Nat → Prop} {ba : Nat} {Step : Int → Int → Prop} {Stop : Int → Prop} {a0 : Int} {w0 : World} (iter : IterC S (n - 1) gf lb ba Step Stop a0 w0) (hb0 : Below w0.heap.size w0 w) (hba : ba < w.heap.size)
    (I : List Int × Int → World → Prop) (I1 : List Int → Int → Int → World → Prop) (Ix : Code → List Int → World → Prop)
    (hIb : ∀ s A B, I s A → Below A.heap.size A B → I s B)
    (hIs : ∀ p b x A, I1 p b x A → I (p ++ [x], x) (A.setCell ⟨ba, 0, none⟩ (.int .i64 x)) ∧ A.heap[ba]? = some (.cells #[.int .i64 b] 2))
    (hIc : ∀ s A, I s A → Keeps S w0 A ∧ A.heap[ba]? = some (.cells #[.int .i64 s.2] 2) ∧ -9223372036854775808 ≤ s.2 ∧ s.2 ≤ 9223372036854775807)
    (hIo : ∀ s A l o o', I s A → w.heap.size ≤ l → A.heap[l]? = some o → o.isCells = false → I s (A.putObj l o'))
    (hI1o : ∀ p b x A l o o', I1 p b x A → w.heap.size ≤ l → A.heap[l]? = some o → o.isCells = false → I1 p b x (A.putObj l o'))
    (hIxo : ∀ c p A l o o', Ix c p A → w.heap.size ≤ l → A.heap[l]? = some o → o.isCells = false → Ix c p (A.putObj l o'))
    (h0 : I ([], a0) w) (a₁ : Int → Act)
    (hassign : ∀ (l : Nat) (x : Int) (W : World) (K : Act → World → Prop), K (a₁ x) W →
      assign.wpIn (Fence.wide.inRound l) (n - 1 - 1) Tryz.prog (Exit.then K (fun _ _ _ => False)) { tmps := (ps.zip #[.int .i64 x]).foldl (fun t (p, v) => t.setIfInBounds p v) a.tmps, defers := [] } W)
    (hbody : ∀ (l : Nat) (p : List Int) (b x : Int) (W : World), I (p, b) W → Step b x → body.wpIn (Fence.wide.inRound l) (n - 1 - 1) Tryz.prog (roundEnd (fun _ A => I1 p b x A) Ix (p ++ [x]) W) (a₁ x) W)
    (hdone : ∀ (D : Nat) (p : List Int) (b : Int) (W : World), w.heap.size ≤ D → Stop b → I (p, b) W → W.heap[D]? = some (.deferred (some [])) → Q .normal { a with defers := { target := .collected D, args := #[] } :: a.defers } W)
    (hstop : ∀ (D : Nat) (c : Code) (p : List Int) (W : World), w.heap.size ≤ D → Ix c p W → W.heap[D]? = some (.deferred (some [])) → c.wpIn Fence.wide n Tryz.prog Q { a with defers := { target := .collected D, args := #[] } :: a.defers } W) :
    (Code.rangeFunc g ps assign body).wpIn Fence.wide n Tryz.prog Q a w := by
  refine wpIn_rangeFunc ?_
  intro fn hfn
  obtain ⟨rec, hrec⟩ : ∃ rec : LoopState → Option Code → Loop, rec = fun st pe => { state := st, pending := pe, fn, tmps := a.tmps, params := ps, assign, body, defers := w.heap.size } := ⟨_, rfl⟩
  obtain ⟨W1, hW1⟩ : ∃ W1, (w.alloc (.deferred (some []))).alloc (.loop (rec .ready none)) = W1 := ⟨_, rfl⟩
  have hL1 : W1.heap[w.heap.size + 1]? = some (.loop (rec .ready none)) := by
    rw [← hW1]; have := World.alloc_heap_new (w.alloc (.deferred (some []))) (.loop (rec .ready none)); rwa [World.size_alloc] at this
  have hK1 : W1.heap[w.heap.size]? = some (.deferred (some [])) := by
    rw [← hW1]; exact (Below.heap_alloc _ _ _ (by simp)).trans (World.alloc_heap_new w _)
  have hbw : Below w.heap.size w W1 := by rw [← hW1]; exact ((Below.refl _ w).alloc (Nat.le_refl _) _).alloc (by simp) _
  have hI1 : I ([], a0) W1 := hIb _ _ _ h0 hbw
  have hb1 : Below w0.heap.size w0 W1 := hb0.trans (hbw.mono hb0.size)
  refine ⟨w.heap.size + 1, [{ target := .collected w.heap.size, args := #[] }], W1, { target := .fn (.func gf) lb, args := #[.func (.yield (w.heap.size + 1)) #[] #[]] }, W1, gf,
    #[.func (.yield (w.heap.size + 1)) #[] #[]] ++ lb, W1, ?_, ?_, ?_, ?_, fun h => by simp [Fence.wide] at h, ?_⟩
  · rw [← hW1, hrec]; exact run_enterLoop_outer _ _ _ _ _
  · simp only [resolve, hg]
    simp [go_sem]
  · intro f' _; trivial
  · simp [invoke, go_sem, eg]
  · refine (iter (w.heap.size + 1)
      (fun s W => I s W ∧ W.heap[w.heap.size + 1]? = some (.loop (rec .ready none)) ∧ W.heap[w.heap.size]? = some (.deferred (some [])))
      (fun p b x W => I1 p b x W ∧ W.heap[w.heap.size + 1]? = some (.loop (rec .ready none)) ∧ W.heap[w.heap.size]? = some (.deferred (some [])))
      (fun p W => ∃ c, Ix c p W ∧ W.heap[w.heap.size + 1]? = some (.loop (rec .done (some c))) ∧ W.heap[w.heap.size]? = some (.deferred (some [])))
      W1 hb1 ?_ ?_ ?_ ?_ ⟨hI1, hL1, hK1⟩).mono ?_
    · rintro s A B ⟨hi, hl, hk⟩ hb
      exact ⟨hIb _ _ _ hi hb, (hb.block _ (Array.getElem?_eq_some_iff.1 hl).1).trans hl, (hb.block _ (Array.getElem?_eq_some_iff.1 hk).1).trans hk⟩
    · rintro p b x A ⟨hi, hl, hk⟩
      exact ⟨⟨(hIs _ _ _ _ hi).1, (Below.heap_setCell _ _ _ _ (by simp; omega)).trans hl, (Below.heap_setCell _ _ _ _ (by simp; omega)).trans hk⟩, (hIs _ _ _ _ hi).2⟩
    · rintro s A ⟨hi, _⟩
      exact hIc _ _ hi
    · rintro p b x W ⟨hi, hl, hk⟩ hstep
      have hlt : w.heap.size + 1 < W.heap.size := (Array.getElem?_eq_some_iff.1 hl).1
      have hy := run_yield (P := Tryz.prog) (args := #[.int .i64 x]) hl (by rw [hrec]; simp [hps])
      rw [hrec] at hy
      refine ⟨fn, _, assign, body, hy, roundIn_of_wpIn hfn (hassign _ x W _ ⟨_, run_beginRound hl (by rw [hrec]), ?_⟩)⟩
      have hl2 : (W.putObj (w.heap.size + 1) (.loop { rec .ready none with state := .busy })).heap[w.heap.size + 1]? = some (.loop { rec .ready none with state := .busy }) := World.putObj_heap_same hlt
      have hk2 : (W.putObj (w.heap.size + 1) (.loop { rec .ready none with state := .busy })).heap[w.heap.size]? = some (.deferred (some [])) := (World.putObj_heap_other (by omega)).trans hk
      refine wpIn_mono (hbody _ p b x _ (hIo _ _ _ _ _ hi (by omega) hl rfl) hstep) ?_
      have fin : ∀ (jump : Option Code) (W3 : World), KeepsOthers (W.putObj (w.heap.size + 1) (.loop { rec .ready none with state := .busy })) W3 →
          (Instr.endRound (w.heap.size + 1) jump).run Tryz.prog W3 = .ok (.bool jump.isNone) (W3.putObj (w.heap.size + 1) (.loop (rec (if jump.isNone then .ready else .done) jump))) ∧
          W3.heap[w.heap.size + 1]? = some (.loop { rec .ready none with state := .busy }) ∧
          (W3.putObj (w.heap.size + 1) (.loop (rec (if jump.isNone then .ready else .done) jump))).heap[w.heap.size + 1]? = some (.loop (rec (if jump.isNone then .ready else .done) jump)) ∧
          (W3.putObj (w.heap.size + 1) (.loop (rec (if jump.isNone then .ready else .done) jump))).heap[w.heap.size]? = some (.deferred (some [])) := fun jump W3 hk3 => by
        have hl3 := hk3.same _ _ hl2 rfl
        have := run_endRound (P := Tryz.prog) jump hl3
        rw [hrec] at this ⊢
        exact ⟨this, by rw [hrec] at hl3; exact hl3, World.putObj_heap_same (Array.getElem?_eq_some_iff.1 hl3).1, (World.putObj_heap_other (by omega)).trans (hk3.same _ _ hk2 rfl)⟩
      rintro e a3 W3 hp
      cases e with
      | normal =>
        obtain ⟨hk3, hi3⟩ := hp
        obtain ⟨hr, hl3, hl4, hk4⟩ := fin none W3 hk3
        exact ⟨_, _, hr, .inl ⟨rfl, hI1o _ _ _ _ _ _ _ hi3 (by omega) hl3 rfl, hl4, hk4⟩⟩
      | ret =>
        obtain ⟨hk3, hi3⟩ := hp
        obtain ⟨hr, hl3, hl4, hk4⟩ := fin (some .ret) W3 hk3
        exact ⟨_, _, hr, .inr ⟨rfl, .ret, hIxo _ _ _ _ _ _ hi3 (by omega) hl3 rfl, hl4, hk4⟩⟩
      | exit id =>
        obtain ⟨hk3, hi3⟩ := hp
        obtain ⟨hr, hl3, hl4, hk4⟩ := fin (some (.exit id)) W3 hk3
        exact ⟨_, _, hr, .inr ⟨rfl, .exit id, hIxo _ _ _ _ _ _ hi3 (by omega) hl3 rfl, hl4, hk4⟩⟩
      | goto t =>
        obtain ⟨hk3, hi3⟩ := hp
        obtain ⟨hr, hl3, hl4, hk4⟩ := fin (some (.goto t)) W3 hk3
        exact ⟨_, _, hr, .inr ⟨rfl, .goto t, hIxo _ _ _ _ _ _ hi3 (by omega) hl3 rfl, hl4, hk4⟩⟩
      | panic ch => exact hp.elim
      | outgrown => exact hp.elim
    · rintro e W2 ⟨⟨v, rfl⟩, (⟨p, b, hS, hi, hl, hk⟩ | ⟨p, c, hi, hl, hk⟩)⟩
      · exact ⟨none, _, by have := run_endLoop (P := Tryz.prog) hl (by rw [hrec]; simp); rw [hrec] at this; exact this, hdone _ p b _ (Nat.le_refl _) hS (hIo _ _ _ _ _ hi (by omega) hl rfl) ((World.putObj_heap_other (by omega)).trans hk)⟩
      · exact ⟨some c, _, by have := run_endLoop (P := Tryz.prog) hl (by rw [hrec]; simp); rw [hrec] at this; exact this, hstop _ c p _ (Nat.le_refl _) (hIxo _ _ _ _ _ _ hi (by omega) hl rfl) ((World.putObj_heap_other (by omega)).trans hk)⟩

end Go.Proofs.YtldieadbkaphkaaGreatDoor

/- Whole structs in one step, as rules of the walk: a store or a load of many cells in a block that is known. Of whatever program. -/
import Derived.Test.YtbfhgljmopgejaaGreatBlk
namespace Go.Proofs.YtbfhgljmopgejaaGreat
open Go.RowKit Go.ChangeMaps

def ptrB : Value → Nat | .pointer (some a) => a.block | _ => 0
def ptrO : Value → Nat | .pointer (some a) => a.off | _ => 0
def ptrOk : Value → Bool | .pointer (some ⟨_, _, none⟩) => true | _ => false
def aggL : Value → List Value | .agg c => c.toList | _ => []
def aggOk : Value → Bool | .agg _ => true | _ => false

@[simp] theorem ptrB_mk (b o : Nat) : ptrB (.pointer (some ⟨b, o, none⟩)) = b := rfl
@[simp] theorem ptrO_mk (b o : Nat) : ptrO (.pointer (some ⟨b, o, none⟩)) = o := rfl
@[simp] theorem ptrOk_mk (b o : Nat) : ptrOk (.pointer (some ⟨b, o, none⟩)) = true := rfl
@[simp] theorem aggL_mk (l : List Value) : aggL (.agg l.toArray) = l := by simp [aggL]
@[simp] theorem aggOk_mk (c : Array Value) : aggOk (.agg c) = true := rfl

/-- The cells of a block. -/
def blkC (w : World) (b : Nat) : Array Value := match w.heap[b]? with | some (.cells C _ _) => C | _ => #[]
def blkT (w : World) (b : Nat) : TypeId := match w.heap[b]? with | some (.cells _ T _) => T | _ => 0
/-- A block of exactly n cells, none of them shared by a string. -/
def Fits (w : World) (b n : Nat) : Prop := ∃ C T, w.heap[b]? = some (.cells C T (0, 0)) ∧ C.size = n

theorem blkC_of {w : World} {b : Nat} {C : Array Value} {T : TypeId} {fr : Nat × Nat} (h : w.heap[b]? = some (.cells C T fr)) : blkC w b = C := by simp [blkC, h]
theorem blkT_of {w : World} {b : Nat} {C : Array Value} {T : TypeId} {fr : Nat × Nat} (h : w.heap[b]? = some (.cells C T fr)) : blkT w b = T := by simp [blkT, h]
theorem Fits.of {w : World} {b n : Nat} {C : Array Value} {T : TypeId} (h : w.heap[b]? = some (.cells C T (0, 0))) (hn : C.size = n) : Fits w b n := ⟨C, T, h, hn⟩
theorem Fits.eq {w : World} {b n : Nat} (h : Fits w b n) : w.heap[b]? = some (.cells (blkC w b) (blkT w b) (0, 0)) ∧ (blkC w b).size = n := by
  obtain ⟨C, T, hb, hn⟩ := h
  rw [blkC_of hb, blkT_of hb]
  exact ⟨hb, hn⟩

theorem Fits.alloc_new {W : World} {C : Array Value} {T : TypeId} {b n : Nat} (hb : b = W.heap.size) (hn : C.size = n) : Fits (W.alloc (.cells C T)) b n := by
  subst hb; exact ⟨C, T, heap_new _ _, hn⟩
theorem Fits.alloc_old {W : World} {o : Obj} {b n : Nat} (h : Fits W b n) : Fits (W.alloc o) b n := by
  obtain ⟨C, T, hb, hn⟩ := h; exact ⟨C, T, aheap hb _, hn⟩
theorem blkC_alloc_new {W : World} {C : Array Value} {T : TypeId} {b : Nat} (hb : b = W.heap.size) : blkC (W.alloc (.cells C T)) b = C := by
  subst hb; exact blkC_of (heap_new _ _)
theorem blkT_alloc_new {W : World} {C : Array Value} {T : TypeId} {b : Nat} (hb : b = W.heap.size) : blkT (W.alloc (.cells C T)) b = T := by
  subst hb; exact blkT_of (heap_new _ _)
theorem blkC_alloc_old {W : World} {o : Obj} {b : Nat} (hb : b < W.heap.size) : blkC (W.alloc o) b = blkC W b := by
  unfold blkC; rw [Below.heap_alloc _ _ _ hb]
theorem blkT_alloc_old {W : World} {o : Obj} {b : Nat} (hb : b < W.heap.size) : blkT (W.alloc o) b = blkT W b := by
  unfold blkT; rw [Below.heap_alloc _ _ _ hb]

/-- One behind the other, where the second one writes what the first one may, or what is new. -/
theorem Keeps.andThen {S T : Nat → Prop} {a b c : World} (h : Keeps S a b) (k : Keeps T b c) (hT : ∀ i, T i → a.heap.size ≤ i ∨ S i) : Keeps S a c :=
  ⟨k.os.trans h.os, k.tape.trans h.tape, k.output.trans h.output, Nat.le_trans h.size k.size, fun i hi hn => by
    have hs := h.size
    refine (k.block i (by omega) (fun ht => ?_)).trans (h.block i hi hn)
    rcases hT i ht with h1 | h1
    · omega
    · exact hn h1⟩

/-- What a store of n cells leaves. -/
def stored (w : World) (b off : Nat) (vs : List Value) : World := setBlock w b (.cells (spl (blkC w b) off vs) (blkT w b) (0, 0))

theorem store_rule {P : Program} {T n : Nat} (m : Nat) (hn : 0 < n) (hi : (P.info? T).map (·.size) = some n) {d : Option Tmp} {x y : Operand} {ty : TypeId} {pos : String} {af : Array Edge} {g : Option (Nat × Bool)} {a : Act} {w : World} {K : Act → World → Prop} {Q : Exit → Act → World → Prop}
    (h1 : ptrOk (a.eval x) = true) (h2 : aggOk (a.eval y) = true) (h3 : (aggL (a.eval y)).length = n) (h4 : Fits w (ptrB (a.eval x)) m) (h5 : ptrO (a.eval x) + n ≤ m) (h6 : OneCells (aggL (a.eval y))) :
    Oper.wp P { dst := d, op := .store T x y, type := ty, pos := pos, after := af, guard := g } a w K Q = K (a.put d undef) (stored w (ptrB (a.eval x)) (ptrO (a.eval x)) (aggL (a.eval y))) := by
  obtain ⟨hb, hz⟩ := h4.eq
  cases hx : a.eval x <;> rw [hx] at h1 <;> try (simp [ptrOk] at h1; done)
  rename_i ad
  cases ad with
  | none => simp [ptrOk] at h1
  | some ad =>
    obtain ⟨b, off, spot⟩ := ad
    cases spot with
    | some s => simp [ptrOk] at h1
    | none =>
      cases hy : a.eval y <;> rw [hy] at h2 <;> try (simp [aggOk] at h2; done)
      rename_i vs
      rw [hx] at hb hz h5
      rw [hy] at h3 h6
      simp only [ptrB, ptrO, aggL] at *
      have hlen : vs.size = n := by simpa using h3
      have hrun := run_storeAt_mid (P := P) w b off T vs (there_block hb off _ (by omega)) (by rw [hi, hlen]) h6.arr
      rw [setCells_block vs.toList off _ w hb (by intro e; have := congrArg List.length e; simp at this; simp [this] at hlen; omega)] at hrun
      unfold Oper.wp execOp
      simp only [hx, hy, Sem.run_bind, hrun, Result.andThen_ok]
      rfl

theorem load_rule {P : Program} {T n : Nat} (m : Nat) {d0 : TypeDesc} (hu : P.underlying T = some d0) (hd : d0.isRow = true) (hi : (P.info? T).map (·.size) = some n) {d : Option Tmp} {x : Operand} {ty : TypeId} {pos : String} {af : Array Edge} {g : Option (Nat × Bool)} {a : Act} {w : World} {K : Act → World → Prop} {Q : Exit → Act → World → Prop}
    (h1 : ptrOk (a.eval x) = true) (h4 : Fits w (ptrB (a.eval x)) m) (h5 : ptrO (a.eval x) + n ≤ m) :
    Oper.wp P { dst := d, op := .load T x, type := ty, pos := pos, after := af, guard := g } a w K Q = K (a.put d (.agg (((blkC w (ptrB (a.eval x))).toList.drop (ptrO (a.eval x))).take n).toArray)) w := by
  obtain ⟨hb, hz⟩ := h4.eq
  cases hx : a.eval x <;> rw [hx] at h1 <;> try (simp [ptrOk] at h1; done)
  rename_i ad
  cases ad with
  | none => simp [ptrOk] at h1
  | some ad =>
    obtain ⟨b, off, spot⟩ := ad
    cases spot with
    | some s => simp [ptrOk] at h1
    | none =>
      rw [hx] at hb hz h5
      simp only [ptrB, ptrO] at *
      have hc := World.rangeAt_of_block hb off n
      rw [show ((blkC w b).extract off (off + n)).toList = ((blkC w b).toList.drop off).take n by rw [Array.toList_extract, List.extract_eq_take_drop, Nat.add_sub_cancel_left]] at hc
      have hrun := run_loadAt_mid (P := P) w b off T _ d0 hc hu hd (by rw [hi]; simp; omega)
      unfold Oper.wp execOp
      simp only [hx, Sem.run_bind, hrun, Result.andThen_ok]
      rfl

theorem stored_alloc_new {W : World} {C : Array Value} {T : TypeId} {b : Nat} {vs : List Value} (hb : b = W.heap.size) (hn : vs.length = C.size) : stored (W.alloc (.cells C T)) b 0 vs = W.alloc (.cells vs.toArray T) := by
  unfold stored
  rw [blkC_alloc_new hb, blkT_alloc_new hb]
  subst hb
  have := spl_full C vs.toArray (by simpa using hn)
  rw [show vs.toArray.toList = vs by simp] at this
  rw [this, setBlock_alloc]

theorem stored_alloc_old {W : World} {o : Obj} {b off : Nat} {vs : List Value} (hb : b < W.heap.size) : stored (W.alloc o) b off vs = (stored W b off vs).alloc o := by
  unfold stored
  rw [blkC_alloc_old hb, blkT_alloc_old hb, setBlock_under _ _ _ _ hb]

theorem stored_at {w : World} {b : Nat} {C C' : Array Value} {T : TypeId} (hb : w.heap[b]? = some (.cells C T (0, 0))) {off : Nat} {vs : List Value} (hC : spl C off vs = C') : (stored w b off vs).heap[b]? = some (.cells C' T (0, 0)) := by
  unfold stored
  rw [blkC_of hb, blkT_of hb, hC]
  exact setBlock_at (heap_lt hb) _
theorem stored_keeps {S : Nat → Prop} {a w : World} {b : Nat} (h : Keeps S a w) (hb : S b ∨ a.heap.size ≤ b) (off : Nat) (vs : List Value) : Keeps S a (stored w b off vs) := h.setBlock hb _
theorem stored_size (w : World) (b off : Nat) (vs : List Value) : (stored w b off vs).heap.size = w.heap.size := by simp [stored, setBlock]

end Go.Proofs.YtbfhgljmopgejaaGreat

/- Whole structs in blocks that are known: a store and a load of many cells in one step, as rules of the walk. Of whatever program. -/
import Derived.Test.YtdjooojpcepleaaGreatRsM37
import Derived.Deep.MidRow
import Derived.Laws.ResultCell
namespace Go.Proofs.YtdjooojpcepleaaGreat
open Go.RowKit Go.ChangeMaps
def spl (C : Array Value) : Nat → List Value → Array Value
 | _, [] => C
 | o, v :: r => spl (C.setIfInBounds o v) (o + 1) r
theorem setBlock_setBlock (w : World) (b : Nat) (o o' : Obj) : setBlock (setBlock w b o) b o' = setBlock w b o' := by
 unfold setBlock
 congr 1
 apply Array.ext
 ·simp
 ·intro j h1 h2
  simp only [Array.size_setIfInBounds] at h1
  rw [Array.getElem_setIfInBounds (by simpa using h1), Array.getElem_setIfInBounds h1]
  rw [Array.getElem_setIfInBounds h1]
  split <;> rfl
theorem setCells_block {b : Nat} {T : TypeId} : ∀ (vs : List Value) (o : Nat) (C : Array Value) (w : World), w.heap[b]? = some (.cells C T (0, 0)) → vs ≠ [] → w.setCells b o vs = setBlock w b (.cells (spl C o vs) T (0, 0))
 | [], _, _, _, _, h => absurd rfl h
 | [v], o, C, w, hb, _ => setCell_block hb o v
 | v :: u :: r, o, C, w, hb, _ => by
  rw [World.setCells, setCell_block hb, setCells_block (u :: r) (o + 1) (C.setIfInBounds o v) _ (setBlock_at (heap_lt hb) _) (by simp), setBlock_setBlock]
  rfl
theorem spl_size : ∀ (vs : List Value) (o : Nat) (C : Array Value), (spl C o vs).size = C.size
 | [], _, _ => rfl
 | v :: r, o, C => by rw [spl, spl_size r]; simp
theorem spl_get : ∀ (vs : List Value) (o : Nat) (C : Array Value) (i : Nat), o + vs.length ≤ C.size → (spl C o vs)[i]? = if o ≤ i ∧ i < o + vs.length then vs[i - o]? else C[i]?
 | [], o, C, i, _ => by
  rw [spl, if_neg (by simp)]
 | v :: r, o, C, i, h => by
  simp only [List.length_cons] at h
  rw [spl, spl_get r (o + 1) _ i (by simp; omega)]
  by_cases h1 : i = o
  ·subst h1
   rw [if_neg (by omega), if_pos (by simp)]
   simp [Array.getElem?_setIfInBounds]
   omega
  ·by_cases h2 : o ≤ i ∧ i < o + (r.length + 1)
   ·rw [if_pos (by omega), if_pos (by simpa using h2)]
    obtain ⟨j, rfl⟩ : ∃ j, i = o + 1 + j := ⟨i - (o + 1), by omega⟩
    rw [show o + 1 + j - (o + 1) = j by omega, show o + 1 + j - o = j + 1 by omega]
    simp
   ·rw [if_neg (by omega), if_neg (by simpa using h2)]
    rw [Array.getElem?_setIfInBounds_ne (by omega)]
theorem spl_full (C vs : Array Value) (h : vs.size = C.size) : spl C 0 vs.toList = vs := by
 apply Array.ext
 ·rw [spl_size]; omega
 ·intro i h1 h2
  have := spl_get vs.toList 0 C i (by simp; omega)
  rw [if_pos (by simp; omega)] at this
  simp only [Nat.sub_zero, Array.getElem?_toList] at this
  rw [Array.getElem?_eq_getElem h1, Array.getElem?_eq_getElem h2] at this
  exact Option.some.inj this
theorem blk_setBlock_other {w : World} {b c : Nat} {o : Obj} (hb : w.heap[b]? = some o) (h : b ≠ c) (o' : Obj) : (setBlock w c o').heap[b]? = some o := by
 rw [← hb]
 simp [setBlock, h.symm]
theorem there_block {w : World} {b : Nat} {C : Array Value} {T : TypeId} (hb : w.heap[b]? = some (.cells C T (0, 0))) (o n : Nat) (h : o + n ≤ C.size) : w.there b o n := by
 intro j hj
 constructor
 ·have : o + j < C.size := by omega
  simp [World.cell?, hb, this]
 ·simp [World.frozen?, hb]
theorem setBlock_alloc (W : World) (o o' : Obj) : setBlock (W.alloc o) W.heap.size o' = W.alloc o' := by
 show ({ (W.alloc o) with heap := (W.heap.push o).setIfInBounds W.heap.size o' } : World) = _
 have : (W.heap.push o).setIfInBounds W.heap.size o' = W.heap.push o' := by
  apply Array.ext
  ·simp
  ·intro j h1 h2
   simp only [Array.size_push] at h2
   rw [Array.getElem_setIfInBounds (by simpa using h2), Array.getElem_push, Array.getElem_push]
   by_cases h : j < W.heap.size
   ·rw [if_neg (by omega), dif_pos h, dif_pos h]
   ·rw [if_pos (by omega), dif_neg h]
 rw [this]
 rfl
theorem setBlock_under (W : World) (o p : Obj) (b : Nat) (hb : b < W.heap.size) : setBlock (W.alloc o) b p = (setBlock W b p).alloc o := by
 show ({ (W.alloc o) with heap := (W.heap.push o).setIfInBounds b p } : World) = { (setBlock W b p) with heap := (W.heap.setIfInBounds b p).push o }
 have : (W.heap.push o).setIfInBounds b p = (W.heap.setIfInBounds b p).push o := by
  apply Array.ext
  ·simp
  ·intro j h1 h2
   simp only [Array.size_push, Array.size_setIfInBounds] at h2
   rw [Array.getElem_setIfInBounds (by simpa using h2), Array.getElem_push, Array.getElem_push]
   by_cases h : j < W.heap.size
   ·rw [dif_pos h, dif_pos (by simpa using h), Array.getElem_setIfInBounds h]
   ·rw [dif_neg h, dif_neg (by simpa using h), if_neg (by omega)]
 rw [this]
 rfl
theorem take_all (C : Array Value) : (C.toList.drop 0).take C.size = C.toList := by
 rw [List.drop_zero]
 exact List.take_of_length_le (by simp)
def OneCells : List Value → Prop
 | [] => True
 | v :: r => v.oneCell' = true ∧ OneCells r
theorem OneCells.all : ∀ {l : List Value}, OneCells l → ∀ v ∈ l, v.oneCell' = true
 | v :: r, h, x, hx => by
  rcases List.mem_cons.1 hx with rfl | hx
  ·exact h.1
  ·exact OneCells.all h.2 x hx
theorem OneCells.arr {vs : Array Value} (h : OneCells vs.toList) : vs.all (·.oneCell') = true := by
 rw [Array.all_eq_true_iff_forall_mem]
 intro v hv
 exact h.all v (by simpa using hv)
def blkC (w : World) (b : Nat) : Array Value := match w.heap[b]? with | some (.cells C _ _) => C | _ => #[]
def blkT (w : World) (b : Nat) : TypeId := match w.heap[b]? with | some (.cells _ T _) => T | _ => 0
def Fits (w : World) (b n : Nat) : Prop := ∃ C T, w.heap[b]? = some (.cells C T (0, 0)) ∧ C.size = n
theorem blkC_of {w : World} {b : Nat} {C : Array Value} {T : TypeId} {fr : Nat × Nat} (h : w.heap[b]? = some (.cells C T fr)) : blkC w b = C := by simp [blkC, h]
theorem blkT_of {w : World} {b : Nat} {C : Array Value} {T : TypeId} {fr : Nat × Nat} (h : w.heap[b]? = some (.cells C T fr)) : blkT w b = T := by simp [blkT, h]
theorem Fits.of {w : World} {b n : Nat} {C : Array Value} {T : TypeId} (h : w.heap[b]? = some (.cells C T (0, 0))) (hn : C.size = n) : Fits w b n := ⟨C, T, h, hn⟩
theorem Fits.eq {w : World} {b n : Nat} (h : Fits w b n) : w.heap[b]? = some (.cells (blkC w b) (blkT w b) (0, 0)) ∧ (blkC w b).size = n := by
 obtain ⟨C, T, hb, hn⟩ := h
 rw [blkC_of hb, blkT_of hb]
 exact ⟨hb, hn⟩
theorem Fits.alloc_new {W : World} {C : Array Value} {T : TypeId} {b n : Nat} (hb : b = W.heap.size) (hn : C.size = n) : Fits (W.alloc (.cells C T)) b n := by
 subst hb; exact ⟨C, T, bW _ _, hn⟩
theorem Fits.alloc_old {W : World} {o : Obj} {b n : Nat} (h : Fits W b n) : Fits (W.alloc o) b n := by
 obtain ⟨C, T, hb, hn⟩ := h; exact ⟨C, T, aheap hb _, hn⟩
theorem blkC_alloc_new {W : World} {C : Array Value} {T : TypeId} {b : Nat} (hb : b = W.heap.size) : blkC (W.alloc (.cells C T)) b = C := by
 subst hb; exact blkC_of (bW _ _)
theorem blkT_alloc_new {W : World} {C : Array Value} {T : TypeId} {b : Nat} (hb : b = W.heap.size) : blkT (W.alloc (.cells C T)) b = T := by
 subst hb; exact blkT_of (bW _ _)
theorem blkC_alloc_old {W : World} {o : Obj} {b : Nat} (hb : b < W.heap.size) : blkC (W.alloc o) b = blkC W b := by
 unfold blkC; rw [Below.heap_alloc _ _ _ hb]
theorem blkT_alloc_old {W : World} {o : Obj} {b : Nat} (hb : b < W.heap.size) : blkT (W.alloc o) b = blkT W b := by
 unfold blkT; rw [Below.heap_alloc _ _ _ hb]
def stored (w : World) (b off : Nat) (vs : List Value) : World := setBlock w b (.cells (spl (blkC w b) off vs) (blkT w b) (0, 0))
theorem store_rule {P : Program} {T n : Nat} (m : Nat) (hn : 0 < n) (hi : (P.info? T).map (·.size) = some n) {d : Option Tmp} {x y : Operand} {ty : TypeId} {pos : String} {af : Array Edge} {g : Option (Nat × Bool)} {a : Act} {w : World} {K : Act → World → Prop} {Q : Exit → Act → World → Prop}
  (h1 : ptrOk (a.eval x) = true) (h2 : aggOk (a.eval y) = true) (h3 : (aggL (a.eval y)).length = n) (h4 : Fits w (ptrB (a.eval x)) m) (h5 : ptrO (a.eval x) + n ≤ m) (h6 : OneCells (aggL (a.eval y))) :
  Oper.wp P { dst := d, op := .store T x y, type := ty, pos := pos, after := af, guard := g } a w K Q = K (a.put d undef) (stored w (ptrB (a.eval x)) (ptrO (a.eval x)) (aggL (a.eval y))) := by
 obtain ⟨hb, hz⟩ := h4.eq
 cases hx : a.eval x <;> rw [hx] at h1 <;> try (simp [ptrOk] at h1; done)
 rename_i ad
 cases ad with
 | none => simp [ptrOk] at h1
 | some ad =>
  obtain ⟨b, off, spot⟩ := ad
  cases spot with
  | some s => simp [ptrOk] at h1
  | none =>
   cases hy : a.eval y <;> rw [hy] at h2 <;> try (simp [aggOk] at h2; done)
   rename_i vs
   rw [hx] at hb hz h5
   rw [hy] at h3 h6
   simp only [ptrB, ptrO, aggL] at *
   have hlen : vs.size = n := by simpa using h3
   have hrun := run_storeAt_mid (P := P) w b off T vs (there_block hb off _ (by omega)) (by rw [hi, hlen]) h6.arr
   rw [setCells_block vs.toList off _ w hb (by intro e; have := congrArg List.length e; simp at this; simp [this] at hlen; omega)] at hrun
   unfold Oper.wp execOp
   simp only [hx, hy, Sem.run_bind, hrun, Result.andThen_ok]
   rfl
theorem load_rule {P : Program} {T n : Nat} (m : Nat) {d0 : TypeDesc} (hu : P.underlying T = some d0) (hd : d0.isRow = true) (hi : (P.info? T).map (·.size) = some n) {d : Option Tmp} {x : Operand} {ty : TypeId} {pos : String} {af : Array Edge} {g : Option (Nat × Bool)} {a : Act} {w : World} {K : Act → World → Prop} {Q : Exit → Act → World → Prop}
  (h1 : ptrOk (a.eval x) = true) (h4 : Fits w (ptrB (a.eval x)) m) (h5 : ptrO (a.eval x) + n ≤ m) :
  Oper.wp P { dst := d, op := .load T x, type := ty, pos := pos, after := af, guard := g } a w K Q = K (a.put d (.agg (((blkC w (ptrB (a.eval x))).toList.drop (ptrO (a.eval x))).take n).toArray)) w := by
 obtain ⟨hb, hz⟩ := h4.eq
 cases hx : a.eval x <;> rw [hx] at h1 <;> try (simp [ptrOk] at h1; done)
 rename_i ad
 cases ad with
 | none => simp [ptrOk] at h1
 | some ad =>
  obtain ⟨b, off, spot⟩ := ad
  cases spot with
  | some s => simp [ptrOk] at h1
  | none =>
   rw [hx] at hb hz h5
   simp only [ptrB, ptrO] at *
   have hc := World.rangeAt_of_block hb off n
   rw [show ((blkC w b).extract off (off + n)).toList = ((blkC w b).toList.drop off).take n by rw [Array.toList_extract, List.extract_eq_take_drop, Nat.add_sub_cancel_left]] at hc
   have hrun := run_loadAt_mid (P := P) w b off T _ d0 hc hu hd (by rw [hi]; simp; omega)
   unfold Oper.wp execOp
   simp only [hx, Sem.run_bind, hrun, Result.andThen_ok]
   rfl
theorem stored_alloc_new {W : World} {C : Array Value} {T : TypeId} {b : Nat} {vs : List Value} (hb : b = W.heap.size) (hn : vs.length = C.size) : stored (W.alloc (.cells C T)) b 0 vs = W.alloc (.cells vs.toArray T) := by
 unfold stored
 rw [blkC_alloc_new hb, blkT_alloc_new hb]
 subst hb
 have := spl_full C vs.toArray (by simpa using hn)
 rw [show vs.toArray.toList = vs by simp] at this
 rw [this, setBlock_alloc]
theorem stored_alloc_old {W : World} {o : Obj} {b off : Nat} {vs : List Value} (hb : b < W.heap.size) : stored (W.alloc o) b off vs = (stored W b off vs).alloc o := by
 unfold stored
 rw [blkC_alloc_old hb, blkT_alloc_old hb, setBlock_under _ _ _ _ hb]
theorem stored_at {w : World} {b : Nat} {C C' : Array Value} {T : TypeId} (hb : w.heap[b]? = some (.cells C T (0, 0))) {off : Nat} {vs : List Value} (hC : spl C off vs = C') : (stored w b off vs).heap[b]? = some (.cells C' T (0, 0)) := by
 unfold stored
 rw [blkC_of hb, blkT_of hb, hC]
 exact setBlock_at (heap_lt hb) _
theorem stored_keeps {S : Nat → Prop} {a w : World} {b : Nat} (h : Keeps S a w) (hb : S b ∨ a.heap.size ≤ b) (off : Nat) (vs : List Value) : Keeps S a (stored w b off vs) := h.setBlock hb _
theorem stored_size (w : World) (b off : Nat) (vs : List Value) : (stored w b off vs).heap.size = w.heap.size := by simp [stored, setBlock]
end Go.Proofs.YtdjooojpcepleaaGreat

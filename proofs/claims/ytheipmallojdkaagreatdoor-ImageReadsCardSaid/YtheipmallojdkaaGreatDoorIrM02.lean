/- Frames: what a call wrote, by the blocks that a thing owns. Maps whose keys are texts; more on association lists. Whole structs in blocks that are known: a store and a load of many cells in one step. Of whatever program. Whole structs in one step, as rules of the walk: a store or a load of many cells in a block that is known. Of whatever program. -/
import Derived.Test.YtheipmallojdkaaGreatDoorIrM01
import Derived.StringKeys
import Derived.Deep.MidRow
import Derived.Laws.ResultCell

namespace Go.Proofs.YtheipmallojdkaaGreatDoor
open Go.RowKit Go.ChangeMaps

theorem keeps_newB {S : Nat → Prop} {w a b : World} (h : Keeps S w a) (hb : Below w.heap.size a b) : Keeps S w b :=
  ⟨hb.os.trans h.os, hb.tape.trans h.tape, hb.output.trans h.output, Nat.le_trans h.size hb.size, fun k hk hn => (hb.block k hk).trans (h.block k hk hn)⟩

theorem keeps_after {S T : Nat → Prop} {W w w1 : World} (h : Keeps S W w) (h1 : Keeps T w w1) (hT : ∀ k, T k → W.heap.size ≤ k) : Keeps S W w1 :=
  ⟨h1.os.trans h.os, h1.tape.trans h.tape, h1.output.trans h.output, Nat.le_trans h.size h1.size, fun k hk hn => (h1.block k (Nat.lt_of_lt_of_le hk h.size) (fun t => by have := hT k t; omega)).trans (h.block k hk hn)⟩

theorem keeps_drewN {S : Nat → Prop} {w w' : World} (h : Keeps S w w') (n : Nat) : Keeps S w (w'.drewN n) := ⟨h.os, h.tape, h.output, h.size, h.block⟩

/-- The blocks of S, and those that are new in w'. -/
def gr (S : Nat → Prop) (w w' : World) (k : Nat) : Prop := S k ∨ (w.heap.size ≤ k ∧ k < w'.heap.size)

theorem gr_self (S : Nat → Prop) (w : World) : ∀ k, gr S w w k ↔ S k := fun k => ⟨fun h => h.elim id fun h => by omega, .inl⟩
theorem gr_trans {S : Nat → Prop} {a b c : World} (h1 : a.heap.size ≤ b.heap.size) (h2 : b.heap.size ≤ c.heap.size) : ∀ k, gr (gr S a b) b c k ↔ gr S a c k := fun k => by
  unfold gr
  constructor
  · rintro ((h | h) | h)
    · exact .inl h
    · exact .inr ⟨h.1, by omega⟩
    · exact .inr ⟨by omega, h.2⟩
  · rintro (h | h)
    · exact .inl (.inl h)
    · rcases Nat.lt_or_ge k b.heap.size with h3 | h3
      · exact .inl (.inr ⟨h.1, h3⟩)
      · exact .inr ⟨h3, h.2⟩
/-- One call behind the other. -/
theorem Keeps.gr {S : Nat → Prop} {a b c : World} (h : Keeps S a b) (k : Keeps (gr S a b) b c) : Keeps S a c :=
  ⟨k.os.trans h.os, k.tape.trans h.tape, k.output.trans h.output, Nat.le_trans h.size k.size, fun i hi hn => (k.block i (Nat.lt_of_lt_of_le hi h.size) (by rintro (e | e); exact hn e; omega)).trans (h.block i hi hn)⟩

end Go.Proofs.YtheipmallojdkaaGreatDoor

namespace Go.Proofs.YtheipmallojdkaaGreatDoor
open Go.RowKit Go.Maps Go.ChangeMaps Go.WideMaps

/-- A text, as a cell holds it. -/
def keyS (s : ByteArray) : Value := .string s
theorem keyS_inj : ∀ a b : ByteArray, keyS a = keyS b → a = b := by intro a b h; simpa [keyS] using h
theorem skeyed : Keyed Tryz.prog 9 := string_keyed Tryz.underlying9
theorem skey {s : ByteArray} (h : s.size ≤ maxLen) : keyOf Tryz.prog 9 (keyS s) = some (.string s.data.toList) := keyOf_string_mk Tryz.underlying9 h

/-- A map of texts. -/
abbrev SMap {β : Type} (φ : β → Value) (w : World) (m : Nat) (l : List (ByteArray × β)) : Prop := MapOf Tryz.prog 9 keyS φ w m l

section
variable {α β : Type} [DecidableEq α]

theorem aget_isSome {a : α} {l : List (α × β)} : (aget a l).isSome = true ↔ a ∈ keys l := by
  cases h : aget a l with
  | none => simp; exact aget_none.1 h
  | some b => simp; exact List.mem_map.2 ⟨_, aget_some_mem h, rfl⟩
end

end Go.Proofs.YtheipmallojdkaaGreatDoor

namespace Go.Proofs.YtheipmallojdkaaGreatDoor
open Go.RowKit Go.ChangeMaps

/-- The cells of C, those from o on overwritten by vs. -/
def spl (C : Array Value) : Nat → List Value → Array Value
  | _, [] => C
  | o, v :: r => spl (C.setIfInBounds o v) (o + 1) r

theorem setCell_block {w : World} {b : Nat} {C : Array Value} {T : TypeId} (hb : w.heap[b]? = some (.cells C T (0, 0))) (i : Nat) (v : Value) : w.setCell ⟨b, i, none⟩ v = setBlock w b (.cells (C.setIfInBounds i v) T (0, 0)) := by
  have hlt := heap_lt hb
  unfold World.setCell setBlock
  congr 1
  apply Array.ext
  · simp
  · intro j h1 h2
    simp only [Array.size_modify] at h1
    rw [Array.getElem_modify, Array.getElem_setIfInBounds h1]
    split
    · rename_i e
      subst e
      have : w.heap[b] = .cells C T (0, 0) := by rw [Array.getElem?_eq_getElem h1] at hb; exact Option.some.inj hb
      rw [this]
      simp
    · rfl

theorem setBlock_setBlock (w : World) (b : Nat) (o o' : Obj) : setBlock (setBlock w b o) b o' = setBlock w b o' := by
  unfold setBlock
  congr 1
  apply Array.ext
  · simp
  · intro j h1 h2
    simp only [Array.size_setIfInBounds] at h1
    rw [Array.getElem_setIfInBounds (by simpa using h1), Array.getElem_setIfInBounds h1]
    rw [Array.getElem_setIfInBounds h1]
    split <;> rfl

theorem setBlock_at {w : World} {b : Nat} (h : b < w.heap.size) (o : Obj) : (setBlock w b o).heap[b]? = some o := by
  simp [setBlock, h]

theorem setCells_block {b : Nat} {T : TypeId} : ∀ (vs : List Value) (o : Nat) (C : Array Value) (w : World), w.heap[b]? = some (.cells C T (0, 0)) → vs ≠ [] → w.setCells b o vs = setBlock w b (.cells (spl C o vs) T (0, 0))
  | [], _, _, _, _, h => absurd rfl h
  | [v], o, C, w, hb, _ => setCell_block hb o v
  | v :: u :: r, o, C, w, hb, _ => by
    rw [World.setCells, setCell_block hb, setCells_block (u :: r) (o + 1) (C.setIfInBounds o v) _ (setBlock_at (heap_lt hb) _) (by simp), setBlock_setBlock]
    rfl

theorem spl_size : ∀ (vs : List Value) (o : Nat) (C : Array Value), (spl C o vs).size = C.size
  | [], _, _ => rfl
  | v :: r, o, C => by rw [spl, spl_size r]; simp

theorem spl_get : ∀ (vs : List Value) (o : Nat) (C : Array Value) (i : Nat), o + vs.length ≤ C.size → (spl C o vs)[i]? = if o ≤ i ∧ i < o + vs.length then vs[i - o]? else C[i]?
  | [], o, C, i, _ => by
    rw [spl, if_neg (by simp)]
  | v :: r, o, C, i, h => by
    simp only [List.length_cons] at h
    rw [spl, spl_get r (o + 1) _ i (by simp; omega)]
    by_cases h1 : i = o
    · subst h1
      rw [if_neg (by omega), if_pos (by simp)]
      simp [Array.getElem?_setIfInBounds]
      omega
    · by_cases h2 : o ≤ i ∧ i < o + (r.length + 1)
      · rw [if_pos (by omega), if_pos (by simpa using h2)]
        obtain ⟨j, rfl⟩ : ∃ j, i = o + 1 + j := ⟨i - (o + 1), by omega⟩
        rw [show o + 1 + j - (o + 1) = j by omega, show o + 1 + j - o = j + 1 by omega]
        simp
      · rw [if_neg (by omega), if_neg (by simpa using h2)]
        rw [Array.getElem?_setIfInBounds_ne (by omega)]

theorem spl_full (C vs : Array Value) (h : vs.size = C.size) : spl C 0 vs.toList = vs := by
  apply Array.ext
  · rw [spl_size]; omega
  · intro i h1 h2
    have := spl_get vs.toList 0 C i (by simp; omega)
    rw [if_pos (by simp; omega)] at this
    simp only [Nat.sub_zero, Array.getElem?_toList] at this
    rw [Array.getElem?_eq_getElem h1, Array.getElem?_eq_getElem h2] at this
    exact Option.some.inj this

theorem blk_set {w : World} {b : Nat} {C : Array Value} {T : TypeId} (hb : w.heap[b]? = some (.cells C T (0, 0))) (i : Nat) (v : Value) : (w.setCell ⟨b, i, none⟩ v).heap[b]? = some (.cells (C.setIfInBounds i v) T (0, 0)) := by
  rw [setCell_block hb]
  exact setBlock_at (heap_lt hb) _
theorem blk_cell {w : World} {b : Nat} {C : Array Value} {T : TypeId} {fr : Nat × Nat} (hb : w.heap[b]? = some (.cells C T fr)) (i : Nat) {v : Value} (hv : C[i]? = some v) : w.cell? ⟨b, i, none⟩ = some v := by
  simp [World.cell?, hb, hv]
theorem blk_free {w : World} {b : Nat} {C : Array Value} {T : TypeId} (hb : w.heap[b]? = some (.cells C T (0, 0))) (i : Nat) : w.frozen? ⟨b, i, none⟩ = false := by
  simp [World.frozen?, hb]
theorem blk_set_other {w : World} {b : Nat} {o : Obj} (hb : w.heap[b]? = some o) {a : Addr} (h : b ≠ a.block) (v : Value) : (w.setCell a v).heap[b]? = some o := (Below.heap_setCell _ _ _ _ h).trans hb
theorem blk_setBlock_other {w : World} {b c : Nat} {o : Obj} (hb : w.heap[b]? = some o) (h : b ≠ c) (o' : Obj) : (setBlock w c o').heap[b]? = some o := by
  rw [← hb]
  simp [setBlock, h.symm]

theorem there_block {w : World} {b : Nat} {C : Array Value} {T : TypeId} (hb : w.heap[b]? = some (.cells C T (0, 0))) (o n : Nat) (h : o + n ≤ C.size) : w.there b o n := by
  intro j hj
  constructor
  · have : o + j < C.size := by omega
    simp [World.cell?, hb, this]
  · simp [World.frozen?, hb]

theorem setBlock_alloc (W : World) (o o' : Obj) : setBlock (W.alloc o) W.heap.size o' = W.alloc o' := by
  show ({ (W.alloc o) with heap := (W.heap.push o).setIfInBounds W.heap.size o' } : World) = _
  have : (W.heap.push o).setIfInBounds W.heap.size o' = W.heap.push o' := by
    apply Array.ext
    · simp
    · intro j h1 h2
      simp only [Array.size_push] at h2
      rw [Array.getElem_setIfInBounds (by simpa using h2), Array.getElem_push, Array.getElem_push]
      by_cases h : j < W.heap.size
      · rw [if_neg (by omega), dif_pos h, dif_pos h]
      · rw [if_pos (by omega), dif_neg h]
  rw [this]
  rfl

theorem setBlock_under (W : World) (o p : Obj) (b : Nat) (hb : b < W.heap.size) : setBlock (W.alloc o) b p = (setBlock W b p).alloc o := by
  show ({ (W.alloc o) with heap := (W.heap.push o).setIfInBounds b p } : World) = { (setBlock W b p) with heap := (W.heap.setIfInBounds b p).push o }
  have : (W.heap.push o).setIfInBounds b p = (W.heap.setIfInBounds b p).push o := by
    apply Array.ext
    · simp
    · intro j h1 h2
      simp only [Array.size_push, Array.size_setIfInBounds] at h2
      rw [Array.getElem_setIfInBounds (by simpa using h2), Array.getElem_push, Array.getElem_push]
      by_cases h : j < W.heap.size
      · rw [dif_pos h, dif_pos (by simpa using h), Array.getElem_setIfInBounds h]
      · rw [dif_neg h, dif_neg (by simpa using h), if_neg (by omega)]
  rw [this]
  rfl

theorem take_all (C : Array Value) : (C.toList.drop 0).take C.size = C.toList := by
  rw [List.drop_zero]
  exact List.take_of_length_le (by simp)

/-- Each is one cell. -/
def OneCells : List Value → Prop
  | [] => True
  | v :: r => v.oneCell' = true ∧ OneCells r

theorem OneCells.all : ∀ {l : List Value}, OneCells l → ∀ v ∈ l, v.oneCell' = true
  | v :: r, h, x, hx => by
    rcases List.mem_cons.1 hx with rfl | hx
    · exact h.1
    · exact OneCells.all h.2 x hx
theorem OneCells.arr {vs : Array Value} (h : OneCells vs.toList) : vs.all (·.oneCell') = true := by
  rw [Array.all_eq_true_iff_forall_mem]
  intro v hv
  exact h.all v (by simpa using hv)

theorem run_load_blk {P : Program} (w : World) (ty : TypeId) (b off : Nat) (C : Array Value) (T : TypeId) (fr : Nat × Nat) (hb : w.heap[b]? = some (.cells C T fr)) (vs : Array Value) (hv : (C.toList.drop off).take vs.size = vs.toList) (d : TypeDesc)
    (hu : P.underlying ty = some d) (hd : d.isRow = true) (hi : (P.info? ty).map (·.size) = some vs.size) : (loadVar ty ⟨b, off, none⟩).run P w = .ok (.agg vs) w := by
  have hc := World.rangeAt_of_block hb off vs.size
  rw [show (C.extract off (off + vs.size)).toList = vs.toList by rw [Array.toList_extract, List.extract_eq_take_drop, ← hv, Nat.add_sub_cancel_left]] at hc
  have := run_loadVar_mid w b off ty vs.toList d hc hu hd (by simpa using hi)
  simpa using this

/-- A struct stored into a block that is known, at one operation: for regions that draw their order. -/
theorem wp_store_at {P : Program} {w : World} {op : Oper} {a : Act} {K : Act → World → Prop} {Q : Exit → Act → World → Prop} (ty : TypeId) (x y : Operand) (hop : op.op = .store ty x y) (b off : Nat) (hx : a.eval x = .pointer (some ⟨b, off, none⟩)) (vs : Array Value) (hy : a.eval y = .agg vs)
    (C C' : Array Value) (T : TypeId) (hb : w.heap[b]? = some (.cells C T (0, 0))) (hn : 0 < vs.size) (hs : off + vs.size ≤ C.size) (hC : spl C off vs.toList = C') (hi : (P.info? ty).map (·.size) = some vs.size) (h1 : OneCells vs.toList)
    (h : K (a.put op.dst undef) (setBlock w b (.cells C' T (0, 0)))) : op.wp P a w K Q := by
  refine wp_store_mid ty x y hop b off vs hx hy (there_block hb off _ hs) hi h1.arr ?_
  rw [setCells_block vs.toList off C w hb (by intro e; have := congrArg List.length e; simp at this; simp [this] at hn), hC]
  exact h

/-- A call's one result, a struct in a block that is known. -/
theorem results_blk {P : Program} {fn : Func} {p : Tmp} {ty : TypeId} (h : fn.results = #[.cell p ty]) (tmps : Array Value) (w : World) (b : Nat) (C : Array Value) (T : TypeId) (fr : Nat × Nat) (hp : tmps.getD p undef = .pointer (some ⟨b, 0, none⟩)) (hb : w.heap[b]? = some (.cells C T fr))
    (d : TypeDesc) (hu : P.underlying ty = some d) (hd : d.isRow = true) (hi : (P.info? ty).map (·.size) = some C.size) : (results fn tmps).run P w = .ok (.agg C) w := by
  have hl := run_load_blk w ty b 0 C T fr hb C (take_all C) d hu hd hi
  have ha : (asAddr (tmps.getD p undef)).run P w = .ok ⟨b, 0, none⟩ w := by rw [hp]; rfl
  have ha' : (asAddr (tmps[p]?.getD undef)).run P w = .ok ⟨b, 0, none⟩ w := by rw [← Array.getD_eq_getD_getElem?]; exact ha
  simp only [results, h]
  simp [Sem.run_bind]
  rw [ha', Result.andThen_ok, hl]

/-- Two results, the first a struct in a block that is known. -/
theorem results_blk2 {P : Program} {fn : Func} {p u : Tmp} {ty : TypeId} (h : fn.results = #[.cell p ty, .tmp u]) (tmps : Array Value) (w : World) (b : Nat) (C : Array Value) (T : TypeId) (fr : Nat × Nat) (hp : tmps.getD p undef = .pointer (some ⟨b, 0, none⟩)) (hb : w.heap[b]? = some (.cells C T fr))
    (d : TypeDesc) (hu : P.underlying ty = some d) (hd : d.isRow = true) (hi : (P.info? ty).map (·.size) = some C.size) : (results fn tmps).run P w = .ok (.tuple #[.agg C, tmps.getD u undef]) w := by
  have hl := run_load_blk w ty b 0 C T fr hb C (take_all C) d hu hd hi
  have ha : (asAddr (tmps.getD p undef)).run P w = .ok ⟨b, 0, none⟩ w := by rw [hp]; rfl
  rw [results_cell_tmp h]
  simp only [ha, Result.andThen_ok, hl]

section
variable {P : Program} (w : World) {ops : Array Oper} {rest : List Oper} {o : Oper} {a : Act} {Q : Exit → Act → World → Prop}

/-- A struct stored into a block that is known whole. -/
theorem wpList_store_blk (hg : o.guard = none) (ty : TypeId) (x y : Operand) (hop : o.op = .store ty x y) (b off : Nat) (hx : a.eval x = .pointer (some ⟨b, off, none⟩)) (vs : Array Value) (hy : a.eval y = .agg vs)
    (C : Array Value) (T : TypeId) (hb : w.heap[b]? = some (.cells C T (0, 0))) (hn : 0 < vs.size) (hs : off + vs.size ≤ C.size) (hi : (P.info? ty).map (·.size) = some vs.size) (h1 : OneCells vs.toList)
    (h : wpList P ops Q rest (a.put o.dst undef) (setBlock w b (.cells (spl C off vs.toList) T (0, 0)))) : wpList P ops Q (o :: rest) a w := by
  refine wpList_store_mid hg ty x y hop b off vs hx hy (there_block hb off _ hs) hi h1.arr ?_
  rw [setCells_block vs.toList off C w hb (by intro e; have := congrArg List.length e; simp at this; simp [this] at hn)]
  exact h

/-- A struct stored into the last block. -/
theorem wpList_store_fresh (hg : o.guard = none) (ty : TypeId) (x y : Operand) (hop : o.op = .store ty x y) (b : Nat) (hx : a.eval x = .pointer (some ⟨b, 0, none⟩)) (vs : Array Value) (hy : a.eval y = .agg vs)
    (W : World) (C : Array Value) (T : TypeId) (hw : w = W.alloc (.cells C T)) (hb : b = W.heap.size) (hn : 0 < vs.size) (hs : vs.size = C.size) (hi : (P.info? ty).map (·.size) = some vs.size) (h1 : OneCells vs.toList)
    (h : wpList P ops Q rest (a.put o.dst undef) (W.alloc (.cells vs T))) : wpList P ops Q (o :: rest) a w := by
  subst hw hb
  refine wpList_store_blk _ hg ty x y hop _ 0 hx vs hy C T (heap_new _ _) hn (by omega) hi h1 ?_
  rw [spl_full C vs hs, setBlock_alloc]
  exact h

/-- A struct stored into the block before the last one. -/
theorem wpList_store_fresh2 (hg : o.guard = none) (ty : TypeId) (x y : Operand) (hop : o.op = .store ty x y) (b : Nat) (hx : a.eval x = .pointer (some ⟨b, 0, none⟩)) (vs : Array Value) (hy : a.eval y = .agg vs)
    (W : World) (C : Array Value) (T : TypeId) (ob : Obj) (hw : w = (W.alloc (.cells C T)).alloc ob) (hb : b = W.heap.size) (hn : 0 < vs.size) (hs : vs.size = C.size) (hi : (P.info? ty).map (·.size) = some vs.size) (h1 : OneCells vs.toList)
    (h : wpList P ops Q rest (a.put o.dst undef) ((W.alloc (.cells vs T)).alloc ob)) : wpList P ops Q (o :: rest) a w := by
  subst hw hb
  refine wpList_store_blk _ hg ty x y hop _ 0 hx vs hy C T (aheap (heap_new _ _) _) hn (by omega) hi h1 ?_
  rw [spl_full C vs hs, setBlock_under _ ob _ _ (by simp), setBlock_alloc]
  exact h

/-- A struct read out of a block that is known whole. -/
theorem wpList_load_blk (hg : o.guard = none) (ty : TypeId) (x : Operand) (hop : o.op = .load ty x) (b off : Nat) (hx : a.eval x = .pointer (some ⟨b, off, none⟩)) (C : Array Value) (T : TypeId) (fr : Nat × Nat)
    (hb : w.heap[b]? = some (.cells C T fr)) (vs : Array Value) (hv : (C.toList.drop off).take vs.size = vs.toList) (d : TypeDesc) (hu : P.underlying ty = some d) (hd : d.isRow = true) (hi : (P.info? ty).map (·.size) = some vs.size)
    (h : wpList P ops Q rest (a.put o.dst (.agg vs)) w) : wpList P ops Q (o :: rest) a w := by
  have hc := World.rangeAt_of_block hb off vs.size
  rw [show (C.extract off (off + vs.size)).toList = vs.toList by rw [Array.toList_extract, List.extract_eq_take_drop, ← hv, Nat.add_sub_cancel_left]] at hc
  refine wpList_load_mid hg ty x hop b off hx vs.toList d hc hu hd (by simpa using hi) ?_
  simpa using h

/-- A struct read, whole, out of a block that is known. -/
theorem wpList_load_all (hg : o.guard = none) (ty : TypeId) (x : Operand) (hop : o.op = .load ty x) (b : Nat) (hx : a.eval x = .pointer (some ⟨b, 0, none⟩)) (C C' : Array Value) (T : TypeId) (fr : Nat × Nat)
    (hb : w.heap[b]? = some (.cells C T fr)) (hC : C = C') (d : TypeDesc) (hu : P.underlying ty = some d) (hd : d.isRow = true) (hi : (P.info? ty).map (·.size) = some C'.size)
    (h : wpList P ops Q rest (a.put o.dst (.agg C')) w) : wpList P ops Q (o :: rest) a w := by
  subst hC
  exact wpList_load_blk w hg ty x hop b 0 hx C T fr hb C (take_all C) d hu hd hi h

/-- A struct stored into a block that is known: what lies there then, and that all else is as it was. -/
theorem wpList_store_at (hg : o.guard = none) (ty : TypeId) (x y : Operand) (hop : o.op = .store ty x y) (b off : Nat) (hx : a.eval x = .pointer (some ⟨b, off, none⟩)) (vs : Array Value) (hy : a.eval y = .agg vs)
    (C C' : Array Value) (T : TypeId) (hb : w.heap[b]? = some (.cells C T (0, 0))) (hn : 0 < vs.size) (hs : off + vs.size ≤ C.size) (hC : spl C off vs.toList = C') (hi : (P.info? ty).map (·.size) = some vs.size) (h1 : OneCells vs.toList)
    (h : ∀ W, W.heap[b]? = some (.cells C' T (0, 0)) → Keeps (fun k => k = b) w W → W.heap.size = w.heap.size → wpList P ops Q rest (a.put o.dst undef) W) : wpList P ops Q (o :: rest) a w := by
  refine wpList_store_blk _ hg ty x y hop _ off hx vs hy C T hb hn hs hi h1 ?_
  subst hC
  exact h _ (setBlock_at (heap_lt hb) _) (Keeps.setBlock (Keeps.refl (fun k => k = b) w) (.inl rfl) _) (by simp [setBlock])

theorem wpList_store_all (hg : o.guard = none) (ty : TypeId) (x y : Operand) (hop : o.op = .store ty x y) (b : Nat) (hx : a.eval x = .pointer (some ⟨b, 0, none⟩)) (vs : Array Value) (hy : a.eval y = .agg vs)
    (C : Array Value) (T : TypeId) (hb : w.heap[b]? = some (.cells C T (0, 0))) (hn : 0 < vs.size) (hs : vs.size = C.size) (hi : (P.info? ty).map (·.size) = some vs.size) (h1 : OneCells vs.toList)
    (h : ∀ W, W.heap[b]? = some (.cells vs T (0, 0)) → Keeps (fun k => k = b) w W → W.heap.size = w.heap.size → wpList P ops Q rest (a.put o.dst undef) W) : wpList P ops Q (o :: rest) a w :=
  wpList_store_at _ hg ty x y hop _ 0 hx vs hy C vs T hb hn (by omega) (spl_full C vs hs) hi h1 h

/-- A struct read out of the last block. -/
theorem wpList_load_fresh (hg : o.guard = none) (ty : TypeId) (x : Operand) (hop : o.op = .load ty x) (b : Nat) (hx : a.eval x = .pointer (some ⟨b, 0, none⟩)) (W : World) (C : Array Value) (T : TypeId) (hw : w = W.alloc (.cells C T)) (d : TypeDesc)
    (hu : P.underlying ty = some d) (hd : d.isRow = true) (hb : b = W.heap.size) (hi : (P.info? ty).map (·.size) = some C.size)
    (h : wpList P ops Q rest (a.put o.dst (.agg C)) w) : wpList P ops Q (o :: rest) a w := by
  subst hw hb
  exact wpList_load_blk _ hg ty x hop _ 0 hx C T _ (heap_new _ _) C (take_all C) d hu hd hi h

/-- .. out of the block before the last one. -/
theorem wpList_load_fresh2 (hg : o.guard = none) (ty : TypeId) (x : Operand) (hop : o.op = .load ty x) (b : Nat) (hx : a.eval x = .pointer (some ⟨b, 0, none⟩)) (W : World) (C : Array Value) (T : TypeId) (ob : Obj) (hw : w = (W.alloc (.cells C T)).alloc ob) (d : TypeDesc)
    (hu : P.underlying ty = some d) (hd : d.isRow = true) (hb : b = W.heap.size) (hi : (P.info? ty).map (·.size) = some C.size)
    (h : wpList P ops Q rest (a.put o.dst (.agg C)) w) : wpList P ops Q (o :: rest) a w := by
  subst hw hb
  exact wpList_load_blk _ hg ty x hop _ 0 hx C T _ (aheap (heap_new _ _) _) C (take_all C) d hu hd hi h
end

end Go.Proofs.YtheipmallojdkaaGreatDoor

namespace Go.Proofs.YtheipmallojdkaaGreatDoor
open Go.RowKit Go.ChangeMaps

def ptrB : Value → Nat | .pointer (some a) => a.block | _ => 0
def ptrO : Value → Nat | .pointer (some a) => a.off | _ => 0
def ptrOk : Value → Bool | .pointer (some ⟨_, _, none⟩) => true | _ => false
def aggL : Value → List Value | .agg c => c.toList | _ => []
def aggOk : Value → Bool | .agg _ => true | _ => false

@[simp] theorem ptrB_mk (b o : Nat) : ptrB (.pointer (some ⟨b, o, none⟩)) = b := rfl
@[simp] theorem ptrO_mk (b o : Nat) : ptrO (.pointer (some ⟨b, o, none⟩)) = o := rfl
@[simp] theorem ptrOk_mk (b o : Nat) : ptrOk (.pointer (some ⟨b, o, none⟩)) = true := rfl
@[simp] theorem aggL_mk (l : List Value) : aggL (.agg l.toArray) = l := by simp [aggL]
@[simp] theorem aggOk_mk (c : Array Value) : aggOk (.agg c) = true := rfl

/-- The cells of a block. -/
def blkC (w : World) (b : Nat) : Array Value := match w.heap[b]? with | some (.cells C _ _) => C | _ => #[]
def blkT (w : World) (b : Nat) : TypeId := match w.heap[b]? with | some (.cells _ T _) => T | _ => 0
/-- A block of exactly n cells, none of them shared by a string. -/
def Fits (w : World) (b n : Nat) : Prop := ∃ C T, w.heap[b]? = some (.cells C T (0, 0)) ∧ C.size = n

theorem blkC_of {w : World} {b : Nat} {C : Array Value} {T : TypeId} {fr : Nat × Nat} (h : w.heap[b]? = some (.cells C T fr)) : blkC w b = C := by simp [blkC, h]
theorem blkT_of {w : World} {b : Nat} {C : Array Value} {T : TypeId} {fr : Nat × Nat} (h : w.heap[b]? = some (.cells C T fr)) : blkT w b = T := by simp [blkT, h]
theorem Fits.of {w : World} {b n : Nat} {C : Array Value} {T : TypeId} (h : w.heap[b]? = some (.cells C T (0, 0))) (hn : C.size = n) : Fits w b n := ⟨C, T, h, hn⟩
theorem Fits.eq {w : World} {b n : Nat} (h : Fits w b n) : w.heap[b]? = some (.cells (blkC w b) (blkT w b) (0, 0)) ∧ (blkC w b).size = n := by
  obtain ⟨C, T, hb, hn⟩ := h
  rw [blkC_of hb, blkT_of hb]
  exact ⟨hb, hn⟩

theorem Fits.alloc_new {W : World} {C : Array Value} {T : TypeId} {b n : Nat} (hb : b = W.heap.size) (hn : C.size = n) : Fits (W.alloc (.cells C T)) b n := by
  subst hb; exact ⟨C, T, heap_new _ _, hn⟩
theorem Fits.alloc_old {W : World} {o : Obj} {b n : Nat} (h : Fits W b n) : Fits (W.alloc o) b n := by
  obtain ⟨C, T, hb, hn⟩ := h; exact ⟨C, T, aheap hb _, hn⟩
theorem blkC_alloc_new {W : World} {C : Array Value} {T : TypeId} {b : Nat} (hb : b = W.heap.size) : blkC (W.alloc (.cells C T)) b = C := by
  subst hb; exact blkC_of (heap_new _ _)
theorem blkT_alloc_new {W : World} {C : Array Value} {T : TypeId} {b : Nat} (hb : b = W.heap.size) : blkT (W.alloc (.cells C T)) b = T := by
  subst hb; exact blkT_of (heap_new _ _)
theorem blkC_alloc_old {W : World} {o : Obj} {b : Nat} (hb : b < W.heap.size) : blkC (W.alloc o) b = blkC W b := by
  unfold blkC; rw [Below.heap_alloc _ _ _ hb]
theorem blkT_alloc_old {W : World} {o : Obj} {b : Nat} (hb : b < W.heap.size) : blkT (W.alloc o) b = blkT W b := by
  unfold blkT; rw [Below.heap_alloc _ _ _ hb]

/-- One behind the other, where the second one writes what the first one may, or what is new. -/
theorem Keeps.andThen {S T : Nat → Prop} {a b c : World} (h : Keeps S a b) (k : Keeps T b c) (hT : ∀ i, T i → a.heap.size ≤ i ∨ S i) : Keeps S a c :=
  ⟨k.os.trans h.os, k.tape.trans h.tape, k.output.trans h.output, Nat.le_trans h.size k.size, fun i hi hn => by
    have hs := h.size
    refine (k.block i (by omega) (fun ht => ?_)).trans (h.block i hi hn)
    rcases hT i ht with h1 | h1
    · omega
    · exact hn h1⟩

/-- What a store of n cells leaves. -/
def stored (w : World) (b off : Nat) (vs : List Value) : World := setBlock w b (.cells (spl (blkC w b) off vs) (blkT w b) (0, 0))

theorem store_rule {P : Program} {T n : Nat} (m : Nat) (hn : 0 < n) (hi : (P.info? T).map (·.size) = some n) {d : Option Tmp} {x y : Operand} {ty : TypeId} {pos : String} {af : Array Edge} {g : Option (Nat × Bool)} {a : Act} {w : World} {K : Act → World → Prop} {Q : Exit → Act → World → Prop}
    (h1 : ptrOk (a.eval x) = true) (h2 : aggOk (a.eval y) = true) (h3 : (aggL (a.eval y)).length = n) (h4 : Fits w (ptrB (a.eval x)) m) (h5 : ptrO (a.eval x) + n ≤ m) (h6 : OneCells (aggL (a.eval y))) :
    Oper.wp P { dst := d, op := .store T x y, type := ty, pos := pos, after := af, guard := g } a w K Q = K (a.put d undef) (stored w (ptrB (a.eval x)) (ptrO (a.eval x)) (aggL (a.eval y))) := by
  obtain ⟨hb, hz⟩ := h4.eq
  cases hx : a.eval x <;> rw [hx] at h1 <;> try (simp [ptrOk] at h1; done)
  rename_i ad
  cases ad with
  | none => simp [ptrOk] at h1
  | some ad =>
    obtain ⟨b, off, spot⟩ := ad
    cases spot with
    | some s => simp [ptrOk] at h1
    | none =>
      cases hy : a.eval y <;> rw [hy] at h2 <;> try (simp [aggOk] at h2; done)
      rename_i vs
      rw [hx] at hb hz h5
      rw [hy] at h3 h6
      simp only [ptrB, ptrO, aggL] at *
      have hlen : vs.size = n := by simpa using h3
      have hrun := run_storeAt_mid (P := P) w b off T vs (there_block hb off _ (by omega)) (by rw [hi, hlen]) h6.arr
      rw [setCells_block vs.toList off _ w hb (by intro e; have := congrArg List.length e; simp at this; simp [this] at hlen; omega)] at hrun
      unfold Oper.wp execOp
      simp only [hx, hy, Sem.run_bind, hrun, Result.andThen_ok]
      rfl

theorem load_rule {P : Program} {T n : Nat} (m : Nat) {d0 : TypeDesc} (hu : P.underlying T = some d0) (hd : d0.isRow = true) (hi : (P.info? T).map (·.size) = some n) {d : Option Tmp} {x : Operand} {ty : TypeId} {pos : String} {af : Array Edge} {g : Option (Nat × Bool)} {a : Act} {w : World} {K : Act → World → Prop} {Q : Exit → Act → World → Prop}
    (h1 : ptrOk (a.eval x) = true) (h4 : Fits w (ptrB (a.eval x)) m) (h5 : ptrO (a.eval x) + n ≤ m) :
    Oper.wp P { dst := d, op := .load T x, type := ty, pos := pos, after := af, guard := g } a w K Q = K (a.put d (.agg (((blkC w (ptrB (a.eval x))).toList.drop (ptrO (a.eval x))).take n).toArray)) w := by
  obtain ⟨hb, hz⟩ := h4.eq
  cases hx : a.eval x <;> rw [hx] at h1 <;> try (simp [ptrOk] at h1; done)
  rename_i ad
  cases ad with
  | none => simp [ptrOk] at h1
  | some ad =>
    obtain ⟨b, off, spot⟩ := ad
    cases spot with
    | some s => simp [ptrOk] at h1
    | none =>
      rw [hx] at hb hz h5
      simp only [ptrB, ptrO] at *
      have hc := World.rangeAt_of_block hb off n
      rw [show ((blkC w b).extract off (off + n)).toList = ((blkC w b).toList.drop off).take n by rw [Array.toList_extract, List.extract_eq_take_drop, Nat.add_sub_cancel_left]] at hc
      have hrun := run_loadAt_mid (P := P) w b off T _ d0 hc hu hd (by rw [hi]; simp; omega)
      unfold Oper.wp execOp
      simp only [hx, Sem.run_bind, hrun, Result.andThen_ok]
      rfl

theorem stored_alloc_new {W : World} {C : Array Value} {T : TypeId} {b : Nat} {vs : List Value} (hb : b = W.heap.size) (hn : vs.length = C.size) : stored (W.alloc (.cells C T)) b 0 vs = W.alloc (.cells vs.toArray T) := by
  unfold stored
  rw [blkC_alloc_new hb, blkT_alloc_new hb]
  subst hb
  have := spl_full C vs.toArray (by simpa using hn)
  rw [show vs.toArray.toList = vs by simp] at this
  rw [this, setBlock_alloc]

theorem stored_alloc_old {W : World} {o : Obj} {b off : Nat} {vs : List Value} (hb : b < W.heap.size) : stored (W.alloc o) b off vs = (stored W b off vs).alloc o := by
  unfold stored
  rw [blkC_alloc_old hb, blkT_alloc_old hb, setBlock_under _ _ _ _ hb]

theorem stored_at {w : World} {b : Nat} {C C' : Array Value} {T : TypeId} (hb : w.heap[b]? = some (.cells C T (0, 0))) {off : Nat} {vs : List Value} (hC : spl C off vs = C') : (stored w b off vs).heap[b]? = some (.cells C' T (0, 0)) := by
  unfold stored
  rw [blkC_of hb, blkT_of hb, hC]
  exact setBlock_at (heap_lt hb) _
theorem stored_keeps {S : Nat → Prop} {a w : World} {b : Nat} (h : Keeps S a w) (hb : S b ∨ a.heap.size ≤ b) (off : Nat) (vs : List Value) : Keeps S a (stored w b off vs) := h.setBlock hb _
theorem stored_size (w : World) (b off : Nat) (vs : List Value) : (stored w b off vs).heap.size = w.heap.size := by simp [stored, setBlock]

end Go.Proofs.YtheipmallojdkaaGreatDoor

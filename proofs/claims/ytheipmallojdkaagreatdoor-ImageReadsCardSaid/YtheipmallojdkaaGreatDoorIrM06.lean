/- append, and where the row that it answers lies: the row that was, or a new block. Of whatever program. Rows that grow: behind what leaves them alone; behind 'x = append(x, y)' of a variable in a cell. slices.Collect, slices.Sorted at texts, over an iterator that tells some texts, each once, in whatever order. -/
import Derived.Test.YtheipmallojdkaaGreatDoorIrM01
import Derived.OneCell
import Derived.Laws.AppendOwn
import Derived.Test.YtheipmallojdkaaGreatDoorIrM02
import Derived.RangeFuncBox
import Derived.Test.YtheipmallojdkaaGreatDoorIrM05
import Derived.Stop.RegionWithIn
import Derived.Maps.AppendAt

namespace Go.Proofs.YtheipmallojdkaaGreatDoor
open Go.RowKit

theorem run_append_more {P : Program} (w : World) (t ty e : TypeId) (i : TypeInfo) (z : Value) (size bytes : Nat) (ht : P.underlying t = some (.slice e)) (hi : P.info? e = some i) (hz : i.zero = some z)
    (hsize : i.size = size) (hby : i.bytes = bytes) (hzs : z.cells.size = size) (hsz : 0 < size)
    (v : Value) (n : Nat) (xs : List Value) (hown : w.ownsRow 0 e size v n xs)
    (a : Addr) (m c : Nat) (news : List Value) (hl : news.length = m * size) (hnews : ∀ j u, news[j]? = some u → w.cell? (a.add j) = some u) (h1 : ∀ u ∈ news, u.oneCell' = true)
    (h63 : n + m ≤ maxLen) (hbytes : (n + m) * bytes ≤ 140737488355328) :
    ∃ v' w', (Builtin.append_ #[t, t] ty #[v, .slice (some a) m c]).run P w = .ok v' w' ∧ w'.ownsRow 0 e size v' (n + m) (xs ++ news) ∧ w.grownBy w' v.ownBlock ∧
      (v'.ownBlock = v.ownBlock ∨ ∃ k, v'.ownBlock = some k ∧ w.heap.size ≤ k ∧ k < w'.heap.size) := by
  obtain ⟨v', w', hr, h2, h3, h4⟩ := run_append_own (P := P) w 0 t ty e i z size bytes ht hi hz hsize hby hzs hsz v n xs hown a m c news hl hnews h1 h63 hbytes (Nat.zero_le _)
  refine ⟨v', w', hr, h2, h3, ?_⟩
  rcases hown.2 with ⟨rfl, rfl⟩ | ⟨g, cap, cur, rfl, _, hg, hnc, hcm, hcs, htake⟩
  · have hx : xs = [] := List.eq_nil_of_length_eq_zero (by simpa using hown.1)
    subst hx
    obtain ⟨v'', w'', hr', h2', _⟩ := run_append_own (P := P) w w.heap.size t ty e i z size bytes ht hi hz hsize hby hzs hsz (.slice none 0 0) 0 [] (World.ownsRow_nil _ _ _ _) a m c news hl hnews h1 h63 hbytes (Nat.le_refl _)
    rw [hr] at hr'
    cases hr'
    rcases h2'.2 with ⟨rfl, _⟩ | ⟨k, cap, cur, rfl, hk, hgg, _⟩
    · exact .inl rfl
    · exact .inr ⟨k, rfl, hk, heap_lt hgg⟩
  · subst hsize
    by_cases hroom : n + m ≤ cap
    · have hfit : n * i.size + news.length ≤ cur.size := by rw [hl, hcs, ← Nat.add_mul]; exact Nat.mul_le_mul_right _ hroom
      have hr' := run_append_room (P := P) w t ty e i ht hi g n cap cur hg a m c news hl hnews h1 hroom hfit
      rw [hr] at hr'
      cases hr'
      exact .inl rfl
    · subst hby
      have holds : ∀ j u, xs[j]? = some u → w.cell? ((⟨g, 0, none⟩ : Addr).add j) = some u := hown.cells (g := g) rfl
      have hr' := run_append_grow (P := P) w t ty e i z ht hi hz ⟨g, 0, none⟩ n cap xs hown.1 holds a m c news hl hnews (by omega) (by unfold maxLen at h63; omega) (growslice_fits (by omega) hbytes)
      rw [hr] at hr'
      cases hr'
      exact .inr ⟨w.heap.size, rfl, Nat.le_refl _, by simp⟩

/-- append of no element: all stays. -/
theorem run_append_none {P : Program} (w : World) (t ty e : TypeId) (i : TypeInfo) (ht : P.underlying t = some (.slice e)) (hi : P.info? e = some i) (v : Value) (n : Nat) (xs : List Value) (size : Nat) (hown : w.ownsRow 0 e size v n xs) (c : Nat) (x : Option Addr) (hx : x = none ∨ ∃ b o, x = some ⟨b, o, none⟩) :
    (Builtin.append_ #[t, t] ty #[v, .slice x 0 c]).run P w = .ok v w := by
  rcases hown.2 with ⟨rfl, rfl⟩ | ⟨g, cap, cur, rfl, _, hg, hnc, hcm, hcs, htake⟩
  · rcases hx with rfl | ⟨b, o, rfl⟩ <;> simp [Builtin.append_, run_underlying ht, sizeOf, typeInfo, hi, Builtin.lenOf, Builtin.firstCells, loadCells, loadCellsFrom]
  · rcases hx with rfl | ⟨b, o, rfl⟩ <;> simp [Builtin.append_, run_underlying ht, sizeOf, typeInfo, hi, Builtin.lenOf, Builtin.firstCells, loadCells, loadCellsFrom, hnc, storeCells]

/-- append, at the operation. -/
theorem wpList_append_more {P : Program} (w : World) {ops : Array Oper} {rest : List Oper} {o : Oper} {a : Act} {Q : Exit → Act → World → Prop} (hgd : o.guard = none) (s x : Operand) (t : TypeId)
    (ho : o.op = .call { callee := .builtin .append, args := #[s, x], argTypes := #[t, t] })
    (e : TypeId) (i : TypeInfo) (z : Value) (size bytes : Nat) (ht : P.underlying t = some (.slice e)) (hi : P.info? e = some i) (hz : i.zero = some z)
    (hsize : i.size = size) (hby : i.bytes = bytes) (hzs : z.cells.size = size) (hsz : 0 < size)
    (v : Value) (n : Nat) (xs : List Value) (hs : a.eval s = v) (hown : w.ownsRow 0 e size v n xs)
    (ad : Addr) (m c : Nat) (news : List Value) (hx : a.eval x = .slice (some ad) m c) (hl : news.length = m * size) (hnews : ∀ j u, news[j]? = some u → w.cell? (ad.add j) = some u) (h1 : ∀ u ∈ news, u.oneCell' = true)
    (h63 : n + m ≤ maxLen) (hbytes : (n + m) * bytes ≤ 140737488355328)
    (h : ∀ v' w', w'.ownsRow 0 e size v' (n + m) (xs ++ news) → w.grownBy w' v.ownBlock → (v'.ownBlock = v.ownBlock ∨ ∃ k, v'.ownBlock = some k ∧ w.heap.size ≤ k ∧ k < w'.heap.size) → wpList P ops Q rest (a.put o.dst v') w') : wpList P ops Q (o :: rest) a w := by
  refine wpList_plain hgd fun K hK => ?_
  obtain ⟨v', w', hr, h2, h3, h4⟩ := run_append_more (P := P) w t o.type e i z size bytes ht hi hz hsize hby hzs hsz v n xs hown ad m c news hl hnews h1 h63 hbytes
  unfold Oper.wp execOp
  simp only [ho, resolve, invoke, builtin, Sem.run_bind, Sem.run_pure, Result.andThen_ok, List.map_toArray, List.map_cons, List.map_nil, hs, hx, hr]
  exact hK _ _ (h v' w' h2 h3 h4)

theorem cell_new (w : World) (x : Value) (T : TypeId) : (w.alloc (.cells #[x] T)).cell? ⟨w.heap.size, 0, none⟩ = some x :=
  cell_of_one (heap_new _ _)

/-- append of one value, one cell each, laid into the newest block by the call's own slice. -/
theorem wpList_append_one {P : Program} (W : World) {ops : Array Oper} {rest : List Oper} {o : Oper} {a : Act} {Q : Exit → Act → World → Prop} (hgd : o.guard = none) (s x : Operand) (t : TypeId)
    (ho : o.op = .call { callee := .builtin .append, args := #[s, x], argTypes := #[t, t] })
    (e : TypeId) (i : TypeInfo) (z : Value) (bytes : Nat) (ht : P.underlying t = some (.slice e)) (hi : P.info? e = some i) (hz : i.zero = some z)
    (hsize : i.size = 1) (hby : i.bytes = bytes) (hzs : z.cells.size = 1)
    (v : Value) (n : Nat) (xs : List Value) (hs : a.eval s = v) (hown : W.ownsRow 0 e 1 v n xs)
    (u : Value) (T : TypeId) (hx : a.eval x = .slice (some ⟨W.heap.size, 0, none⟩) 1 1) (h1 : u.oneCell' = true)
    (h63 : n + 1 ≤ maxLen) (hbytes : (n + 1) * bytes ≤ 140737488355328)
    (h : ∀ v' w', w'.ownsRow 0 e 1 v' (n + 1) (xs ++ [u]) → (W.alloc (.cells #[u] T)).grownBy w' v.ownBlock → (v'.ownBlock = v.ownBlock ∨ ∃ k, v'.ownBlock = some k ∧ (W.alloc (.cells #[u] T)).heap.size ≤ k ∧ k < w'.heap.size) → wpList P ops Q rest (a.put o.dst v') w') : wpList P ops Q (o :: rest) a (W.alloc (.cells #[u] T)) := by
  refine wpList_append_more _ hgd s x t ho e i z 1 bytes ht hi hz hsize hby hzs (by decide) v n xs hs (hown.alloc _) _ 1 1 [u] hx rfl ?_ (by simpa using h1) h63 hbytes h
  intro j u' hj
  cases j with
  | zero =>
    simp at hj
    subst hj
    exact cell_new _ _ _
  | succ j => simp at hj

/-- A row of cells that lie in memory, from an address on. -/
def RowIs (w : World) (b o : Nat) (xs : List Value) : Prop := ∀ j u, xs[j]? = some u → w.cell? ⟨b, o + j, none⟩ = some u

theorem addr_add (b o j : Nat) : (⟨b, o, none⟩ : Addr).add j = ⟨b, o + j, none⟩ := by unfold Addr.add; split <;> simp_all

theorem grown_keeps {S : Nat → Prop} {w w' : World} {r : Option Nat} (h : w.grownBy w' r) (hS : ∀ k, some k = r → S k) : Keeps S w w' :=
  ⟨h.os, h.tape, h.output, h.size, fun k hk hn => h.block k hk fun e => hn (hS k e)⟩

theorem owns_kept {S : Nat → Prop} {w w' : World} {e : TypeId} {size : Nat} {v : Value} {n : Nat} {xs : List Value} (h : w.ownsRow 0 e size v n xs) (hk : Keeps S w w') (hS : ∀ k, v.ownBlock = some k → ¬ S k) : w'.ownsRow 0 e size v n xs := by
  refine ⟨h.1, ?_⟩
  rcases h.2 with h | ⟨g, cap, cur, rfl, hb, hg, rest⟩
  · exact .inl h
  · exact .inr ⟨g, cap, cur, rfl, hb, hk.heap (hS g rfl) hg, rest⟩

/-! ### a slice whose elements are one cell each, read -/
section
variable {α : Type} {enc : α → Value}

/-- The slice v reads as l. -/
def Sl (enc : α → Value) (w : World) (v : Value) (l : List α) : Prop :=
  ∃ a cap, v = .slice a l.length cap ∧ l.length ≤ cap ∧ cap ≤ maxLen ∧ ((a = none ∧ cap = 0) ∨ ∃ b o, a = some ⟨b, o, none⟩ ∧ b < w.heap.size ∧ ∀ i c, l[i]? = some c → w.cell? ⟨b, o + i, none⟩ = some (enc c))

theorem Sl.nil (enc : α → Value) (w : World) : Sl enc w (.slice none 0 0) [] := ⟨none, 0, rfl, by simp, Nat.zero_le _, .inl ⟨rfl, rfl⟩⟩

theorem Sl.row_lt {w : World} {v : Value} {l : List α} (h : Sl enc w v l) : ∀ k, v.ownBlock = some k → k < w.heap.size := by
  obtain ⟨a, cap, rfl, _, _, h | ⟨b, o, rfl, hb, _⟩⟩ := h
  · intro k hk; simp [h.1, Value.ownBlock] at hk
  · intro k hk; simp [Value.ownBlock] at hk; omega

theorem Sl.kept {S : Nat → Prop} {w w' : World} {v : Value} {l : List α} (h : Sl enc w v l) (hk : Keeps S w w') (hS : ∀ k, v.ownBlock = some k → ¬ S k) : Sl enc w' v l := by
  obtain ⟨a, cap, rfl, h1, h2, h | ⟨b, o, rfl, hb, hc⟩⟩ := h
  · exact ⟨a, cap, rfl, h1, h2, .inl h⟩
  · refine ⟨_, cap, rfl, h1, h2, .inr ⟨b, o, rfl, Nat.lt_of_lt_of_le hb hk.size, fun i c hi => ?_⟩⟩
    rw [World.cell?_of_block (hk.block b hb (hS b rfl))]
    exact hc i c hi

theorem Sl.below {B : Nat} {w w' : World} {v : Value} {l : List α} (h : Sl enc w v l) (hk : Below B w w') (hS : ∀ k, v.ownBlock = some k → k < B) : Sl enc w' v l :=
  h.kept (Keeps.of_below hk) fun k hk => by have := hS k hk; simp; omega

theorem Sl.alloc {w : World} {v : Value} {l : List α} (h : Sl enc w v l) (o : Obj) : Sl enc (w.alloc o) v l :=
  h.kept ((Keeps.refl (fun _ => False) w).alloc o) (fun _ _ h => h)

theorem Sl.drew {w : World} {v : Value} {l : List α} (h : Sl enc w v l) : Sl enc w.drew v l := h

theorem Sl.setCell {w : World} {v : Value} {l : List α} (h : Sl enc w v l) {p : Addr} (hp : v.ownBlock ≠ some p.block) (u : Value) : Sl enc (w.setCell p u) v l :=
  h.kept ((Keeps.refl (fun k => k = p.block) w).setCell (.inl rfl) u) (fun k hk e => hp (by rw [hk, e]))

theorem owns_sl {w : World} {e : TypeId} {v : Value} {l : List α} (h : w.ownsRow 0 e 1 v l.length (l.map enc)) : Sl enc w v l := by
  rcases h.2 with ⟨rfl, h0⟩ | ⟨g, cap, cur, rfl, _, hg, hn, hm, hc, ht⟩
  · exact ⟨none, 0, by rw [h0], by omega, Nat.zero_le _, .inl ⟨rfl, rfl⟩⟩
  · refine ⟨_, cap, rfl, hn, hm, .inr ⟨g, 0, rfl, heap_lt hg, fun i c hi => ?_⟩⟩
    rw [Nat.zero_add, cell_of_row w g i cur e (0, 0) hg]
    have : (l.map enc)[i]? = some (enc c) := by rw [List.getElem?_map, hi]; rfl
    rw [← ht, List.getElem?_take] at this
    split at this
    · simpa using this
    · cases this

/-- append of a slice that is read. -/
theorem wpList_append_sl {P : Program} (w : World) {ops : Array Oper} {rest : List Oper} {o : Oper} {a : Act} {Q : Exit → Act → World → Prop} (hgd : o.guard = none) (s x : Operand) (t : TypeId)
    (ho : o.op = .call { callee := .builtin .append, args := #[s, x], argTypes := #[t, t] })
    (e : TypeId) (i : TypeInfo) (z : Value) (bytes : Nat) (ht : P.underlying t = some (.slice e)) (hi : P.info? e = some i) (hz : i.zero = some z)
    (hsize : i.size = 1) (hby : i.bytes = bytes) (hzs : z.cells.size = 1)
    (v : Value) (n : Nat) (xs : List Value) (hs : a.eval s = v) (hown : w.ownsRow 0 e 1 v n xs)
    (u : Value) (l : List α) (hx : a.eval x = u) (hu : Sl enc w u l) (h1 : ∀ c, (enc c).oneCell' = true)
    (h63 : n + l.length ≤ maxLen) (hbytes : (n + l.length) * bytes ≤ 140737488355328)
    (h : ∀ v' w', w'.ownsRow 0 e 1 v' (n + l.length) (xs ++ l.map enc) → w.grownBy w' v.ownBlock → (v'.ownBlock = v.ownBlock ∨ ∃ k, v'.ownBlock = some k ∧ w.heap.size ≤ k ∧ k < w'.heap.size) → wpList P ops Q rest (a.put o.dst v') w') : wpList P ops Q (o :: rest) a w := by
  obtain ⟨ad, cap, rfl, h2, h3, h4⟩ := hu
  by_cases h0 : l.length = 0
  · have hl : l = [] := List.eq_nil_of_length_eq_zero h0
    subst hl
    refine wpList_plain hgd fun K hK => ?_
    have hr := run_append_none (P := P) w t o.type e i ht hi v n xs 1 hown cap ad (by rcases h4 with h4 | ⟨b, o, rfl, _⟩; exact .inl h4.1; exact .inr ⟨b, o, rfl⟩)
    unfold Oper.wp execOp
    simp only [ho, resolve, invoke, builtin, Sem.run_bind, Sem.run_pure, Result.andThen_ok, List.map_toArray, List.map_cons, List.map_nil, hs, hx, List.length_nil, hr]
    exact hK _ _ (h v w (by simpa using hown) ⟨rfl, rfl, rfl, Nat.le_refl _, fun _ _ _ => rfl⟩ (.inl rfl))
  · rcases h4 with ⟨rfl, rfl⟩ | ⟨b, off, rfl, hb, hc⟩
    · omega
    · refine wpList_append_more w hgd s x t ho e i z 1 bytes ht hi hz hsize hby hzs (by decide) v n xs hs hown ⟨b, off, none⟩ l.length cap (l.map enc) hx (by simp) ?_ ?_ h63 hbytes h
      · intro j u hj
        rw [List.getElem?_map] at hj
        cases hj' : l[j]? with
        | none => rw [hj'] at hj; cases hj
        | some c =>
          rw [hj'] at hj
          simp at hj
          subst hj
          rw [addr_add]
          exact hc j c hj'
      · intro u hu
        obtain ⟨c, _, rfl⟩ := List.mem_map.1 hu
        exact h1 c
end

end Go.Proofs.YtheipmallojdkaaGreatDoor

namespace Go.Proofs.YtheipmallojdkaaGreatDoor
open Go.RowKit

/-- Behind 'ticks = append(ticks, t)'. -/
theorem due_app {W w1 : World} {B bT : Nat} {T e : TypeId} {q q' : Value} {k m : Nat} {xs ys : List Value} {tmp : Obj} (hT : W.heap[bT]? = some (.cells #[q] T)) (hTB : bT < B) (hB : B ≤ W.heap.size)
    (hown : W.ownsRow B e 1 q k xs) (hown' : w1.ownsRow B e 1 q' m ys) (hg : (W.alloc tmp).grownBy w1 q.ownBlock) :
    w1.heap[bT]? = some (.cells #[q] T) ∧ (∀ j, j < B → j ≠ bT → (w1.setCell ⟨bT, 0, none⟩ q').heap[j]? = W.heap[j]?) ∧ (w1.setCell ⟨bT, 0, none⟩ q').heap[bT]? = some (.cells #[q'] T) ∧ (w1.setCell ⟨bT, 0, none⟩ q').ownsRow B e 1 q' m ys ∧
    KeepsOthers W (w1.setCell ⟨bT, 0, none⟩ q') ∧ ∀ (S : Nat → Prop) (w0 : World), w0.heap.size = B → S bT → Keeps S w0 W → Keeps S w0 (w1.setCell ⟨bT, 0, none⟩ q') := by
  have hrow : ∀ j, some j = q.ownBlock → B ≤ j ∧ j < W.heap.size := fun j hj => by
    rcases hown.2 with ⟨rfl, _⟩ | ⟨g, cap, cur, rfl, hgB, hgb, _⟩
    · cases hj
    · obtain rfl : j = g := by simpa [Value.ownBlock] using hj
      exact ⟨hgB, heap_lt hgb⟩
  have old : ∀ j, j < B → w1.heap[j]? = W.heap[j]? := fun j hj => by
    have h1 := hg.block j (by simp; omega) fun e => by have := (hrow j e).1; omega
    exact h1.trans (Below.heap_alloc W tmp j (by omega))
  have h1T : w1.heap[bT]? = some (.cells #[q] T) := (old bT hTB).trans hT
  have hot : ∀ j, j < B → j ≠ bT → (w1.setCell ⟨bT, 0, none⟩ q').heap[j]? = W.heap[j]? := fun j hj hne => (Below.heap_setCell _ _ _ _ hne).trans (old j hj)
  refine ⟨h1T, hot, blk_set h1T 0 _, ?_, ?_, ?_⟩
  · refine ⟨hown'.1, ?_⟩
    rcases hown'.2 with h | ⟨g, cap, cur, h1, h2, h3, h4⟩
    · exact .inl h
    · exact .inr ⟨g, cap, cur, h1, h2, (Below.heap_setCell _ _ _ _ (by simp only; omega)).trans h3, h4⟩
  · refine ((KeepsOthers.alloc W tmp).trans (KeepsOthers.of_grownBy hg fun j o hj ho => ?_)).trans (KeepsOthers.setCell _ _ _)
    rcases hown.2 with ⟨rfl, _⟩ | ⟨g, cap, cur, rfl, hgB, hgb, _⟩
    · cases hj
    · obtain rfl : g = j := by simpa [Value.ownBlock] using hj
      rw [aheap hgb] at ho
      cases ho; rfl
  · intro S w0 h0 hS hk
    have hsz := hk.size
    refine ⟨?_, ?_, ?_, ?_, fun j hj hn => ?_⟩
    · exact hg.os.trans hk.os
    · exact hg.tape.trans hk.tape
    · exact hg.output.trans hk.output
    · have := hg.size
      simp at this ⊢
      omega
    · have hne : j ≠ bT := fun e => hn (e ▸ hS)
      exact (hot j (by omega) hne).trans (hk.block j hj hn)

theorem owns_below {A B : World} {base : Nat} {e : TypeId} {size : Nat} {v : Value} {k : Nat} {xs : List Value} (h : A.ownsRow base e size v k xs) (hb : Below A.heap.size A B) : B.ownsRow base e size v k xs := by
  refine ⟨h.1, ?_⟩
  rcases h.2 with h | ⟨g, cap, cur, h1, h2, h3, h4⟩
  · exact .inl h
  · exact .inr ⟨g, cap, cur, h1, h2, bheap hb h3 (heap_lt h3), h4⟩
theorem owns_setCell {A : World} {base : Nat} {e : TypeId} {size : Nat} {v : Value} {k : Nat} {xs : List Value} (h : A.ownsRow base e size v k xs) {a : Addr} (ha : a.block < base) (u : Value) : (A.setCell a u).ownsRow base e size v k xs := by
  refine ⟨h.1, ?_⟩
  rcases h.2 with h | ⟨g, cap, cur, h1, h2, h3, h4⟩
  · exact .inl h
  · exact .inr ⟨g, cap, cur, h1, h2, (Below.heap_setCell _ _ _ _ (by omega)).trans h3, h4⟩

theorem owns_mono {w : World} {base base' : Nat} {e : TypeId} {size : Nat} {v : Value} {n : Nat} {xs : List Value} (h : w.ownsRow base e size v n xs) (hb : base' ≤ base) : w.ownsRow base' e size v n xs := by
  refine ⟨h.1, ?_⟩
  rcases h.2 with h | ⟨g, cap, cur, h1, h2, h3⟩
  · exact .inl h
  · exact .inr ⟨g, cap, cur, h1, by omega, h3⟩
end Go.Proofs.YtheipmallojdkaaGreatDoor

namespace Go.Proofs.YtheipmallojdkaaGreatDoor
open Go.RowKit Go.Maps Go.ChangeMaps
attribute [local go_sem] Oper.semAt_some

theorem info_strC : (Tryz.prog.info? 9).map (fun i => (i.zero, i.size, i.bytes)) = some (some (.string ⟨#[]⟩), 1, 16) := by kernel_rfl

theorem owns_keptBS {S : Nat → Prop} {w w' : World} {base : Nat} {e : TypeId} {size : Nat} {v : Value} {n : Nat} {xs : List Value} (h : w.ownsRow base e size v n xs) (hk : Keeps S w w') (hS : ∀ k, v.ownBlock = some k → ¬ S k) : w'.ownsRow base e size v n xs := by
  refine ⟨h.1, ?_⟩
  rcases h.2 with h | ⟨g, cap, cur, rfl, hb, hg, rest⟩
  · exact .inl h
  · exact .inr ⟨g, cap, cur, rfl, hb, hk.heap (hS g rfl) hg, rest⟩

/-- What the range of AppendSeq has appended so far. -/
def CollIS (w : World) (p : List ByteArray) (A : World) : Prop :=
  ∃ v, A.heap[w.heap.size]? = some (.cells #[v] 38 (0, 0)) ∧ A.ownsRow (w.heap.size + 1) 9 1 v p.length (p.map keyS) ∧ Below w.heap.size w A ∧ w.heap.size + 1 ≤ A.heap.size

/-- A slice of texts, new. -/
def NewS (w : World) (xs : List ByteArray) (v : Value) (w' : World) : Prop := w'.ownsRow w.heap.size 9 1 v xs.length (xs.map keyS) ∧ Below w.heap.size w w'

def CollPS (w : World) (ks : List ByteArray) (e : Ending) (w' : World) : Prop := ∃ v xs, e = .returned v ∧ xs.Perm ks ∧ NewS w xs v w'

set_option maxRecDepth 100000 in
set_option maxHeartbeats 1600000 in
theorem appendS (w : World) (gf : Nat) (lb : Array Value) (eg : ∀ args w, (callFunc gf args).run Tryz.prog w = .ok (.enter gf args) w) (ks : List ByteArray) (hk : ks.length ≤ 100000) (R : World → Prop)
    (iter : IterK keyS ks R 4 gf lb) (hR : ∀ A, Below w.heap.size w A → R A) :
    Calls Tryz.prog 77 #[.slice none 0 0, .func (.func gf) #[] lb] w (CollPS w ks) := by
  refine (callsIn_wide (n := 5)).1 (callsIn_of_wp_marks Tryz.func77 rfl trivial ?_ rfl)
  have HI := Lib.hid iter
  have HRR := Lib.hid hR
  clear iter hR
  simp only [Tryz.ntmps77, List.size_toArray, List.length_cons, List.length_nil, Nat.reduceAdd, Nat.reduceSub, Array.replicate_succ, Array.replicate_zero, List.push_toArray, List.append_toArray, List.nil_append, List.cons_append]
  refine wpIn_wide.2 ?_
  go_wp2
  obtain ⟨W0, hW0⟩ : ∃ W0, W0 = w.alloc (.cells #[.slice none 0 0] 38) := ⟨_, rfl⟩
  rw [← hW0]
  have hx : W0.heap[w.heap.size]? = some (.cells #[.slice none 0 0] 38) := by rw [hW0]; exact heap_new _ _
  have hb : Below w.heap.size w W0 := by rw [hW0]; exact (Below.refl _ _).alloc (Nat.le_refl _) _
  have hz0 : w.heap.size + 1 ≤ W0.heap.size := by rw [hW0]; simp
  clear hW0
  have HZ := Lib.hid hz0
  refine (wpIn_wide (n := 5)).1 ?_
  refine range_any (n := 5) (gf := gf) (lb := lb) rfl eg rfl HI.out (CollIS w) ?ib ?ir ?ik ?h0 ?a1 ?assign ?body ?done
  case assign =>
    intro l z W K hK
    unfold keyS
    gi_wp2
    exact hK
  case ib => exact fun p A B ⟨v, h1, h2, h3, h4⟩ hb => ⟨v, bheap hb h1 (heap_lt h1), owns_below h2 hb, h3.trans (hb.mono h3.size), Nat.le_trans h4 hb.size⟩
  case ir => exact fun p A ⟨v, h1, h2, h3, h4⟩ => HRR.out A h3
  case ik =>
    rintro p A B r o ⟨v, h1, h2, h3, h4⟩ hr ho hc hkk
    have hne : r ≠ w.heap.size := by
      rintro rfl
      rw [h1] at ho
      cases ho
      cases hc
    refine ⟨v, hkk.heap (fun e => hne e.symm) h1, owns_keptBS h2 hkk fun g hg e => ?_, h3.trans (hkk.below h3.size (fun k e => by omega)), Nat.le_trans h4 hkk.size⟩
    subst e
    rcases h2.2 with ⟨rfl, _⟩ | ⟨g', cap, cur, rfl, _, hgg, _⟩
    · cases hg
    · obtain rfl : g' = g := by simpa [Value.ownBlock] using hg
      rw [hgg] at ho
      cases ho
      cases hc
  case h0 => exact ⟨_, hx, World.ownsRow_nil _ _ _ _, hb, HZ.out⟩
  case body =>
    rintro l p x W hxk hnd hsub hsW ⟨v, h1, h2, h3, h4⟩
    have hlen : p.length + 1 ≤ ks.length := by
      have := hnd.length_le_of_subset (l₂ := ks) (fun y hy => by
        rcases List.mem_append.1 hy with hy | hy
        · exact hsub y hy
        · simp at hy; subst hy; exact hxk)
      simpa using this
    obtain ⟨va, vc, rfl⟩ : ∃ va vc, v = .slice va p.length vc := by
      rcases h2.2 with ⟨e1, e2⟩ | ⟨g, c, cur, e1, _⟩
      · exact ⟨none, 0, by rw [e1, e2]⟩
      · exact ⟨_, _, e1⟩
    have c0 : W.cell? ⟨w.heap.size, 0, none⟩ = some (.slice va p.length vc) := blk_cell h1 0 rfl
    have lt0 : w.heap.size < W.heap.size := by omega
    have H1 := Lib.hid h1
    have H2 := Lib.hid h2
    have H3 := Lib.hid h3
    have HL1 : Hid (p.length + 1 ≤ maxLen) := Lib.hid (by unfold maxLen; omega)
    have HL2 : Hid ((p.length + 1) * 16 ≤ 140737488355328) := Lib.hid (by omega)
    obtain ⟨i0, hi, hz0, hz1, hz2⟩ := info_parts info_strC
    clear h1 h2 h3
    gi_wp2_with (gi_at_builtin; go_loud (refine wpListIn_append_own _ rfl _ _ 38 rfl (w.heap.size + 1) 9 i0 (.string ⟨#[]⟩) 1 16 Tryz.underlying38 hi hz0 hz1 hz2 rfl (by decide) _ _ _ rfl (H2.out.alloc _) ⟨W.heap.size, 0, none⟩ 1 1 [.string x] rfl rfl (cell_one_new _ _ _) (by simp [Value.oneCell']) HL1.out HL2.out (by simp; omega) ?_; intro q' w4 hown4 hg4 _; have HO4 := Lib.hid hown4; have HG4 := Lib.hid hg4; obtain ⟨g4, cap4, rfl⟩ := ownsRow_succ hown4; have cT4 := blk_cell (due_app H1.out (Nat.lt_succ_self _) h4 H2.out HO4.out HG4.out).1 0 rfl; have fT4 := blk_free (due_app H1.out (Nat.lt_succ_self _) h4 H2.out HO4.out HG4.out).1 0; clear hown4 hg4))
    obtain ⟨_, hot, hnew, hown, hko, hkp⟩ := due_app H1.out (Nat.lt_succ_self _) h4 H2.out HO4.out HG4.out
    have hsz : W.heap.size + 1 ≤ w4.heap.size := by have := HG4.out.size; simpa using this
    refine ⟨hko, _, hnew, ?_, ⟨HG4.out.os.trans H3.out.os, HG4.out.tape.trans H3.out.tape, HG4.out.output.trans H3.out.output, ?_, fun k hk => (hot k (by omega) (by omega)).trans (H3.out.block k hk)⟩, ?_⟩
    · rw [List.length_append, List.map_append]
      exact hown
    · have := H3.out.size
      simp
      omega
    · simp
      omega
  case done =>
    rintro D W xs hD hp ⟨v, h1, h2, h3, h4⟩ hDef
    obtain ⟨va, vc, rfl⟩ : ∃ va vc, v = .slice va xs.length vc := by
      rcases h2.2 with ⟨e1, e2⟩ | ⟨g, c, cur, e1, _⟩
      · exact ⟨none, 0, by rw [e1, e2]⟩
      · exact ⟨_, _, e1⟩
    have c0 : W.cell? ⟨w.heap.size, 0, none⟩ = some (.slice va xs.length vc) := blk_cell h1 0 rfl
    have HDF := Lib.hid hDef
    have HB1 := Lib.hid (below_putObj h3 (l := D) (by omega) (.deferred none))
    have HN := Lib.hid (owns_mono (ownsRow_putObj h2 (.deferred none) hDef rfl) (Nat.le_succ _))
    have HP := Lib.hid hp
    clear h1 h2 h3 hDef hD hp
    go_wp2
    refine ⟨by simp, .inl ⟨_, _, rfl, run_takeDeferred HDF.out, ?_⟩⟩
    exact ⟨.slice va xs.length vc, by simp [results, Tryz.results77, go_sem], _, xs, rfl, HP.out, HN.out, HB1.out⟩

end Go.Proofs.YtheipmallojdkaaGreatDoor

/- append, and where the row that it answers lies: the row that was, or a new block. Of whatever program. -/
import Derived.Test.YtbfhgljmopgejaaGreatMap
import Derived.OneCell
import Derived.Laws.AppendOwn
namespace Go.Proofs.YtbfhgljmopgejaaGreat
open Go.RowKit

theorem run_append_more {P : Program} (w : World) (t ty e : TypeId) (i : TypeInfo) (z : Value) (size bytes : Nat) (ht : P.underlying t = some (.slice e)) (hi : P.info? e = some i) (hz : i.zero = some z)
    (hsize : i.size = size) (hby : i.bytes = bytes) (hzs : z.cells.size = size) (hsz : 0 < size)
    (v : Value) (n : Nat) (xs : List Value) (hown : w.ownsRow 0 e size v n xs)
    (a : Addr) (m c : Nat) (news : List Value) (hl : news.length = m * size) (hnews : ∀ j u, news[j]? = some u → w.cell? (a.add j) = some u) (h1 : ∀ u ∈ news, u.oneCell' = true)
    (h63 : n + m ≤ maxLen) (hbytes : (n + m) * bytes ≤ 140737488355328) :
    ∃ v' w', (Builtin.append_ #[t, t] ty #[v, .slice (some a) m c]).run P w = .ok v' w' ∧ w'.ownsRow 0 e size v' (n + m) (xs ++ news) ∧ w.grownBy w' v.ownBlock ∧
      (v'.ownBlock = v.ownBlock ∨ ∃ k, v'.ownBlock = some k ∧ w.heap.size ≤ k ∧ k < w'.heap.size) := by
  obtain ⟨v', w', hr, h2, h3, h4⟩ := run_append_own (P := P) w 0 t ty e i z size bytes ht hi hz hsize hby hzs hsz v n xs hown a m c news hl hnews h1 h63 hbytes (Nat.zero_le _)
  refine ⟨v', w', hr, h2, h3, ?_⟩
  rcases hown.2 with ⟨rfl, rfl⟩ | ⟨g, cap, cur, rfl, _, hg, hnc, hcm, hcs, htake⟩
  · have hx : xs = [] := List.eq_nil_of_length_eq_zero (by simpa using hown.1)
    subst hx
    obtain ⟨v'', w'', hr', h2', _⟩ := run_append_own (P := P) w w.heap.size t ty e i z size bytes ht hi hz hsize hby hzs hsz (.slice none 0 0) 0 [] (World.ownsRow_nil _ _ _ _) a m c news hl hnews h1 h63 hbytes (Nat.le_refl _)
    rw [hr] at hr'
    cases hr'
    rcases h2'.2 with ⟨rfl, _⟩ | ⟨k, cap, cur, rfl, hk, hgg, _⟩
    · exact .inl rfl
    · exact .inr ⟨k, rfl, hk, heap_lt hgg⟩
  · subst hsize
    by_cases hroom : n + m ≤ cap
    · have hfit : n * i.size + news.length ≤ cur.size := by rw [hl, hcs, ← Nat.add_mul]; exact Nat.mul_le_mul_right _ hroom
      have hr' := run_append_room (P := P) w t ty e i ht hi g n cap cur hg a m c news hl hnews h1 hroom hfit
      rw [hr] at hr'
      cases hr'
      exact .inl rfl
    · subst hby
      have holds : ∀ j u, xs[j]? = some u → w.cell? ((⟨g, 0, none⟩ : Addr).add j) = some u := hown.cells (g := g) rfl
      have hr' := run_append_grow (P := P) w t ty e i z ht hi hz ⟨g, 0, none⟩ n cap xs hown.1 holds a m c news hl hnews (by omega) (by unfold maxLen at h63; omega) (growslice_fits (by omega) hbytes)
      rw [hr] at hr'
      cases hr'
      exact .inr ⟨w.heap.size, rfl, Nat.le_refl _, by simp⟩

/-- append of no element: all stays. -/
theorem run_append_none {P : Program} (w : World) (t ty e : TypeId) (i : TypeInfo) (ht : P.underlying t = some (.slice e)) (hi : P.info? e = some i) (v : Value) (n : Nat) (xs : List Value) (size : Nat) (hown : w.ownsRow 0 e size v n xs) (c : Nat) (x : Option Addr) (hx : x = none ∨ ∃ b o, x = some ⟨b, o, none⟩) :
    (Builtin.append_ #[t, t] ty #[v, .slice x 0 c]).run P w = .ok v w := by
  rcases hown.2 with ⟨rfl, rfl⟩ | ⟨g, cap, cur, rfl, _, hg, hnc, hcm, hcs, htake⟩
  · rcases hx with rfl | ⟨b, o, rfl⟩ <;> simp [Builtin.append_, run_underlying ht, sizeOf, typeInfo, hi, Builtin.lenOf, Builtin.firstCells, loadCells, loadCellsFrom]
  · rcases hx with rfl | ⟨b, o, rfl⟩ <;> simp [Builtin.append_, run_underlying ht, sizeOf, typeInfo, hi, Builtin.lenOf, Builtin.firstCells, loadCells, loadCellsFrom, hnc, storeCells]

/-- append, at the operation. -/
theorem wpList_append_more {P : Program} (w : World) {ops : Array Oper} {rest : List Oper} {o : Oper} {a : Act} {Q : Exit → Act → World → Prop} (hgd : o.guard = none) (s x : Operand) (t : TypeId)
    (ho : o.op = .call { callee := .builtin .append, args := #[s, x], argTypes := #[t, t] })
    (e : TypeId) (i : TypeInfo) (z : Value) (size bytes : Nat) (ht : P.underlying t = some (.slice e)) (hi : P.info? e = some i) (hz : i.zero = some z)
    (hsize : i.size = size) (hby : i.bytes = bytes) (hzs : z.cells.size = size) (hsz : 0 < size)
    (v : Value) (n : Nat) (xs : List Value) (hs : a.eval s = v) (hown : w.ownsRow 0 e size v n xs)
    (ad : Addr) (m c : Nat) (news : List Value) (hx : a.eval x = .slice (some ad) m c) (hl : news.length = m * size) (hnews : ∀ j u, news[j]? = some u → w.cell? (ad.add j) = some u) (h1 : ∀ u ∈ news, u.oneCell' = true)
    (h63 : n + m ≤ maxLen) (hbytes : (n + m) * bytes ≤ 140737488355328)
    (h : ∀ v' w', w'.ownsRow 0 e size v' (n + m) (xs ++ news) → w.grownBy w' v.ownBlock → (v'.ownBlock = v.ownBlock ∨ ∃ k, v'.ownBlock = some k ∧ w.heap.size ≤ k ∧ k < w'.heap.size) → wpList P ops Q rest (a.put o.dst v') w') : wpList P ops Q (o :: rest) a w := by
  refine wpList_plain hgd fun K hK => ?_
  obtain ⟨v', w', hr, h2, h3, h4⟩ := run_append_more (P := P) w t o.type e i z size bytes ht hi hz hsize hby hzs hsz v n xs hown ad m c news hl hnews h1 h63 hbytes
  unfold Oper.wp execOp
  simp only [ho, resolve, invoke, builtin, Sem.run_bind, Sem.run_pure, Result.andThen_ok, List.map_toArray, List.map_cons, List.map_nil, hs, hx, hr]
  exact hK _ _ (h v' w' h2 h3 h4)

theorem cell_new (w : World) (x : Value) (T : TypeId) : (w.alloc (.cells #[x] T)).cell? ⟨w.heap.size, 0, none⟩ = some x :=
  cell_of_one (heap_new _ _)

/-- append of one value, one cell each, laid into the newest block by the call's own slice. -/
theorem wpList_append_one {P : Program} (W : World) {ops : Array Oper} {rest : List Oper} {o : Oper} {a : Act} {Q : Exit → Act → World → Prop} (hgd : o.guard = none) (s x : Operand) (t : TypeId)
    (ho : o.op = .call { callee := .builtin .append, args := #[s, x], argTypes := #[t, t] })
    (e : TypeId) (i : TypeInfo) (z : Value) (bytes : Nat) (ht : P.underlying t = some (.slice e)) (hi : P.info? e = some i) (hz : i.zero = some z)
    (hsize : i.size = 1) (hby : i.bytes = bytes) (hzs : z.cells.size = 1)
    (v : Value) (n : Nat) (xs : List Value) (hs : a.eval s = v) (hown : W.ownsRow 0 e 1 v n xs)
    (u : Value) (T : TypeId) (hx : a.eval x = .slice (some ⟨W.heap.size, 0, none⟩) 1 1) (h1 : u.oneCell' = true)
    (h63 : n + 1 ≤ maxLen) (hbytes : (n + 1) * bytes ≤ 140737488355328)
    (h : ∀ v' w', w'.ownsRow 0 e 1 v' (n + 1) (xs ++ [u]) → (W.alloc (.cells #[u] T)).grownBy w' v.ownBlock → (v'.ownBlock = v.ownBlock ∨ ∃ k, v'.ownBlock = some k ∧ (W.alloc (.cells #[u] T)).heap.size ≤ k ∧ k < w'.heap.size) → wpList P ops Q rest (a.put o.dst v') w') : wpList P ops Q (o :: rest) a (W.alloc (.cells #[u] T)) := by
  refine wpList_append_more _ hgd s x t ho e i z 1 bytes ht hi hz hsize hby hzs (by decide) v n xs hs (hown.alloc _) _ 1 1 [u] hx rfl ?_ (by simpa using h1) h63 hbytes h
  intro j u' hj
  cases j with
  | zero =>
    simp at hj
    subst hj
    exact cell_new _ _ _
  | succ j => simp at hj

/-- A row of cells that lie in memory, from an address on. -/
def RowIs (w : World) (b o : Nat) (xs : List Value) : Prop := ∀ j u, xs[j]? = some u → w.cell? ⟨b, o + j, none⟩ = some u

theorem addr_add (b o j : Nat) : (⟨b, o, none⟩ : Addr).add j = ⟨b, o + j, none⟩ := by unfold Addr.add; split <;> simp_all

theorem grown_keeps {S : Nat → Prop} {w w' : World} {r : Option Nat} (h : w.grownBy w' r) (hS : ∀ k, some k = r → S k) : Keeps S w w' :=
  ⟨h.os, h.tape, h.output, h.size, fun k hk hn => h.block k hk fun e => hn (hS k e)⟩

theorem owns_kept {S : Nat → Prop} {w w' : World} {e : TypeId} {size : Nat} {v : Value} {n : Nat} {xs : List Value} (h : w.ownsRow 0 e size v n xs) (hk : Keeps S w w') (hS : ∀ k, v.ownBlock = some k → ¬ S k) : w'.ownsRow 0 e size v n xs := by
  refine ⟨h.1, ?_⟩
  rcases h.2 with h | ⟨g, cap, cur, rfl, hb, hg, rest⟩
  · exact .inl h
  · exact .inr ⟨g, cap, cur, rfl, hb, hk.heap (hS g rfl) hg, rest⟩

/-! ### a slice whose elements are one cell each, read -/
section
variable {α : Type} {enc : α → Value}

/-- The slice v reads as l. -/
def Sl (enc : α → Value) (w : World) (v : Value) (l : List α) : Prop :=
  ∃ a cap, v = .slice a l.length cap ∧ l.length ≤ cap ∧ cap ≤ maxLen ∧ ((a = none ∧ cap = 0) ∨ ∃ b o, a = some ⟨b, o, none⟩ ∧ b < w.heap.size ∧ ∀ i c, l[i]? = some c → w.cell? ⟨b, o + i, none⟩ = some (enc c))

theorem Sl.nil (enc : α → Value) (w : World) : Sl enc w (.slice none 0 0) [] := ⟨none, 0, rfl, by simp, Nat.zero_le _, .inl ⟨rfl, rfl⟩⟩

theorem Sl.row_lt {w : World} {v : Value} {l : List α} (h : Sl enc w v l) : ∀ k, v.ownBlock = some k → k < w.heap.size := by
  obtain ⟨a, cap, rfl, _, _, h | ⟨b, o, rfl, hb, _⟩⟩ := h
  · intro k hk; simp [h.1, Value.ownBlock] at hk
  · intro k hk; simp [Value.ownBlock] at hk; omega

theorem Sl.kept {S : Nat → Prop} {w w' : World} {v : Value} {l : List α} (h : Sl enc w v l) (hk : Keeps S w w') (hS : ∀ k, v.ownBlock = some k → ¬ S k) : Sl enc w' v l := by
  obtain ⟨a, cap, rfl, h1, h2, h | ⟨b, o, rfl, hb, hc⟩⟩ := h
  · exact ⟨a, cap, rfl, h1, h2, .inl h⟩
  · refine ⟨_, cap, rfl, h1, h2, .inr ⟨b, o, rfl, Nat.lt_of_lt_of_le hb hk.size, fun i c hi => ?_⟩⟩
    rw [World.cell?_of_block (hk.block b hb (hS b rfl))]
    exact hc i c hi

theorem Sl.below {B : Nat} {w w' : World} {v : Value} {l : List α} (h : Sl enc w v l) (hk : Below B w w') (hS : ∀ k, v.ownBlock = some k → k < B) : Sl enc w' v l :=
  h.kept (Keeps.of_below hk) fun k hk => by have := hS k hk; simp; omega

theorem Sl.alloc {w : World} {v : Value} {l : List α} (h : Sl enc w v l) (o : Obj) : Sl enc (w.alloc o) v l :=
  h.kept ((Keeps.refl (fun _ => False) w).alloc o) (fun _ _ h => h)

theorem Sl.drew {w : World} {v : Value} {l : List α} (h : Sl enc w v l) : Sl enc w.drew v l := h

theorem Sl.setCell {w : World} {v : Value} {l : List α} (h : Sl enc w v l) {p : Addr} (hp : v.ownBlock ≠ some p.block) (u : Value) : Sl enc (w.setCell p u) v l :=
  h.kept ((Keeps.refl (fun k => k = p.block) w).setCell (.inl rfl) u) (fun k hk e => hp (by rw [hk, e]))

theorem owns_sl {w : World} {e : TypeId} {v : Value} {l : List α} (h : w.ownsRow 0 e 1 v l.length (l.map enc)) : Sl enc w v l := by
  rcases h.2 with ⟨rfl, h0⟩ | ⟨g, cap, cur, rfl, _, hg, hn, hm, hc, ht⟩
  · exact ⟨none, 0, by rw [h0], by omega, Nat.zero_le _, .inl ⟨rfl, rfl⟩⟩
  · refine ⟨_, cap, rfl, hn, hm, .inr ⟨g, 0, rfl, heap_lt hg, fun i c hi => ?_⟩⟩
    rw [Nat.zero_add, cell_of_row w g i cur e (0, 0) hg]
    have : (l.map enc)[i]? = some (enc c) := by rw [List.getElem?_map, hi]; rfl
    rw [← ht, List.getElem?_take] at this
    split at this
    · simpa using this
    · cases this

/-- append of a slice that is read. -/
theorem wpList_append_sl {P : Program} (w : World) {ops : Array Oper} {rest : List Oper} {o : Oper} {a : Act} {Q : Exit → Act → World → Prop} (hgd : o.guard = none) (s x : Operand) (t : TypeId)
    (ho : o.op = .call { callee := .builtin .append, args := #[s, x], argTypes := #[t, t] })
    (e : TypeId) (i : TypeInfo) (z : Value) (bytes : Nat) (ht : P.underlying t = some (.slice e)) (hi : P.info? e = some i) (hz : i.zero = some z)
    (hsize : i.size = 1) (hby : i.bytes = bytes) (hzs : z.cells.size = 1)
    (v : Value) (n : Nat) (xs : List Value) (hs : a.eval s = v) (hown : w.ownsRow 0 e 1 v n xs)
    (u : Value) (l : List α) (hx : a.eval x = u) (hu : Sl enc w u l) (h1 : ∀ c, (enc c).oneCell' = true)
    (h63 : n + l.length ≤ maxLen) (hbytes : (n + l.length) * bytes ≤ 140737488355328)
    (h : ∀ v' w', w'.ownsRow 0 e 1 v' (n + l.length) (xs ++ l.map enc) → w.grownBy w' v.ownBlock → (v'.ownBlock = v.ownBlock ∨ ∃ k, v'.ownBlock = some k ∧ w.heap.size ≤ k ∧ k < w'.heap.size) → wpList P ops Q rest (a.put o.dst v') w') : wpList P ops Q (o :: rest) a w := by
  obtain ⟨ad, cap, rfl, h2, h3, h4⟩ := hu
  by_cases h0 : l.length = 0
  · have hl : l = [] := List.eq_nil_of_length_eq_zero h0
    subst hl
    refine wpList_plain hgd fun K hK => ?_
    have hr := run_append_none (P := P) w t o.type e i ht hi v n xs 1 hown cap ad (by rcases h4 with h4 | ⟨b, o, rfl, _⟩; exact .inl h4.1; exact .inr ⟨b, o, rfl⟩)
    unfold Oper.wp execOp
    simp only [ho, resolve, invoke, builtin, Sem.run_bind, Sem.run_pure, Result.andThen_ok, List.map_toArray, List.map_cons, List.map_nil, hs, hx, List.length_nil, hr]
    exact hK _ _ (h v w (by simpa using hown) ⟨rfl, rfl, rfl, Nat.le_refl _, fun _ _ _ => rfl⟩ (.inl rfl))
  · rcases h4 with ⟨rfl, rfl⟩ | ⟨b, off, rfl, hb, hc⟩
    · omega
    · refine wpList_append_more w hgd s x t ho e i z 1 bytes ht hi hz hsize hby hzs (by decide) v n xs hs hown ⟨b, off, none⟩ l.length cap (l.map enc) hx (by simp) ?_ ?_ h63 hbytes h
      · intro j u hj
        rw [List.getElem?_map] at hj
        cases hj' : l[j]? with
        | none => rw [hj'] at hj; cases hj
        | some c =>
          rw [hj'] at hj
          simp at hj
          subst hj
          rw [addr_add]
          exact hc j c hj'
      · intro u hu
        obtain ⟨c, _, rfl⟩ := List.mem_map.1 hu
        exact h1 c
end

end Go.Proofs.YtbfhgljmopgejaaGreat

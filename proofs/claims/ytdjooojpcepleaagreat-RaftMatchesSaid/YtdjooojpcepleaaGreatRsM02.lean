/- append, and where the row that it answers lies: the row that was, or a new block. Of whatever program. Package octet: what its Writer writes. Whole structs in blocks that are known: a store and a load of many cells in one step. Of whatever program. Rows of bytes that are read: as a text; a part of them. Package octet: the Writer's texts and signed numbers, its bytes; a Reader of bytes. Package octet: what its Reader reads. -/
import Derived.Test.YtdjooojpcepleaaGreatRsM01
import Derived.OneCell
import Derived.Laws.AppendOwn
import Derived.Laws.BytesArg
import Derived.Deep.MidRow
import Derived.Laws.ResultCell
import Derived.Laws.IdiomStrings
import Derived.Lib.ConvBytes

namespace Go.Proofs.YtdjooojpcepleaaGreat
section
open Go.RowKit
theorem run_append_more {P : Program} (w : World) (t ty e : TypeId) (i : TypeInfo) (z : Value) (size bytes : Nat) (ht : P.underlying t = some (.slice e)) (hi : P.info? e = some i) (hz : i.zero = some z)
  (hsize : i.size = size) (hby : i.bytes = bytes) (hzs : z.cells.size = size) (hsz : 0 < size)
  (v : Value) (n : Nat) (xs : List Value) (hown : w.ownsRow 0 e size v n xs)
  (a : Addr) (m c : Nat) (news : List Value) (hl : news.length = m * size) (hnews : ∀ j u, news[j]? = some u → w.cell? (a.add j) = some u) (h1 : ∀ u ∈ news, u.oneCell' = true)
  (h63 : n + m ≤ maxLen) (hbytes : (n + m) * bytes ≤ 140737488355328) :
  ∃ v' w', (Builtin.append_ #[t, t] ty #[v, .slice (some a) m c]).run P w = .ok v' w' ∧ w'.ownsRow 0 e size v' (n + m) (xs ++ news) ∧ w.grownBy w' v.ownBlock ∧
   (v'.ownBlock = v.ownBlock ∨ ∃ k, v'.ownBlock = some k ∧ w.heap.size ≤ k ∧ k < w'.heap.size) := by
 obtain ⟨v', w', hr, h2, h3, h4⟩ := run_append_own (P := P) w 0 t ty e i z size bytes ht hi hz hsize hby hzs hsz v n xs hown a m c news hl hnews h1 h63 hbytes (Nat.zero_le _)
 refine ⟨v', w', hr, h2, h3, ?_⟩
 rcases hown.2 with ⟨rfl, rfl⟩ | ⟨g, cap, cur, rfl, _, hg, hnc, hcm, hcs, htake⟩
 ·have hx : xs = [] := List.eq_nil_of_length_eq_zero (by simpa using hown.1)
  subst hx
  obtain ⟨v'', w'', hr', h2', _⟩ := run_append_own (P := P) w w.heap.size t ty e i z size bytes ht hi hz hsize hby hzs hsz (.slice none 0 0) 0 [] (World.ownsRow_nil _ _ _ _) a m c news hl hnews h1 h63 hbytes nL
  rw [hr] at hr'
  cases hr'
  rcases h2'.2 with ⟨rfl, _⟩ | ⟨k, cap, cur, rfl, hk, hgg, _⟩
  ·exact .inl rfl
  ·exact .inr ⟨k, rfl, hk, heap_lt hgg⟩
 ·subst hsize
  by_cases hroom : n + m ≤ cap
  ·have hfit : n * i.size + news.length ≤ cur.size := by rw [hl, hcs, ← Nat.add_mul]; exact Nat.mul_le_mul_right _ hroom
   have hr' := run_append_room (P := P) w t ty e i ht hi g n cap cur hg a m c news hl hnews h1 hroom hfit
   rw [hr] at hr'
   cases hr'
   exact .inl rfl
  ·subst hby
   have holds : ∀ j u, xs[j]? = some u → w.cell? ((⟨g, 0, none⟩ : Addr).add j) = some u := hown.cells (g := g) rfl
   have hr' := run_append_grow (P := P) w t ty e i z ht hi hz ⟨g, 0, none⟩ n cap xs hown.1 holds a m c news hl hnews (by omega) (by unfold maxLen at h63; omega) (growslice_fits (by omega) hbytes)
   rw [hr] at hr'
   cases hr'
   exact .inr ⟨w.heap.size, rfl, Nat.le_refl _, by simp⟩
theorem run_append_none {P : Program} (w : World) (t ty e : TypeId) (i : TypeInfo) (ht : P.underlying t = some (.slice e)) (hi : P.info? e = some i) (v : Value) (n : Nat) (xs : List Value) (size : Nat) (hown : w.ownsRow 0 e size v n xs) (c : Nat) (x : Option Addr) (hx : x = none ∨ ∃ b o, x = some ⟨b, o, none⟩) :
  (Builtin.append_ #[t, t] ty #[v, .slice x 0 c]).run P w = .ok v w := by
 rcases hown.2 with ⟨rfl, rfl⟩ | ⟨g, cap, cur, rfl, _, hg, hnc, hcm, hcs, htake⟩
 ·rcases hx with rfl | ⟨b, o, rfl⟩ <;> simp [Builtin.append_, run_underlying ht, sizeOf, typeInfo, hi, Builtin.lenOf, Builtin.firstCells, loadCells, loadCellsFrom]
 ·rcases hx with rfl | ⟨b, o, rfl⟩ <;> simp [Builtin.append_, run_underlying ht, sizeOf, typeInfo, hi, Builtin.lenOf, Builtin.firstCells, loadCells, loadCellsFrom, hnc, storeCells]
theorem wpList_append_more {P : Program} (w : World) {ops : Array Oper} {rest : List Oper} {o : Oper} {a : Act} {Q : Exit → Act → World → Prop} (hgd : o.guard = none) (s x : Operand) (t : TypeId)
  (ho : o.op = .call { callee := .builtin .append, args := #[s, x], argTypes := #[t, t] })
  (e : TypeId) (i : TypeInfo) (z : Value) (size bytes : Nat) (ht : P.underlying t = some (.slice e)) (hi : P.info? e = some i) (hz : i.zero = some z)
  (hsize : i.size = size) (hby : i.bytes = bytes) (hzs : z.cells.size = size) (hsz : 0 < size)
  (v : Value) (n : Nat) (xs : List Value) (hs : a.eval s = v) (hown : w.ownsRow 0 e size v n xs)
  (ad : Addr) (m c : Nat) (news : List Value) (hx : a.eval x = .slice (some ad) m c) (hl : news.length = m * size) (hnews : ∀ j u, news[j]? = some u → w.cell? (ad.add j) = some u) (h1 : ∀ u ∈ news, u.oneCell' = true)
  (h63 : n + m ≤ maxLen) (hbytes : (n + m) * bytes ≤ 140737488355328)
  (h : ∀ v' w', w'.ownsRow 0 e size v' (n + m) (xs ++ news) → w.grownBy w' v.ownBlock → (v'.ownBlock = v.ownBlock ∨ ∃ k, v'.ownBlock = some k ∧ w.heap.size ≤ k ∧ k < w'.heap.size) → wpList P ops Q rest (a.put o.dst v') w') : wpList P ops Q (o :: rest) a w := by
 refine wpList_plain hgd fun K hK => ?_
 obtain ⟨v', w', hr, h2, h3, h4⟩ := run_append_more (P := P) w t o.type e i z size bytes ht hi hz hsize hby hzs hsz v n xs hown ad m c news hl hnews h1 h63 hbytes
 unfold Oper.wp execOp
 simp only [ho, resolve, invoke, builtin, Sem.run_bind, Sem.run_pure, Result.andThen_ok, List.map_toArray, List.map_cons, List.map_nil, hs, hx, hr]
 exact hK _ _ (h v' w' h2 h3 h4)
theorem cell_new (w : World) (x : Value) (T : TypeId) : (w.alloc (.cells #[x] T)).cell? ⟨w.heap.size, 0, none⟩ = some x :=
 cell_of_one (bW _ _)
theorem wpList_append_one {P : Program} (W : World) {ops : Array Oper} {rest : List Oper} {o : Oper} {a : Act} {Q : Exit → Act → World → Prop} (hgd : o.guard = none) (s x : Operand) (t : TypeId)
  (ho : o.op = .call { callee := .builtin .append, args := #[s, x], argTypes := #[t, t] })
  (e : TypeId) (i : TypeInfo) (z : Value) (bytes : Nat) (ht : P.underlying t = some (.slice e)) (hi : P.info? e = some i) (hz : i.zero = some z)
  (hsize : i.size = 1) (hby : i.bytes = bytes) (hzs : z.cells.size = 1)
  (v : Value) (n : Nat) (xs : List Value) (hs : a.eval s = v) (hown : W.ownsRow 0 e 1 v n xs)
  (u : Value) (T : TypeId) (hx : a.eval x = .slice (some ⟨W.heap.size, 0, none⟩) 1 1) (h1 : u.oneCell' = true)
  (h63 : n + 1 ≤ maxLen) (hbytes : (n + 1) * bytes ≤ 140737488355328)
  (h : ∀ v' w', w'.ownsRow 0 e 1 v' (n + 1) (xs ++ [u]) → (W.alloc (.cells #[u] T)).grownBy w' v.ownBlock → (v'.ownBlock = v.ownBlock ∨ ∃ k, v'.ownBlock = some k ∧ (W.alloc (.cells #[u] T)).heap.size ≤ k ∧ k < w'.heap.size) → wpList P ops Q rest (a.put o.dst v') w') : wpList P ops Q (o :: rest) a (W.alloc (.cells #[u] T)) := by
 refine wpList_append_more _ hgd s x t ho e i z 1 bytes ht hi hz hsize hby hzs (by decide) v n xs hs (hown.alloc _) _ 1 1 [u] hx rfl ?_ (by simpa using h1) h63 hbytes h
 intro j u' hj
 cases j with
 | zero =>
  simp at hj
  subst hj
  exact cell_new _ _ _
 | succ j => simp at hj
theorem addr_add (b o j : Nat) : (⟨b, o, none⟩ : Addr).add j = ⟨b, o + j, none⟩ := by unfold Addr.add; split <;> simp_all
theorem gK {S : Nat → Prop} {w w' : World} {r : Option Nat} (h : w.grownBy w' r) (hS : ∀ k, some k = r → S k) : Keeps S w w' :=
 ⟨h.os, h.tape, h.output, h.size, fun k hk hn => h.block k hk fun e => hn (hS k e)⟩
theorem owns_kept {S : Nat → Prop} {w w' : World} {e : TypeId} {size : Nat} {v : Value} {n : Nat} {xs : List Value} (h : w.ownsRow 0 e size v n xs) (hk : Keeps S w w') (hS : ∀ k, v.ownBlock = some k → ¬ S k) : w'.ownsRow 0 e size v n xs := by
 refine ⟨h.1, ?_⟩
 rcases h.2 with h | ⟨g, cap, cur, rfl, hb, hg, rest⟩
 ·exact .inl h
 ·exact .inr ⟨g, cap, cur, rfl, hb, hk.heap (hS g rfl) hg, rest⟩
section
variable {α : Type} {enc : α → Value}
def Sl (enc : α → Value) (w : World) (v : Value) (l : List α) : Prop :=
 ∃ a cap, v = .slice a l.length cap ∧ l.length ≤ cap ∧ cap ≤ maxLen ∧ ((a = none ∧ cap = 0) ∨ ∃ b o, a = some ⟨b, o, none⟩ ∧ b < w.heap.size ∧ ∀ i c, l[i]? = some c → w.cell? ⟨b, o + i, none⟩ = some (enc c))
theorem Sl.nil (enc : α → Value) (w : World) : Sl enc w (.slice none 0 0) [] := ⟨none, 0, rfl, by simp, Nat.zero_le _, .inl ⟨rfl, rfl⟩⟩
theorem Sl.row_lt {w : World} {v : Value} {l : List α} (h : Sl enc w v l) : ∀ k, v.ownBlock = some k → k < w.heap.size := by
 obtain ⟨a, cap, rfl, _, _, h | ⟨b, o, rfl, hb, _⟩⟩ := h
 ·intro k hk; simp [h.1, Value.ownBlock] at hk
 ·intro k hk; simp [Value.ownBlock] at hk; omega
theorem Sl.kept {S : Nat → Prop} {w w' : World} {v : Value} {l : List α} (h : Sl enc w v l) (hk : Keeps S w w') (hS : ∀ k, v.ownBlock = some k → ¬ S k) : Sl enc w' v l := by
 obtain ⟨a, cap, rfl, h1, h2, h | ⟨b, o, rfl, hb, hc⟩⟩ := h
 ·exact ⟨a, cap, rfl, h1, h2, .inl h⟩
 ·refine ⟨_, cap, rfl, h1, h2, .inr ⟨b, o, rfl, Nat.lt_of_lt_of_le hb hk.size, fun i c hi => ?_⟩⟩
  rw [World.cell?_of_block (hk.block b hb (hS b rfl))]
  exact hc i c hi
theorem Sl.below {B : Nat} {w w' : World} {v : Value} {l : List α} (h : Sl enc w v l) (hk : Below B w w') (hS : ∀ k, v.ownBlock = some k → k < B) : Sl enc w' v l :=
 h.kept (Keeps.of_below hk) fun k hk => by have := hS k hk; simp; omega
theorem Sl.alloc {w : World} {v : Value} {l : List α} (h : Sl enc w v l) (o : Obj) : Sl enc (w.alloc o) v l :=
 h.kept ((Keeps.refl (fun _ => False) w).alloc o) (fun _ _ h => h)
theorem Sl.setCell {w : World} {v : Value} {l : List α} (h : Sl enc w v l) {p : Addr} (hp : v.ownBlock ≠ some p.block) (u : Value) : Sl enc (w.setCell p u) v l :=
 h.kept ((Keeps.refl (fun k => k = p.block) w).setCell (.inl rfl) u) (fun k hk e => hp (by rw [hk, e]))
theorem owns_sl {w : World} {e : TypeId} {v : Value} {l : List α} (h : w.ownsRow 0 e 1 v l.length (l.map enc)) : Sl enc w v l := by
 rcases h.2 with ⟨rfl, h0⟩ | ⟨g, cap, cur, rfl, _, hg, hn, hm, hc, ht⟩
 ·exact ⟨none, 0, by rw [h0], by omega, Nat.zero_le _, .inl ⟨rfl, rfl⟩⟩
 ·refine ⟨_, cap, rfl, hn, hm, .inr ⟨g, 0, rfl, heap_lt hg, fun i c hi => ?_⟩⟩
  rw [Nat.zero_add, cell_of_row w g i cur e (0, 0) hg]
  have : (l.map enc)[i]? = some (enc c) := by rw [List.getElem?_map, hi]; rfl
  rw [← ht, List.getElem?_take] at this
  split at this
  ·simpa using this
  ·cases this
theorem wpList_append_sl {P : Program} (w : World) {ops : Array Oper} {rest : List Oper} {o : Oper} {a : Act} {Q : Exit → Act → World → Prop} (hgd : o.guard = none) (s x : Operand) (t : TypeId)
  (ho : o.op = .call { callee := .builtin .append, args := #[s, x], argTypes := #[t, t] })
  (e : TypeId) (i : TypeInfo) (z : Value) (bytes : Nat) (ht : P.underlying t = some (.slice e)) (hi : P.info? e = some i) (hz : i.zero = some z)
  (hsize : i.size = 1) (hby : i.bytes = bytes) (hzs : z.cells.size = 1)
  (v : Value) (n : Nat) (xs : List Value) (hs : a.eval s = v) (hown : w.ownsRow 0 e 1 v n xs)
  (u : Value) (l : List α) (hx : a.eval x = u) (hu : Sl enc w u l) (h1 : ∀ c, (enc c).oneCell' = true)
  (h63 : n + l.length ≤ maxLen) (hbytes : (n + l.length) * bytes ≤ 140737488355328)
  (h : ∀ v' w', w'.ownsRow 0 e 1 v' (n + l.length) (xs ++ l.map enc) → w.grownBy w' v.ownBlock → (v'.ownBlock = v.ownBlock ∨ ∃ k, v'.ownBlock = some k ∧ w.heap.size ≤ k ∧ k < w'.heap.size) → wpList P ops Q rest (a.put o.dst v') w') : wpList P ops Q (o :: rest) a w := by
 obtain ⟨ad, cap, rfl, h2, h3, h4⟩ := hu
 by_cases h0 : l.length = 0
 ·have hl : l = [] := List.eq_nil_of_length_eq_zero h0
  subst hl
  refine wpList_plain hgd fun K hK => ?_
  have hr := run_append_none (P := P) w t o.type e i ht hi v n xs 1 hown cap ad (by rcases h4 with h4 | ⟨b, o, rfl, _⟩; exact .inl h4.1; exact .inr ⟨b, o, rfl⟩)
  unfold Oper.wp execOp
  simp only [ho, resolve, invoke, builtin, Sem.run_bind, Sem.run_pure, Result.andThen_ok, List.map_toArray, List.map_cons, List.map_nil, hs, hx, List.length_nil, hr]
  exact hK _ _ (h v w (by simpa using hown) ⟨rfl, rfl, rfl, Nat.le_refl _, fun _ _ _ => rfl⟩ (.inl rfl))
 ·rcases h4 with ⟨rfl, rfl⟩ | ⟨b, off, rfl, hb, hc⟩
  ·omega
  ·refine wpList_append_more w hgd s x t ho e i z 1 bytes ht hi hz hsize hby hzs (by decide) v n xs hs hown ⟨b, off, none⟩ l.length cap (l.map enc) hx (by simp) ?_ ?_ h63 hbytes h
   ·intro j u hj
    rw [List.getElem?_map] at hj
    cases hj' : l[j]? with
    | none => rw [hj'] at hj; cases hj
    | some c =>
     rw [hj'] at hj
     simp at hj
     subst hj
     rw [addr_add]
     exact hc j c hj'
   ·intro u hu
    obtain ⟨c, _, rfl⟩ := List.mem_map.1 hu
    exact h1 c
end
end
section
open Go.RowKit
def u8v (c : UInt8) : Value := .int .u8 (c.toNat : Int)
theorem info_u8 : (Tryz.prog.info? 5).map (fun i => (i.zero, i.size, i.bytes)) = some (some (.int .u8 0), 1, 1) := by kernel_rfl
def Wr (w : World) (p : Nat) (r : Option Nat) (bs : List UInt8) : Prop :=
 ∃ v, w.heap[p]? = some (.cells #[v] 119 (0, 0)) ∧ v.ownBlock = r ∧ r ≠ some p ∧ w.ownsRow 0 5 1 v bs.length (bs.map u8v)
structure Wrote (p : Nat) (w : World) (r : Option Nat) (w' : World) (r' : Option Nat) : Prop where
 keeps : Keeps (fun k => k = p ∨ some k = r) w w'
 row : r' = r ∨ ∃ k, r' = some k ∧ w.heap.size ≤ k
theorem Wrote.refl (p : Nat) (w : World) (r : Option Nat) : Wrote p w r w r := ⟨Keeps.refl _ _, .inl rfl⟩
theorem Wrote.trans {p : Nat} {w w' w'' : World} {r r' r'' : Option Nat} (h : Wrote p w r w' r') (k : Wrote p w' r' w'' r'') : Wrote p w r w'' r'' := by
 refine ⟨⟨k.keeps.os.trans h.keeps.os, k.keeps.tape.trans h.keeps.tape, k.keeps.output.trans h.keeps.output, Nat.le_trans h.keeps.size k.keeps.size, fun i hi hn => ?_⟩, ?_⟩
 ·have hs := h.keeps.size
  refine (k.keeps.block i (by omega) ?_).trans (h.keeps.block i hi hn)
  rintro (rfl | e)
  ·exact hn (.inl rfl)
  ·rcases h.row with h1 | ⟨j, h1, h2⟩
   ·exact hn (.inr (e.trans h1))
   ·rw [h1] at e; cases e; omega
 ·have hs := h.keeps.size
  rcases k.row with h1 | ⟨j, h1, h2⟩
  ·rcases h.row with h3 | ⟨i, h3, h4⟩
   ·exact .inl (h1.trans h3)
   ·exact .inr ⟨i, h1.trans h3, h4⟩
  ·exact .inr ⟨j, h1, by omega⟩
def WroteB (p : Nat) (w : World) (r : Option Nat) (bs : List UInt8) (e : Ending) (w' : World) : Prop :=
 e = .returned (.tuple #[]) ∧ ∃ r', Wr w' p r' bs ∧ Wrote p w r w' r'
theorem Wr.kept {S : Nat → Prop} {w w' : World} {p : Nat} {r : Option Nat} {bs : List UInt8} (h : Wr w p r bs) (hk : Keeps S w w') (hp : ¬ S p) (hr : ∀ k, r = some k → ¬ S k) : Wr w' p r bs := by
 obtain ⟨v, h1, h2, h3, h4⟩ := h
 exact ⟨v, hk.heap hp h1, h2, h3, owns_kept h4 hk fun k hkk => hr k (h2 ▸ hkk)⟩
theorem wr_still {w w0 w1 : World} {p : Nat} {v : Value} {T : TypeId} (hp : w.heap[p]? = some (.cells #[v] T (0, 0))) (hne : v.ownBlock ≠ some p) (h0 : Below w.heap.size w w0) (hg : w0.grownBy w1 v.ownBlock) :
  w1.cell? ⟨p, 0, none⟩ = some v ∧ w1.frozen? ⟨p, 0, none⟩ = false ∧ p < w1.heap.size := by
 have hplt := heap_lt hp
 have hs0 := h0.size
 have hp1 : w1.heap[p]? = some (.cells #[v] T (0, 0)) := by
  rw [hg.block p (by omega) (fun e => hne e.symm)]
  exact bH h0 hp hplt
 exact ⟨cell_of_one hp1, free_of_one hp1, heap_lt hp1⟩
theorem Wr.push {w w0 w1 : World} {p : Nat} {v v' : Value} {n : Nat} {bs more : List UInt8} {xs : List Value} (hp : w.heap[p]? = some (.cells #[v] 119 (0, 0))) (hne : v.ownBlock ≠ some p) (hn : n = (bs ++ more).length) (hx : xs = (bs ++ more).map u8v)
  (h0 : Below w.heap.size w w0) (hown : w1.ownsRow 0 5 1 v' n xs) (hg : w0.grownBy w1 v.ownBlock)
  (hrow : v'.ownBlock = v.ownBlock ∨ ∃ k, v'.ownBlock = some k ∧ w0.heap.size ≤ k ∧ k < w1.heap.size) :
  Wr (w1.setCell ⟨p, 0, none⟩ v') p v'.ownBlock (bs ++ more) ∧ Wrote p w v.ownBlock (w1.setCell ⟨p, 0, none⟩ v') v'.ownBlock := by
 subst hn hx
 have hplt := heap_lt hp
 have hs0 := h0.size
 have hp1 : w1.heap[p]? = some (.cells #[v] 119 (0, 0)) := by
  rw [hg.block p (by omega) (fun e => hne e.symm)]
  exact bH h0 hp hplt
 have hne' : v'.ownBlock ≠ some p := by
  rcases hrow with h | ⟨k, h, h2, _⟩
  ·rw [h]; exact hne
  ·rw [h]; intro e; cases e; omega
 refine ⟨⟨v', ?_, rfl, hne', ?_⟩, ⟨?_, ?_⟩⟩
 ·exact one_setCell hp1
 ·exact owns_kept hown ((Keeps.refl (fun k => k = p) w1).setCell (.inl rfl) _) (fun k hk e => hne' (by rw [hk, e]))
 ·exact ((Keeps.of_belowS h0).trans (gK hg fun k h => .inr h)).setCell (.inl (.inl rfl)) _
 ·rcases hrow with h | ⟨k, h, h2, _⟩
  ·exact .inl h
  ·exact .inr ⟨k, h, by omega⟩
structure WrMid (W : World) (p : Nat) (r : Option Nat) (bs : List UInt8) (v' : Value) (w1 : World) : Prop where
 cell : ∃ v, w1.cell? ⟨p, 0, none⟩ = some v
 free : w1.frozen? ⟨p, 0, none⟩ = false
 lt : p < w1.heap.size
 wr : Wr (w1.setCell ⟨p, 0, none⟩ v') p v'.ownBlock bs
 wrote : Wrote p W r (w1.setCell ⟨p, 0, none⟩ v') v'.ownBlock
theorem wpList_wr_push (W : World) {ops : Array Oper} {rest : List Oper} {o : Oper} {a : Act} {Q : Exit → Act → World → Prop} (hgd : o.guard = none) (s x : Operand)
  (ho : o.op = .call { callee := .builtin .append, args := #[s, x], argTypes := #[38, 38] })
  (p : Nat) (r : Option Nat) (bs : List UInt8) (hW : Wr W p r bs) (v : Value) (hv : W.cell? ⟨p, 0, none⟩ = some v) (hs : a.eval s = v)
  (c : UInt8) (u : Value) (T : TypeId) (hx : a.eval x = .slice (some ⟨W.heap.size, 0, none⟩) 1 1) (hu : u = u8v c) (hl : bs.length < 70368744177664)
  (h : ∀ ad n cp w1, WrMid W p r (bs ++ [c]) (.slice ad n cp) w1 → wpList Tryz.prog ops Q rest (a.put o.dst (.slice ad n cp)) w1) : wpList Tryz.prog ops Q (o :: rest) a (W.alloc (.cells #[u] T)) := by
 obtain ⟨v0, hp, rfl, hne, hown⟩ := hW
 obtain ⟨i0, hi, hz0, hz1, hz2⟩ := info_parts info_u8
 have : v0 = v := by rw [cell_of_one hp] at hv; exact Option.some.inj hv
 subst this hu
 refine wpList_append_one W hgd s x 38 ho 5 i0 (.int .u8 0) 1 Tryz.underlying38 hi hz0 hz1 hz2 rfl v0 _ _ hs hown (u8v c) T hx rfl (by unfold maxLen; omega) (by omega) ?_
 intro v' w1 hown1 hg1 hrow1
 have hb0 := (Below.refl W.heap.size W).alloc nL (.cells #[u8v c] T)
 obtain ⟨hc1, hf1, hl1⟩ := wr_still hp hne hb0 hg1
 obtain ⟨h1, h2⟩ := Wr.push (bs := bs) (more := [c]) hp hne (by simp) (by simp) hb0 hown1 hg1 hrow1
 obtain ⟨ad, n, cp, rfl⟩ : ∃ ad n cp, v' = .slice ad n cp := by
  rcases hown1.2 with ⟨rfl, _⟩ | ⟨g, cap, cur, rfl, _⟩
  ·exact ⟨_, _, _, rfl⟩
  ·exact ⟨_, _, _, rfl⟩
 exact h ad n cp w1 ⟨⟨_, hc1⟩, hf1, hl1, h1, h2⟩
section
variable (w : World) (p : Nat) (r : Option Nat) (bs : List UInt8) (h : Wr w p r bs)
include h
set_option maxRecDepth 100000 in
set_option maxHeartbeats 1000000 in
theorem num_any (x : Int) (h0 : 0 ≤ x) (hx : x ≤ 18446744073709551615) (hl : bs.length + 10 ≤ 70368744177664) :
  Calls Tryz.prog 84 #[.pointer (some ⟨p, 0, none⟩), .int .u64 x] w (WroteB p w r (bs ++ numB x.toNat)) := by
 have hlen := numB_len10 (x := x.toNat) (by omega)
 have H := hI h
 have HL := hI hl
 have HN := hI hlen
 clear h hl hlen
 go_enter Tryz.func84, Tryz.ntmps84
 go_wp2
 go_loopw [1] (fun xv wr => ∃ (y : Int) (pre : List UInt8) (r' : Option Nat), 0 ≤ y ∧ y ≤ 18446744073709551615 ∧ xv = .int .u64 y ∧ numB x.toNat = pre ++ numB y.toNat ∧ Wr wr p r' (bs ++ pre) ∧ Wrote p w r wr r') (fun xv _ => (intOf xv).toNat)
 case atStart => exact ⟨x, [], r, h0, hx, rfl, rfl, by simpa using H.out, Wrote.refl _ _ _⟩
 case round =>
  obtain ⟨y, pre, r', hy0, hy, rfl, hnum, hW, hk⟩ := hrel
  clear h0 hx
  have HU := hI hnum
  have HK := hI hk
  have HW := hI hW
  obtain ⟨v, hp, _⟩ := hW
  have hcell := cell_of_one hp
  clear hnum hk hp
  have HS := hI (show (bs ++ pre).length < 70368744177664 by
    have h1 := HL.out; have h2 := HN.out; have h3 := numB_pos y.toNat; rw [HU.out] at h2; simp only [List.length_append] at h2 ⊢; omega)
  by_cases h1 : 128 ≤ y
  ·have HB := hI (show numB y.toNat = UInt8.ofNat (y.toNat % 128 + 128) :: numB (y.toNat / 128) from numB_ge (by omega))
   have HC := hI (show Value.int .u8 (bits .or .u8 (y % 256) 128) = u8v (UInt8.ofNat (y.toNat % 128 + 128)) by
     have e1 : y % 256 = ((y.toNat % 256 : Nat) : Int) := by omega
     rw [e1, or128]
     unfold u8v
     rw [toNat_ofNat (by omega)])
   go_wp2_with (at_builtin; refine wpList_wr_push wr rfl _ _ rfl p r' _ HW.out v hcell rfl _ _ _ rfl HC.out HS.out ?_; intro ad n cp w1 hm; obtain ⟨⟨vv, hc1⟩, hf1, hl1, hw1, hk1⟩ := hm; have HW1 := hI hw1; have HK1 := hI hk1; clear hw1 hk1 hcell)
   go_roundw
   case rel =>
    refine ⟨y / 128, pre ++ [UInt8.ofNat (y.toNat % 128 + 128)], _, by omega, by omega, rfl, ?_, by rw [← List.append_assoc]; exact HW1.out, HK.out.trans HK1.out⟩
    rw [HU.out, HB.out, show (y / 128).toNat = y.toNat / 128 by omega]
    simp
   case measure => simp [intOf]; omega
  ·have HB := hI (show numB y.toNat = [UInt8.ofNat y.toNat] from numB_lt (by omega))
   have HC := hI (show Value.int .u8 y = u8v (UInt8.ofNat y.toNat) by
     unfold u8v
     rw [toNat_ofNat (by omega)]
     congr 1
     omega)
   go_wp2_with (at_builtin; refine wpList_wr_push wr rfl _ _ rfl p r' _ HW.out v hcell rfl _ _ _ rfl HC.out HS.out ?_; intro ad n cp w1 hm; obtain ⟨⟨vv, hc1⟩, hf1, hl1, hw1, hk1⟩ := hm; have HW1 := hI hw1; have HK1 := hI hk1; clear hw1 hk1 hcell)
   go_end0
   refine ⟨rfl, _, ?_, HK.out.trans HK1.out⟩
   have := HW1.out
   rw [List.append_assoc, ← HB.out, ← HU.out] at this
   exact this
end
end
section
open Go.RowKit Go.ChangeMaps
theorem setCell_block {w : World} {b : Nat} {C : Array Value} {T : TypeId} (hb : w.heap[b]? = some (.cells C T (0, 0))) (i : Nat) (v : Value) : w.setCell ⟨b, i, none⟩ v = setBlock w b (.cells (C.setIfInBounds i v) T (0, 0)) := by
 have hlt := heap_lt hb
 unfold World.setCell setBlock
 congr 1
 apply Array.ext
 ·simp
 ·intro j h1 h2
  simp only [Array.size_modify] at h1
  rw [Array.getElem_modify, Array.getElem_setIfInBounds h1]
  split
  ·rename_i e
   subst e
   have : w.heap[b] = .cells C T (0, 0) := by rw [Array.getElem?_eq_getElem h1] at hb; exact Option.some.inj hb
   rw [this]
   simp
  ·rfl
theorem setBlock_at {w : World} {b : Nat} (h : b < w.heap.size) (o : Obj) : (setBlock w b o).heap[b]? = some o := by
 simp [setBlock, h]
theorem blk_set {w : World} {b : Nat} {C : Array Value} {T : TypeId} (hb : w.heap[b]? = some (.cells C T (0, 0))) (i : Nat) (v : Value) : (w.setCell ⟨b, i, none⟩ v).heap[b]? = some (.cells (C.setIfInBounds i v) T (0, 0)) := by
 rw [setCell_block hb]
 exact setBlock_at (heap_lt hb) _
theorem bC {w : World} {b : Nat} {C : Array Value} {T : TypeId} {fr : Nat × Nat} (hb : w.heap[b]? = some (.cells C T fr)) (i : Nat) {v : Value} (hv : C[i]? = some v) : w.cell? ⟨b, i, none⟩ = some v := by
 simp [World.cell?, hb, hv]
theorem bF {w : World} {b : Nat} {C : Array Value} {T : TypeId} (hb : w.heap[b]? = some (.cells C T (0, 0))) (i : Nat) : w.frozen? ⟨b, i, none⟩ = false := by
 simp [World.frozen?, hb]
theorem bO {w : World} {b : Nat} {o : Obj} (hb : w.heap[b]? = some o) {a : Addr} (h : b ≠ a.block) (v : Value) : (w.setCell a v).heap[b]? = some o := (Below.heap_setCell _ _ _ _ h).trans hb
section
variable {P : Program} (w : World) {ops : Array Oper} {rest : List Oper} {o : Oper} {a : Act} {Q : Exit → Act → World → Prop}
end
end
section
open Go.RowKit
theorem sl_string {w : World} {a : Option Addr} {n cap : Nat} {l : List UInt8} (h : Sl u8v w (.slice a n cap) l) {src : TypeId} (hs : Tryz.prog.underlying src = some (.slice 5)) :
  (convert src 9 (.slice a n cap)).run Tryz.prog w = .ok (.string ⟨l.toArray⟩) w := by
 obtain ⟨a', cap', he, h1, h2, h3⟩ := h
 cases he
 rcases h3 with ⟨rfl, rfl⟩ | ⟨b, o, rfl, hb, hc⟩
 ·have hl : l = [] := List.eq_nil_of_length_eq_zero (by omega)
  subst hl
  exact run_convert_bytes_nil w src 5 hs Tryz.underlying5 _ _ 9 Tryz.underlying9
 ·refine run_convert_bytes_back w src 9 5 ⟨b, o, none⟩ cap l hs Tryz.underlying5 Tryz.underlying9 fun j hj => ?_
  rw [addr_add]
  exact hc j _ (List.getElem?_eq_getElem hj)
theorem Sl.none_nil {α : Type} {enc : α → Value} {w : World} {n cap : Nat} {l : List α} (h : Sl enc w (.slice none n cap) l) : l = [] ∧ n = 0 ∧ cap = 0 := by
 obtain ⟨a', cap', he, h1, h2, h3⟩ := h
 cases he
 rcases h3 with ⟨_, rfl⟩ | ⟨b', o', he, _⟩
 ·exact ⟨List.eq_nil_of_length_eq_zero (by omega), by omega, rfl⟩
 ·cases he
theorem Sl.some_row {α : Type} {enc : α → Value} {w : World} {x : Addr} {n cap : Nat} {l : List α} (h : Sl enc w (.slice (some x) n cap) l) : ∃ b o, x = ⟨b, o, none⟩ ∧ b < w.heap.size ∧ n = l.length ∧ n ≤ cap ∧ cap ≤ maxLen := by
 obtain ⟨a', cap', he, h1, h2, h3⟩ := h
 cases he
 rcases h3 with ⟨h, _⟩ | ⟨b', o', he, hb, _⟩
 ·cases h
 ·cases he; exact ⟨b', o', rfl, hb, rfl, h1, h2⟩
end
section
open Go.RowKit
theorem u8v_one (c : UInt8) : (u8v c).oneCell' = true := rfl
section
variable (w : World) (p : Nat) (r : Option Nat) (bs : List UInt8) (h : Wr w p r bs)
include h
end
def Cloned (w : World) (l : List UInt8) (e : Ending) (w' : World) : Prop :=
 ∃ v, e = .returned v ∧ Below w.heap.size w w' ∧ Sl u8v w' v l ∧ w'.ownsRow 0 5 1 v l.length (l.map u8v) ∧ ∀ k, v.ownBlock = some k → w.heap.size ≤ k
set_option maxRecDepth 100000 in
theorem clone_any (w : World) (ad : Option Addr) (n cp : Nat) (l : List UInt8) (hu : Sl u8v w (.slice ad n cp) l) (hl : l.length ≤ 70368744177664) :
  Calls Tryz.prog 56 #[.slice ad n cp] w (Cloned w l) := by
 have HU := hI hu
 have HL := hI hl
 clear hl
 cases ad with
 | none =>
  obtain ⟨rfl, rfl, rfl⟩ := hu.none_nil
  clear hu
  have hnil := fun w => Lib.run_eql_slice_nil (P := Tryz.prog) w 38 5 none 0 0 0 0 Tryz.underlying38
  go_enter Tryz.func56, Tryz.ntmps56
  go_wp2
  go_ret
  exact ⟨_, rfl, bR, Sl.nil _ _, World.ownsRow_nil _ _ _ _, fun k hk => by simp [Value.ownBlock] at hk⟩
 | some x =>
  obtain ⟨b, o, rfl, hb, rfl, hn, hc⟩ := hu.some_row
  clear hu hc hn
  have hnil := fun w => Lib.run_eql_slice_nil (P := Tryz.prog) w 38 5 (some ⟨b, o, none⟩) l.length cp 0 0 Tryz.underlying38
  obtain ⟨i0, hi, hz0, hz1, hz2⟩ := info_parts info_u8
  go_enter Tryz.func56, Tryz.ntmps56
  have how : (w.alloc (.cells #[] 5)).ownsRow 0 5 1 (.slice (some ⟨w.heap.size, 0, none⟩) 0 0) 0 [] := World.ownsRow_made w #[] 0 (Nat.zero_le _) (Nat.zero_le _) rfl
  have hus : Sl u8v (w.alloc (.cells #[] 5)) (.slice (some ⟨b, o, none⟩) l.length cp) l := HU.out.alloc _
  have HM0 := hI (show 0 + l.length ≤ maxLen by unfold maxLen; have := HL.out; omega)
  have HM1 := hI (show (0 + l.length) * 1 ≤ 140737488355328 by have := HL.out; omega)
  have HO0 := hI how
  have HU0 := hI hus
  clear how hus
  go_wp2_with (at_builtin; refine wpList_append_sl (w.alloc (.cells #[] 5)) rfl _ _ _ rfl 5 i0 (.int .u8 0) 1 Tryz.underlying38 hi hz0 hz1 hz2 rfl (.slice (some ⟨w.heap.size, 0, none⟩) 0 0) 0 [] rfl HO0.out (.slice (some ⟨b, o, none⟩) l.length cp) l rfl HU0.out u8v_one HM0.out HM1.out ?_; intro v' w1 hown hg hrow; have HO := hI hown; have HG := hI hg; have HR := hI hrow; clear hown hg hrow)
  go_ret
  have hown : w1.ownsRow 0 5 1 v' l.length (l.map u8v) := by have := HO.out; rwa [Nat.zero_add, List.nil_append] at this
  refine ⟨v', rfl, ?_, owns_sl hown, hown, fun k hk => ?_⟩
  ·have h1 : Keeps (fun k => w.heap.size ≤ k) w w1 := ((Keeps.refl _ w).alloc _).trans (gK HG.out (fun k hk => by simp [Value.ownBlock] at hk; omega))
   exact h1.below nL (fun k hk => hk)
  ·rcases HR.out with h1 | ⟨j, h1, h2, _⟩
   ·rw [h1] at hk; simp [Value.ownBlock] at hk; omega
   ·rw [h1] at hk; cases hk; simp at h2; omega
section
variable (w : World) (p : Nat) (r : Option Nat) (bs : List UInt8) (h : Wr w p r bs)
include h
theorem wbytes_any (hl : bs.length ≤ 70368744177664) : Calls Tryz.prog 85 #[.pointer (some ⟨p, 0, none⟩)] w (Cloned w bs) := by
 obtain ⟨v, hp, _, _, hown⟩ := h
 have hcell := cell_of_one hp
 have hs := owns_sl hown
 obtain ⟨ad, cp, rfl, _⟩ := id hs
 have hcl := clone_any w ad _ cp bs hs hl
 clear hp hown hs hl
 go_enter Tryz.func85, Tryz.ntmps85
 go_wp2_with fail
 refine hcl.mono ?_
 rintro e w1 ⟨u, rfl, hr⟩
 go_wp2_with fail
 go_ret
 exact ⟨_, rfl, hr⟩
end
end
section
open Go.RowKit
def RdAt (w : World) (p : Nat) (s : RS) : Prop :=
 ∃ v, w.heap[p]? = some (.cells #[v, .int .i64 s.e] 161 (0, 0)) ∧ (∀ k, v.ownBlock = some k → k < p) ∧ Sl u8v w v s.b ∧ s.ok
theorem RdAt.lt {w : World} {p : Nat} {s : RS} (h : RdAt w p s) : p < w.heap.size := by
 obtain ⟨v, h, _⟩ := h
 exact heap_lt h
theorem RdAt.kept {S : Nat → Prop} {w w' : World} {p : Nat} {s : RS} (h : RdAt w p s) (hk : Keeps S w w') (hS : ∀ k, k ≤ p → ¬ S k) : RdAt w' p s := by
 obtain ⟨v, h1, h2, h3, h4⟩ := h
 exact ⟨v, hk.heap (hS p nL) h1, h2, h3.kept hk fun k hv => hS k (Nat.le_of_lt (h2 k hv)), h4⟩
def RetR (v : Value) (p : Nat) (s : RS) (w : World) (e : Ending) (w' : World) : Prop := e = .returned v ∧ RdAt w' p s ∧ Keeps (fun k => k = p) w w'
section
variable (w : World) (p : Nat) (s : RS) (h : RdAt w p s)
include h
theorem err_any : Calls Tryz.prog 111 #[.pointer (some ⟨p, 0, none⟩)] w (Ret (.int .i64 s.e) w) := by
 obtain ⟨v, hp, _⟩ := h
 have c1 := bC hp 1 rfl
 clear hp
 go_enter Tryz.func111, Tryz.ntmps111
 go_wp2
 go_ret
 exact Ret.mk rfl
theorem fail_any (e : Int) (he : e ≠ 0) : Calls Tryz.prog 113 #[.pointer (some ⟨p, 0, none⟩), .int .i64 e] w (RetR (.tuple #[]) p (s.fail e) w) := by
 have her := err_any w p s h
 have H := hI h
 obtain ⟨v, hp, hne, hs, hok⟩ := h
 have c0 := bC hp 0 rfl
 have c1 := bC hp 1 rfl
 have f0 := bF hp 0
 have f1 := bF hp 1
 have HP := hI hp
 have HE := hI he
 clear hp hs hok he
 cases h0 : (s.e == 0)
 ·have e1 : s.fail e = s := by unfold RS.fail; rw [if_neg (by simpa using h0)]
  rw [e1]
  clear e1
  go_enter Tryz.func113, Tryz.ntmps113
  go_wp2_with (go_at_call 111; refine her.mono ?_; rintro e w' ⟨rfl, rfl⟩)
  go_end0
  exact ⟨rfl, H.out, Keeps.refl _ _⟩
 ·have e1 : s.fail e = ⟨[], e⟩ := by unfold RS.fail; rw [if_pos (by simpa using h0)]
  rw [e1]
  clear e1
  go_enter Tryz.func113, Tryz.ntmps113
  go_wp2_with (go_at_call 111; refine her.mono ?_; rintro e w' ⟨rfl, rfl⟩)
  go_end0
  refine ⟨rfl, ⟨.slice none 0 0, blk_set (blk_set HP.out 1 _) 0 _, by simp [Value.ownBlock], Sl.nil _ _, fun _ => rfl⟩, ((Keeps.refl (fun k => k = p) w).setCell (.inl rfl) _).setCell (.inl rfl) _⟩
theorem one_short (h0 : s = ⟨[], 0⟩) : Calls Tryz.prog 112 #[.pointer (some ⟨p, 0, none⟩)] w (RetR (.int .u8 0) p ⟨[], 4⟩ w) := by
 subst h0
 have her := err_any w p _ h
 have hfl : Calls Tryz.prog 113 #[.pointer (some ⟨p, 0, none⟩), .int .i64 4] w (RetR (.tuple #[]) p ⟨[], 4⟩ w) := fail_any w p _ h 4 (by decide)
 obtain ⟨v, hp, hne, ⟨a, cap, rfl, hl, hm, hx⟩, hok⟩ := h
 have c0 := bC hp 0 rfl
 clear hp hx hok hne
 simp only [List.length_nil] at *
 go_enter Tryz.func112, Tryz.ntmps112
 go_wp2_with (go_at_call 111; refine her.mono ?_; rintro e w' ⟨rfl, rfl⟩)
 refine hfl.mono ?_
 rintro e w1 ⟨rfl, h1, hk⟩
 have her1 := err_any w1 p _ h1
 clear her hfl c0
 go_wp2_with (go_at_call 111; refine her1.mono ?_; rintro e w' ⟨rfl, rfl⟩)
 go_ret
 exact ⟨rfl, h1, hk⟩
theorem one_yes (c : UInt8) (r : List UInt8) (h0 : s = ⟨c :: r, 0⟩) : Calls Tryz.prog 112 #[.pointer (some ⟨p, 0, none⟩)] w (RetR (.int .u8 c.toNat) p ⟨r, 0⟩ w) := by
 subst h0
 have her := err_any w p _ h
 obtain ⟨v, hp, hne, ⟨a, cap, rfl, hl, hm, hx⟩, hok⟩ := h
 have c0 := bC hp 0 rfl
 have f0 := bF hp 0
 rcases hx with ⟨rfl, rfl⟩ | ⟨b, o, rfl, hb, hc⟩
 ·simp at hl
 have hcb : w.cell? ⟨b, o, none⟩ = some (.int .u8 (c.toNat : Int)) := hc 0 c rfl
 clear hok
 have HC := hI hc
 have HP := hI hp
 have HE := hI (show b < p from hne b (by simp [Value.ownBlock]))
 have HL := hI hl
 clear hc hp hne
 simp only [List.length_cons] at *
 unfold maxLen at hm
 by_cases h1 : cap = 1
 ·subst h1
  go_enter Tryz.func112, Tryz.ntmps112
  go_wp2_with (go_at_call 111; refine her.mono ?_; rintro e w' ⟨rfl, rfl⟩)
  go_ret
  have hr : r = [] := List.eq_nil_of_length_eq_zero (by have := HL.out; omega)
  subst hr
  refine ⟨rfl, ⟨_, blk_set HP.out 0 _, fun k hk => by simp [Value.ownBlock] at hk; have := HE.out; omega, ?_, fun h => absurd rfl h⟩, (Keeps.refl (fun k => k = p) w).setCell (.inl rfl) _⟩
  exact ⟨_, 0, rfl, by simp, Nat.zero_le _, .inr ⟨b, o, rfl, by simpa [World.setCell] using hb, fun i c hi => by simp at hi⟩⟩
 ·go_enter Tryz.func112, Tryz.ntmps112
  go_wp2_with (go_at_call 111; refine her.mono ?_; rintro e w' ⟨rfl, rfl⟩)
  go_ret
  refine ⟨rfl, ⟨_, blk_set HP.out 0 _, fun k hk => by simp [Value.ownBlock] at hk; have := HE.out; omega, ?_, fun h => absurd rfl h⟩, (Keeps.refl (fun k => k = p) w).setCell (.inl rfl) _⟩
  have hs : Sl u8v w (.slice (some ⟨b, o + 1, none⟩) r.length (cap - 1)) r :=
   ⟨_, _, rfl, by have := HL.out; omega, by unfold maxLen; omega, .inr ⟨b, o + 1, rfl, hb, fun i c hi => by
     have := HC.out (i + 1) c (by simpa using hi)
     rw [Nat.add_assoc, Nat.add_comm 1 i]
     exact this⟩⟩
  exact hs.setCell (by simp only [Value.ownBlock, ne_eq, Option.some.injEq]; have := HE.out; omega) _
end
end
end Go.Proofs.YtdjooojpcepleaaGreat

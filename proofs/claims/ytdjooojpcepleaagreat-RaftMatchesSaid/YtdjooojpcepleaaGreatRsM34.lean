/- append onto a row that lies anywhere in a block (its head was cut off), of a slice that may be nil. -/
import Derived.Test.YtdjooojpcepleaaGreatRsM33

namespace Go.Proofs.YtdjooojpcepleaaGreat
section
open Go.RowKit
def RowO (w : World) (e : TypeId) (size : Nat) (v : Value) (n : Nat) (xs : List Value) : Prop :=
 xs.length = n * size ∧ ((v = .slice none 0 0 ∧ n = 0) ∨ ∃ g off cap cur, v = .slice (some ⟨g, off, none⟩) n cap ∧ w.heap[g]? = some (.cells cur e (0, 0)) ∧ n ≤ cap ∧ cap ≤ maxLen ∧ off + cap * size ≤ cur.size ∧ (cur.toList.drop off).take (n * size) = xs)
theorem RowO.of {w : World} {e : TypeId} {size : Nat} {v : Value} {n : Nat} {xs : List Value} {b : Nat} (h : w.ownsRow b e size v n xs) : RowO w e size v n xs := by
 refine ⟨h.1, ?_⟩
 rcases h.2 with h | ⟨g, cap, cur, rfl, _, hg, h1, h2, h3, h4⟩
 ·exact .inl h
 ·exact .inr ⟨g, 0, cap, cur, rfl, hg, h1, h2, by omega, by rw [List.drop_zero]; exact h4⟩
theorem RowO.kept {w w' : World} {S : Nat → Prop} {e : TypeId} {size : Nat} {v : Value} {n : Nat} {xs : List Value} (h : RowO w e size v n xs) (hk : Keeps S w w') (hS : ∀ k, v.ownBlock = some k → ¬ S k) : RowO w' e size v n xs := by
 obtain ⟨h1, h | ⟨g, off, cap, cur, rfl, hg, h2⟩⟩ := h
 ·exact ⟨h1, .inl h⟩
 ·exact ⟨h1, .inr ⟨g, off, cap, cur, rfl, hk.heap (hS g rfl) hg, h2⟩⟩
theorem RowO.lt {w : World} {e : TypeId} {size : Nat} {v : Value} {n : Nat} {xs : List Value} (h : RowO w e size v n xs) : ∀ k, v.ownBlock = some k → k < w.heap.size := by
 obtain ⟨h1, ⟨rfl, _⟩ | ⟨g, off, cap, cur, rfl, hg, h2⟩⟩ := h
 ·intro k hk; simp [Value.ownBlock] at hk
 ·intro k hk; simp [Value.ownBlock] at hk; subst hk; exact heap_lt hg
theorem RowO.nil (w : World) (e : TypeId) (size : Nat) : RowO w e size (.slice none 0 0) 0 [] := ⟨by simp, .inl ⟨rfl, rfl⟩⟩
theorem RowO.form {w : World} {e : TypeId} {size : Nat} {v : Value} {n : Nat} {xs : List Value} (h : RowO w e size v n xs) : ∃ a cap, v = .slice a n cap ∧ n ≤ cap ∧ cap ≤ maxLen ∧ (a = none → n = 0 ∧ cap = 0) := by
 obtain ⟨_, ⟨rfl, rfl⟩ | ⟨g, off, cap, cur, rfl, _, h1, h2, _⟩⟩ := h
 ·exact ⟨none, 0, rfl, Nat.le_refl _, Nat.zero_le _, fun _ => ⟨rfl, rfl⟩⟩
 ·exact ⟨_, _, rfl, h1, h2, fun e => by cases e⟩
theorem add_lit' (g o j : Nat) : (⟨g, o, none⟩ : Addr).add j = ⟨g, o + j, none⟩ := by simp [Addr.add_lit]
theorem RowO.cell {w : World} {e : TypeId} {size : Nat} {v : Value} {n : Nat} {xs : List Value} (h : RowO w e size v n xs) {g off cap : Nat} (hv : v = .slice (some ⟨g, off, none⟩) n cap) {j : Nat} {u : Value} (hj : xs[j]? = some u) : w.cell? ⟨g, off + j, none⟩ = some u := by
 obtain ⟨h1, ⟨rfl, rfl⟩ | ⟨g', off', cap', cur, rfl, hg, h2, h3, h4, h5⟩⟩ := h
 ·cases hv
 ·injection hv with v1 v2 v3
  injection v1 with v1
  injection v1 with v1 v4 v5
  subst v1 v4
  refine bC hg _ ?_
  rw [← h5, List.getElem?_take] at hj
  split at hj
  ·rw [List.getElem?_drop] at hj
   simpa using hj
  ·cases hj
def SrcO (w : World) (size : Nat) (xv : Value) (m : Nat) (news : List Value) : Prop :=
 ∃ xo c, xv = .slice xo m c ∧ news.length = m * size ∧ (xo = none → m = 0) ∧ (∀ a, xo = some a → ∀ j u, news[j]? = some u → w.cell? (a.add j) = some u) ∧ ∀ u ∈ news, u.oneCell' = true
theorem run_append_O {P : Program} (w : World) (t ty : TypeId) (e : TypeId) (i : TypeInfo) (z : Value) (size bytes : Nat) (ht : P.underlying t = some (.slice e)) (hi : P.info? e = some i) (hz : i.zero = some z)
  (hsize : i.size = size) (hby : i.bytes = bytes) (hzs : z.cells.size = size) (hsz : 0 < size)
  (v : Value) (n : Nat) (xs : List Value) (hown : RowO w e size v n xs) (xv : Value) (m : Nat) (news : List Value) (hx : SrcO w size xv m news)
  (h63 : n + m ≤ maxLen) (hbytes : (n + m) * bytes ≤ 140737488355328) (H : Nat) (hH : w.heap.size = H) :
  ∃ v' w', (Builtin.append_ #[t, t] ty #[v, xv]).run P w = .ok v' w' ∧ RowO w' e size v' (n + m) (xs ++ news) ∧ w.grownBy w' v.ownBlock ∧ (∀ k, v'.ownBlock = some k → v.ownBlock = some k ∨ H ≤ k) := by
 obtain ⟨xo, c, rfl, hl, hnone, hcells, h1⟩ := hx
 rcases Nat.eq_zero_or_pos m with rfl | hm
 ·obtain rfl : news = [] := List.eq_nil_of_length_eq_zero (by simpa using hl)
  refine ⟨v, w, ?_, by simpa using hown, ⟨rfl, rfl, rfl, Nat.le_refl _, fun _ _ _ => rfl⟩, fun k hk => .inl hk⟩
  obtain ⟨_, ⟨rfl, rfl⟩ | ⟨g, off, cap, cur, rfl, hg, hnc, _⟩⟩ := hown
  ·cases xo <;> simp [Builtin.append_, run_underlying ht, sizeOf, typeInfo, hi, Builtin.lenOf, Builtin.firstCells, loadCells, loadCellsFrom]
  ·cases xo <;> simp [Builtin.append_, run_underlying ht, sizeOf, typeInfo, hi, Builtin.lenOf, Builtin.firstCells, loadCells, loadCellsFrom, hnc, storeCells]
 ·obtain ⟨ad, rfl⟩ : ∃ ad, xo = some ad := by
   cases xo with
   | none => have := hnone rfl; omega
   | some a => exact ⟨a, rfl⟩
  have hnews := hcells ad rfl
  obtain ⟨hxs, ⟨rfl, rfl⟩ | ⟨g, off, cap, cur, rfl, hg, hnc, hcm, hfit, htake⟩⟩ := hown
  ·obtain rfl : xs = [] := List.eq_nil_of_length_eq_zero (by simpa using hxs)
   obtain ⟨g, cap, w', hr, h2, h3, h4, _⟩ := Go.run_append_lies (P := P) w t ty 0 e i z size bytes ht hi hz hsize hby hzs hsz _ 0 [] (World.ownsRow_nil _ _ _ _) ad m c news hl hnews h1 hm h63 hbytes (Nat.zero_le _) H hH
   exact ⟨_, w', hr, RowO.of h2, h3, fun k hk => by simp [Value.ownBlock] at hk; rw [← hk]; exact h4.imp id fun e => Nat.le_of_eq e.symm⟩
  ·by_cases hroom : n + m ≤ cap
   ·subst hsize
    have hnm : n * i.size + m * i.size ≤ cap * i.size := by rw [← Nat.add_mul]; exact Nat.mul_le_mul_right _ hroom
    have hf := run_firstCells_some (P := P) w i.size m ad m c news hl hnews
    have hst := run_storeCells_at P g (off + n * i.size) e news 0 cur w hg (by rw [hl]; omega) h1
    simp only [Nat.add_zero] at hst
    refine ⟨_, _, by simp [Builtin.append_, run_underlying ht, sizeOf, typeInfo, hi, Builtin.lenOf, hroom, hf, Addr.add_lit, hst]; exact rfl, ⟨?_, .inr ⟨g, off, cap, _, rfl, setRow_heap w g cur _ e _ hg, hroom, hcm, ?_, ?_⟩⟩, ⟨rfl, rfl, rfl, by simp, fun k _ hk => setRow_other w g k _ (fun e => hk (by simp [Value.ownBlock, e]))⟩, fun k hk => .inl hk⟩
    ·rw [List.length_append, hxs, hl, Nat.add_mul]
    ·simp only [List.size_toArray, List.length_append, List.length_take, List.length_drop, Array.length_toList]
     omega
    ·have hcl : cur.toList.length = cur.size := by simp
     have e1 : (cur.toList.take (off + n * i.size)).drop off = xs := by
      rw [← htake, List.drop_take]
      congr 1
      omega
     have e2 : (cur.toList.take (off + n * i.size)).length = off + n * i.size := by rw [List.length_take, hcl]; omega
     simp only []
     rw [List.drop_append_of_le_length (by rw [e2]; omega), e1, ← List.append_assoc, List.take_left' (by rw [List.length_append, hxs, hl, Nat.add_mul])]
   ·obtain ⟨v', w', hr, h2, h3⟩ := run_append_arg_grows (P := P) w t ty e i z size bytes ht hi hz hsize hby hzs hsz ⟨g, off, none⟩ n cap xs hxs (fun j u hj => by
      rw [add_lit']
      refine bC hg _ ?_
      rw [← htake, List.getElem?_take] at hj
      split at hj
      · rw [List.getElem?_drop] at hj; simpa using hj
      · cases hj) ad m c news hl hnews (by omega) h63 hbytes
    refine ⟨v', w', hr, RowO.of h2, ⟨h3.os, h3.tape, h3.output, h3.size, fun k hk _ => h3.block k hk (by simp)⟩, fun k hk => .inr ?_⟩
    rcases h2.2 with ⟨_, h4⟩ | ⟨g', cap', cur', rfl, h5, h6, _⟩
    ·omega
    ·simp [Value.ownBlock] at hk
     omega
theorem wp_append_O {P : Program} (w : World) {o : Oper} {a : Act} {K : Act → World → Prop} {Q : Exit → Act → World → Prop} (s x : Operand) (t : TypeId)
  (ho : o.op = .call { callee := .builtin .append, args := #[s, x], argTypes := #[t, t] })
  (e : TypeId) (i : TypeInfo) (z : Value) (size bytes : Nat) (ht : P.underlying t = some (.slice e)) (hi : P.info? e = some i) (hz : i.zero = some z)
  (hsize : i.size = size) (hby : i.bytes = bytes) (hzs : z.cells.size = size) (hsz : 0 < size)
  (v : Value) (n : Nat) (xs : List Value) (hs : a.eval s = v) (hown : RowO w e size v n xs) (xv : Value) (m : Nat) (news : List Value) (hxv : a.eval x = xv) (hx : SrcO w size xv m news)
  (h63 : n + m ≤ maxLen) (hbytes : (n + m) * bytes ≤ 140737488355328) (H : Nat) (hH : w.heap.size = H)
  (h : ∀ va cap w', RowO w' e size (.slice va (n + m) cap) (n + m) (xs ++ news) → w.grownBy w' v.ownBlock → (∀ k, (Value.slice va (n + m) cap).ownBlock = some k → v.ownBlock = some k ∨ H ≤ k) → K (a.put o.dst (.slice va (n + m) cap)) w') : o.wp P a w K Q := by
 obtain ⟨v', w', hr, h2, h3, h4⟩ := run_append_O (P := P) w t o.type e i z size bytes ht hi hz hsize hby hzs hsz v n xs hown xv m news hx h63 hbytes H hH
 obtain ⟨va, cap, rfl, _⟩ := h2.form
 unfold Oper.wp execOp
 simp only [ho, resolve, invoke, builtin, Sem.run_bind, Sem.run_pure, Result.andThen_ok, List.map_toArray, List.map_cons, List.map_nil, hs, hxv, hr]
 exact h va cap w' h2 h3 h4
theorem step_append_O {P : Program} (w : World) {ops : Array Oper} {o : Oper} {a : Act} {K : Act → World → Prop} {Q : Exit → Act → World → Prop} {E : Prop} (hgd : o.guard = none) (s x : Operand) (t : TypeId)
  (ho : o.op = .call { callee := .builtin .append, args := #[s, x], argTypes := #[t, t] })
  (e : TypeId) (i : TypeInfo) (z : Value) (size bytes : Nat) (ht : P.underlying t = some (.slice e)) (hi : P.info? e = some i) (hz : i.zero = some z)
  (hsize : i.size = size) (hby : i.bytes = bytes) (hzs : z.cells.size = size) (hsz : 0 < size)
  (v : Value) (n : Nat) (xs : List Value) (hs : a.eval s = v) (hown : RowO w e size v n xs) (xv : Value) (m : Nat) (news : List Value) (hxv : a.eval x = xv) (hx : SrcO w size xv m news)
  (h63 : n + m ≤ maxLen) (hbytes : (n + m) * bytes ≤ 140737488355328) (H : Nat) (hH : w.heap.size = H)
  (h : ∀ va cap w', RowO w' e size (.slice va (n + m) cap) (n + m) (xs ++ news) → w.grownBy w' v.ownBlock → (∀ k, (Value.slice va (n + m) cap).ownBlock = some k → v.ownBlock = some k ∨ H ≤ k) → K (a.put o.dst (.slice va (n + m) cap)) w') :
  if Region.wanted o (yielded ops a.tmps) = true then Oper.wp P o a w K Q else E := by
 have hw : Region.wanted o (yielded ops a.tmps) = true := by simp [Region.wanted, hgd]
 rw [if_pos hw]
 exact wp_append_O w s x t ho e i z size bytes ht hi hz hsize hby hzs hsz v n xs hs hown xv m news hxv hx h63 hbytes H hH h
end
section
open Go.RowKit
structure Cl where
 s : Nat
 wd : Nat
 nb : Nat
 cb : Nat
 lm : Nat
 am : Nat
 ncap : Nat
 ccap : Nat
 ma : Option Addr
 mcap : Nat
 P : Nat → Nat
 F : Nat → Nat → Prop
 x : Nat → NodeS
 nv : Value
 net : List Msg
def memS (s : Nat) : List Int := (List.range s).map fun i : Nat => (i : Int) + 1
theorem memS_len (s : Nat) : (memS s).length = s := by simp [memS]
def Cl.cells (c : Cl) : Array Value := #[.slice (some ⟨c.nb, 0, none⟩) c.s c.ncap, .slice (some ⟨c.cb, 0, none⟩) c.s c.ccap, c.nv, .map (some c.lm), .map (some c.am)]
def Cl.O (c : Cl) (k : Nat) : Prop := k = c.wd ∨ k = c.nb ∨ k = c.cb ∨ c.nv.ownBlock = some k ∨ k = c.lm ∨ k = c.am
def Cl.W (c : Cl) (k : Nat) : Prop := k = c.wd ∨ k = c.nb ∨ c.nv.ownBlock = some k ∨ ∃ i, i < c.s ∧ c.F i k
structure ClAt (w : World) (M : Nat → Prop) (c : Cl) : Prop where
 box : w.heap[c.wd]? = some (.cells c.cells 36 (0, 0))
 nodes : ∃ cur, w.heap[c.nb]? = some (.cells cur 44 (0, 0)) ∧ ∀ i, i < c.s → cur[i]? = some (.pointer (some ⟨c.P i, 0, none⟩))
 cfg : ∃ cur fr, w.heap[c.cb]? = some (.cells cur 64 fr) ∧ ∀ i, i < c.s → cur[i * 4]? = some (.int .i64 ((i : Int) + 1)) ∧ cur[i * 4 + 1]? = some (.slice c.ma c.s c.mcap) ∧ cur[i * 4 + 2]? = some (.int .i64 4) ∧ cur[i * 4 + 3]? = some (.int .i64 2)
 mem : Sl intv w (.slice c.ma c.s c.mcap) (memS c.s)
 imm : im M (.slice c.ma c.s c.mcap)
 node : ∀ i, i < c.s → NodeAt w M (c.F i) (c.P i) (c.x i)
 apart : ∀ i j k, i < c.s → j < c.s → c.F i k → c.F j k → i = j
 net : RowO w 54 11 c.nv c.net.length (flatM c.net)
 msgs : ∀ m ∈ c.net, MsgOk w M m
 own : ∀ k, c.O k → M k
 fo : ∀ i k, i < c.s → c.F i k → ¬ c.O k
 d0 : c.wd ≠ c.nb ∧ c.wd ≠ c.cb ∧ c.nb ≠ c.cb ∧ c.lm ≠ c.wd ∧ c.lm ≠ c.nb ∧ c.lm ≠ c.cb ∧ c.am ≠ c.wd ∧ c.am ≠ c.nb ∧ c.am ≠ c.cb ∧ c.lm ≠ c.am
 dn : ∀ k, c.nv.ownBlock = some k → k ≠ c.wd ∧ k ≠ c.nb ∧ k ≠ c.cb ∧ k ≠ c.lm ∧ k ≠ c.am
 lt : ∀ k, M k → k < w.heap.size
 ids : ∀ i, i < c.s → (c.x i).id = (i : Int) + 1
 s1 : 1 ≤ c.s
 s7 : c.s ≤ 7
 nc : c.s ≤ c.ncap ∧ c.ncap ≤ maxLen ∧ c.s ≤ c.ccap ∧ c.ccap ≤ maxLen
structure SameC (c d : Cl) : Prop where
 s : d.s = c.s
 wd : d.wd = c.wd
 nb : d.nb = c.nb
 cb : d.cb = c.cb
 lm : d.lm = c.lm
 am : d.am = c.am
theorem SameC.refl (c : Cl) : SameC c c := ⟨rfl, rfl, rfl, rfl, rfl, rfl⟩
theorem SameC.trans {c d e : Cl} (h : SameC c d) (k : SameC d e) : SameC c e := ⟨k.s.trans h.s, k.wd.trans h.wd, k.nb.trans h.nb, k.cb.trans h.cb, k.lm.trans h.lm, k.am.trans h.am⟩
structure Cn (w0 : World) (M0 : Nat → Prop) (c0 : Cl) (w : World) (M : Nat → Prop) (c : Cl) : Prop where
 at_ : ClAt w M c
 same : SameC c0 c
 keeps : Keeps c0.W w0 w
 mono : ∀ k, M0 k → M k
 new : ∀ k, M k → M0 k ∨ w0.heap.size ≤ k
 wnew : ∀ k, c.W k → c0.W k ∨ w0.heap.size ≤ k
section
variable {w w' w0 : World} {M M' M0 : Nat → Prop} {c d c0 : Cl}
theorem ClAt.wM (h : ClAt w M c) : ∀ k, c.W k → M k := fun k hk => by
 rcases hk with rfl | rfl | hk | ⟨i, hi, hk⟩
 ·exact h.own _ (.inl rfl)
 ·exact h.own _ (.inr (.inl rfl))
 ·exact h.own _ (.inr (.inr (.inr (.inl hk))))
 ·obtain ⟨S, hn⟩ := h.node i hi
  exact hn.fm k hk
theorem Cn.start (h : ClAt w M c) : Cn w M c w M c := ⟨h, SameC.refl c, Keeps.refl _ _, fun _ h => h, fun _ h => .inl h, fun _ h => .inl h⟩
theorem Cn.trans (h : Cn w0 M0 c0 w M c) (k : Cn w M c w' M' d) : Cn w0 M0 c0 w' M' d := by
 have hz := h.keeps.size
 refine ⟨k.at_, h.same.trans k.same, ⟨k.keeps.os.trans h.keeps.os, k.keeps.tape.trans h.keeps.tape, k.keeps.output.trans h.keeps.output, Nat.le_trans hz k.keeps.size, fun i hi hn => ?_⟩, fun i hi => k.mono i (h.mono i hi), fun i hi => ?_, fun i hi => ?_⟩
 ·exact (k.keeps.block i (Nat.lt_of_lt_of_le hi hz) fun e => (h.wnew i e).elim hn fun e => by omega).trans (h.keeps.block i hi hn)
 ·rcases k.new i hi with e | e
  ·exact h.new i e
  ·right; omega
 ·rcases k.wnew i hi with e | e
  ·exact h.wnew i e
  ·right; omega
theorem Cn.mv (h : Cn w0 M0 c0 w M c) (h0 : ClAt w0 M0 c0) : Mv w0 M0 w M := ⟨h.keeps.mono fun k _ hk => h0.wM k hk, h.new⟩
theorem ClAt.mv (h : ClAt w M c) (hm : Mv w M w' M') (hM : ∀ k, M k → M' k) {T : Nat → Prop} (hk : Keeps T w w') (hT : ∀ k, T k → ¬ c.O k ∧ ∀ i, i < c.s → ¬ c.F i k) (hlt : ∀ k, M' k → k < w'.heap.size) : ClAt w' M' c := by
 have hO : ∀ k, c.O k → ¬ T k := fun k hk e => (hT k e).1 hk
 obtain ⟨cur, n1, n2⟩ := h.nodes
 obtain ⟨cur', fr, c1, c2⟩ := h.cfg
 exact ⟨hk.heap (hO _ (.inl rfl)) h.box, ⟨cur, hk.heap (hO _ (.inr (.inl rfl))) n1, n2⟩, ⟨cur', fr, hk.heap (hO _ (.inr (.inr (.inl rfl)))) c1, c2⟩, hm.sl h.mem h.imm, hm.im h.imm h.mem.row_lt,
   fun i hi => (h.node i hi).mv hm hM hk fun k hf e => (hT k e).2 i hi hf, h.apart, h.net.kept hk fun k hk => hO k (.inr (.inr (.inr (.inl hk)))), fun m hm' => (h.msgs m hm').mv_ hm, fun k hk => hM k (h.own k hk), h.fo, h.d0, h.dn, hlt, h.ids, h.s1, h.s7, h.nc⟩
theorem ClAt.below (h : ClAt w M c) (hb : Below w.heap.size w w') : ClAt w' M c :=
 h.mv (Mv.below M hb) (fun _ h => h) (Keeps.of_belowS (S := fun _ => False) hb) (fun _ e => e.elim) fun k hk => Nat.lt_of_lt_of_le (h.lt k hk) hb.size
theorem Cn.below (h : Cn w0 M0 c0 w M c) (hb : Below w.heap.size w w') : Cn w0 M0 c0 w' M c :=
 h.trans ⟨h.at_.below hb, SameC.refl c, Keeps.of_belowS hb, fun _ h => h, fun _ h => .inl h, fun _ h => .inl h⟩
def Cl.setNode (c : Cl) (i : Nat) (G : Nat → Prop) (y : NodeS) : Cl := { c with F := fun j => if j = i then G else c.F j, x := fun j => if j = i then y else c.x j }
theorem Cl.setNode_F (c : Cl) (i j : Nat) (G : Nat → Prop) (y : NodeS) : (c.setNode i G y).F j = if j = i then G else c.F j := rfl
theorem Cl.setNode_x (c : Cl) (i j : Nat) (G : Nat → Prop) (y : NodeS) : (c.setNode i G y).x j = if j = i then y else c.x j := rfl
theorem ClAt.act (h : ClAt w M c) {i : Nat} (hi : i < c.s) {y : NodeS} (hy : y.id = (c.x i).id) (hn : NodTo w M (c.F i) w' (c.P i) y) : ∃ M' G, Cn w M c w' M' (c.setNode i G y) := by
 obtain ⟨S, hni⟩ := h.node i hi
 obtain ⟨G, k1, k2, k3, k4⟩ := hn
 have hz := k2.size
 have hGlt : ∀ k, G k → k < w'.heap.size := by obtain ⟨S', k1'⟩ := k1; exact k1'.lt
 have hm : Mv w M w' (fun k => M k ∨ G k) := ⟨k2.mono fun k _ hk => hni.fm k hk, fun k hk => hk.elim .inl fun hk => (k4 k hk).imp (hni.fm k) id⟩
 have hT : ∀ k, c.F i k → ¬ c.O k ∧ ∀ j, j < c.s → j ≠ i → ¬ c.F j k := fun k hk => ⟨h.fo i k hi hk, fun j hj hne e => hne (h.apart j i k hj hi e hk)⟩
 have hO : ∀ k, c.O k → ¬ c.F i k := fun k hk e => (hT k e).1 hk
 have hOlt : ∀ k, c.O k → k < w.heap.size := fun k hk => h.lt k (h.own k hk)
 obtain ⟨cur, n1, n2⟩ := h.nodes
 obtain ⟨cur', fr, c1, c2⟩ := h.cfg
 refine ⟨fun k => M k ∨ G k, G, ⟨?_, ⟨rfl, rfl, rfl, rfl, rfl, rfl⟩, k2.mono fun k _ hk => .inr (.inr (.inr ⟨i, hi, hk⟩)), fun _ h => .inl h, fun k hk => hk.elim .inl fun hk => (k4 k hk).imp (hni.fm k) id, fun k hk => ?_⟩⟩
 ·refine ⟨k2.heap (hO _ (.inl rfl)) h.box, ⟨cur, k2.heap (hO _ (.inr (.inl rfl))) n1, n2⟩, ⟨cur', fr, k2.heap (hO _ (.inr (.inr (.inl rfl)))) c1, c2⟩, hm.sl h.mem h.imm, hm.im h.imm h.mem.row_lt, fun j hj => ?_, fun a b k ha hb h1 h2 => ?_,
    h.net.kept k2 fun k hk => hO k (.inr (.inr (.inr (.inl hk)))), fun m hm' => (h.msgs m hm').mv_ hm, fun k hk => .inl (h.own k hk), fun j k hj hk hko => ?_, h.d0, h.dn, fun k hk => hk.elim (fun hk => Nat.lt_of_lt_of_le (h.lt k hk) hz) (hGlt k), fun j hj => ?_, h.s1, h.s7, h.nc⟩
  ·rw [Cl.setNode_F, Cl.setNode_x]
   by_cases e : j = i
   ·rw [if_pos e, if_pos e, e]; exact k1
   ·rw [if_neg e, if_neg e]
    exact (h.node j hj).mv hm (fun _ h => .inl h) k2 fun k hf e2 => (hT k e2).2 j hj e hf
  ·rw [Cl.setNode_F] at h1 h2
   have key : ∀ b, b < c.s → b ≠ i → G k → ¬ c.F b k := fun b hb hne hg e => by
    rcases k4 k hg with hg | hg
    ·exact (hT k hg).2 b hb hne e
    ·obtain ⟨S', hb'⟩ := h.node b hb
     have := hb'.lt k e
     omega
   by_cases ea : a = i <;> by_cases eb : b = i
   ·omega
   ·rw [if_pos ea] at h1; rw [if_neg eb] at h2; exact absurd h2 (key b hb eb h1)
   ·rw [if_neg ea] at h1; rw [if_pos eb] at h2; exact absurd h1 (key a ha ea h2)
   ·rw [if_neg ea] at h1; rw [if_neg eb] at h2; exact h.apart a b k ha hb h1 h2
  ·rw [Cl.setNode_F] at hk
   by_cases e : j = i
   ·rw [if_pos e] at hk
    rcases k4 k hk with hk | hk
    ·exact (hT k hk).1 hko
    ·have := hOlt k hko; omega
   ·rw [if_neg e] at hk
    exact h.fo j k hj hk hko
  ·rw [Cl.setNode_x]
   by_cases e : j = i
   ·rw [if_pos e, hy, e]; exact h.ids i hi
   ·rw [if_neg e]; exact h.ids j hj
 ·rcases hk with hk | hk | hk | ⟨j, hj, hk⟩
  ·exact .inl (.inl hk)
  ·exact .inl (.inr (.inl hk))
  ·exact .inl (.inr (.inr (.inl hk)))
  ·rw [Cl.setNode_F] at hk
   by_cases e : j = i
   ·rw [if_pos e] at hk
    exact (k4 k hk).imp (fun hk => .inr (.inr (.inr ⟨i, hi, hk⟩))) id
   ·rw [if_neg e] at hk
    exact .inl (.inr (.inr (.inr ⟨j, hj, hk⟩)))
theorem ClAt.setNet (h : ClAt w M c) {w2 : World} {nv : Value} {net : List Msg} (hk : Keeps (fun k => c.nv.ownBlock = some k) w w2) (hrow : RowO w2 54 11 nv net.length (flatM net)) (hnv : ∀ k, nv.ownBlock = some k → c.nv.ownBlock = some k ∨ w.heap.size ≤ k) (hms : ∀ m ∈ net, MsgOk w M m) :
  Cn w M c (w2.setCell ⟨c.wd, 2, none⟩ nv) (fun k => M k ∨ nv.ownBlock = some k) { c with nv := nv, net := net } := by
 have hz := hk.size
 have hOlt : ∀ k, c.O k → k < w.heap.size := fun k hk => h.lt k (h.own k hk)
 have hks : Keeps (fun k => k = c.wd) w2 (w2.setCell ⟨c.wd, 2, none⟩ nv) := (Keeps.refl (fun k => k = c.wd) w2).setCell (p := ⟨c.wd, 2, none⟩) (.inl rfl) nv
 have k3 : Keeps (fun k => c.nv.ownBlock = some k ∨ k = c.wd) w (w2.setCell ⟨c.wd, 2, none⟩ nv) := (hk.mono fun k _ e => .inl e).trans (hks.mono fun k _ e => .inr e)
 have hTM : ∀ k, (c.nv.ownBlock = some k ∨ k = c.wd) → M k := fun k e => e.elim (fun e => h.own k (.inr (.inr (.inr (.inl e))))) fun e => h.own k (.inl e)
 have hm : Mv w M (w2.setCell ⟨c.wd, 2, none⟩ nv) (fun k => M k ∨ nv.ownBlock = some k) := ⟨k3.mono fun k _ e => hTM k e, fun k e => e.elim .inl fun e => (hnv k e).imp (fun e => h.own k (.inr (.inr (.inr (.inl e))))) id⟩
 have hwn : ¬ (c.nv.ownBlock = some c.nb ∨ c.nb = c.wd) := fun e => e.elim (fun e => (h.dn _ e).2.1 rfl) fun e => h.d0.1 e.symm
 have hwc : ¬ (c.nv.ownBlock = some c.cb ∨ c.cb = c.wd) := fun e => e.elim (fun e => (h.dn _ e).2.2.1 rfl) fun e => h.d0.2.1 e.symm
 have hne : ∀ k, nv.ownBlock = some k → k ≠ c.wd := fun k e => (hnv k e).elim (fun e => (h.dn k e).1) fun e => by have := hOlt c.wd (.inl rfl); omega
 obtain ⟨cur, n1, n2⟩ := h.nodes
 obtain ⟨cur', fr, c1, c2⟩ := h.cfg
 have hdn : ∀ k, nv.ownBlock = some k → k ≠ c.wd ∧ k ≠ c.nb ∧ k ≠ c.cb ∧ k ≠ c.lm ∧ k ≠ c.am := fun k e => by
  rcases hnv k e with e | e
  ·exact h.dn k e
  ·have a1 := hOlt c.wd (.inl rfl)
   have a2 := hOlt c.nb (.inr (.inl rfl))
   have a3 := hOlt c.cb (.inr (.inr (.inl rfl)))
   have a4 := hOlt c.lm (.inr (.inr (.inr (.inr (.inl rfl)))))
   have a5 := hOlt c.am (.inr (.inr (.inr (.inr (.inr rfl)))))
   omega
 refine ⟨⟨?_, ⟨cur, k3.heap hwn n1, n2⟩, ⟨cur', fr, k3.heap hwc c1, c2⟩, hm.sl h.mem h.imm, hm.im h.imm h.mem.row_lt, fun i hi => (h.node i hi).mv hm (fun _ h => .inl h) k3 fun k hf e => h.fo i k hi hf (e.elim (fun e => .inr (.inr (.inr (.inl e)))) .inl), h.apart,
   hrow.kept hks fun k e => hne k e, fun m hm' => (hms m hm').mv_ hm, fun k e => ?_, fun i k hi hf e => ?_, h.d0, hdn, fun k e => e.elim (fun e => Nat.lt_of_lt_of_le (h.lt k e) k3.size) fun e => by simpa using hrow.lt k e, h.ids, h.s1, h.s7, h.nc⟩, ⟨rfl, rfl, rfl, rfl, rfl, rfl⟩, k3.mono fun k _ e => e.elim (fun e => .inr (.inr (.inl e))) .inl, fun _ h => .inl h, hm.new, fun k e => ?_⟩
 ·exact blk_set (hk.heap (fun e => (h.dn _ e).1 rfl) h.box) 2 nv
 ·rcases e with e | e | e | e | e
  ·exact .inl (h.own k (.inl e))
  ·exact .inl (h.own k (.inr (.inl e)))
  ·exact .inl (h.own k (.inr (.inr (.inl e))))
  ·exact .inr e
  ·exact .inl (h.own k (.inr (.inr (.inr (.inr e)))))
 ·have hlt : k < w.heap.size := by obtain ⟨S, hn⟩ := h.node i hi; exact hn.lt k hf
  rcases e with e | e | e | e | e
  ·exact h.fo i k hi hf (.inl e)
  ·exact h.fo i k hi hf (.inr (.inl e))
  ·exact h.fo i k hi hf (.inr (.inr (.inl e)))
  ·rcases hnv k e with e | e
   ·exact h.fo i k hi hf (.inr (.inr (.inr (.inl e))))
   ·omega
  ·exact h.fo i k hi hf (.inr (.inr (.inr (.inr e))))
 ·rcases e with e | e | e | e
  ·exact .inl (.inl e)
  ·exact .inl (.inr (.inl e))
  ·exact (hnv k e).imp (fun e => .inr (.inr (.inl e))) id
  ·exact .inl (.inr (.inr (.inr e)))
def Cl.putNode (c : Cl) (i : Nat) (p : Nat) (G : Nat → Prop) (y : NodeS) : Cl := { c with P := fun j => if j = i then p else c.P j, F := fun j => if j = i then G else c.F j, x := fun j => if j = i then y else c.x j }
theorem ClAt.anew (h : ClAt w M c) {i : Nat} (hi : i < c.s) {y : NodeS} (hy : y.id = (c.x i).id) {w1 : World} (hb : Below w.heap.size w w1) {p : Nat} {G : Nat → Prop} (hn : NodeAt w1 (fun k => M k ∨ G k) G p y) (hG : ∀ k, G k → w.heap.size ≤ k) :
  Cn w M c (w1.setCell ⟨c.nb, i, none⟩ (.pointer (some ⟨p, 0, none⟩))) (fun k => M k ∨ G k) (c.putNode i p G y) := by
 have hGlt : ∀ k, G k → k < w1.heap.size := by obtain ⟨S', k1'⟩ := hn; exact k1'.lt
 have hOlt : ∀ k, c.O k → k < w.heap.size := fun k hk => h.lt k (h.own k hk)
 have hnbO : c.O c.nb := .inr (.inl rfl)
 have hz := hb.size
 have hks : Keeps (fun k => k = c.nb) w1 (w1.setCell ⟨c.nb, i, none⟩ (.pointer (some ⟨p, 0, none⟩))) := (Keeps.refl (fun k => k = c.nb) w1).setCell (p := ⟨c.nb, i, none⟩) (.inl rfl) _
 have k3 : Keeps (fun k => k = c.nb) w (w1.setCell ⟨c.nb, i, none⟩ (.pointer (some ⟨p, 0, none⟩))) := (Keeps.of_belowS hb).trans hks
 have hm : Mv w M (w1.setCell ⟨c.nb, i, none⟩ (.pointer (some ⟨p, 0, none⟩))) (fun k => M k ∨ G k) := ⟨k3.mono fun k _ e => e ▸ h.own _ hnbO, fun k e => e.imp id (hG k)⟩
 obtain ⟨cur, n1, n2⟩ := h.nodes
 obtain ⟨cur', fr, c1, c2⟩ := h.cfg
 have hyat : NodeAt (w1.setCell ⟨c.nb, i, none⟩ (.pointer (some ⟨p, 0, none⟩))) (fun k => M k ∨ G k) G p y := hn.mv (M' := fun k => M k ∨ G k) ⟨hks.mono fun k _ e => .inl (e ▸ h.own _ hnbO), fun k e => .inl e⟩ (fun _ h => h) hks fun k hg e => by have := hG k hg; have := hOlt _ hnbO; omega
 have hcs : i < cur.size := (Array.getElem?_eq_some_iff.1 (n2 i hi)).1
 refine ⟨⟨k3.heap (fun e => h.d0.1 e) h.box, ⟨cur.setIfInBounds i (.pointer (some ⟨p, 0, none⟩)), ?_, fun j hj => ?_⟩, ⟨cur', fr, k3.heap (fun e => h.d0.2.2.1 e.symm) c1, c2⟩, hm.sl h.mem h.imm, hm.im h.imm h.mem.row_lt, fun j hj => ?_, fun a b k ha hb2 h1 h2 => ?_,
     h.net.kept k3 fun k hk e => (h.dn k hk).2.1 e, fun m hm' => (h.msgs m hm').mv_ hm, fun k hk => .inl (h.own k hk), fun j k hj hk hko => ?_, h.d0, h.dn, fun k hk => hk.elim (fun hk => Nat.lt_of_lt_of_le (h.lt k hk) k3.size) fun hk => by simpa using hGlt k hk, fun j hj => ?_, h.s1, h.s7, h.nc⟩, ⟨rfl, rfl, rfl, rfl, rfl, rfl⟩, k3.mono fun k _ e => .inr (.inl e), fun _ h => .inl h, fun k hk => hk.imp id (hG k), fun k hk => ?_⟩
 ·exact blk_set (bH hb n1 (heap_lt n1)) i _
 ·show (cur.setIfInBounds i (.pointer (some ⟨p, 0, none⟩)))[j]? = some (.pointer (some ⟨if j = i then p else c.P j, 0, none⟩))
  by_cases e : j = i
  ·rw [if_pos e, e, Array.getElem?_setIfInBounds_self_of_lt hcs]
  ·rw [if_neg e, Array.getElem?_setIfInBounds_ne (fun e' => e e'.symm)]
   exact n2 j hj
 ·show NodeAt _ _ (if j = i then G else c.F j) (if j = i then p else c.P j) (if j = i then y else c.x j)
  by_cases e : j = i
  ·rw [if_pos e, if_pos e, if_pos e]; exact hyat
  ·rw [if_neg e, if_neg e, if_neg e]
   exact (h.node j hj).mv hm (fun _ h => .inl h) k3 fun k hf e2 => h.fo j k hj hf (e2 ▸ hnbO)
 ·have h1' : (if a = i then G else c.F a) k := h1
  have h2' : (if b = i then G else c.F b) k := h2
  have key : ∀ b, b < c.s → G k → ¬ c.F b k := fun b hb hg e => by
   obtain ⟨S', hb'⟩ := h.node b hb
   have := hb'.lt k e
   have := hG k hg
   omega
  by_cases ea : a = i <;> by_cases eb : b = i
  ·omega
  ·rw [if_pos ea] at h1'; rw [if_neg eb] at h2'; exact absurd h2' (key b hb2 h1')
  ·rw [if_neg ea] at h1'; rw [if_pos eb] at h2'; exact absurd h1' (key a ha h2')
  ·rw [if_neg ea] at h1'; rw [if_neg eb] at h2'; exact h.apart a b k ha hb2 h1' h2'
 ·have hk' : (if j = i then G else c.F j) k := hk
  by_cases e : j = i
  ·rw [if_pos e] at hk'
   have h1 : c.O k := hko
   have := hOlt k h1; have := hG k hk'; omega
  ·rw [if_neg e] at hk'
   exact h.fo j k hj hk' hko
 ·show (if j = i then y else c.x j).id = (j : Int) + 1
  by_cases e : j = i
  ·rw [if_pos e, hy, e]; exact h.ids i hi
  ·rw [if_neg e]; exact h.ids j hj
 ·rcases hk with hk | hk | hk | ⟨j, hj, hk⟩
  ·exact .inl (.inl hk)
  ·exact .inl (.inr (.inl hk))
  ·exact .inl (.inr (.inr (.inl hk)))
  ·have hk' : (if j = i then G else c.F j) k := hk
   by_cases e : j = i
   ·rw [if_pos e] at hk'
    exact .inr (hG k hk')
   ·rw [if_neg e] at hk'
    exact .inl (.inr (.inr (.inr ⟨j, hj, hk'⟩)))
end
structure ClOk (C0 : List Int) (g : Gh En) (n : Nat) (c : Cl) : Prop where
 gok : OkG C0 g n
 node : ∀ i, i < c.s → ∃ X, OkN C0 g n (c.x i) X
 net : ∀ m ∈ c.net, OkM C0 g n m
 outs : ∀ i, i < c.s → ∀ m ∈ (c.x i).out, OkM C0 g n m
section
variable {C0 : List Int} {g g' : Gh En} {n n' : Nat} {c : Cl}
theorem ClOk.act (h : ClOk C0 g n c) (hid : ∀ j, j < c.s → (c.x j).id = (j : Int) + 1) {i : Nat} (hi : i < c.s) {k : Nat} (hn : n ≤ n') {G : Nat → Prop} {y : NodeS} {Y : List En} (ha : Acts C0 g n' k (c.x i) g' y Y) : ClOk C0 g' n' (c.setNode i G y) := by
 refine ⟨ha.gok, fun j hj => ?_, fun m hm => ((h.net m hm).mono hn).grow (h.gok.mono hn) ha.grow, fun j hj m hm => ?_⟩
 ·rw [Cl.setNode_x]
  by_cases e : j = i
  ·rw [if_pos e]; exact ⟨Y, ha.nok⟩
  ·rw [if_neg e]
   obtain ⟨X, hX⟩ := h.node j hj
   exact ⟨X, (hX.mono hn).other (h.gok.mono hn) ha.grow (by rw [hid j hj, hid i hi]; omega)⟩
 ·rw [Cl.setNode_x] at hm
  by_cases e : j = i
  ·rw [if_pos e] at hm
   obtain ⟨l, h1, h2, _⟩ := ha.out
   rw [h1] at hm
   rcases List.mem_append.1 hm with hm | hm
   ·exact ((h.outs i hi m hm).mono hn).grow (h.gok.mono hn) ha.grow
   ·exact h2 m hm
  ·rw [if_neg e] at hm
   exact ((h.outs j hj m hm).mono hn).grow (h.gok.mono hn) ha.grow
theorem ClOk.mono (h : ClOk C0 g n c) (hn : n ≤ n') : ClOk C0 g n' c := ⟨h.gok.mono hn, fun i hi => by obtain ⟨X, hX⟩ := h.node i hi; exact ⟨X, hX.mono hn⟩, fun m hm => (h.net m hm).mono hn, fun i hi m hm => (h.outs i hi m hm).mono hn⟩
end
end
section
open Go.RowKit
def SomeI (w : World) (e : Ending) (w' : World) : Prop := ∃ a cap l, e = .returned (.slice a l.length cap) ∧ Below w.heap.size w w' ∧ Sl intv w' (.slice a l.length cap) l
set_option maxRecDepth 100000 in
theorem bits_any (w : World) (x : Int) (_ : 0 ≤ x) (_ : x ≤ 18446744073709551615) : Calls Tryz.prog 24 #[.int .u64 x] w (SomeI w) := by
 obtain ⟨i0, hi, hz0, hz1, hz2⟩ := info_parts info_i64
 go_enter Tryz.func24, Tryz.ntmps24
 go_wp2_with fail
 go_loopw [3, 4] (fun v iv wr => ∃ (k : Nat) (l : List Int), iv = .int .i64 ((k : Int) + 1) ∧ k ≤ 7 ∧ l.length ≤ k ∧ wr.ownsRow 0 3 1 v l.length (l.map intv) ∧ (∀ j, v.ownBlock = some j → w.heap.size ≤ j) ∧ Below w.heap.size w wr) (fun _ iv _ => 8 - (intOf iv).toNat)
 case atStart => exact ⟨0, [], rfl, by omega, by simp, by simpa using World.ownsRow_nil _ _ _ _, by simp [Value.ownBlock], bR⟩
 case round =>
  obtain ⟨k, l, rfl, hk, hl, hown, hnew, hb⟩ := hrel
  have HO := hI hown
  have HN := hI hnew
  have HB := hI hb
  have HL := hI hl
  have HM0 := hI (show l.length + 1 ≤ maxLen by unfold maxLen; omega)
  have HM1 := hI (show (l.length + 1) * 8 ≤ 140737488355328 by omega)
  obtain ⟨va, vc, rfl⟩ := own_form hown
  clear hown hnew hb hl
  by_cases hk7 : k < 7
  ·go_wp2_with (at_builtin; refine wpList_append_one wr rfl _ _ _ rfl 3 i0 (.int .i64 0) 8 Tryz.underlying37 hi hz0 hz1 hz2 rfl (.slice va l.length vc) l.length (l.map intv) rfl HO.out (.int .i64 ((k : Int) + 1)) _ rfl rfl HM0.out HM1.out ?_; intro v' w3 hown3 hg3 hrow3; have HO3 := hI hown3; have HG3 := hI hg3; have HR3 := hI hrow3; clear hown3 hg3 hrow3)
   ·go_roundw
    case rel =>
     refine ⟨k + 1, l ++ [(k : Int) + 1], by go_num, by omega, by have := HL.out; simp; omega, by have := HO3.out; simpa [intv] using this, ?_, ?_⟩
     ·intro j hj
      rcases HR3.out with h1 | ⟨i, h1, h2, _⟩
      ·exact HN.out j (h1 ▸ hj)
      ·rw [h1] at hj; cases hj; simp at h2; have := HB.out.size; omega
     ·have h1 : Keeps (fun k => w.heap.size ≤ k) w w3 := ((Keeps.of_below HB.out).alloc _).trans (gK HG3.out fun k hk => HN.out k hk.symm)
      exact h1.below nL (fun k hk => hk)
    case measure => simp [intOf]; omega
   ·go_roundw
    case rel => exact ⟨k + 1, l, by go_num, by omega, by have := HL.out; omega, HO.out, HN.out, HB.out⟩
    case measure => simp [intOf]; omega
  ·obtain rfl : k = 7 := by omega
   go_wp2_with fail
   go_ret
   exact ⟨va, vc, l, rfl, HB.out, owns_sl HO.out⟩
end
end Go.Proofs.YtdjooojpcepleaaGreat

/- A range over a map (MapOf): whichever order the keys come in. Of whatever program. -/
import Derived.Test.YtbfhgljmopgejaaGreatMap
import Derived.Maps.RangeRun
import Derived.Maps.RangeWalk
import Derived.TacticsIn
import Derived.RangeFuncOwn
import Derived.Sort.MapsRangeIn
namespace Go.Proofs.YtbfhgljmopgejaaGreat
open Go.RowKit Go.Maps Go.ChangeMaps

section
variable {P : Program} {k : TypeId} {α β : Type} {κ : α → Value} {φ : β → Value}

/-- Block r ranges over the map in block b, which is l; the keys of p have come. -/
def MIter (P : Program) (k : TypeId) (κ : α → Value) (φ : β → Value) (w : World) (b r : Nat) (l : List (α × β)) (p : List α) : Prop :=
  ∃ es clock since seen c0, w.heap[b]? = some (.map es clock) ∧ es.toList.map (fun e => (e.key, e.val)) = l.map (fun p => (κ p.1, φ p.2)) ∧ (keys l).Nodup ∧ (∀ p ∈ l, ∃ x, keyOf P k (κ p.1) = some x) ∧ Born es.toList clock ∧
    w.heap[r]? = some (.mapIter (some b) since seen c0) ∧ (∀ x ∈ es.toList, x.born < since) ∧ since ≤ c0 ∧ since ≤ clock ∧ (∀ e ∈ es.toList, seen.contains e.born = true ↔ ∃ a ∈ p, e.key = κ a) ∧ seen.size = p.length

theorem MIter.map {w : World} {b r : Nat} {l : List (α × β)} {p : List α} (h : MIter P k κ φ w b r l p) : MapOf P k κ φ w b l := by
  obtain ⟨es, clock, since, seen, c0, h1, h2, h3, h4, h5, _⟩ := h
  exact ⟨es, clock, h1, h2, h3, h4, h5⟩
theorem MIter.same {w w' : World} {b r : Nat} {l : List (α × β)} {p : List α} (h : MIter P k κ φ w b r l p) (hb : w'.heap[b]? = w.heap[b]?) (hr : w'.heap[r]? = w.heap[r]?) : MIter P k κ φ w' b r l p := by
  obtain ⟨es, clock, since, seen, c0, h1, h2, h3, h4, h5, h6, h7⟩ := h
  exact ⟨es, clock, since, seen, c0, hb.trans h1, h2, h3, h4, h5, hr.trans h6, h7⟩
theorem MIter.lt {w : World} {b r : Nat} {l : List (α × β)} {p : List α} (h : MIter P k κ φ w b r l p) : r < w.heap.size := by
  obtain ⟨es, clock, since, seen, c0, h1, h2, h3, h4, h5, h6, h7⟩ := h
  exact heap_lt h6
theorem MIter.ne {w : World} {b r : Nat} {l : List (α × β)} {p : List α} (h : MIter P k κ φ w b r l p) : r ≠ b := by
  obtain ⟨es, clock, since, seen, c0, h1, h2, h3, h4, h5, h6, h7⟩ := h
  rintro rfl
  rw [h1] at h6
  cases h6
theorem MIter.kept {S : Nat → Prop} {w w' : World} {b r : Nat} {l : List (α × β)} {p : List α} (h : MIter P k κ φ w b r l p) (hk : Keeps S w w') (hb : ¬ S b) (hr : ¬ S r) : MIter P k κ φ w' b r l p :=
  h.same (hk.block b h.map.lt hb) (hk.block r h.lt hr)
theorem MIter.walks {w w' : World} {b r : Nat} {l : List (α × β)} {p : List α} (h : MIter P k κ φ w b r l p) (hk : KeepsWalks w w') : MIter P k κ φ w' b r l p := by
  obtain ⟨es, clock, since, seen, c0, h1, h2, h3, h4, h5, h6, h7⟩ := h
  exact ⟨es, clock, since, seen, c0, hk.same _ _ h1 rfl, h2, h3, h4, h5, hk.same _ _ h6 rfl, h7⟩
theorem MIter.seen {w : World} {b r : Nat} {l : List (α × β)} {p : List α} (h : MIter P k κ φ w b r l p) : (w.iterSeen r).size = p.length := by
  obtain ⟨es, clock, since, seen, c0, h1, h2, h3, h4, h5, h6, h7, h8, h9, h10, h11⟩ := h
  simp [World.iterSeen, h6, h11]
theorem MIter.iter_obj {w : World} {b r : Nat} {l : List (α × β)} {p : List α} (h : MIter P k κ φ w b r l p) : ∃ m s seen c, w.heap[r]? = some (.mapIter m s seen c) := by
  obtain ⟨es, clock, since, seen, c0, h1, h2, h3, h4, h5, h6, h7⟩ := h
  exact ⟨_, _, _, _, h6⟩

theorem MapOf.run_range {w : World} {b : Nat} {l : List (α × β)} (h : MapOf P k κ φ w b l) {t e : TypeId} (ht : P.underlying t = some (.map k e)) :
    ∃ o, (Instr.range t (.map (some b))).run P w = .ok (.pointer (some ⟨w.heap.size, 0, none⟩)) (w.alloc o) ∧ MIter P k κ φ (w.alloc o) b w.heap.size l [] := by
  have hlt := h.lt
  obtain ⟨es, clock, h1, h2, h3, h4, h5⟩ := h
  refine ⟨_, run_range_map w t k e b es clock ht h1, es, clock, clock, #[], clock, (heap_alloc_old w _ hlt).trans h1, h2, h3, h4, h5, heap_alloc_new w _, h5.1, Nat.le_refl _, Nat.le_refl _, ?_, rfl⟩
  intro e he
  simp

theorem entry_mem {es : List MapEntry} {l : List (α × β)} (h : es.map (fun e => (e.key, e.val)) = l.map (fun p => (κ p.1, φ p.2))) {e : MapEntry} (he : e ∈ es) : ∃ p ∈ l, e.key = κ p.1 ∧ e.val = φ p.2 := by
  have : (e.key, e.val) ∈ l.map (fun p => (κ p.1, φ p.2)) := by rw [← h]; exact List.mem_map.2 ⟨e, he, rfl⟩
  obtain ⟨p, hp, hpe⟩ := List.mem_map.1 this
  simp only [Prod.mk.injEq] at hpe
  exact ⟨p, hp, hpe.1.symm, hpe.2.symm⟩
theorem mem_entry {es : List MapEntry} {l : List (α × β)} (h : es.map (fun e => (e.key, e.val)) = l.map (fun p => (κ p.1, φ p.2))) {p : α × β} (hp : p ∈ l) : ∃ e ∈ es, e.key = κ p.1 ∧ e.val = φ p.2 := by
  have : (κ p.1, φ p.2) ∈ es.map (fun e => (e.key, e.val)) := by rw [h]; exact List.mem_map.2 ⟨p, hp, rfl⟩
  obtain ⟨e, he, hpe⟩ := List.mem_map.1 this
  simp only [Prod.mk.injEq] at hpe
  exact ⟨e, he, hpe.1, hpe.2⟩

theorem key_entry (inj : ∀ a b : α, κ a = κ b → a = b) : ∀ {es : List MapEntry} {l : List (α × β)}, es.map (fun e => (e.key, e.val)) = l.map (fun p => (κ p.1, φ p.2)) → (keys l).Nodup → ∀ {x y : MapEntry}, x ∈ es → y ∈ es → x.key = y.key → x = y
  | [], _, _, _, _, _, hx, _, _ => by simp at hx
  | e :: es, [], h, _, _, _, _, _, _ => by simp at h
  | e :: es, (a, v) :: l, h, hn, x, y, hx, hy, hxy => by
    simp only [List.map_cons, List.cons.injEq, Prod.mk.injEq] at h
    simp only [keys, List.map_cons, List.nodup_cons] at hn
    have out : ∀ z ∈ es, z.key ≠ e.key := fun z hz hze => by
      obtain ⟨p, hp, hk, _⟩ := entry_mem h.2 hz
      rw [hze, h.1.1] at hk
      exact hn.1 (List.mem_map.2 ⟨p, hp, (inj _ _ hk).symm⟩)
    rcases List.mem_cons.1 hx with rfl | hx'
    · rcases List.mem_cons.1 hy with rfl | hy'
      · rfl
      · exact absurd hxy.symm (out y hy')
    · rcases List.mem_cons.1 hy with rfl | hy'
      · exact absurd hxy (out x hx')
      · exact key_entry inj h.2 hn.2 hx' hy' hxy

theorem MIter.run_next {w : World} {b r : Nat} {l : List (α × β)} {p : List α} (h : MIter P k κ φ w b r l p) (inj : ∀ a b : α, κ a = κ b → a = b) (ty : TypeId) :
    ((∀ x ∈ keys l, x ∈ p) ∧ (Instr.next (.pointer (some ⟨r, 0, none⟩)) false ty).run P w = .ok (.tuple #[.bool false]) w) ∨
    ∃ key val w', (key, val) ∈ l ∧ key ∉ p ∧ MIter P k κ φ w' b r l (p ++ [key]) ∧ Keeps (fun j => j = r) w w' ∧ w'.heap.size = w.heap.size ∧
      (Instr.entry (.pointer (some ⟨r, 0, none⟩))).run P w' = .ok (.tuple #[κ key, φ val]) w' ∧ (Instr.next (.pointer (some ⟨r, 0, none⟩)) false ty).run P w = .ok (.tuple #[.bool true, κ key, φ val]) w' := by
  have hne := h.ne
  obtain ⟨es, clock, since, seen, c0, h1, h2, h3, h4, h5, h6, h7, h8, h9, h10, h11⟩ := h
  rcases run_next_at (P := P) w ty r b since c0 seen es clock h6 h1 h7 h8 with ⟨h0, hr⟩ | ⟨e, he, w1, hw1, hr⟩
  · left
    refine ⟨fun x hx => ?_, hr⟩
    obtain ⟨q, hq, rfl⟩ := List.mem_map.1 hx
    obtain ⟨e, he, hek, _⟩ := mem_entry h2 hq
    obtain ⟨a, ha, hea⟩ := (h10 e he).1 (all_seen es seen h0 e he)
    rw [hek] at hea
    rw [inj _ _ hea]
    exact ha
  · right
    obtain ⟨he1, he2⟩ := mem_left he
    obtain ⟨q, hq, hqk, hqv⟩ := entry_mem h2 he1
    have hnp : q.1 ∉ p := fun hp => by
      have := (h10 e he1).2 ⟨q.1, hp, hqk⟩
      rw [he2] at this
      cases this
    have hh1 : w1.heap = w.heap := by rcases hw1 with rfl | rfl <;> rfl
    have hkeep : Keeps (fun j => j = r) w (setBlock w1 r (.mapIter (some b) since (seen.push e.born) clock)) := by
      rcases hw1 with rfl | rfl
      · exact (Keeps.refl (fun j => j = r) _).setBlock (p := r) (.inl rfl) _
      · exact (Keeps.refl (fun j => j = r) _).drew.setBlock (p := r) (.inl rfl) _
    have hsz : (setBlock w1 r (.mapIter (some b) since (seen.push e.born) clock)).heap.size = w.heap.size := by simp [setBlock, hh1]
    have hr1 : (setBlock w1 r (.mapIter (some b) since (seen.push e.born) clock)).heap[r]? = some (.mapIter (some b) since (seen.push e.born) clock) := by
      have := heap_lt h6
      simp only [setBlock, hh1, Array.getElem?_setIfInBounds]
      simp [this]
    have hb1 : (setBlock w1 r (.mapIter (some b) since (seen.push e.born) clock)).heap[b]? = some (.map es clock) := (hkeep.block b (heap_lt h1) (fun e => hne e.symm)).trans h1
    refine ⟨q.1, q.2, _, hq, hnp, ⟨es, clock, since, seen.push e.born, clock, hb1, h2, h3, h4, h5, hr1, h7, h9, h9, (fun x hx => ?_), by simp [h11]⟩, hkeep, hsz, ?_, ?_⟩
    · rw [contains_push]
      constructor
      · intro h
        rcases Bool.or_eq_true _ _ ▸ h with h | h
        · obtain ⟨a, ha, hxa⟩ := (h10 x hx).1 h
          exact ⟨a, by simp [ha], hxa⟩
        · have : x = e := born_inj h5.2 hx he1 (by simpa using h)
          exact ⟨q.1, by simp, by rw [this, hqk]⟩
      · rintro ⟨a, ha, hxa⟩
        rcases List.mem_append.1 ha with ha | ha
        · rw [(h10 x hx).2 ⟨a, ha, hxa⟩]; rfl
        · simp at ha
          subst ha
          have : x = e := key_entry inj h2 h3 hx he1 (by rw [hxa, hqk])
          rw [this]; simp
    · rw [← hqk, ← hqv]
      exact run_entry_at _ r b since seen es clock e hr1 hb1 he1 h5.2
    · rw [← hqk, ← hqv]
      exact hr

variable (w : World) {ops : Array Oper} {rest : List Oper} {o : Oper} {a : Act} {Q : Exit → Act → World → Prop}

/-- 'range m'. -/
theorem wpList_map_range (hg : o.guard = none) (m : Operand) (t : TypeId) (hop : o.op = Op.range t m) (e : TypeId) (ht : P.underlying t = some (.map k e)) (b : Nat) (l : List (α × β)) (hm : a.eval m = .map (some b)) (h : MapOf P k κ φ w b l)
    (hK : ∀ ob, MIter P k κ φ (w.alloc ob) b w.heap.size l [] → wpList P ops Q rest (a.put o.dst (.pointer (some ⟨w.heap.size, 0, none⟩))) (w.alloc ob)) : wpList P ops Q (o :: rest) a w := by
  refine wpList_plain hg fun K' hK' => ?_
  obtain ⟨ob, hrun, hM⟩ := h.run_range ht
  unfold Oper.wp
  simp [execOp, hop, hm, hrun, Result.andThen]
  exact hK' _ _ (hK ob hM)

/-- The step. -/
theorem wpList_map_next (hg : o.guard = none) (it : Operand) (hop : o.op = Op.next it false) (inj : ∀ a b : α, κ a = κ b → a = b) (b r : Nat) (l : List (α × β)) (p : List α) (hit : a.eval it = .pointer (some ⟨r, 0, none⟩)) (h : MIter P k κ φ w b r l p)
    (hDone : (∀ x ∈ keys l, x ∈ p) → wpList P ops Q rest (a.put o.dst (.tuple #[.bool false])) w)
    (hMore : ∀ key val w', (key, val) ∈ l → key ∉ p → MIter P k κ φ w' b r l (p ++ [key]) → Keeps (fun j => j = r) w w' → w'.heap.size = w.heap.size →
      (Instr.entry (.pointer (some ⟨r, 0, none⟩))).run P w' = .ok (.tuple #[κ key, φ val]) w' → wpList P ops Q rest (a.put o.dst (.tuple #[.bool true, κ key, φ val])) w') :
    wpList P ops Q (o :: rest) a w := by
  refine wpList_plain hg fun K' hK' => ?_
  unfold Oper.wp
  rcases h.run_next inj o.type with ⟨h0, hrun⟩ | ⟨key, val, w', h1, h2, h3, h4, h5, h6, hrun⟩
  · simp [execOp, hop, hit, hrun, Result.andThen]
    exact hK' _ _ (hDone h0)
  · simp [execOp, hop, hit, hrun, Result.andThen]
    exact hK' _ _ (hMore key val w' h1 h2 h3 h4 h5 h6)

/-- 'range m', in a fence. -/
theorem wpListIn_map_range {F : Fence} {n : Nat} (hg : o.guard = none) (m : Operand) (t : TypeId) (hop : o.op = Op.range t m) (e : TypeId) (ht : P.underlying t = some (.map k e)) (b : Nat) (l : List (α × β)) (hm : a.eval m = .map (some b)) (h : MapOf P k κ φ w b l)
    (hK : ∀ ob, MIter P k κ φ (w.alloc ob) b w.heap.size l [] → wpListIn F n P ops Q rest (a.put o.dst (.pointer (some ⟨w.heap.size, 0, none⟩))) (w.alloc ob)) : wpListIn F n P ops Q (o :: rest) a w := by
  refine wpListIn_plain hg fun K' hK' => ?_
  obtain ⟨ob, hrun, hM⟩ := h.run_range ht
  unfold Oper.wpIn
  refine ⟨by simp [Oper.about, hop], ?_⟩
  rw [Oper.semAt_plain F _ _ (by rw [hop]; intro c hc'; cases hc')]
  simp [execOp, hop, hm, hrun, Result.andThen]
  exact hK' _ _ (hK ob hM)

/-- The step, in a fence. -/
theorem wpListIn_map_next {F : Fence} {n : Nat} (hg : o.guard = none) (it : Operand) (hop : o.op = Op.next it false) (inj : ∀ a b : α, κ a = κ b → a = b) (b r : Nat) (l : List (α × β)) (p : List α) (hit : a.eval it = .pointer (some ⟨r, 0, none⟩)) (h : MIter P k κ φ w b r l p)
    (hDone : (∀ x ∈ keys l, x ∈ p) → wpListIn F n P ops Q rest (a.put o.dst (.tuple #[.bool false])) w)
    (hMore : ∀ key val w', (key, val) ∈ l → key ∉ p → MIter P k κ φ w' b r l (p ++ [key]) → Keeps (fun j => j = r) w w' → w'.heap.size = w.heap.size →
      (Instr.entry (.pointer (some ⟨r, 0, none⟩))).run P w' = .ok (.tuple #[κ key, φ val]) w' → wpListIn F n P ops Q rest (a.put o.dst (.tuple #[.bool true, κ key, φ val])) w') :
    wpListIn F n P ops Q (o :: rest) a w := by
  refine wpListIn_plain hg fun K' hK' => ?_
  unfold Oper.wpIn
  refine ⟨by simp [Oper.about, hop], ?_⟩
  rw [Oper.semAt_plain F _ _ (by rw [hop]; intro c hc'; cases hc')]
  rcases h.run_next inj o.type with ⟨h0, hrun⟩ | ⟨key, val, w', h1, h2, h3, h4, h5, h6, hrun⟩
  · simp [execOp, hop, hit, hrun, Result.andThen]
    exact hK' _ _ (hDone h0)
  · simp [execOp, hop, hit, hrun, Result.andThen]
    exact hK' _ _ (hMore key val w' h1 h2 h3 h4 h5 h6)

/-- How many keys are to come. -/
theorem left_lt {l : List (α × β)} {p : List α} {key : α} {val : β} (hn : (p ++ [key]).Nodup) (hs : ∀ x ∈ p, x ∈ keys l) (hk : (key, val) ∈ l) : p.length < l.length := by
  have hsub : ∀ x ∈ p ++ [key], x ∈ keys l := fun x hx => by
    rcases List.mem_append.1 hx with hx | hx
    · exact hs x hx
    · simp at hx; subst hx; exact List.mem_map.2 ⟨_, hk, rfl⟩
  have := hn.length_le_of_subset hsub
  simp [keys] at this
  omega

/-- Keys that came, none twice, all of them: the keys, in another order. -/
theorem perm_keys {l : List (α × β)} {p : List α} (hl : (keys l).Nodup) (hn : p.Nodup) (hs : ∀ x ∈ p, x ∈ keys l) (ha : ∀ x ∈ keys l, x ∈ p) : p.Perm (keys l) :=
  (List.perm_ext_iff_of_nodup hn hl).2 fun x => ⟨hs x, ha x⟩
end

end Go.Proofs.YtbfhgljmopgejaaGreat

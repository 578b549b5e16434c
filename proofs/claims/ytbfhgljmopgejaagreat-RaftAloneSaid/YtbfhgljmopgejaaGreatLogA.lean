/- Package entry: a log in memory, as a list of entries; slices of bytes that came in, be they never so odd; Base and Last. -/
import Derived.Test.YtbfhgljmopgejaaGreatOctZ
import Derived.BigQuiet
import Derived.Deep.QuietTactic
import Derived.Deep.RegionHeld3
namespace Go.Proofs.YtbfhgljmopgejaaGreat
open Go.RowKit

/-- A slice that reads as l, or an empty one that lies nowhere. -/
def SlW {α : Type} (enc : α → Value) (w : World) (v : Value) (l : List α) : Prop := Sl enc w v l ∨ ∃ a, v = .slice (some a) 0 0 ∧ l = []

theorem belowDN {B : Nat} {a w : World} (h : Below B a w) (n : Nat) : Below B a (w.drewN n) := ⟨h.os, h.tape, h.output, h.size, h.block⟩
theorem belowD {B : Nat} {a w : World} (h : Below B a w) : Below B a w.drew := ⟨h.os, h.tape, h.output, h.size, h.block⟩

theorem SlW.form {α : Type} {enc : α → Value} {w : World} {v : Value} {l : List α} (h : SlW enc w v l) : ∃ a cap, v = .slice a l.length cap := by
  rcases h with ⟨a, cap, rfl, _⟩ | ⟨a, rfl, rfl⟩
  · exact ⟨a, cap, rfl⟩
  · exact ⟨some a, 0, rfl⟩

theorem SlW.below {α : Type} {enc : α → Value} {w w' : World} {v : Value} {l : List α} (h : SlW enc w v l) (hb : Below w.heap.size w w') : SlW enc w' v l := by
  rcases h with h | h
  · exact .inl (h.below hb h.row_lt)
  · exact .inr h

/-- append of no element, wherever it may lie. -/
theorem run_append_void {P : Program} (w : World) (t ty e : TypeId) (i : TypeInfo) (ht : P.underlying t = some (.slice e)) (hi : P.info? e = some i) (v : Value) (n : Nat) (xs : List Value) (size : Nat) (hown : w.ownsRow 0 e size v n xs) (c : Nat) (x : Option Addr) :
    (Builtin.append_ #[t, t] ty #[v, .slice x 0 c]).run P w = .ok v w := by
  rcases hown.2 with ⟨rfl, rfl⟩ | ⟨g, cap, cur, rfl, _, hg, hnc, hcm, hcs, htake⟩
  · cases x <;> simp [Builtin.append_, run_underlying ht, sizeOf, typeInfo, hi, Builtin.lenOf, Builtin.firstCells, loadCells, loadCellsFrom]
  · cases x <;> simp [Builtin.append_, run_underlying ht, sizeOf, typeInfo, hi, Builtin.lenOf, Builtin.firstCells, loadCells, loadCellsFrom, hnc, storeCells]

theorem clone_void (w : World) (x : Addr) : Calls Tryz.prog 30 #[.slice (some x) 0 0] w (Cloned w []) := by
  have hnil := fun w => Lib.run_eql_slice_nil (P := Tryz.prog) w 33 5 (some x) 0 0 0 0 Tryz.underlying33
  obtain ⟨i0, hi, hz0, hz1, hz2⟩ := info_parts info_u8
  have how : (w.alloc (.cells #[] 5)).ownsRow 0 5 1 (.slice (some ⟨w.heap.size, 0, none⟩) 0 0) 0 [] := World.ownsRow_made w #[] 0 (Nat.zero_le _) (Nat.zero_le _) rfl
  have happ := fun ty => run_append_void (P := Tryz.prog) (w.alloc (.cells #[] 5)) 33 ty 5 i0 Tryz.underlying33 hi _ 0 [] 1 how 0 (some x)
  have HO := Lib.hid how
  clear how
  go_enter Tryz.func30, Tryz.ntmps30
  go_wp2
  go_ret
  refine ⟨_, rfl, (Below.refl _ _).alloc (Nat.le_refl _) _, owns_sl HO.out, HO.out, fun k hk => by simp [Value.ownBlock] at hk; omega⟩

theorem clone_W (w : World) (v : Value) (l : List UInt8) (hu : SlW u8v w v l) (hl : l.length ≤ 70368744177664) : Calls Tryz.prog 30 #[v] w (Cloned w l) := by
  rcases hu with hu | ⟨a, rfl, rfl⟩
  · obtain ⟨a, cap, rfl, _⟩ := id hu
    exact clone_any w a _ cap l hu hl
  · exact clone_void w a

theorem string_W {w : World} {v : Value} {l : List UInt8} (h : SlW u8v w v l) : (convert 33 9 v).run Tryz.prog w = .ok (.string ⟨l.toArray⟩) w := by
  rcases h with h | ⟨a, rfl, rfl⟩
  · obtain ⟨a, cap, rfl, _⟩ := id h
    exact sl_string h Tryz.underlying33
  · exact run_convert_bytes_back w 33 9 5 a 0 [] Tryz.underlying33 Tryz.underlying5 Tryz.underlying9 (fun j hj => by simp at hj)

/-- An entry: its index, its term, whether it tells members, the slice of its data, and these. -/
structure Ent where
  ix : Int
  tm : Int
  cf : Bool
  v : Value
  d : List UInt8

def Ent.cells (e : Ent) : List Value := [.int .u64 e.ix, .int .u64 e.tm, .bool e.cf, e.v]
def entCells (es : List Ent) : List Value := es.flatMap Ent.cells

theorem entCells_len (es : List Ent) : (entCells es).length = es.length * 4 := by
  induction es with
  | nil => rfl
  | cons e r ih => unfold entCells at *; rw [List.flatMap_cons, List.length_append, ih, List.length_cons]; simp [Ent.cells]; omega

theorem entCells_at : ∀ {es : List Ent} {k : Nat} {e : Ent}, es[k]? = some e → ∀ {j : Nat} {v : Value}, e.cells[j]? = some v → (entCells es)[k * 4 + j]? = some v
  | x :: r, 0, e, h, j, v, hj => by
    simp at h
    subst h
    unfold entCells
    rw [List.flatMap_cons, List.getElem?_append_left (by have := (List.getElem?_eq_some_iff.1 hj).1; simp [Ent.cells] at this ⊢; omega)]
    simpa using hj
  | x :: r, k + 1, e, h, j, v, hj => by
    have := entCells_at (es := r) (k := k) (e := e) (by simpa using h) hj
    unfold entCells at *
    rw [List.flatMap_cons, List.getElem?_append_right (by simp [Ent.cells]; omega)]
    have e : (k + 1) * 4 + j - x.cells.length = k * 4 + j := by simp [Ent.cells]; omega
    rw [e]
    exact this

theorem entCells_snoc (es : List Ent) (e : Ent) : entCells (es ++ [e]) = entCells es ++ e.cells := by simp [entCells]

/-- Block t is a log whose entries lie in the row r. -/
structure LogAt (w : World) (t : Nat) (r : Option Nat) (ix tm : Int) (es : List Ent) : Prop where
  box : ∃ v, w.heap[t]? = some (.cells #[.int .u64 ix, .int .u64 tm, v] 73 (0, 0)) ∧ w.ownsRow 0 47 4 v es.length (entCells es) ∧ v.ownBlock = r
  rt : r ≠ some t
  data : ∀ e ∈ es, Sl u8v w e.v e.d ∧ ∀ k, e.v.ownBlock = some k → k ≠ t ∧ r ≠ some k

theorem LogAt.lt {w : World} {t : Nat} {r : Option Nat} {ix tm : Int} {es : List Ent} (h : LogAt w t r ix tm es) : t < w.heap.size := by
  obtain ⟨v, h, _⟩ := h.box
  exact heap_lt h
theorem LogAt.row_lt {w : World} {t : Nat} {r : Option Nat} {ix tm : Int} {es : List Ent} (h : LogAt w t r ix tm es) : ∀ k, r = some k → k < w.heap.size := by
  obtain ⟨v, _, ho, rfl⟩ := h.box
  intro k hk
  rcases ho.2 with ⟨rfl, _⟩ | ⟨g, cap, cur, rfl, _, hg, _⟩
  · simp [Value.ownBlock] at hk
  · simp [Value.ownBlock] at hk; subst hk; exact heap_lt hg
theorem LogAt.kept {S : Nat → Prop} {w w' : World} {t : Nat} {r : Option Nat} {ix tm : Int} {es : List Ent} (h : LogAt w t r ix tm es) (hk : Keeps S w w') (ht : ¬ S t) (hr : ∀ k, r = some k → ¬ S k) (hd : ∀ e ∈ es, ∀ k, e.v.ownBlock = some k → ¬ S k) : LogAt w' t r ix tm es := by
  obtain ⟨⟨v, h1, h2, h3⟩, h4, h5⟩ := h
  exact ⟨⟨v, hk.heap ht h1, owns_kept h2 hk (fun k hv => hr k (h3 ▸ hv)), h3⟩, h4, fun e he => ⟨(h5 e he).1.kept hk (hd e he), (h5 e he).2⟩⟩
theorem LogAt.below {w w' : World} {t : Nat} {r : Option Nat} {ix tm : Int} {es : List Ent} (h : LogAt w t r ix tm es) (hb : Below w.heap.size w w') : LogAt w' t r ix tm es :=
  h.kept (Keeps.of_below hb) (by have := h.lt; simp; omega) (fun k hk => by have := h.row_lt k hk; simp; omega) (fun e he k hk => by have := (h.data e he).1.row_lt k hk; simp; omega)

/-- Entry k's cells. -/
theorem LogAt.at {w : World} {t : Nat} {r : Option Nat} {ix tm : Int} {es : List Ent} (h : LogAt w t r ix tm es) {k : Nat} {e : Ent} (he : es[k]? = some e) :
    ∃ g cap, r = some g ∧ w.heap[t]? = some (.cells #[.int .u64 ix, .int .u64 tm, .slice (some ⟨g, 0, none⟩) es.length cap] 73 (0, 0)) ∧ es.length ≤ cap ∧ cap ≤ maxLen ∧
      w.cell? ⟨g, k * 4, none⟩ = some (.int .u64 e.ix) ∧ w.cell? ⟨g, k * 4 + 1, none⟩ = some (.int .u64 e.tm) ∧ w.cell? ⟨g, k * 4 + 2, none⟩ = some (.bool e.cf) ∧ w.cell? ⟨g, k * 4 + 3, none⟩ = some e.v := by
  obtain ⟨v, h1, h2, h3⟩ := h.box
  have hk := (List.getElem?_eq_some_iff.1 he).1
  rcases h2.2 with ⟨_, h0⟩ | ⟨g, cap, cur, rfl, _, hg, hn, hm, hc, ht⟩
  · omega
  · have hcell : ∀ j v, e.cells[j]? = some v → w.cell? ⟨g, k * 4 + j, none⟩ = some v := by
      intro j v hj
      have := h2.cells (g := g) rfl (k * 4 + j) v (entCells_at he hj)
      rwa [addr_add, Nat.zero_add] at this
    exact ⟨g, cap, h3.symm, h1, hn, hm, hcell 0 _ rfl, hcell 1 _ rfl, hcell 2 _ rfl, hcell 3 _ rfl⟩

theorem LogAt.slice {w : World} {t : Nat} {r : Option Nat} {ix tm : Int} {es : List Ent} (h : LogAt w t r ix tm es) :
    ∃ a cap, w.heap[t]? = some (.cells #[.int .u64 ix, .int .u64 tm, .slice a es.length cap] 73 (0, 0)) := by
  obtain ⟨v, h1, h2, h3⟩ := h.box
  rcases h2.2 with ⟨rfl, h0⟩ | ⟨g, cap, cur, rfl, _⟩
  · exact ⟨none, 0, by rw [h0]; exact h1⟩
  · exact ⟨_, cap, h1⟩

theorem newlog_any (w : World) (ix tm : Int) : Calls Tryz.prog 19 #[.int .u64 ix, .int .u64 tm] w fun e w' => e = .returned (.pointer (some ⟨w.heap.size, 0, none⟩)) ∧ LogAt w' w.heap.size none ix tm [] ∧ Below w.heap.size w w' := by
  go_enter Tryz.func19, Tryz.ntmps19
  go_wp2
  go_ret
  exact ⟨rfl, ⟨⟨_, heap_new _ _, World.ownsRow_nil _ _ _ _, rfl⟩, by simp, by simp⟩, (Below.refl _ _).alloc (Nat.le_refl _) _⟩

section
variable (w : World) (t : Nat) (r : Option Nat) (ix tm : Int) (es : List Ent) (h : LogAt w t r ix tm es)
include h

/-- The call returned v, and nothing but draws came about. -/
def RetD (v : Value) (w : World) (e : Ending) (w' : World) : Prop := e = .returned v ∧ ∃ n, w' = w.drewN n

theorem base_any : Calls Tryz.prog 27 #[.pointer (some ⟨t, 0, none⟩)] w (RetD (.tuple #[.int .u64 ix, .int .u64 tm]) w) := by
  obtain ⟨v, hb, _⟩ := h.box
  have c0 := blk_cell hb 0 rfl
  have c1 := blk_cell hb 1 rfl
  clear h hb
  go_enter Tryz.func27, Tryz.ntmps27
  go_wp2
  go_quiet (fail)
  go_wp2
  go_ret2
  exact ⟨rfl, _, rfl⟩

def lastIx (ix : Int) (es : List Ent) : Int := ((es.getLast?).map (·.ix)).getD ix
def lastTm (tm : Int) (es : List Ent) : Int := ((es.getLast?).map (·.tm)).getD tm

set_option maxRecDepth 100000 in
theorem last_any' : Calls Tryz.prog 21 #[.pointer (some ⟨t, 0, none⟩)] w (RetB (.tuple #[.int .u64 (lastIx ix es), .int .u64 (lastTm tm es)]) w) := by
  rcases Nat.eq_zero_or_pos es.length with h0 | h0
  · have hes : es = [] := List.eq_nil_of_length_eq_zero h0
    subst hes
    have hbs := base_any w t r ix tm _ h
    obtain ⟨a, cap, hb⟩ := h.slice
    have c2 := blk_cell hb 2 rfl
    clear h hb h0
    go_enter Tryz.func21, Tryz.ntmps21
    go_wp2_with fail
    refine hbs.mono ?_
    rintro e w' ⟨rfl, n, rfl⟩
    go_wp2_with fail
    go_ret2
    exact RetB.mk rfl ⟨rfl, rfl, rfl, Nat.le_refl _, fun _ _ => rfl⟩
  · obtain ⟨k, hk⟩ : ∃ k, es.length = k + 1 := ⟨es.length - 1, by omega⟩
    obtain ⟨e, he⟩ : ∃ e, es[k]? = some e := ⟨es[k], List.getElem?_eq_getElem (by omega)⟩
    have hl : es.getLast? = some e := by rw [List.getLast?_eq_getElem?, hk]; exact he
    unfold lastIx lastTm
    rw [hl]
    obtain ⟨g, cap, rfl, hb, hc, hm, d0, d1, d2, d3⟩ := h.at he
    have c2 := blk_cell hb 2 rfl
    unfold maxLen at hm
    rw [hk] at c2 hc
    have hlt := (cell_lt d0)
    obtain ⟨da, dc, hv, _⟩ := (h.data e (List.mem_of_getElem? he)).1
    rw [hv] at d3
    clear h hb hl he h0 hk hv
    go_enter Tryz.func21, Tryz.ntmps21
    go_wp2
    have e1 : IntKind.i64.wrap (k : Int) = k := IntWalk.i64_in _ (by omega)
    have e2 : (0 : Int) ≤ (k : Int) := by omega
    have e3 : (k : Int) < (k : Int) + 1 := by omega
    go_region_held3 (fun w' => w'.cell? ⟨t, 2, none⟩ = some (.slice (some ⟨g, 0, none⟩) (k + 1) cap) ∧ w'.cell? ⟨g, k * 4, none⟩ = some (.int .u64 e.ix) ∧ w'.cell? ⟨g, k * 4 + 1, none⟩ = some (.int .u64 e.tm) ∧ w'.cell? ⟨g, k * 4 + 2, none⟩ = some (.bool e.cf) ∧ w'.cell? ⟨g, k * 4 + 3, none⟩ = some (.slice da e.d.length dc)) (first | exact ⟨c2, d0, d1, d2, d3⟩ | go_keep) (first | fail)
    go_wp2
    go_quiet (fail)
    go_wp2
    go_ret2
    exact RetB.mk rfl (belowDN (belowD ((Below.refl _ _).alloc (Nat.le_refl _) _)) _)
end

end Go.Proofs.YtbfhgljmopgejaaGreat

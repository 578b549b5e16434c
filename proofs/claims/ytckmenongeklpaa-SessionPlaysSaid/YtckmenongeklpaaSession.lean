/- The contracts of package session's table: a map from clients to their last request and its answer. -/
import Derived.Test.YtckmenongeklpaaMap
import Derived.StillTailTactics
import Derived.OneCell
import Derived.Handy
namespace Go.Proofs.Ytckmenongeklpaa
open Go.RowKit Go.Maps Go.ChangeMaps

/-- An answer. -/
structure Ans where
  err : Int
  name : ByteArray
  tok : Int
  val : Int

def Ans.cells (a : Ans) : Array Value := #[.int .i64 a.err, .string a.name, .int .u64 a.tok, .int .i64 a.val]
def Ans.v (a : Ans) : Value := .agg #[.int .i64 a.err, .string a.name, .int .u64 a.tok, .int .i64 a.val]
def Ans.zero : Ans := ⟨0, ⟨#[]⟩, 0, 0⟩
def Ans.ofErr (e : Int) : Ans := ⟨e, ⟨#[]⟩, 0, 0⟩

def keyU (c : Int) : Value := .int .u64 c
def lastV (x : Int × Ans) : Value := .agg #[.int .u64 x.1, .int .i64 x.2.err, .string x.2.name, .int .u64 x.2.tok, .int .i64 x.2.val]

theorem keyU_inj : ∀ a b : Int, keyU a = keyU b → a = b := by intro a b h; simpa [keyU] using h

abbrev TMap (w : World) (m : Nat) (l : List (Int × (Int × Ans))) : Prop := MapOf Try.prog 34 keyU lastV w m l

theorem tkeyed : Keyed Try.prog 34 := int_keyed Try.underlying34
theorem tkey {c : Int} (h : (Lit.int .u64 c).wf = true) : keyOf Try.prog 34 (keyU c) = some (.int .u64 c) := keyOf_int_mk Try.underlying34 h
theorem tzero (w : World) : (zeroValue 54).run Try.prog w = .ok (.agg #[.int .u64 0, .int .i64 0, .string ⟨#[]⟩, .int .u64 0, .int .i64 0]) w := by kernel_rfl

/-- Block t is a table whose map is block m. -/
structure TableAt (w : World) (t m : Nat) (l : List (Int × (Int × Ans))) : Prop where
  box : w.heap[t]? = some (.cells #[.map (some m)] 61 (0, 0))
  map : TMap w m l

theorem TableAt.ne {w : World} {t m : Nat} {l : List (Int × (Int × Ans))} (h : TableAt w t m l) : t ≠ m := by
  rintro rfl
  obtain ⟨es, clock, hb, _⟩ := h.map
  have := h.box
  rw [hb] at this
  cases this
theorem TableAt.kept {S : Nat → Prop} {w w' : World} {t m : Nat} {l : List (Int × (Int × Ans))} (h : TableAt w t m l) (hk : Keeps S w w') (ht : ¬ S t) (hm : ¬ S m) : TableAt w' t m l :=
  ⟨hk.heap ht h.box, h.map.kept hk hm⟩

theorem TableAt.alloc {w : World} {t m : Nat} {l : List (Int × (Int × Ans))} (h : TableAt w t m l) (o : Obj) : TableAt (w.alloc o) t m l :=
  ⟨(Below.heap_alloc _ _ _ (heap_lt h.box)).trans h.box, h.map.alloc o⟩
theorem TableAt.below {w w' : World} {t m : Nat} {l : List (Int × (Int × Ans))} {B : Nat} (h : TableAt w t m l) (hb : Below B w w') (ht : t < B) (hm : m < B) : TableAt w' t m l :=
  ⟨(hb.block _ ht).trans h.box, h.map.same (hb.block _ hm)⟩

theorem TableAt.drew {w : World} {t m : Nat} {l : List (Int × (Int × Ans))} (h : TableAt w t m l) : TableAt w.drew t m l := ⟨h.box, h.map⟩

theorem new_any (w : World) : Calls Try.prog 9 #[] w fun e w' => e = .returned (.pointer (some ⟨w.heap.size + 1, 0, none⟩)) ∧ TableAt w' (w.heap.size + 1) w.heap.size [] ∧ Below w.heap.size w w' := by
  have hmm := @run_makeMap Try.prog
  go_enter Try.func9, Try.ntmps9
  go_wp2
  go_ret
  refine ⟨rfl, ⟨?_, (MapOf.made _ _ _ _ w).alloc _⟩, ((Below.refl _ _).alloc (Nat.le_refl _) _).alloc (by simp) _⟩
  have : (w.alloc (.map #[] 0)).heap.size = w.heap.size + 1 := by simp
  rw [← this]
  exact heap_new _ _

theorem cells_of {W : World} {b : Nat} {x0 x1 x2 x3 : Value} {T : TypeId} (h : W.heap[b]? = some (.cells #[x0, x1, x2, x3] T (0, 0))) :
    W.cell? ⟨b, 0, none⟩ = some x0 ∧ W.cell? ⟨b, 1, none⟩ = some x1 ∧ W.cell? ⟨b, 2, none⟩ = some x2 ∧ W.cell? ⟨b, 3, none⟩ = some x3 := by
  simp [World.cell?, h]

section
variable (w : World) (t m : Nat) (l : List (Int × (Int × Ans))) (c : Int) (hc : (Lit.int .u64 c).wf = true) (h : TableAt w t m l)
include hc h

theorem tget_none (hg : aget c l = none) : (Instr.lookup 59 (.map (some m)) (.int .u64 c) false).run Try.prog w = .ok (.agg #[.int .u64 0, .int .i64 0, .string ⟨#[]⟩, .int .u64 0, .int .i64 0]) w :=
  h.map.run_get_none tkeyed keyU_inj Try.underlying59 (tzero w) (tkey hc) hg
theorem tget_some {x : Int × Ans} (hg : aget c l = some x) : (Instr.lookup 59 (.map (some m)) (.int .u64 c) false).run Try.prog w = .ok (.agg #[.int .u64 x.1, .int .i64 x.2.err, .string x.2.name, .int .u64 x.2.tok, .int .i64 x.2.val]) w :=
  h.map.run_get_some tkeyed keyU_inj Try.underlying59 (tzero w) (tkey hc) hg
theorem tok_none (hg : aget c l = none) : (Instr.lookup 59 (.map (some m)) (.int .u64 c) true).run Try.prog w = .ok (.tuple #[.agg #[.int .u64 0, .int .i64 0, .string ⟨#[]⟩, .int .u64 0, .int .i64 0], .bool false]) w :=
  h.map.run_ok_none tkeyed keyU_inj Try.underlying59 (tzero w) (tkey hc) hg
theorem tok_some {x : Int × Ans} (hg : aget c l = some x) : (Instr.lookup 59 (.map (some m)) (.int .u64 c) true).run Try.prog w = .ok (.tuple #[.agg #[.int .u64 x.1, .int .i64 x.2.err, .string x.2.name, .int .u64 x.2.tok, .int .i64 x.2.val], .bool true]) w :=
  h.map.run_ok_some tkeyed keyU_inj Try.underlying59 (tzero w) (tkey hc) hg

omit hc h in
theorem tfield (w : World) (a b : Int) (s : ByteArray) (x y : Int) : (Instr.field 54 (.agg #[.int .u64 a, .int .i64 b, .string s, .int .u64 x, .int .i64 y]) 0).run Try.prog w = .ok (.int .u64 a) w := by kernel_rfl

theorem last_any : Calls Try.prog 14 #[.pointer (some ⟨t, 0, none⟩), .int .u64 c] w (Ret (.int .u64 (((aget c l).map (·.1)).getD 0)) w) := by
  have hcell := cell_of_one h.box
  have hlt := lt_of_block h.box
  cases hg : aget c l with
  | none =>
    have hrun := tget_none w t m l c hc h hg
    clear h hg hc
    have hfld := tfield w
    go_enter Try.func14, Try.ntmps14
    go_wp2
    go_ret
    exact Ret.mk rfl
  | some x =>
    have hrun := tget_some w t m l c hc h hg
    clear h hg hc
    have hfld := tfield w
    go_enter Try.func14, Try.ntmps14
    go_wp2
    go_ret
    exact Ret.mk rfl

theorem full_any (hl : l.length ≤ 1000) : Calls Try.prog 29 #[.pointer (some ⟨t, 0, none⟩), .int .u64 c] w (RetN (.bool (!(aget c l).isSome && decide (16 ≤ l.length))) w) := by
  have hcell := cell_of_one h.box
  have hlt := lt_of_block h.box
  have hlen : ∀ o, (Builtin.len_ #[59] 3 #[.map (some m)]).run Try.prog (w.alloc o) = .ok (.int .i64 l.length) (w.alloc o) := fun o => (h.map.alloc o).run_len Try.underlying59 _
  cases hg : aget c l with
  | none =>
    have hrun := tok_none w t m l c hc h hg
    clear h hg hc
    by_cases h16 : 16 ≤ l.length
    all_goals
      go_enter Try.func29, Try.ntmps29
      go_wp2
      go_ret
      exact RetN.mk _ (bool_eq (by simp; try omega))
  | some x =>
    have hrun := tok_some w t m l c hc h hg
    clear h hg hc
    go_enter Try.func29, Try.ntmps29
    go_wp2
    go_ret
    exact RetN.mk _ rfl

/-- What a look-up comes to. -/
def lookF (l : List (Int × (Int × Ans))) (c n : Int) : Ans × Bool :=
  if c = 0 then (Ans.zero, false) else
  match aget c l with
  | none => if 16 ≤ l.length then (Ans.ofErr 6, true) else (Ans.zero, false)
  | some x => if n = x.1 then (x.2, true) else if n < x.1 then (Ans.ofErr 21, true) else (Ans.zero, false)

theorem look_zero (n : Int) (h0 : c = 0) :
    Calls Try.prog 11 #[.pointer (some ⟨t, 0, none⟩), .int .u64 c, .int .u64 n] w (RetB (.tuple #[Ans.zero.v, .bool false]) w) := by
  subst h0
  have hcell := cell_of_one h.box
  clear h hc
  go_enter Try.func11, Try.ntmps11
  go_wp2
  exact bodyPost_ret (v := .tuple #[Ans.zero.v, .bool false]) (by simp [results, Try.results11, go_sem, Ans.v, Ans.zero]) rfl (RetB.mk rfl ((Below.refl _ _).alloc (Nat.le_refl _) _))

theorem look_none (n : Int) (h0 : (c == 0) = false) (hl : l.length ≤ 1000) (hg : aget c l = none) :
    Calls Try.prog 11 #[.pointer (some ⟨t, 0, none⟩), .int .u64 c, .int .u64 n] w (RetB (.tuple #[(if 16 ≤ l.length then Ans.ofErr 6 else Ans.zero).v, .bool (decide (16 ≤ l.length))]) w) := by
  have hcell := cell_of_one h.box
  have hlt := lt_of_block h.box
  have hrun := fun o => tok_none _ t m l c hc (h.alloc o) hg
  have hfull := fun W hW => full_any W t m l c hc hW hl
  rw [hg] at hfull
  clear hg
  by_cases h16 : 16 ≤ l.length
  · simp only [h16, Option.isSome_none, Bool.not_false, Bool.true_and, decide_true, if_true] at hfull ⊢
    go_enter Try.func11, Try.ntmps11
    go_wp2_with (go_at_call 29; refine (hfull _ ((h.alloc _).alloc _)).mono ?_; rintro e w1 ⟨rfl, o, rfl⟩)
    exact bodyPost_ret (v := .tuple #[(Ans.ofErr 6).v, .bool true]) (by simp [results, Try.results11, go_sem, Ans.v, Ans.ofErr]) rfl (RetB.mk rfl ((((Below.refl _ _).alloc (Nat.le_refl _) _).alloc (by simp) _).alloc (by simp; omega) _))
  · simp only [h16, Option.isSome_none, Bool.not_false, Bool.true_and, decide_false, if_false] at hfull ⊢
    go_enter Try.func11, Try.ntmps11
    go_wp2_with (go_at_call 29; refine (hfull _ ((h.alloc _).alloc _)).mono ?_; rintro e w1 ⟨rfl, o, rfl⟩)
    exact bodyPost_ret (v := .tuple #[Ans.zero.v, .bool false]) (by simp [results, Try.results11, go_sem, Ans.v, Ans.zero]) rfl (RetB.mk rfl ((((Below.refl _ _).alloc (Nat.le_refl _) _).alloc (by simp) _).alloc (by simp; omega) _))
theorem look_some (n : Int) (h0 : (c == 0) = false) (hl : l.length ≤ 1000) (x : Int × Ans) (hg : aget c l = some x) :
    Calls Try.prog 11 #[.pointer (some ⟨t, 0, none⟩), .int .u64 c, .int .u64 n] w
      (RetB (.tuple #[(if n = x.1 then x.2 else if n < x.1 then Ans.ofErr 21 else Ans.zero).v, .bool (decide (n ≤ x.1))]) w) := by
  have hcell := cell_of_one h.box
  have hlt := lt_of_block h.box
  have hrun := fun o => tok_some _ t m l c hc (h.alloc o) hg
  have hfull := fun W hW => full_any W t m l c hc hW hl
  rw [hg] at hfull
  clear hg
  simp only [Option.isSome_some, Bool.not_true, Bool.false_and] at hfull
  obtain ⟨y, A⟩ := x
  by_cases h1 : n = y
  · subst h1
    rw [if_pos rfl, show decide (n ≤ (n, A).1) = true by simp]
    go_enter Try.func11, Try.ntmps11
    go_wp2_with (go_at_call 29; refine (hfull _ ((h.alloc _).alloc _)).mono ?_; rintro e w1 ⟨rfl, o, rfl⟩)
    exact bodyPost_ret (v := .tuple #[A.v, .bool true]) (by simp [results, Try.results11, go_sem, Ans.v]) rfl (RetB.mk rfl ((((Below.refl _ _).alloc (Nat.le_refl _) _).alloc (by simp) _).alloc (by simp; omega) _))
  · have e1 : (n == y) = false := by simpa using h1
    by_cases h2 : n < y
    · rw [if_neg h1, if_pos h2, show decide (n ≤ (y, A).1) = true by simp; omega]
      clear h1
      go_enter Try.func11, Try.ntmps11
      go_wp2_with (go_at_call 29; refine (hfull _ ((h.alloc _).alloc _)).mono ?_; rintro e w1 ⟨rfl, o, rfl⟩)
      exact bodyPost_ret (v := .tuple #[(Ans.ofErr 21).v, .bool true]) (by simp [results, Try.results11, go_sem, Ans.v, Ans.ofErr]) rfl (RetB.mk rfl ((((Below.refl _ _).alloc (Nat.le_refl _) _).alloc (by simp) _).alloc (by simp; omega) _))
    · rw [if_neg h1, if_neg h2, show decide (n ≤ (y, A).1) = false by simp; omega]
      clear h1
      go_enter Try.func11, Try.ntmps11
      go_wp2_with (go_at_call 29; refine (hfull _ ((h.alloc _).alloc _)).mono ?_; rintro e w1 ⟨rfl, o, rfl⟩)
      exact bodyPost_ret (v := .tuple #[Ans.zero.v, .bool false]) (by simp [results, Try.results11, go_sem, Ans.v, Ans.zero]) rfl (RetB.mk rfl ((((Below.refl _ _).alloc (Nat.le_refl _) _).alloc (by simp) _).alloc (by simp; omega) _))

omit hc in
theorem keep_arg (n : Int) (a : Ans) (h0 : (c == 0) = true ∨ (c == 0) = false ∧ (n == 0) = true) :
    Calls Try.prog 12 #[.pointer (some ⟨t, 0, none⟩), .int .u64 c, .int .u64 n, a.v] w (RetB (.int .i64 1) w) := by
  have hcell := cell_of_one h.box
  unfold Ans.v
  rcases h0 with h0 | ⟨h0, h1⟩
  all_goals
    clear h
    go_enter Try.func12, Try.ntmps12
    go_wp2
    go_ret
    exact RetB.mk rfl ((Below.refl _ _).alloc (Nat.le_refl _) _)

/-- The last number of a client. -/
def lastN (l : List (Int × (Int × Ans))) (c : Int) : Int := ((aget c l).map (·.1)).getD 0

theorem keep_no (n : Int) (a : Ans) (h0 : (c == 0) = false) (h1 : (n == 0) = false) (hl : l.length ≤ 1000) (e : Int)
    (he : n ≤ lastN l c ∧ e = 21 ∨ lastN l c < n ∧ (!(aget c l).isSome && decide (16 ≤ l.length)) = true ∧ e = 6 ∨ lastN l c < n ∧ (!(aget c l).isSome && decide (16 ≤ l.length)) = false ∧ 255 < a.name.size ∧ e = 15) :
    Calls Try.prog 12 #[.pointer (some ⟨t, 0, none⟩), .int .u64 c, .int .u64 n, a.v] w (RetB (.int .i64 e) w) := by
  have hcell := cell_of_one h.box
  have hlt := lt_of_block h.box
  have hlast := fun W hW => last_any W t m l c hc hW
  have hfull := fun W hW => full_any W t m l c hc hW hl
  change ∀ W, _ → Calls Try.prog _ _ W (Ret (.int .u64 (lastN l c)) W) at hlast
  unfold Ans.v
  generalize lastN l c = ln at *
  generalize (!(aget c l).isSome && decide (16 ≤ l.length)) = fu at *
  have hc' := Lib.hid hc
  clear hc
  rcases he with ⟨he, rfl⟩ | ⟨he, rfl, rfl⟩ | ⟨he, rfl, hs, rfl⟩
  all_goals
    go_enter Try.func12, Try.ntmps12
    go_wp2_with (first | (go_at_call 14; refine (hlast _ (h.alloc _)).mono ?_; rintro e w1 ⟨rfl, rfl⟩) | (go_at_call 29; refine (hfull _ (h.alloc _)).mono ?_; rintro e w1 ⟨rfl, o, rfl⟩))
    go_ret
    first
      | exact RetB.mk rfl ((Below.refl _ _).alloc (Nat.le_refl _) _)
      | exact RetB.mk rfl (((Below.refl _ _).alloc (Nat.le_refl _) _).alloc (by simp) _)

set_option maxRecDepth 100000 in
theorem keep_yes (n : Int) (a : Ans) (h0 : (c == 0) = false) (h1 : (n == 0) = false) (hl : l.length ≤ 1000)
    (he : lastN l c < n) (hf : (!(aget c l).isSome && decide (16 ≤ l.length)) = false) (hs : a.name.size ≤ 255) :
    Calls Try.prog 12 #[.pointer (some ⟨t, 0, none⟩), .int .u64 c, .int .u64 n, a.v] w
      fun e w' => e = .returned (.int .i64 0) ∧ TableAt w' t m (aset c (n, a) l) ∧ Keeps (fun k => k = m) w w' := by
  have hcell := cell_of_one h.box
  have hlt := lt_of_block h.box
  have hlast := fun W hW => last_any W t m l c hc hW
  have hfull := fun W hW => full_any W t m l c hc hW hl
  change ∀ W, _ → Calls Try.prog _ _ W (Ret (.int .u64 (lastN l c)) W) at hlast
  unfold Ans.v
  generalize lastN l c = ln at *
  generalize (!(aget c l).isSome && decide (16 ≤ l.length)) = fu at *
  subst hf
  have hc' := Lib.hid hc
  clear hc
  go_enter Try.func12, Try.ntmps12
  go_wp2_with (first | (go_at_call 14; refine (hlast _ (h.alloc _)).mono ?_; rintro e w1 ⟨rfl, rfl⟩) | (go_at_call 29; refine (hfull _ (h.alloc _)).mono ?_; rintro e w1 ⟨rfl, o, rfl⟩))
  refine still_tail 8 (by kernel_rfl) (by kernel_rfl) ?_
  intro W hW
  have hT : TableAt W t m l := by subst hW; exact ((h.alloc _).alloc _).drew
  have hk : Keeps (fun k => k = m) w W := by subst hW; exact (((Keeps.refl _ _).alloc _).alloc _).drew
  have hb : W.heap[w.heap.size]? = some (.cells #[.int .i64 a.err, .string a.name, .int .u64 a.tok, .int .i64 a.val] 36) := by
    subst hW; exact (Below.heap_alloc _ _ _ (by simp)).trans (heap_new _ _)
  clear hW h hcell hlt hlast hfull
  have hcell := cell_of_one hT.box
  have hfr := cells_of hb
  simp only [List.take_succ_cons, List.take_zero, List.drop_succ_cons, List.drop_zero]
  repeat still_step
  refine wpStill_nil ?_
  refine wpList_map_update W rfl _ _ _ _ rfl _ tkeyed keyU_inj Try.underlying59 m l rfl hT.map c _ rfl (tkey hc'.out) (n, a) rfl ?_
  intro ob hM
  have hk2 : Keeps (fun k => k = m) w (setBlock W m ob) := hk.setBlock (.inl rfl) ob
  have hT2 : TableAt (setBlock W m ob) t m (aset c (n, a) l) := ⟨(Keeps.setBlock (Keeps.refl (fun k => k = m) W) (.inl rfl) ob).heap (fun e => hT.ne e) hT.box, hM⟩
  clear hT hk hM hb hfr hcell
  go_wp2
  go_ret
  exact ⟨rfl, hT2, hk2⟩
end

end Go.Proofs.Ytckmenongeklpaa

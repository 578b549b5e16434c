/- Package quota: a ledger's blocks; New, Take (what they write, not what they mean). 'm[k], .. = v, ..': a map's entry, then its store (two operations of the model): over plain lists of pairs. Of whatever program. A range over a map (MapOf): whichever order the keys come in. Of whatever program. -/
import Derived.Test.YtheipmallojdkaaGreatDoorIrM02
import Derived.WideKeyEntry
import Derived.Test.YtheipmallojdkaaGreatDoorIrM01
import Derived.Maps.RangeRun
import Derived.Maps.RangeWalk
import Derived.TacticsIn
import Derived.RangeFuncOwn
import Derived.Sort.MapsRangeIn

namespace Go.Proofs.YtheipmallojdkaaGreatDoor
open Go.RowKit Go.Maps Go.ChangeMaps

def intV (x : Int) : Value := .int .i64 x
theorem zero_int (w : World) : (zeroValue 3).run Tryz.prog w = .ok (.int .i64 0) w := by kernel_rfl

/-- Block q is a ledger, all of whose blocks lie in S. -/
structure LedgerAt (w : World) (q : Nat) (S : Nat → Prop) (each : Int) (mh mm : Nat) (lh lm : List (ByteArray × Int)) : Prop where
  box : w.heap[q]? = some (.cells #[.int .i64 each, .map (some mh), .map (some mm)] 102 (0, 0))
  has : SMap intV w mh lh
  most : SMap intV w mm lm
  ne : mh ≠ mm
  sq : S q
  sh : S mh
  sm : S mm
  lt : ∀ k, S k → k < w.heap.size

def Ledger (w : World) (q : Nat) (S : Nat → Prop) : Prop := ∃ each mh mm lh lm, LedgerAt w q S each mh mm lh lm

theorem Ledger.lt {w : World} {q : Nat} {S : Nat → Prop} (h : Ledger w q S) : ∀ k, S k → k < w.heap.size := by
  obtain ⟨_, _, _, _, _, h⟩ := h
  exact h.lt
theorem Ledger.kept {S T : Nat → Prop} {w w' : World} {q : Nat} (h : Ledger w q S) (hk : Keeps T w w') (hn : ∀ k, S k → ¬ T k) : Ledger w' q S := by
  obtain ⟨each, mh, mm, lh, lm, h⟩ := h
  exact ⟨each, mh, mm, lh, lm, hk.heap (hn q h.sq) h.box, h.has.kept hk (hn mh h.sh), h.most.kept hk (hn mm h.sm), h.ne, h.sq, h.sh, h.sm, fun k hs => Nat.lt_of_lt_of_le (h.lt k hs) hk.size⟩

section
variable {w : World} {q : Nat} {S : Nat → Prop} {each : Int} {mh mm : Nat} {lh lm : List (ByteArray × Int)} (h : LedgerAt w q S each mh mm lh lm) {key : ByteArray} (hkey : key.size ≤ maxLen)
include h hkey
theorem qlook_has : (Instr.lookup 100 (.map (some mh)) (.string key) false).run Tryz.prog w = .ok (.int .i64 ((aget key lh).getD 0)) w := by
  have := h.has.run_lookup skeyed keyS_inj Tryz.underlying100 (zero_int w) (skey hkey) false
  cases e : aget key lh <;> rw [e] at this <;> exact this
theorem qlook_most : (Instr.lookup 100 (.map (some mm)) (.string key) true).run Tryz.prog w = .ok (.tuple #[.int .i64 ((aget key lm).getD 0), .bool (aget key lm).isSome]) w := by
  have := h.most.run_lookup skeyed keyS_inj Tryz.underlying100 (zero_int w) (skey hkey) true
  cases e : aget key lm <;> rw [e] at this <;> exact this

set_option maxRecDepth 100000 in
theorem qhas_any : Calls Tryz.prog 62 #[.pointer (some ⟨q, 0, none⟩), .string key] w (Ret (.int .i64 ((aget key lh).getD 0)) w) := by
  have c1 := blk_cell h.box 1 rfl
  have l := heap_lt h.box
  have hr := qlook_has h hkey
  clear h
  generalize (aget key lh).getD 0 = x at *
  go_enter Tryz.func62, Tryz.ntmps62
  go_wp2
  go_ret
  exact Ret.mk rfl

set_option maxRecDepth 100000 in
theorem qmay_any : Calls Tryz.prog 63 #[.pointer (some ⟨q, 0, none⟩), .string key] w (Ret (.int .i64 (if (aget key lm).isSome then (aget key lm).getD 0 else each)) w) := by
  have c0 := blk_cell h.box 0 rfl
  have c2 := blk_cell h.box 2 rfl
  have l := heap_lt h.box
  have hr := qlook_most h hkey
  clear h
  generalize (aget key lm).getD 0 = x at *
  generalize hb : (aget key lm).isSome = b at *
  clear hb
  cases b
  · go_enter Tryz.func63, Tryz.ntmps63
    go_wp2
    go_ret
    exact Ret.mk rfl
  · go_enter Tryz.func63, Tryz.ntmps63
    go_wp2
    go_ret
    exact Ret.mk rfl
end

/-- One more, or not: an error's number. -/
def TookP (w : World) (q : Nat) (S : Nat → Prop) (e : Ending) (w' : World) : Prop := ∃ x : Int, e = .returned (.int .i64 x) ∧ Ledger w' q S ∧ Keeps S w w'

set_option maxRecDepth 100000 in
theorem qtake_any (w : World) (q : Nat) (S : Nat → Prop) (h : Ledger w q S) (key : ByteArray) (hkey : key.size ≤ maxLen) :
    Calls Tryz.prog 42 #[.pointer (some ⟨q, 0, none⟩), .string key] w (TookP w q S) := by
  have h0 := h
  obtain ⟨each, mh, mm, lh, lm, h⟩ := h
  have h1 := qhas_any h hkey
  have h2 := qmay_any h hkey
  have hr := qlook_has h hkey
  have c1 := blk_cell h.box 1 rfl
  have l := heap_lt h.box
  have H := Lib.hid h
  have H0 := Lib.hid h0
  have HK := Lib.hid hkey
  clear h h0 hkey
  obtain ⟨x, hx⟩ : ∃ x, x = (aget key lh).getD 0 := ⟨_, rfl⟩
  rw [← hx] at h1 hr
  clear hx
  generalize (if (aget key lm).isSome then (aget key lm).getD 0 else each) = y at *
  by_cases hxy : y ≤ x
  · have d : decide (y ≤ x) = true := by simpa using hxy
    clear hr c1
    go_enter Tryz.func42, Tryz.ntmps42
    go_wp2_with fail
    refine h1.mono ?_
    rintro e w1 ⟨rfl, rfl⟩
    go_wp2_with fail
    refine h2.mono ?_
    rintro e w1 ⟨rfl, rfl⟩
    go_wp2_with fail
    go_ret
    exact ⟨_, rfl, H0.out, Keeps.refl _ _⟩
  · have d : decide (y ≤ x) = false := by simpa using hxy
    go_enter Tryz.func42, Tryz.ntmps42
    go_wp2_with fail
    refine h1.mono ?_
    rintro e w1 ⟨rfl, rfl⟩
    go_wp2_with fail
    refine h2.mono ?_
    rintro e w1 ⟨rfl, rfl⟩
    clear h1 h2
    go_wp2_with (first | (refine wpList_map_update _ rfl _ _ _ _ rfl _ skeyed keyS_inj Tryz.underlying100 mh lh rfl H.out.has key _ rfl (skey HK.out) (wrap64 (x + 1)) rfl ?_; intro ob hM; have HM := Lib.hid hM; clear hM) | fail)
    go_ret
    have hk : Keeps (fun k => k = mh) w (setBlock w mh ob) := (Keeps.refl (fun k => k = mh) w).setBlock (.inl rfl) ob
    have hq : q ≠ mh := by
      rintro rfl
      have e1 := H.out.box
      obtain ⟨es, cl, e2, _⟩ := H.out.has
      rw [e1] at e2
      cases e2
    exact ⟨0, rfl, ⟨each, mh, mm, _, lm, hk.heap hq H.out.box, HM.out, H.out.most.kept hk (fun e => H.out.ne e.symm), H.out.ne, H.out.sq, H.out.sh, H.out.sm, fun k hs => Nat.lt_of_lt_of_le (H.out.lt k hs) hk.size⟩, hk.mono fun k _ e => e ▸ H.out.sh⟩

/-- What New leaves: a ledger in new blocks, or none. -/
def QNewP (w : World) (each : Int) (e : Ending) (w' : World) : Prop :=
  Below w.heap.size w w' ∧ ((¬ (0 ≤ each ∧ each ≤ 128) ∧ e = .returned (.tuple #[.pointer none, .int .i64 1])) ∨
    ((0 ≤ each ∧ each ≤ 128) ∧ ∃ q, e = .returned (.tuple #[.pointer (some ⟨q, 0, none⟩), .int .i64 0]) ∧ Ledger w' q (fun k => w.heap.size ≤ k ∧ k < w'.heap.size)))

theorem qright_any (w : World) (x : Int) : Calls Tryz.prog 53 #[.int .i64 x] w (Ret (.bool (decide (0 ≤ x) && decide (x ≤ 128))) w) := by
  by_cases h1 : 0 ≤ x <;> by_cases h2 : x ≤ 128
  all_goals
    go_enter Tryz.func53, Tryz.ntmps53
    go_wp2
    go_ret
    exact Ret.mk (by simp [h1, h2])

set_option maxRecDepth 100000 in
theorem qnew_any (w : World) (each : Int) : Calls Tryz.prog 26 #[.int .i64 each] w (QNewP w each) := by
  have hq := qright_any w each
  by_cases hr : 0 ≤ each ∧ each ≤ 128
  · have HR := Lib.hid hr
    have d : (decide (0 ≤ each) && decide (each ≤ 128)) = true := by simp [hr]
    rw [d] at hq
    clear d hr
    go_enter Tryz.func26, Tryz.ntmps26
    go_wp2_with fail
    refine hq.mono ?_
    rintro e w1 ⟨rfl, rfl⟩
    have hmm := @run_makeMap Tryz.prog
    go_wp2_with fail
    go_ret2
    have m1 : SMap intV (((w.alloc (.map #[] 0)).alloc (.map #[] 0)).alloc (.cells #[.int .i64 each, .map (some w.heap.size), .map (some (w.heap.size + 1))] 102)) w.heap.size [] := ((MapOf.made _ _ _ _ w).alloc _).alloc _
    have m2 : SMap intV (((w.alloc (.map #[] 0)).alloc (.map #[] 0)).alloc (.cells #[.int .i64 each, .map (some w.heap.size), .map (some (w.heap.size + 1))] 102)) (w.heap.size + 1) [] := by
      have := (MapOf.made Tryz.prog 9 keyS intV (w.alloc (.map #[] 0))).alloc (.cells #[.int .i64 each, .map (some w.heap.size), .map (some (w.heap.size + 1))] 102)
      rwa [World.size_alloc] at this
    refine ⟨(((Below.refl _ w).alloc (Nat.le_refl _) _).alloc (by simp) _).alloc (by simp; omega) _, .inr ⟨HR.out, w.heap.size + 2, rfl, each, _, _, [], [], ?_, m1, m2, by omega, ?_, ?_, ?_, fun k hk => hk.2⟩⟩
    · have := heap_new ((w.alloc (.map #[] 0)).alloc (.map #[] 0)) (.cells #[.int .i64 each, .map (some w.heap.size), .map (some (w.heap.size + 1))] 102)
      rwa [World.size_alloc, World.size_alloc] at this
    · constructor <;> simp <;> omega
    · constructor <;> simp <;> omega
    · constructor <;> simp <;> omega
  · have HR := Lib.hid hr
    have d : (decide (0 ≤ each) && decide (each ≤ 128)) = false := by
      rw [← Bool.not_eq_true, Bool.and_eq_true, decide_eq_true_eq, decide_eq_true_eq]
      exact hr
    rw [d] at hq
    clear d hr
    go_enter Tryz.func26, Tryz.ntmps26
    go_wp2_with fail
    refine hq.mono ?_
    rintro e w1 ⟨rfl, rfl⟩
    go_wp2_with fail
    go_ret2
    exact ⟨Below.refl _ _, .inl ⟨HR.out, rfl⟩⟩

end Go.Proofs.YtheipmallojdkaaGreatDoor

namespace Go.Proofs.YtheipmallojdkaaGreatDoor
open Go.RowKit Go.Maps Go.ChangeMaps

section
variable {P : Program} {k : TypeId} {α β : Type} {κ : α → Value} {φ : β → Value} [DecidableEq α]

theorem MapOf.run_entry {w : World} {b : Nat} {m : List (α × β)} (h : MapOf P k κ φ w b m) (K : Keyed P k) (inj : ∀ a b : α, κ a = κ b → a = b) {t e : TypeId} (ht : P.underlying t = some (.map k e)) {z : Value} (hz : ∀ u : World, (zeroValue e).run P u = .ok z u)
    {key : α} {kl : Lit} (hkey : keyOf P k (κ key) = some kl) (val : β) :
    ∃ (v0 s : Value) (o1 o2 : Obj), (Instr.mapEntry t (.map (some b)) (κ key)).run P w = .ok (.tuple #[v0, s]) (setBlock w b o1) ∧
      (Instr.entryStore t (.map (some b)) s (φ val)).run P (setBlock w b o1) = .ok () (setBlock w b o2) ∧ MapOf P k κ φ (setBlock w b o2) b (aset key val m) := by
  obtain ⟨o, hu, hM⟩ := h.run_update K inj ht hkey val
  have hK := fun es clock => h.keysK (es := es) (clock := clock)
  obtain ⟨es, clock, hb, hm, hn, hk, hbn⟩ := h
  obtain ⟨s1, s2⟩ := hbn
  rcases K.find w hkey es.toList (hK _ _ hb) with ⟨h1, h2⟩ | ⟨j, e0, h1, h2, h3⟩
  · have hu2 : (Instr.mapUpdate t (.map (some b)) (κ key) (φ val)).run P w = .ok () (setBlock w b (.map (es.push ⟨κ key, φ val, clock⟩) (clock + 1))) := by
      simp [Instr.mapUpdate, run_underlying ht, MapKept.run_getObj_map hb, K.check w false hkey, h1, MapKept.run_setObj_map _ hb, Result.andThen, setBlock]
    rw [hu2] at hu
    injection hu with _ hu
    have hidx : (es.push ⟨κ key, z, clock⟩).findIdx? (fun e => ((e.born : Nat) : Int) == ((clock : Nat) : Int)) = some es.size := by
      rw [WideElems.findIdx_arr]
      exact WideElems.findIdx_born (l := (es.push ⟨κ key, z, clock⟩).toList) (j := es.size) (e0 := ⟨κ key, z, clock⟩) (by
        simp only [Array.toList_push, List.map_append, List.map_cons, List.map_nil]
        refine List.nodup_append.2 ⟨s2, by simp, fun a ha c hc e1 => ?_⟩
        simp only [List.mem_singleton] at hc
        obtain ⟨x, hx, rfl⟩ := List.mem_map.1 ha
        have := s1 x hx
        omega) (by simp)
    have hmod : (es.push ⟨κ key, z, clock⟩).modify es.size (fun e => { e with val := φ val }) = es.push ⟨κ key, φ val, clock⟩ := by
      apply Array.ext'
      rw [Array.toList_modify, Array.toList_push, Array.toList_push, ← Array.length_toList, WideElems.modify_last]
    have hb1 : (setBlock w b (.map (es.push ⟨κ key, z, clock⟩) (clock + 1))).heap[b]? = some (.map (es.push ⟨κ key, z, clock⟩) (clock + 1)) := heap_setBlock_same hb _
    have hst : ∀ W2 : World, W2.heap[b]? = some (.map (es.push ⟨κ key, z, clock⟩) (clock + 1)) → (Instr.entryStore t (.map (some b)) (goInt clock) (φ val)).run P W2 = .ok () (setBlock W2 b (.map (es.push ⟨κ key, φ val, clock⟩) (clock + 1))) := by
      intro W2 hw2
      simp [Instr.entryStore, MapKept.run_getObj_map hw2, asInt, asIntOf, goInt, hidx, hmod, MapKept.run_setObj_map _ hw2, Result.andThen, setBlock]
    refine ⟨z, goInt clock, .map (es.push ⟨κ key, z, clock⟩) (clock + 1), .map (es.push ⟨κ key, φ val, clock⟩) (clock + 1), ?_, ?_, by rw [hu]; exact hM⟩
    · simp [Instr.mapEntry, run_underlying ht, MapKept.run_getObj_map hb, K.check w false hkey, h1, hz, MapKept.run_setObj_map _ hb, Result.andThen, setBlock]
    · exact (hst _ hb1).trans (by rw [setBlock_setBlock])
  · have hj : es[j]? = some e0 := by simpa using h2
    have hu2 : (Instr.mapUpdate t (.map (some b)) (κ key) (φ val)).run P w = .ok () (setBlock w b (.map (es.modify j fun e => { e with key := κ key, val := φ val }) clock)) := by
      simp [Instr.mapUpdate, run_underlying ht, MapKept.run_getObj_map hb, K.check w false hkey, h1, hj, h3, K.stays w hkey, MapKept.run_setObj_map _ hb, Result.andThen, setBlock]
    rw [hu2] at hu
    injection hu with _ hu
    have hsame : es.modify j (fun e => { e with key := κ key }) = es := by
      apply Array.ext'
      rw [Array.toList_modify, modify_eq_set _ _ _ _ h2]
      have : ({ e0 with key := κ key } : MapEntry) = e0 := by rw [← h3]
      rw [this]
      exact WideElems.set_self _ _ _ h2
    have hidx : es.findIdx? (fun e => ((e.born : Nat) : Int) == ((e0.born : Nat) : Int)) = some j := by
      rw [WideElems.findIdx_arr]
      exact WideElems.findIdx_born s2 h2
    have hmod : es.modify j (fun e => { e with val := φ val }) = es.modify j (fun e' => { e' with key := κ key, val := φ val }) := by
      apply Array.ext'
      rw [Array.toList_modify, Array.toList_modify, modify_eq_set _ _ _ _ h2, modify_eq_set _ _ _ _ h2, ← h3]
    have hb1 : (setBlock w b (.map es clock)).heap[b]? = some (.map es clock) := heap_setBlock_same hb _
    have hst : ∀ W2 : World, W2.heap[b]? = some (.map es clock) → (Instr.entryStore t (.map (some b)) (goInt e0.born) (φ val)).run P W2 = .ok () (setBlock W2 b (.map (es.modify j fun e' => { e' with key := κ key, val := φ val }) clock)) := by
      intro W2 hw2
      simp [Instr.entryStore, MapKept.run_getObj_map hw2, asInt, asIntOf, goInt, hidx, hmod, MapKept.run_setObj_map _ hw2, Result.andThen, setBlock]
    refine ⟨e0.val, goInt e0.born, .map es clock, .map (es.modify j fun e' => { e' with key := κ key, val := φ val }) clock, ?_, ?_, by rw [hu]; exact hM⟩
    · simp [Instr.mapEntry, run_underlying ht, MapKept.run_getObj_map hb, K.check w false hkey, h1, hj, h3, K.stays w hkey, hsame, MapKept.run_setObj_map _ hb, Result.andThen, setBlock]
    · exact (hst _ hb1).trans (by rw [setBlock_setBlock])

variable (w : World) {ops : Array Oper} {rest : List Oper} {o1 o2 o3 : Oper} {a : Act} {Q : Exit → Act → World → Prop}

/-- The entry, its stamp taken out, its store: at the operations, for the walk. -/
theorem wpList_map_entry (hg1 : o1.guard = none) (hg2 : o2.guard = none) (hg3 : o3.guard = none) (m x y m' y' v : Operand) (t : TypeId) (h1 : o1.op = .mapEntry t m x) (h2 : o2.op = .extract y 1) (h3 : o3.op = .entryStore t m' y' v)
    (e : TypeId) (K : Keyed P k) (inj : ∀ a b : α, κ a = κ b → a = b) (ht : P.underlying t = some (.map k e)) {z : Value} (hz : ∀ u : World, (zeroValue e).run P u = .ok z u)
    (b : Nat) (l : List (α × β)) (hm : a.eval m = .map (some b)) (h : MapOf P k κ φ w b l) (key : α) (kl : Lit) (hx : a.eval x = κ key) (hkey : keyOf P k (κ key) = some kl) (val : β)
    (hy : ∀ u, (a.put o1.dst u).eval y = u) (hm' : ∀ u s, ((a.put o1.dst u).put o2.dst s).eval m' = .map (some b)) (hy' : ∀ u s, ((a.put o1.dst u).put o2.dst s).eval y' = s) (hv : ∀ u s, ((a.put o1.dst u).put o2.dst s).eval v = φ val)
    (hK : ∀ u s ob, MapOf P k κ φ (setBlock w b ob) b (aset key val l) → wpList P ops Q rest (((a.put o1.dst u).put o2.dst s).put o3.dst undef) (setBlock w b ob)) : wpList P ops Q (o1 :: o2 :: o3 :: rest) a w := by
  obtain ⟨v0, s, ob1, ob2, r1, r2, hM⟩ := h.run_entry K inj ht hz hkey val
  refine wpList_plain hg1 fun K1 hK1 => ?_
  unfold Oper.wp
  simp [execOp, h1, hm, hx, r1, Result.andThen]
  refine hK1 _ _ (wpList_plain hg2 fun K2 hK2 => ?_)
  unfold Oper.wp
  simp [execOp, h2, hy, Instr.extract, Result.andThen]
  refine hK2 _ _ (wpList_plain hg3 fun K3 hK3 => ?_)
  unfold Oper.wp
  simp [execOp, h3, hm', hy', hv, r2, Result.andThen]
  exact hK3 _ _ (hK _ _ ob2 hM)
end

end Go.Proofs.YtheipmallojdkaaGreatDoor

namespace Go.Proofs.YtheipmallojdkaaGreatDoor
open Go.RowKit Go.Maps Go.ChangeMaps

section
variable {P : Program} {k : TypeId} {α β : Type} {κ : α → Value} {φ : β → Value}

/-- Block r ranges over the map in block b, which is l; the keys of p have come. -/
def MIter (P : Program) (k : TypeId) (κ : α → Value) (φ : β → Value) (w : World) (b r : Nat) (l : List (α × β)) (p : List α) : Prop :=
  ∃ es clock since seen c0, w.heap[b]? = some (.map es clock) ∧ es.toList.map (fun e => (e.key, e.val)) = l.map (fun p => (κ p.1, φ p.2)) ∧ (keys l).Nodup ∧ (∀ p ∈ l, ∃ x, keyOf P k (κ p.1) = some x) ∧ Born es.toList clock ∧
    w.heap[r]? = some (.mapIter (some b) since seen c0) ∧ (∀ x ∈ es.toList, x.born < since) ∧ since ≤ c0 ∧ since ≤ clock ∧ (∀ e ∈ es.toList, seen.contains e.born = true ↔ ∃ a ∈ p, e.key = κ a) ∧ seen.size = p.length

theorem MIter.map {w : World} {b r : Nat} {l : List (α × β)} {p : List α} (h : MIter P k κ φ w b r l p) : MapOf P k κ φ w b l := by
  obtain ⟨es, clock, since, seen, c0, h1, h2, h3, h4, h5, _⟩ := h
  exact ⟨es, clock, h1, h2, h3, h4, h5⟩
theorem MIter.same {w w' : World} {b r : Nat} {l : List (α × β)} {p : List α} (h : MIter P k κ φ w b r l p) (hb : w'.heap[b]? = w.heap[b]?) (hr : w'.heap[r]? = w.heap[r]?) : MIter P k κ φ w' b r l p := by
  obtain ⟨es, clock, since, seen, c0, h1, h2, h3, h4, h5, h6, h7⟩ := h
  exact ⟨es, clock, since, seen, c0, hb.trans h1, h2, h3, h4, h5, hr.trans h6, h7⟩
theorem MIter.lt {w : World} {b r : Nat} {l : List (α × β)} {p : List α} (h : MIter P k κ φ w b r l p) : r < w.heap.size := by
  obtain ⟨es, clock, since, seen, c0, h1, h2, h3, h4, h5, h6, h7⟩ := h
  exact heap_lt h6
theorem MIter.ne {w : World} {b r : Nat} {l : List (α × β)} {p : List α} (h : MIter P k κ φ w b r l p) : r ≠ b := by
  obtain ⟨es, clock, since, seen, c0, h1, h2, h3, h4, h5, h6, h7⟩ := h
  rintro rfl
  rw [h1] at h6
  cases h6
theorem MIter.kept {S : Nat → Prop} {w w' : World} {b r : Nat} {l : List (α × β)} {p : List α} (h : MIter P k κ φ w b r l p) (hk : Keeps S w w') (hb : ¬ S b) (hr : ¬ S r) : MIter P k κ φ w' b r l p :=
  h.same (hk.block b h.map.lt hb) (hk.block r h.lt hr)
theorem MIter.walks {w w' : World} {b r : Nat} {l : List (α × β)} {p : List α} (h : MIter P k κ φ w b r l p) (hk : KeepsWalks w w') : MIter P k κ φ w' b r l p := by
  obtain ⟨es, clock, since, seen, c0, h1, h2, h3, h4, h5, h6, h7⟩ := h
  exact ⟨es, clock, since, seen, c0, hk.same _ _ h1 rfl, h2, h3, h4, h5, hk.same _ _ h6 rfl, h7⟩
theorem MIter.seen {w : World} {b r : Nat} {l : List (α × β)} {p : List α} (h : MIter P k κ φ w b r l p) : (w.iterSeen r).size = p.length := by
  obtain ⟨es, clock, since, seen, c0, h1, h2, h3, h4, h5, h6, h7, h8, h9, h10, h11⟩ := h
  simp [World.iterSeen, h6, h11]
theorem MIter.iter_obj {w : World} {b r : Nat} {l : List (α × β)} {p : List α} (h : MIter P k κ φ w b r l p) : ∃ m s seen c, w.heap[r]? = some (.mapIter m s seen c) := by
  obtain ⟨es, clock, since, seen, c0, h1, h2, h3, h4, h5, h6, h7⟩ := h
  exact ⟨_, _, _, _, h6⟩

theorem MapOf.run_range {w : World} {b : Nat} {l : List (α × β)} (h : MapOf P k κ φ w b l) {t e : TypeId} (ht : P.underlying t = some (.map k e)) :
    ∃ o, (Instr.range t (.map (some b))).run P w = .ok (.pointer (some ⟨w.heap.size, 0, none⟩)) (w.alloc o) ∧ MIter P k κ φ (w.alloc o) b w.heap.size l [] := by
  have hlt := h.lt
  obtain ⟨es, clock, h1, h2, h3, h4, h5⟩ := h
  refine ⟨_, run_range_map w t k e b es clock ht h1, es, clock, clock, #[], clock, (heap_alloc_old w _ hlt).trans h1, h2, h3, h4, h5, heap_alloc_new w _, h5.1, Nat.le_refl _, Nat.le_refl _, ?_, rfl⟩
  intro e he
  simp

theorem entry_mem {es : List MapEntry} {l : List (α × β)} (h : es.map (fun e => (e.key, e.val)) = l.map (fun p => (κ p.1, φ p.2))) {e : MapEntry} (he : e ∈ es) : ∃ p ∈ l, e.key = κ p.1 ∧ e.val = φ p.2 := by
  have : (e.key, e.val) ∈ l.map (fun p => (κ p.1, φ p.2)) := by rw [← h]; exact List.mem_map.2 ⟨e, he, rfl⟩
  obtain ⟨p, hp, hpe⟩ := List.mem_map.1 this
  simp only [Prod.mk.injEq] at hpe
  exact ⟨p, hp, hpe.1.symm, hpe.2.symm⟩
theorem mem_entry {es : List MapEntry} {l : List (α × β)} (h : es.map (fun e => (e.key, e.val)) = l.map (fun p => (κ p.1, φ p.2))) {p : α × β} (hp : p ∈ l) : ∃ e ∈ es, e.key = κ p.1 ∧ e.val = φ p.2 := by
  have : (κ p.1, φ p.2) ∈ es.map (fun e => (e.key, e.val)) := by rw [h]; exact List.mem_map.2 ⟨p, hp, rfl⟩
  obtain ⟨e, he, hpe⟩ := List.mem_map.1 this
  simp only [Prod.mk.injEq] at hpe
  exact ⟨e, he, hpe.1, hpe.2⟩

theorem key_entry (inj : ∀ a b : α, κ a = κ b → a = b) : ∀ {es : List MapEntry} {l : List (α × β)}, es.map (fun e => (e.key, e.val)) = l.map (fun p => (κ p.1, φ p.2)) → (keys l).Nodup → ∀ {x y : MapEntry}, x ∈ es → y ∈ es → x.key = y.key → x = y
  | [], _, _, _, _, _, hx, _, _ => by simp at hx
  | e :: es, [], h, _, _, _, _, _, _ => by simp at h
  | e :: es, (a, v) :: l, h, hn, x, y, hx, hy, hxy => by
    simp only [List.map_cons, List.cons.injEq, Prod.mk.injEq] at h
    simp only [keys, List.map_cons, List.nodup_cons] at hn
    have out : ∀ z ∈ es, z.key ≠ e.key := fun z hz hze => by
      obtain ⟨p, hp, hk, _⟩ := entry_mem h.2 hz
      rw [hze, h.1.1] at hk
      exact hn.1 (List.mem_map.2 ⟨p, hp, (inj _ _ hk).symm⟩)
    rcases List.mem_cons.1 hx with rfl | hx'
    · rcases List.mem_cons.1 hy with rfl | hy'
      · rfl
      · exact absurd hxy.symm (out y hy')
    · rcases List.mem_cons.1 hy with rfl | hy'
      · exact absurd hxy (out x hx')
      · exact key_entry inj h.2 hn.2 hx' hy' hxy

theorem MIter.run_next {w : World} {b r : Nat} {l : List (α × β)} {p : List α} (h : MIter P k κ φ w b r l p) (inj : ∀ a b : α, κ a = κ b → a = b) (ty : TypeId) :
    ((∀ x ∈ keys l, x ∈ p) ∧ (Instr.next (.pointer (some ⟨r, 0, none⟩)) false ty).run P w = .ok (.tuple #[.bool false]) w) ∨
    ∃ key val w', (key, val) ∈ l ∧ key ∉ p ∧ MIter P k κ φ w' b r l (p ++ [key]) ∧ Keeps (fun j => j = r) w w' ∧ w'.heap.size = w.heap.size ∧
      (Instr.entry (.pointer (some ⟨r, 0, none⟩))).run P w' = .ok (.tuple #[κ key, φ val]) w' ∧ (Instr.next (.pointer (some ⟨r, 0, none⟩)) false ty).run P w = .ok (.tuple #[.bool true, κ key, φ val]) w' := by
  have hne := h.ne
  obtain ⟨es, clock, since, seen, c0, h1, h2, h3, h4, h5, h6, h7, h8, h9, h10, h11⟩ := h
  rcases run_next_at (P := P) w ty r b since c0 seen es clock h6 h1 h7 h8 with ⟨h0, hr⟩ | ⟨e, he, w1, hw1, hr⟩
  · left
    refine ⟨fun x hx => ?_, hr⟩
    obtain ⟨q, hq, rfl⟩ := List.mem_map.1 hx
    obtain ⟨e, he, hek, _⟩ := mem_entry h2 hq
    obtain ⟨a, ha, hea⟩ := (h10 e he).1 (all_seen es seen h0 e he)
    rw [hek] at hea
    rw [inj _ _ hea]
    exact ha
  · right
    obtain ⟨he1, he2⟩ := mem_left he
    obtain ⟨q, hq, hqk, hqv⟩ := entry_mem h2 he1
    have hnp : q.1 ∉ p := fun hp => by
      have := (h10 e he1).2 ⟨q.1, hp, hqk⟩
      rw [he2] at this
      cases this
    have hh1 : w1.heap = w.heap := by rcases hw1 with rfl | rfl <;> rfl
    have hkeep : Keeps (fun j => j = r) w (setBlock w1 r (.mapIter (some b) since (seen.push e.born) clock)) := by
      rcases hw1 with rfl | rfl
      · exact (Keeps.refl (fun j => j = r) _).setBlock (p := r) (.inl rfl) _
      · exact (Keeps.refl (fun j => j = r) _).drew.setBlock (p := r) (.inl rfl) _
    have hsz : (setBlock w1 r (.mapIter (some b) since (seen.push e.born) clock)).heap.size = w.heap.size := by simp [setBlock, hh1]
    have hr1 : (setBlock w1 r (.mapIter (some b) since (seen.push e.born) clock)).heap[r]? = some (.mapIter (some b) since (seen.push e.born) clock) := by
      have := heap_lt h6
      simp only [setBlock, hh1, Array.getElem?_setIfInBounds]
      simp [this]
    have hb1 : (setBlock w1 r (.mapIter (some b) since (seen.push e.born) clock)).heap[b]? = some (.map es clock) := (hkeep.block b (heap_lt h1) (fun e => hne e.symm)).trans h1
    refine ⟨q.1, q.2, _, hq, hnp, ⟨es, clock, since, seen.push e.born, clock, hb1, h2, h3, h4, h5, hr1, h7, h9, h9, (fun x hx => ?_), by simp [h11]⟩, hkeep, hsz, ?_, ?_⟩
    · rw [contains_push]
      constructor
      · intro h
        rcases Bool.or_eq_true _ _ ▸ h with h | h
        · obtain ⟨a, ha, hxa⟩ := (h10 x hx).1 h
          exact ⟨a, by simp [ha], hxa⟩
        · have : x = e := born_inj h5.2 hx he1 (by simpa using h)
          exact ⟨q.1, by simp, by rw [this, hqk]⟩
      · rintro ⟨a, ha, hxa⟩
        rcases List.mem_append.1 ha with ha | ha
        · rw [(h10 x hx).2 ⟨a, ha, hxa⟩]; rfl
        · simp at ha
          subst ha
          have : x = e := key_entry inj h2 h3 hx he1 (by rw [hxa, hqk])
          rw [this]; simp
    · rw [← hqk, ← hqv]
      exact run_entry_at _ r b since seen es clock e hr1 hb1 he1 h5.2
    · rw [← hqk, ← hqv]
      exact hr

variable (w : World) {ops : Array Oper} {rest : List Oper} {o : Oper} {a : Act} {Q : Exit → Act → World → Prop}

/-- 'range m'. -/
theorem wpList_map_range (hg : o.guard = none) (m : Operand) (t : TypeId) (hop : o.op = Op.range t m) (e : TypeId) (ht : P.underlying t = some (.map k e)) (b : Nat) (l : List (α × β)) (hm : a.eval m = .map (some b)) (h : MapOf P k κ φ w b l)
    (hK : ∀ ob, MIter P k κ φ (w.alloc ob) b w.heap.size l [] → wpList P ops Q rest (a.put o.dst (.pointer (some ⟨w.heap.size, 0, none⟩))) (w.alloc ob)) : wpList P ops Q (o :: rest) a w := by
  refine wpList_plain hg fun K' hK' => ?_
  obtain ⟨ob, hrun, hM⟩ := h.run_range ht
  unfold Oper.wp
  simp [execOp, hop, hm, hrun, Result.andThen]
  exact hK' _ _ (hK ob hM)

/-- The step. -/
theorem wpList_map_next (hg : o.guard = none) (it : Operand) (hop : o.op = Op.next it false) (inj : ∀ a b : α, κ a = κ b → a = b) (b r : Nat) (l : List (α × β)) (p : List α) (hit : a.eval it = .pointer (some ⟨r, 0, none⟩)) (h : MIter P k κ φ w b r l p)
    (hDone : (∀ x ∈ keys l, x ∈ p) → wpList P ops Q rest (a.put o.dst (.tuple #[.bool false])) w)
    (hMore : ∀ key val w', (key, val) ∈ l → key ∉ p → MIter P k κ φ w' b r l (p ++ [key]) → Keeps (fun j => j = r) w w' → w'.heap.size = w.heap.size →
      (Instr.entry (.pointer (some ⟨r, 0, none⟩))).run P w' = .ok (.tuple #[κ key, φ val]) w' → wpList P ops Q rest (a.put o.dst (.tuple #[.bool true, κ key, φ val])) w') :
    wpList P ops Q (o :: rest) a w := by
  refine wpList_plain hg fun K' hK' => ?_
  unfold Oper.wp
  rcases h.run_next inj o.type with ⟨h0, hrun⟩ | ⟨key, val, w', h1, h2, h3, h4, h5, h6, hrun⟩
  · simp [execOp, hop, hit, hrun, Result.andThen]
    exact hK' _ _ (hDone h0)
  · simp [execOp, hop, hit, hrun, Result.andThen]
    exact hK' _ _ (hMore key val w' h1 h2 h3 h4 h5 h6)

/-- 'range m', in a fence. -/
theorem wpListIn_map_range {F : Fence} {n : Nat} (hg : o.guard = none) (m : Operand) (t : TypeId) (hop : o.op = Op.range t m) (e : TypeId) (ht : P.underlying t = some (.map k e)) (b : Nat) (l : List (α × β)) (hm : a.eval m = .map (some b)) (h : MapOf P k κ φ w b l)
    (hK : ∀ ob, MIter P k κ φ (w.alloc ob) b w.heap.size l [] → wpListIn F n P ops Q rest (a.put o.dst (.pointer (some ⟨w.heap.size, 0, none⟩))) (w.alloc ob)) : wpListIn F n P ops Q (o :: rest) a w := by
  refine wpListIn_plain hg fun K' hK' => ?_
  obtain ⟨ob, hrun, hM⟩ := h.run_range ht
  unfold Oper.wpIn
  refine ⟨by simp [Oper.about, hop], ?_⟩
  rw [Oper.semAt_plain F _ _ (by rw [hop]; intro c hc'; cases hc')]
  simp [execOp, hop, hm, hrun, Result.andThen]
  exact hK' _ _ (hK ob hM)

/-- The step, in a fence. -/
theorem wpListIn_map_next {F : Fence} {n : Nat} (hg : o.guard = none) (it : Operand) (hop : o.op = Op.next it false) (inj : ∀ a b : α, κ a = κ b → a = b) (b r : Nat) (l : List (α × β)) (p : List α) (hit : a.eval it = .pointer (some ⟨r, 0, none⟩)) (h : MIter P k κ φ w b r l p)
    (hDone : (∀ x ∈ keys l, x ∈ p) → wpListIn F n P ops Q rest (a.put o.dst (.tuple #[.bool false])) w)
    (hMore : ∀ key val w', (key, val) ∈ l → key ∉ p → MIter P k κ φ w' b r l (p ++ [key]) → Keeps (fun j => j = r) w w' → w'.heap.size = w.heap.size →
      (Instr.entry (.pointer (some ⟨r, 0, none⟩))).run P w' = .ok (.tuple #[κ key, φ val]) w' → wpListIn F n P ops Q rest (a.put o.dst (.tuple #[.bool true, κ key, φ val])) w') :
    wpListIn F n P ops Q (o :: rest) a w := by
  refine wpListIn_plain hg fun K' hK' => ?_
  unfold Oper.wpIn
  refine ⟨by simp [Oper.about, hop], ?_⟩
  rw [Oper.semAt_plain F _ _ (by rw [hop]; intro c hc'; cases hc')]
  rcases h.run_next inj o.type with ⟨h0, hrun⟩ | ⟨key, val, w', h1, h2, h3, h4, h5, h6, hrun⟩
  · simp [execOp, hop, hit, hrun, Result.andThen]
    exact hK' _ _ (hDone h0)
  · simp [execOp, hop, hit, hrun, Result.andThen]
    exact hK' _ _ (hMore key val w' h1 h2 h3 h4 h5 h6)

/-- How many keys are to come. -/
theorem left_lt {l : List (α × β)} {p : List α} {key : α} {val : β} (hn : (p ++ [key]).Nodup) (hs : ∀ x ∈ p, x ∈ keys l) (hk : (key, val) ∈ l) : p.length < l.length := by
  have hsub : ∀ x ∈ p ++ [key], x ∈ keys l := fun x hx => by
    rcases List.mem_append.1 hx with hx | hx
    · exact hs x hx
    · simp at hx; subst hx; exact List.mem_map.2 ⟨_, hk, rfl⟩
  have := hn.length_le_of_subset hsub
  simp [keys] at this
  omega

/-- Keys that came, none twice, all of them: the keys, in another order. -/
theorem perm_keys {l : List (α × β)} {p : List α} (hl : (keys l).Nodup) (hn : p.Nodup) (hs : ∀ x ∈ p, x ∈ keys l) (ha : ∀ x ∈ keys l, x ∈ p) : p.Perm (keys l) :=
  (List.perm_ext_iff_of_nodup hn hl).2 fun x => ⟨hs x, ha x⟩
end

end Go.Proofs.YtheipmallojdkaaGreatDoor

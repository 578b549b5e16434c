/- Package octet: the Reader's numbers and texts. Package octet: the Reader's counts, texts and signed numbers, and its end. Package octet: Read: a Reader over a copy of the bytes. Package entry: a log in memory, as a list of entries; slices of bytes that came in, be they never so odd; Base and Last. -/
import Derived.Test.YtdjooojpcepleaaGreatRsM02
import Derived.Laws.ShiftsVarLaws
import Derived.BigQuiet
import Derived.Deep.QuietTactic
import Derived.Deep.RegionHeld3

namespace Go.Proofs.YtdjooojpcepleaaGreat
section
open Go.RowKit
theorem RetR.mk {v u : Value} {p : Nat} {s : RS} {w w' : World} (hv : u = v) (h : RdAt w' p s) (k : Keeps (fun k => k = p) w w') : RetR v p s w (.returned u) w' := ⟨by rw [hv], h, k⟩
section
variable (w : World) (p : Nat) (s : RS) (h : RdAt w p s)
include h
set_option maxRecDepth 100000 in
set_option maxHeartbeats 1000000 in
theorem rnum_any : Calls Tryz.prog 104 #[.pointer (some ⟨p, 0, none⟩)] w (RetR (.int .u64 (numR s).1) p (numR s).2 w) := by
 have H := hI h
 have hok := h
 cases h0 : (s.e == 0)
 ·have her := err_any w p s h
  have e1 : numR s = (0, s) := numR_err (by simpa using h0)
  rw [e1]
  clear h e1 hok
  go_enter Tryz.func104, Tryz.ntmps104
  go_wp2
  go_loopw [3, 4] (fun x sh wr => x = .int .u64 0 ∧ sh = .int .i64 0 ∧ w = wr) (fun _ _ _ => 0)
  case atStart => exact ⟨rfl, rfl, rfl⟩
  case round =>
   obtain ⟨rfl, rfl, rfl⟩ := hrel
   go_wp2_with (go_at_call 111; refine her.mono ?_; rintro e w' ⟨rfl, rfl⟩)
   go_ret
   exact ⟨rfl, H.out, Keeps.refl _ _⟩
 ·obtain ⟨bs, e⟩ := s
  obtain rfl : e = 0 := by simpa using h0
  clear h0 h hok
  go_enter Tryz.func104, Tryz.ntmps104
  go_wp2
  go_loopw [3, 4] (fun x sh wr => ∃ (k : Nat) (acc : Nat) (sv av : Int) (l : List UInt8), x = .int .u64 av ∧ sh = .int .i64 sv ∧ sv = 7 * (k : Int) ∧ k ≤ 10 ∧ av = (acc : Int) ∧ acc < 128 ^ k ∧ dec 0 0 bs = dec k acc l ∧ RdAt wr p ⟨l, 0⟩ ∧ Keeps (fun k => k = p) w wr) (fun _ sh _ => (80 - intOf sh).toNat)
  case atStart => exact ⟨0, 0, 0, 0, bs, rfl, rfl, by omega, by omega, rfl, by simp, rfl, H.out, Keeps.refl _ _⟩
  case round =>
   obtain ⟨k, acc, sv, av, l, rfl, rfl, hsv, hk, hav, hacc, hdec, hR, hkp⟩ := hrel
   have HSV := hI hsv
   have HAV := hI hav
   have HK := hI hk
   have HAC := hI hacc
   have HD := hI hdec
   have HKP := hI hkp
   have hs0 : 0 ≤ sv := by omega
   have hs1 : sv ≤ 70 := by omega
   have her := err_any wr p _ hR
   cases l with
   | nil =>
    have hone := one_short wr p _ hR rfl
    clear hsv hk hav hacc hdec hkp hR
    go_wp2_with (go_at_call 111; refine her.mono ?_; rintro e w' ⟨rfl, rfl⟩)
    refine hone.mono ?_
    rintro e w1 ⟨rfl, h1, hk1⟩
    have her1 := err_any w1 p _ h1
    clear her hone
    go_wp2_with (go_at_call 111; refine her1.mono ?_; rintro e w' ⟨rfl, rfl⟩)
    go_ret
    have e1 : numR ⟨bs, 0⟩ = (0, ⟨[], 4⟩) := by simp [numR, HD.out, dec]
    rw [e1]
    exact ⟨rfl, h1, HKP.out.trans hk1⟩
   | cons c r =>
    have hone := one_yes wr p _ hR c r rfl
    have hc256 := c.toNat_lt
    obtain ⟨ci, hci⟩ : ∃ ci : Int, ci = (c.toNat : Int) := ⟨_, rfl⟩
    rw [← hci] at hone
    have hc0 : 0 ≤ ci := by omega
    have hc1 : ci ≤ 255 := by omega
    have HCI := hI hci
    by_cases hbad : 9 < k ∨ (k = 9 ∧ 1 < c.toNat) ∨ (c.toNat = 0 ∧ 0 < k)
    ·have hfl := fun W hW => fail_any W p ⟨r, 0⟩ hW 2 (by decide)
     have efl : RS.fail ⟨r, 0⟩ 2 = ⟨[], 2⟩ := rfl
     rw [efl] at hfl
     have e1 : numR ⟨bs, 0⟩ = (0, ⟨[], 2⟩) := by simp only [numR, HD.out, dec, if_pos hbad, if_true]
     have E1 := hI e1
     have hcase : (63 < sv) ∨ (¬ 63 < sv ∧ (sv == 63) = true ∧ 1 < ci) ∨ (¬ 63 < sv ∧ (sv == 63) = true ∧ ¬ 1 < ci ∧ (ci == 0) = true ∧ 0 < sv) ∨ (¬ 63 < sv ∧ (sv == 63) = false ∧ (ci == 0) = true ∧ 0 < sv) := by
      simp only [beq_iff_eq, beq_eq_false_iff_ne, ne_eq]
      omega
     clear hsv hk hav hacc hdec hkp hR hci hbad e1 efl hc256
     rcases hcase with hcase | ⟨t1, t2, t3⟩ | ⟨t1, t2, t3, t4, t5⟩ | ⟨t1, t2, t4, t5⟩
     all_goals
      go_wp2_with (go_at_call 111; refine her.mono ?_; rintro e w' ⟨rfl, rfl⟩)
      refine hone.mono ?_
      rintro e w1 ⟨rfl, h1, hk1⟩
      have her1 := err_any w1 p _ h1
      have hfl1 := hfl w1 h1
      go_wp2_with (first | (go_at_call 111; refine her1.mono ?_; rintro e w' ⟨rfl, rfl⟩) | (go_at_call 113; refine hfl1.mono ?_; rintro e w2 ⟨rfl, h2, hk2⟩))
      go_ret
      rw [E1.out]
      exact ⟨rfl, h2, (HKP.out.trans hk1).trans hk2⟩
    ·have hst := num_step k acc c hacc (by omega) (by omega)
     rw [← hav, ← hci, ← hsv] at hst
     have HST := hI hst
     have hcase : (¬ 63 < sv ∧ (sv == 63) = true ∧ ¬ 1 < ci ∧ (ci == 0) = false) ∨ (¬ 63 < sv ∧ (sv == 63) = false ∧ (ci == 0) = false) ∨ (¬ 63 < sv ∧ (sv == 63) = false ∧ (ci == 0) = true ∧ ¬ 0 < sv) := by
      simp only [beq_iff_eq, beq_eq_false_iff_ne, ne_eq]
      omega
     have HB := hI hbad
     have hav0 : 0 ≤ av := by omega
     clear hsv hk hav hacc hdec hkp hR hci hbad hst hc256
     by_cases hlt : ci < 128
     ·rcases hcase with ⟨t1, t2, t3, t4⟩ | ⟨t1, t2, t4⟩ | ⟨t1, t2, t4, t5⟩
      all_goals
       go_wp2_with (go_at_call 111; refine her.mono ?_; rintro e w' ⟨rfl, rfl⟩)
       refine hone.mono ?_
       rintro e w1 ⟨rfl, h1, hk1⟩
       have her1 := err_any w1 p _ h1
       go_wp2_with (first | (go_at_call 111; refine her1.mono ?_; rintro e w' ⟨rfl, rfl⟩))
       go_ret
       have hlt' : c.toNat < 128 := by have := HCI.out; omega
       have e1 : numR ⟨bs, 0⟩ = (acc + c.toNat % 128 * 128 ^ k, ⟨r, 0⟩) := by simp only [numR, HD.out, dec, if_neg HB.out, if_pos hlt', if_true]
       rw [e1]
       exact RetR.mk (int_eq HST.out) h1 (HKP.out.trans hk1)
     ·rcases hcase with ⟨t1, t2, t3, t4⟩ | ⟨t1, t2, t4⟩ | ⟨t1, t2, t4, t5⟩
      ·exfalso; omega
      rotate_left
      ·exfalso; have : ci = 0 := by simpa using t4
       omega
      all_goals
       go_wp2_with (go_at_call 111; refine her.mono ?_; rintro e w' ⟨rfl, rfl⟩)
       refine hone.mono ?_
       rintro e w1 ⟨rfl, h1, hk1⟩
       have her1 := err_any w1 p _ h1
       go_wp2_with (first | (go_at_call 111; refine her1.mono ?_; rintro e w' ⟨rfl, rfl⟩))
       go_roundw
       case rel =>
        have hk9 : k ≤ 9 := by have := HB.out; omega
        have hlt' : ¬ c.toNat < 128 := by have := HCI.out; omega
        refine ⟨k + 1, acc + c.toNat % 128 * 128 ^ k, sv + 7, _, r, rfl, by go_num, by have := HSV.out; omega, by omega, HST.out, ?_, ?_, h1, HKP.out.trans hk1⟩
        ·have h1 := HAC.out
         have h2 : c.toNat % 128 * 128 ^ k ≤ 127 * 128 ^ k := Nat.mul_le_mul_right _ (by omega)
         rw [Nat.pow_succ]
         omega
        ·rw [HD.out]; simp only [dec, if_neg HB.out, if_neg hlt']
       case measure => simp [intOf]; omega
end
end
section
open Go.RowKit
section
variable (w : World) (p : Nat) (s : RS) (h : RdAt w p s)
include h
theorem count_any (m : Nat) (hm : m ≤ 4611686018427387904) : Calls Tryz.prog 110 #[.pointer (some ⟨p, 0, none⟩), .int .i64 m] w (RetR (.int .i64 (countR m s).1) p (countR m s).2 w) := by
 have hn := rnum_any w p s h
 have hlt := numR_lt s
 have hfl := fun W hW => fail_any W p (numR s).2 hW 15 (by decide)
 unfold countR
 obtain ⟨mi, hmi⟩ : ∃ mi : Int, mi = (m : Int) := ⟨_, rfl⟩
 have hm0 : 0 ≤ mi := by omega
 have hm1 : mi ≤ 4611686018427387904 := by omega
 rw [← hmi]
 obtain ⟨x, hx⟩ : ∃ x : Int, x = ((numR s).1 : Int) := ⟨_, rfl⟩
 have hx0 : 0 ≤ x := by omega
 have hx1 : x ≤ 18446744073709551615 := by omega
 rw [← hx] at hn
 by_cases hc : m < (numR s).1
 ·rw [if_pos hc]
  have hc' : mi < x := by omega
  clear hc hm hmi hx hlt h
  go_enter Tryz.func110, Tryz.ntmps110
  go_wp2_with fail
  refine hn.mono ?_
  rintro e w1 ⟨rfl, h1, hk1⟩
  have hf1 := hfl w1 h1
  go_wp2_with fail
  refine hf1.mono ?_
  rintro e w2 ⟨rfl, h2, hk2⟩
  go_wp2_with fail
  go_ret
  exact RetR.mk rfl h2 (hk1.trans hk2)
 ·rw [if_neg hc, ← hx]
  have hc' : x ≤ mi := by omega
  clear hc hm hmi hx hlt hfl h hx1
  go_enter Tryz.func110, Tryz.ntmps110
  go_wp2_with fail
  refine hn.mono ?_
  rintro e w1 ⟨rfl, h1, hk1⟩
  go_wp2_with fail
  go_ret
  exact RetR.mk rfl h1 hk1
theorem left_any : Calls Tryz.prog 114 #[.pointer (some ⟨p, 0, none⟩)] w (Ret (.int .i64 s.b.length) w) := by
 have her := err_any w p s h
 obtain ⟨v, hp, hne, ⟨a, cap, rfl, hl, hm, hx⟩, hok⟩ := h
 have c0 := bC hp 0 rfl
 clear hp hx
 cases h0 : (s.e == 0)
 ·have : s.b = [] := hok (by simpa using h0)
  rw [this]
  clear hok hl hm this
  go_enter Tryz.func114, Tryz.ntmps114
  go_wp2_with (go_at_call 111; refine her.mono ?_; rintro e w' ⟨rfl, rfl⟩)
  go_ret
  exact Ret.mk rfl
 ·clear hok hl hm
  go_enter Tryz.func114, Tryz.ntmps114
  go_wp2_with (go_at_call 111; refine her.mono ?_; rintro e w' ⟨rfl, rfl⟩)
  go_ret
  exact Ret.mk rfl
theorem end_any : Calls Tryz.prog 105 #[.pointer (some ⟨p, 0, none⟩)] w (Ret (.int .i64 (endR s)) w) := by
 have her := err_any w p s h
 have hle := left_any w p s h
 have hok : s.ok := by obtain ⟨v, _, _, _, h⟩ := h; exact h
 obtain ⟨n, hn⟩ : ∃ n : Int, n = (s.b.length : Int) := ⟨_, rfl⟩
 rw [← hn] at hle
 have hn0 : 0 ≤ n := by omega
 by_cases hz : 0 < n
 ·have e1 : endR s = 15 := by
   unfold endR
   by_cases h0 : s.e = 0
   ·rw [if_pos h0, if_neg (by omega)]
   ·have := hok h0; rw [this] at hn; simp at hn; omega
  rw [e1]
  clear e1 hn hok h
  go_enter Tryz.func105, Tryz.ntmps105
  go_wp2_with (first | (go_at_call 111; refine her.mono ?_; rintro e w' ⟨rfl, rfl⟩) | (go_at_call 114; refine hle.mono ?_; rintro e w' ⟨rfl, rfl⟩))
  go_ret
  exact Ret.mk rfl
 ·have e1 : endR s = s.e := by
   unfold endR
   by_cases h0 : s.e = 0
   ·rw [if_pos h0, if_pos (by omega), h0]
   ·rw [if_neg h0]
  rw [e1]
  clear e1 hn hok h
  go_enter Tryz.func105, Tryz.ntmps105
  go_wp2_with (first | (go_at_call 111; refine her.mono ?_; rintro e w' ⟨rfl, rfl⟩) | (go_at_call 114; refine hle.mono ?_; rintro e w' ⟨rfl, rfl⟩))
  go_ret
  exact Ret.mk rfl
end
end
section
open Go.RowKit
theorem read_any (w : World) (ad : Option Addr) (n cp : Nat) (l : List UInt8) (hu : Sl u8v w (.slice ad n cp) l) (hl : l.length ≤ 70368744177664) :
  Calls Tryz.prog 101 #[.slice ad n cp] w fun e w' => ∃ p, e = .returned (.pointer (some ⟨p, 0, none⟩)) ∧ w.heap.size ≤ p ∧ RdAt w' p ⟨l, 0⟩ ∧ Below w.heap.size w w' := by
 have hcl := clone_any w ad n cp l hu hl
 clear hu hl
 go_enter Tryz.func101, Tryz.ntmps101
 go_wp2_with fail
 refine hcl.mono ?_
 rintro e w1 ⟨u, rfl, hb, hs, hown, hr⟩
 obtain ⟨ad', cp', rfl, _⟩ := id hs
 have HS := hI hs
 clear hs hown hcl
 go_wp2_with fail
 go_ret
 exact ⟨w1.heap.size, rfl, hb.size, ⟨_, bW _ _, fun k hk => HS.out.row_lt k hk, HS.out.alloc _, fun h => absurd rfl h⟩, hb.alloc hb.size _⟩
end
section
open Go.RowKit
def SlW {α : Type} (enc : α → Value) (w : World) (v : Value) (l : List α) : Prop := Sl enc w v l ∨ ∃ a, v = .slice (some a) 0 0 ∧ l = []
theorem belowDN {B : Nat} {a w : World} (h : Below B a w) (n : Nat) : Below B a (w.drewN n) := ⟨h.os, h.tape, h.output, h.size, h.block⟩
theorem bD {B : Nat} {a w : World} (h : Below B a w) : Below B a w.drew := ⟨h.os, h.tape, h.output, h.size, h.block⟩
theorem SlW.form {α : Type} {enc : α → Value} {w : World} {v : Value} {l : List α} (h : SlW enc w v l) : ∃ a cap, v = .slice a l.length cap := by
 rcases h with ⟨a, cap, rfl, _⟩ | ⟨a, rfl, rfl⟩
 ·exact ⟨a, cap, rfl⟩
 ·exact ⟨some a, 0, rfl⟩
theorem SlW.below {α : Type} {enc : α → Value} {w w' : World} {v : Value} {l : List α} (h : SlW enc w v l) (hb : Below w.heap.size w w') : SlW enc w' v l := by
 rcases h with h | h
 ·exact .inl (h.below hb h.row_lt)
 ·exact .inr h
theorem run_append_void {P : Program} (w : World) (t ty e : TypeId) (i : TypeInfo) (ht : P.underlying t = some (.slice e)) (hi : P.info? e = some i) (v : Value) (n : Nat) (xs : List Value) (size : Nat) (hown : w.ownsRow 0 e size v n xs) (c : Nat) (x : Option Addr) :
  (Builtin.append_ #[t, t] ty #[v, .slice x 0 c]).run P w = .ok v w := by
 rcases hown.2 with ⟨rfl, rfl⟩ | ⟨g, cap, cur, rfl, _, hg, hnc, hcm, hcs, htake⟩
 ·cases x <;> simp [Builtin.append_, run_underlying ht, sizeOf, typeInfo, hi, Builtin.lenOf, Builtin.firstCells, loadCells, loadCellsFrom]
 ·cases x <;> simp [Builtin.append_, run_underlying ht, sizeOf, typeInfo, hi, Builtin.lenOf, Builtin.firstCells, loadCells, loadCellsFrom, hnc, storeCells]
theorem clone_void (w : World) (x : Addr) : Calls Tryz.prog 56 #[.slice (some x) 0 0] w (Cloned w []) := by
 have hnil := fun w => Lib.run_eql_slice_nil (P := Tryz.prog) w 38 5 (some x) 0 0 0 0 Tryz.underlying38
 obtain ⟨i0, hi, hz0, hz1, hz2⟩ := info_parts info_u8
 have how : (w.alloc (.cells #[] 5)).ownsRow 0 5 1 (.slice (some ⟨w.heap.size, 0, none⟩) 0 0) 0 [] := World.ownsRow_made w #[] 0 (Nat.zero_le _) (Nat.zero_le _) rfl
 have happ := fun ty => run_append_void (P := Tryz.prog) (w.alloc (.cells #[] 5)) 38 ty 5 i0 Tryz.underlying38 hi _ 0 [] 1 how 0 (some x)
 have HO := hI how
 clear how
 go_enter Tryz.func56, Tryz.ntmps56
 go_wp2
 go_ret
 refine ⟨_, rfl, bR.alloc nL _, owns_sl HO.out, HO.out, fun k hk => by simp [Value.ownBlock] at hk; omega⟩
theorem clone_W (w : World) (v : Value) (l : List UInt8) (hu : SlW u8v w v l) (hl : l.length ≤ 70368744177664) : Calls Tryz.prog 56 #[v] w (Cloned w l) := by
 rcases hu with hu | ⟨a, rfl, rfl⟩
 ·obtain ⟨a, cap, rfl, _⟩ := id hu
  exact clone_any w a _ cap l hu hl
 ·exact clone_void w a
structure Ent where
 ix : Int
 tm : Int
 cf : Bool
 v : Value
 d : List UInt8
def Ent.cells (e : Ent) : List Value := [.int .u64 e.ix, .int .u64 e.tm, .bool e.cf, e.v]
def entCells (es : List Ent) : List Value := es.flatMap Ent.cells
theorem entCells_len (es : List Ent) : (entCells es).length = es.length * 4 := by
 induction es with
 | nil => rfl
 | cons e r ih => unfold entCells at *; rw [List.flatMap_cons, List.length_append, ih, List.length_cons]; simp [Ent.cells]; omega
theorem entCells_at : ∀ {es : List Ent} {k : Nat} {e : Ent}, es[k]? = some e → ∀ {j : Nat} {v : Value}, e.cells[j]? = some v → (entCells es)[k * 4 + j]? = some v
 | x :: r, 0, e, h, j, v, hj => by
  simp at h
  subst h
  unfold entCells
  rw [List.flatMap_cons, List.getElem?_append_left (by have := (List.getElem?_eq_some_iff.1 hj).1; simp [Ent.cells] at this ⊢; omega)]
  simpa using hj
 | x :: r, k + 1, e, h, j, v, hj => by
  have := entCells_at (es := r) (k := k) (e := e) (by simpa using h) hj
  unfold entCells at *
  rw [List.flatMap_cons, List.getElem?_append_right (by simp [Ent.cells]; omega)]
  have e : (k + 1) * 4 + j - x.cells.length = k * 4 + j := by simp [Ent.cells]; omega
  rw [e]
  exact this
theorem entCells_snoc (es : List Ent) (e : Ent) : entCells (es ++ [e]) = entCells es ++ e.cells := by simp [entCells]
structure LogAt (w : World) (t : Nat) (r : Option Nat) (ix tm : Int) (es : List Ent) : Prop where
 box : ∃ v, w.heap[t]? = some (.cells #[.int .u64 ix, .int .u64 tm, v] 99 (0, 0)) ∧ w.ownsRow 0 47 4 v es.length (entCells es) ∧ v.ownBlock = r
 rt : r ≠ some t
 data : ∀ e ∈ es, Sl u8v w e.v e.d ∧ ∀ k, e.v.ownBlock = some k → k ≠ t ∧ r ≠ some k
theorem LogAt.lt {w : World} {t : Nat} {r : Option Nat} {ix tm : Int} {es : List Ent} (h : LogAt w t r ix tm es) : t < w.heap.size := by
 obtain ⟨v, h, _⟩ := h.box
 exact heap_lt h
theorem LogAt.row_lt {w : World} {t : Nat} {r : Option Nat} {ix tm : Int} {es : List Ent} (h : LogAt w t r ix tm es) : ∀ k, r = some k → k < w.heap.size := by
 obtain ⟨v, _, ho, rfl⟩ := h.box
 intro k hk
 rcases ho.2 with ⟨rfl, _⟩ | ⟨g, cap, cur, rfl, _, hg, _⟩
 ·simp [Value.ownBlock] at hk
 ·simp [Value.ownBlock] at hk; subst hk; exact heap_lt hg
theorem LogAt.kept {S : Nat → Prop} {w w' : World} {t : Nat} {r : Option Nat} {ix tm : Int} {es : List Ent} (h : LogAt w t r ix tm es) (hk : Keeps S w w') (ht : ¬ S t) (hr : ∀ k, r = some k → ¬ S k) (hd : ∀ e ∈ es, ∀ k, e.v.ownBlock = some k → ¬ S k) : LogAt w' t r ix tm es := by
 obtain ⟨⟨v, h1, h2, h3⟩, h4, h5⟩ := h
 exact ⟨⟨v, hk.heap ht h1, owns_kept h2 hk (fun k hv => hr k (h3 ▸ hv)), h3⟩, h4, fun e he => ⟨(h5 e he).1.kept hk (hd e he), (h5 e he).2⟩⟩
theorem LogAt.below {w w' : World} {t : Nat} {r : Option Nat} {ix tm : Int} {es : List Ent} (h : LogAt w t r ix tm es) (hb : Below w.heap.size w w') : LogAt w' t r ix tm es :=
 h.kept (Keeps.of_below hb) (by have := h.lt; simp; omega) (fun k hk => by have := h.row_lt k hk; simp; omega) (fun e he k hk => by have := (h.data e he).1.row_lt k hk; simp; omega)
theorem LogAt.at {w : World} {t : Nat} {r : Option Nat} {ix tm : Int} {es : List Ent} (h : LogAt w t r ix tm es) {k : Nat} {e : Ent} (he : es[k]? = some e) :
  ∃ g cap, r = some g ∧ w.heap[t]? = some (.cells #[.int .u64 ix, .int .u64 tm, .slice (some ⟨g, 0, none⟩) es.length cap] 99 (0, 0)) ∧ es.length ≤ cap ∧ cap ≤ maxLen ∧
   w.cell? ⟨g, k * 4, none⟩ = some (.int .u64 e.ix) ∧ w.cell? ⟨g, k * 4 + 1, none⟩ = some (.int .u64 e.tm) ∧ w.cell? ⟨g, k * 4 + 2, none⟩ = some (.bool e.cf) ∧ w.cell? ⟨g, k * 4 + 3, none⟩ = some e.v := by
 obtain ⟨v, h1, h2, h3⟩ := h.box
 have hk := (List.getElem?_eq_some_iff.1 he).1
 rcases h2.2 with ⟨_, h0⟩ | ⟨g, cap, cur, rfl, _, hg, hn, hm, hc, ht⟩
 ·omega
 ·have hcell : ∀ j v, e.cells[j]? = some v → w.cell? ⟨g, k * 4 + j, none⟩ = some v := by
   intro j v hj
   have := h2.cells (g := g) rfl (k * 4 + j) v (entCells_at he hj)
   rwa [addr_add, Nat.zero_add] at this
  exact ⟨g, cap, h3.symm, h1, hn, hm, hcell 0 _ rfl, hcell 1 _ rfl, hcell 2 _ rfl, hcell 3 _ rfl⟩
theorem LogAt.slice {w : World} {t : Nat} {r : Option Nat} {ix tm : Int} {es : List Ent} (h : LogAt w t r ix tm es) :
  ∃ a cap, w.heap[t]? = some (.cells #[.int .u64 ix, .int .u64 tm, .slice a es.length cap] 99 (0, 0)) := by
 obtain ⟨v, h1, h2, h3⟩ := h.box
 rcases h2.2 with ⟨rfl, h0⟩ | ⟨g, cap, cur, rfl, _⟩
 ·exact ⟨none, 0, by rw [h0]; exact h1⟩
 ·exact ⟨_, cap, h1⟩
theorem newlog_any (w : World) (ix tm : Int) : Calls Tryz.prog 48 #[.int .u64 ix, .int .u64 tm] w fun e w' => e = .returned (.pointer (some ⟨w.heap.size, 0, none⟩)) ∧ LogAt w' w.heap.size none ix tm [] ∧ Below w.heap.size w w' := by
 go_enter Tryz.func48, Tryz.ntmps48
 go_wp2
 go_ret
 exact ⟨rfl, ⟨⟨_, bW _ _, World.ownsRow_nil _ _ _ _, rfl⟩, by simp, by simp⟩, bR.alloc nL _⟩
section
variable (w : World) (t : Nat) (r : Option Nat) (ix tm : Int) (es : List Ent) (h : LogAt w t r ix tm es)
include h
def RetD (v : Value) (w : World) (e : Ending) (w' : World) : Prop := e = .returned v ∧ ∃ n, w' = w.drewN n
theorem base_any : Calls Tryz.prog 26 #[.pointer (some ⟨t, 0, none⟩)] w (RetD (.tuple #[.int .u64 ix, .int .u64 tm]) w) := by
 obtain ⟨v, hb, _⟩ := h.box
 have c0 := bC hb 0 rfl
 have c1 := bC hb 1 rfl
 clear h hb
 go_enter Tryz.func26, Tryz.ntmps26
 go_wp2
 go_quiet (fail)
 go_wp2
 go_ret2
 exact ⟨rfl, _, rfl⟩
def lastIx (ix : Int) (es : List Ent) : Int := ((es.getLast?).map (·.ix)).getD ix
def lT (tm : Int) (es : List Ent) : Int := ((es.getLast?).map (·.tm)).getD tm
set_option maxRecDepth 100000 in
theorem last_any' : Calls Tryz.prog 33 #[.pointer (some ⟨t, 0, none⟩)] w (RetB (.tuple #[.int .u64 (lastIx ix es), .int .u64 (lT tm es)]) w) := by
 rcases Nat.eq_zero_or_pos es.length with h0 | h0
 ·have hes : es = [] := List.eq_nil_of_length_eq_zero h0
  subst hes
  have hbs := base_any w t r ix tm _ h
  obtain ⟨a, cap, hb⟩ := h.slice
  have c2 := bC hb 2 rfl
  clear h hb h0
  go_enter Tryz.func33, Tryz.ntmps33
  go_wp2_with fail
  refine hbs.mono ?_
  rintro e w' ⟨rfl, n, rfl⟩
  go_wp2_with fail
  go_ret2
  exact RetB.mk rfl ⟨rfl, rfl, rfl, Nat.le_refl _, fun _ _ => rfl⟩
 ·obtain ⟨k, hk⟩ : ∃ k, es.length = k + 1 := ⟨es.length - 1, by omega⟩
  obtain ⟨e, he⟩ : ∃ e, es[k]? = some e := ⟨es[k], List.getElem?_eq_getElem (by omega)⟩
  have hl : es.getLast? = some e := by rw [List.getLast?_eq_getElem?, hk]; exact he
  unfold lastIx lT
  rw [hl]
  obtain ⟨g, cap, rfl, hb, hc, hm, d0, d1, d2, d3⟩ := h.at he
  have c2 := bC hb 2 rfl
  unfold maxLen at hm
  rw [hk] at c2 hc
  have hlt := (cell_lt d0)
  obtain ⟨da, dc, hv, _⟩ := (h.data e (List.mem_of_getElem? he)).1
  rw [hv] at d3
  clear h hb hl he h0 hk hv
  go_enter Tryz.func33, Tryz.ntmps33
  go_wp2
  have e1 : IntKind.i64.wrap (k : Int) = k := IntWalk.i64_in _ (by omega)
  have e2 : (0 : Int) ≤ (k : Int) := by omega
  have e3 : (k : Int) < (k : Int) + 1 := by omega
  go_region_held3 (fun w' => w'.cell? ⟨t, 2, none⟩ = some (.slice (some ⟨g, 0, none⟩) (k + 1) cap) ∧ w'.cell? ⟨g, k * 4, none⟩ = some (.int .u64 e.ix) ∧ w'.cell? ⟨g, k * 4 + 1, none⟩ = some (.int .u64 e.tm) ∧ w'.cell? ⟨g, k * 4 + 2, none⟩ = some (.bool e.cf) ∧ w'.cell? ⟨g, k * 4 + 3, none⟩ = some (.slice da e.d.length dc)) (first | exact ⟨c2, d0, d1, d2, d3⟩ | go_keep) (first | fail)
  go_wp2
  go_quiet (fail)
  go_wp2
  go_ret2
  exact RetB.mk rfl (belowDN (bD (bR.alloc nL _)) _)
end
end
end Go.Proofs.YtdjooojpcepleaaGreat

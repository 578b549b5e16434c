/- Package octet: what its Writer writes. -/
import Derived.Test.YtbfhgljmopgejaaGreatOctB
import Derived.Test.YtbfhgljmopgejaaGreatApp
import Derived.Laws.BytesArg
namespace Go.Proofs.YtbfhgljmopgejaaGreat
open Go.RowKit

/-- A byte, as a cell holds it. -/
def u8v (c : UInt8) : Value := .int .u8 (c.toNat : Int)

theorem info_u8 : (Tryz.prog.info? 5).map (fun i => (i.zero, i.size, i.bytes)) = some (some (.int .u8 0), 1, 1) := by kernel_rfl

/-- Block p is a Writer, r its row's block, bs what is written. -/
def Wr (w : World) (p : Nat) (r : Option Nat) (bs : List UInt8) : Prop :=
  ∃ v, w.heap[p]? = some (.cells #[v] 86 (0, 0)) ∧ v.ownBlock = r ∧ r ≠ some p ∧ w.ownsRow 0 5 1 v bs.length (bs.map u8v)

/-- From w to w' a Writer in block p has been written on, its row from r to r'; all else is as it was. -/
structure Wrote (p : Nat) (w : World) (r : Option Nat) (w' : World) (r' : Option Nat) : Prop where
  keeps : Keeps (fun k => k = p ∨ some k = r) w w'
  row : r' = r ∨ ∃ k, r' = some k ∧ w.heap.size ≤ k

theorem Wrote.refl (p : Nat) (w : World) (r : Option Nat) : Wrote p w r w r := ⟨Keeps.refl _ _, .inl rfl⟩
theorem Wrote.trans {p : Nat} {w w' w'' : World} {r r' r'' : Option Nat} (h : Wrote p w r w' r') (k : Wrote p w' r' w'' r'') : Wrote p w r w'' r'' := by
  refine ⟨⟨k.keeps.os.trans h.keeps.os, k.keeps.tape.trans h.keeps.tape, k.keeps.output.trans h.keeps.output, Nat.le_trans h.keeps.size k.keeps.size, fun i hi hn => ?_⟩, ?_⟩
  · have hs := h.keeps.size
    refine (k.keeps.block i (by omega) ?_).trans (h.keeps.block i hi hn)
    rintro (rfl | e)
    · exact hn (.inl rfl)
    · rcases h.row with h1 | ⟨j, h1, h2⟩
      · exact hn (.inr (e.trans h1))
      · rw [h1] at e; cases e; omega
  · have hs := h.keeps.size
    rcases k.row with h1 | ⟨j, h1, h2⟩
    · rcases h.row with h3 | ⟨i, h3, h4⟩
      · exact .inl (h1.trans h3)
      · exact .inr ⟨i, h1.trans h3, h4⟩
    · exact .inr ⟨j, h1, by omega⟩

/-- A Writer wrote bs behind what it held. -/
def WroteB (p : Nat) (w : World) (r : Option Nat) (bs : List UInt8) (e : Ending) (w' : World) : Prop :=
  e = .returned (.tuple #[]) ∧ ∃ r', Wr w' p r' bs ∧ Wrote p w r w' r'

theorem Wr.lt {w : World} {p : Nat} {r : Option Nat} {bs : List UInt8} (h : Wr w p r bs) : p < w.heap.size := by
  obtain ⟨v, h, _⟩ := h
  exact heap_lt h
theorem Wr.row_lt {w : World} {p : Nat} {r : Option Nat} {bs : List UInt8} (h : Wr w p r bs) : ∀ k, r = some k → k < w.heap.size := by
  obtain ⟨v, h1, h2, h3, h4⟩ := h
  intro k hk
  exact (h4.lt k (h2.trans hk)).2

/-- Behind what leaves the Writer and its row alone. -/
theorem Wr.kept {S : Nat → Prop} {w w' : World} {p : Nat} {r : Option Nat} {bs : List UInt8} (h : Wr w p r bs) (hk : Keeps S w w') (hp : ¬ S p) (hr : ∀ k, r = some k → ¬ S k) : Wr w' p r bs := by
  obtain ⟨v, h1, h2, h3, h4⟩ := h
  exact ⟨v, hk.heap hp h1, h2, h3, owns_kept h4 hk fun k hkk => hr k (h2 ▸ hkk)⟩

theorem Wr.alloc {w : World} {p : Nat} {r : Option Nat} {bs : List UInt8} (h : Wr w p r bs) (o : Obj) : Wr (w.alloc o) p r bs :=
  h.kept ((Keeps.refl (fun _ => False) w).alloc o) (fun h => h) (fun _ _ h => h)

theorem wr_still {w w0 w1 : World} {p : Nat} {v : Value} {T : TypeId} (hp : w.heap[p]? = some (.cells #[v] T (0, 0))) (hne : v.ownBlock ≠ some p) (h0 : Below w.heap.size w w0) (hg : w0.grownBy w1 v.ownBlock) :
    w1.cell? ⟨p, 0, none⟩ = some v ∧ w1.frozen? ⟨p, 0, none⟩ = false ∧ p < w1.heap.size := by
  have hplt := heap_lt hp
  have hs0 := h0.size
  have hp1 : w1.heap[p]? = some (.cells #[v] T (0, 0)) := by
    rw [hg.block p (by omega) (fun e => hne e.symm)]
    exact bheap h0 hp hplt
  exact ⟨cell_of_one hp1, free_of_one hp1, heap_lt hp1⟩

/-- One append more: the field is set to what it answered. -/
theorem Wr.push {w w0 w1 : World} {p : Nat} {v v' : Value} {n : Nat} {bs more : List UInt8} {xs : List Value} (hp : w.heap[p]? = some (.cells #[v] 86 (0, 0))) (hne : v.ownBlock ≠ some p) (hn : n = (bs ++ more).length) (hx : xs = (bs ++ more).map u8v)
    (h0 : Below w.heap.size w w0) (hown : w1.ownsRow 0 5 1 v' n xs) (hg : w0.grownBy w1 v.ownBlock)
    (hrow : v'.ownBlock = v.ownBlock ∨ ∃ k, v'.ownBlock = some k ∧ w0.heap.size ≤ k ∧ k < w1.heap.size) :
    Wr (w1.setCell ⟨p, 0, none⟩ v') p v'.ownBlock (bs ++ more) ∧ Wrote p w v.ownBlock (w1.setCell ⟨p, 0, none⟩ v') v'.ownBlock := by
  subst hn hx
  have hplt := heap_lt hp
  have hs0 := h0.size
  have hp1 : w1.heap[p]? = some (.cells #[v] 86 (0, 0)) := by
    rw [hg.block p (by omega) (fun e => hne e.symm)]
    exact bheap h0 hp hplt
  have hne' : v'.ownBlock ≠ some p := by
    rcases hrow with h | ⟨k, h, h2, _⟩
    · rw [h]; exact hne
    · rw [h]; intro e; cases e; omega
  refine ⟨⟨v', ?_, rfl, hne', ?_⟩, ⟨?_, ?_⟩⟩
  · exact one_setCell hp1
  · exact owns_kept hown ((Keeps.refl (fun k => k = p) w1).setCell (.inl rfl) _) (fun k hk e => hne' (by rw [hk, e]))
  · exact ((Keeps.of_belowS h0).trans (grown_keeps hg fun k h => .inr h)).setCell (.inl (.inl rfl)) _
  · rcases hrow with h | ⟨k, h, h2, _⟩
    · exact .inl h
    · exact .inr ⟨k, h, by omega⟩

/-- Between append and the store of its answer. -/
structure WrMid (W : World) (p : Nat) (r : Option Nat) (bs : List UInt8) (v' : Value) (w1 : World) : Prop where
  cell : ∃ v, w1.cell? ⟨p, 0, none⟩ = some v
  free : w1.frozen? ⟨p, 0, none⟩ = false
  lt : p < w1.heap.size
  wr : Wr (w1.setCell ⟨p, 0, none⟩ v') p v'.ownBlock bs
  wrote : Wrote p W r (w1.setCell ⟨p, 0, none⟩ v') v'.ownBlock

theorem wpList_wr_push (W : World) {ops : Array Oper} {rest : List Oper} {o : Oper} {a : Act} {Q : Exit → Act → World → Prop} (hgd : o.guard = none) (s x : Operand)
    (ho : o.op = .call { callee := .builtin .append, args := #[s, x], argTypes := #[33, 33] })
    (p : Nat) (r : Option Nat) (bs : List UInt8) (hW : Wr W p r bs) (v : Value) (hv : W.cell? ⟨p, 0, none⟩ = some v) (hs : a.eval s = v)
    (c : UInt8) (u : Value) (T : TypeId) (hx : a.eval x = .slice (some ⟨W.heap.size, 0, none⟩) 1 1) (hu : u = u8v c) (hl : bs.length < 70368744177664)
    (h : ∀ ad n cp w1, WrMid W p r (bs ++ [c]) (.slice ad n cp) w1 → wpList Tryz.prog ops Q rest (a.put o.dst (.slice ad n cp)) w1) : wpList Tryz.prog ops Q (o :: rest) a (W.alloc (.cells #[u] T)) := by
  obtain ⟨v0, hp, rfl, hne, hown⟩ := hW
  obtain ⟨i0, hi, hz0, hz1, hz2⟩ := info_parts info_u8
  have : v0 = v := by rw [cell_of_one hp] at hv; exact Option.some.inj hv
  subst this hu
  refine wpList_append_one W hgd s x 33 ho 5 i0 (.int .u8 0) 1 Tryz.underlying33 hi hz0 hz1 hz2 rfl v0 _ _ hs hown (u8v c) T hx rfl (by unfold maxLen; omega) (by omega) ?_
  intro v' w1 hown1 hg1 hrow1
  have hb0 := (Below.refl W.heap.size W).alloc (Nat.le_refl _) (.cells #[u8v c] T)
  obtain ⟨hc1, hf1, hl1⟩ := wr_still hp hne hb0 hg1
  obtain ⟨h1, h2⟩ := Wr.push (bs := bs) (more := [c]) hp hne (by simp) (by simp) hb0 hown1 hg1 hrow1
  obtain ⟨ad, n, cp, rfl⟩ : ∃ ad n cp, v' = .slice ad n cp := by
    rcases hown1.2 with ⟨rfl, _⟩ | ⟨g, cap, cur, rfl, _⟩
    · exact ⟨_, _, _, rfl⟩
    · exact ⟨_, _, _, rfl⟩
  exact h ad n cp w1 ⟨⟨_, hc1⟩, hf1, hl1, h1, h2⟩

section
variable (w : World) (p : Nat) (r : Option Nat) (bs : List UInt8) (h : Wr w p r bs)
include h

set_option maxRecDepth 100000 in
set_option maxHeartbeats 1000000 in
theorem num_any (x : Int) (h0 : 0 ≤ x) (hx : x ≤ 18446744073709551615) (hl : bs.length + 10 ≤ 70368744177664) :
    Calls Tryz.prog 48 #[.pointer (some ⟨p, 0, none⟩), .int .u64 x] w (WroteB p w r (bs ++ numB x.toNat)) := by
  have hlen := numB_len10 (x := x.toNat) (by omega)
  have H := Lib.hid h
  have HL := Lib.hid hl
  have HN := Lib.hid hlen
  clear h hl hlen
  go_enter Tryz.func48, Tryz.ntmps48
  go_wp2
  go_loopw [1] (fun xv wr => ∃ (y : Int) (pre : List UInt8) (r' : Option Nat), 0 ≤ y ∧ y ≤ 18446744073709551615 ∧ xv = .int .u64 y ∧ numB x.toNat = pre ++ numB y.toNat ∧ Wr wr p r' (bs ++ pre) ∧ Wrote p w r wr r') (fun xv _ => (intOf xv).toNat)
  case atStart => exact ⟨x, [], r, h0, hx, rfl, rfl, by simpa using H.out, Wrote.refl _ _ _⟩
  case round =>
    obtain ⟨y, pre, r', hy0, hy, rfl, hnum, hW, hk⟩ := hrel
    clear h0 hx
    have HU := Lib.hid hnum
    have HK := Lib.hid hk
    have HW := Lib.hid hW
    obtain ⟨v, hp, _⟩ := hW
    have hcell := cell_of_one hp
    clear hnum hk hp
    have HS := Lib.hid (show (bs ++ pre).length < 70368744177664 by
      have h1 := HL.out; have h2 := HN.out; have h3 := numB_pos y.toNat; rw [HU.out] at h2; simp only [List.length_append] at h2 ⊢; omega)
    by_cases h1 : 128 ≤ y
    · have HB := Lib.hid (show numB y.toNat = UInt8.ofNat (y.toNat % 128 + 128) :: numB (y.toNat / 128) from numB_ge (by omega))
      have HC := Lib.hid (show Value.int .u8 (bits .or .u8 (y % 256) 128) = u8v (UInt8.ofNat (y.toNat % 128 + 128)) by
        have e1 : y % 256 = ((y.toNat % 256 : Nat) : Int) := by omega
        rw [e1, or128]
        unfold u8v
        rw [toNat_ofNat (by omega)])
      go_wp2_with (at_builtin; refine wpList_wr_push wr rfl _ _ rfl p r' _ HW.out v hcell rfl _ _ _ rfl HC.out HS.out ?_; intro ad n cp w1 hm; obtain ⟨⟨vv, hc1⟩, hf1, hl1, hw1, hk1⟩ := hm; have HW1 := Lib.hid hw1; have HK1 := Lib.hid hk1; clear hw1 hk1 hcell)
      go_roundw
      case rel =>
        refine ⟨y / 128, pre ++ [UInt8.ofNat (y.toNat % 128 + 128)], _, by omega, by omega, rfl, ?_, by rw [← List.append_assoc]; exact HW1.out, HK.out.trans HK1.out⟩
        rw [HU.out, HB.out, show (y / 128).toNat = y.toNat / 128 by omega]
        simp
      case measure => simp [intOf]; omega
    · have HB := Lib.hid (show numB y.toNat = [UInt8.ofNat y.toNat] from numB_lt (by omega))
      have HC := Lib.hid (show Value.int .u8 y = u8v (UInt8.ofNat y.toNat) by
        unfold u8v
        rw [toNat_ofNat (by omega)]
        congr 1
        omega)
      go_wp2_with (at_builtin; refine wpList_wr_push wr rfl _ _ rfl p r' _ HW.out v hcell rfl _ _ _ rfl HC.out HS.out ?_; intro ad n cp w1 hm; obtain ⟨⟨vv, hc1⟩, hf1, hl1, hw1, hk1⟩ := hm; have HW1 := Lib.hid hw1; have HK1 := Lib.hid hk1; clear hw1 hk1 hcell)
      go_end0
      refine ⟨rfl, _, ?_, HK.out.trans HK1.out⟩
      have := HW1.out
      rw [List.append_assoc, ← HB.out, ← HU.out] at this
      exact this
end

end Go.Proofs.YtbfhgljmopgejaaGreat

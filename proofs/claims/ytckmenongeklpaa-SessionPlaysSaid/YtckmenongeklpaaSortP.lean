/- slices.Sort at []uint64: the pivot's choice, of more than twelve and fewer than fifty; whether a part is sorted already. -/
import Derived.Test.YtckmenongeklpaaSortB
import Derived.Test.YtckmenongeklpaaSortQ
import Derived.OneCell
namespace Go.Proofs.Ytckmenongeklpaa
open Go.RowKit Go.Sort

theorem keeps_drewN {S : Nat → Prop} {a w : World} (h : Keeps S a w) (n : Nat) : Keeps S a (w.drewN n) := ⟨h.os, h.tape, h.output, h.size, h.block⟩
theorem below_drewN {B : Nat} {a w : World} (h : Below B a w) (n : Nat) : Below B a (w.drewN n) := ⟨h.os, h.tape, h.output, h.size, h.block⟩

/-- W is w, but for the row in block blk, which is d. -/
def RowW (w : World) (blk : Nat) (d : Array Int) (W : World) : Prop := W.heap[blk]? = (putRow u64v w blk 0 d).heap[blk]? ∧ Keeps (fun k => k = blk) w W

theorem heap_putRow_other {α : Type} [Inhabited α] (enc : α → Value) (w : World) (blk off : Nat) (d : Array α) (k : Nat) (hk : k ≠ blk) : (putRow enc w blk off d).heap[k]? = w.heap[k]? := by
  unfold putRow mapBlock
  simp only [Array.getElem?_modify]
  rw [if_neg (fun e => hk e.symm)]

theorem RowW.refl {w : World} {blk : Nat} {d : Array Int} (h : Holds u64v w blk 0 d) : RowW w blk d w := ⟨by rw [putRow_self u64v w blk 0 d h], Keeps.refl _ _⟩

theorem holds_of_heap {w w' : World} {blk : Nat} {d : Array Int} (h : Holds u64v w blk 0 d) (e : w'.heap[blk]? = w.heap[blk]?) : Holds u64v w' blk 0 d := by
  intro j hj
  have := h j hj
  simp only [World.cell?, World.frozen?, e] at this ⊢
  exact this

theorem RowW.holds {w W : World} {blk : Nat} {d0 d : Array Int} (h : RowW w blk d W) (h0 : Holds u64v w blk 0 d0) (hs : d.size = d0.size) : Holds u64v W blk 0 d :=
  holds_of_heap (holds_putRow u64v w blk 0 d0 d h0 hs) h.1

theorem RowW.drewN {w W : World} {blk : Nat} {d : Array Int} (h : RowW w blk d W) (n : Nat) : RowW w blk d (W.drewN n) := ⟨h.1, keeps_drewN h.2 n⟩

theorem RowW.below {w W W' : World} {blk : Nat} {d : Array Int} (h : RowW w blk d W) (hl : blk < w.heap.size) (hb : Below W.heap.size W W') : RowW w blk d W' :=
  ⟨(hb.block blk (Nat.lt_of_lt_of_le hl h.2.size)).trans h.1, h.2.trans (Keeps.of_belowS hb)⟩

theorem heap_putRow_at {α : Type} [Inhabited α] (enc : α → Value) (w : World) (blk off : Nat) (d : Array α) : (putRow enc w blk off d).heap[blk]? = (w.heap[blk]?).map (onCells (putCells enc off d)) := by
  unfold putRow mapBlock
  simp [Array.getElem?_modify]

theorem RowW.put {w W W' : World} {blk : Nat} {d d' : Array Int} (h : RowW w blk d W) (h' : RowW W blk d' W') (hs : d'.size = d.size) : RowW w blk d' W' := by
  refine ⟨?_, h.2.trans h'.2⟩
  rw [h'.1, heap_putRow_at, h.1, ← heap_putRow_at, putRow_putRow _ _ _ _ _ _ hs]

theorem heap_setCell_at (w : World) (blk i : Nat) (v : Value) : (w.setCell ⟨blk, i, none⟩ v).heap[blk]? = (w.heap[blk]?).map (onCells (·.setIfInBounds i v)) := by
  rw [setCell_eq]
  unfold mapBlock
  simp [Array.getElem?_modify]

theorem RowW.swp {w W : World} {blk : Nat} {d : Array Int} (h : RowW w blk d W) {i j : Nat} (hi : i < d.size) (hj : j < d.size) :
    RowW w blk (swp d i j) ((W.setCell ⟨blk, i, none⟩ (u64v d[j]!)).setCell ⟨blk, j, none⟩ (u64v d[i]!)).drew := by
  refine ⟨?_, ((h.2.setCell (p := ⟨blk, i, none⟩) (.inl rfl) _).setCell (p := ⟨blk, j, none⟩) (.inl rfl) _).drew⟩
  have e := putRow_swp u64v w blk 0 d i j hi hj
  rw [Nat.zero_add, Nat.zero_add] at e
  rw [← e]
  show ((W.setCell ⟨blk, i, none⟩ (u64v d[j]!)).setCell ⟨blk, j, none⟩ (u64v d[i]!)).heap[blk]? = _
  rw [heap_setCell_at, heap_setCell_at, h.1, ← heap_setCell_at, ← heap_setCell_at]

/-- What order2Ordered leaves: the two places, in some order; the count of exchanges has grown by one at most. -/
def Ord2 (a b sb : Nat) (s : Nat) (W : World) (e : Ending) (w' : World) : Prop :=
  ∃ x y s' : Nat, e = .returned (.tuple #[.int .i64 x, .int .i64 y]) ∧ (x = a ∨ x = b) ∧ (y = a ∨ y = b) ∧ s' ≤ s + 1 ∧ w'.heap[sb]? = some (.cells #[.int .i64 s'] 3 (0, 0)) ∧ Keeps (fun k => k = sb) W w'

theorem order2_u64 (W : World) (blk L cap a b sb s : Nat) (d : Array Int) (hL : L = d.size) (hH : Holds u64v W blk 0 d) (ha : a < L) (hb : b < L) (hd : L ≤ 1000) (hs : s ≤ 10)
    (hsb : W.heap[sb]? = some (.cells #[.int .i64 s] 3 (0, 0))) :
    Calls Try.prog 71 #[.slice (some ⟨blk, 0, none⟩) L cap, .int .i64 a, .int .i64 b, .pointer (some ⟨sb, 0, none⟩)] W (Ord2 a b sb s W) := by
  obtain ⟨ca, fa⟩ := hH a (by omega)
  obtain ⟨cb, fb⟩ := hH b (by omega)
  rw [Nat.zero_add] at ca cb fa fb
  generalize hx : d[a]! = x at ca
  generalize hy : d[b]! = y at cb
  clear hx hy
  unfold u64v at ca cb
  have cs := cell_of_one hsb
  have fs := free_of_one hsb
  have ls := lt_of_block hsb
  have HSB := Lib.hid hsb
  clear hH hsb hL
  go_enter Try.func71, Try.ntmps71
  go_wp2
  go_quiet ((go_at_call 60; exact Calls.quiet_of_same (less_same _ _ _)))
  go_wp2
  · go_ret2
    refine ⟨b, a, s + 1, by go_num, .inr rfl, .inl rfl, by omega, ?_, ((keeps_drewN (Keeps.refl (fun k => k = sb) W) nq).setCell (p := ⟨sb, 0, none⟩) (.inl rfl) _)⟩
    have e1 : (W.drewN nq).heap[sb]? = some (.cells #[.int .i64 s] 3 (0, 0)) := HSB.out
    rw [show (Value.int .i64 ((s : Int) + 1)) = Value.int .i64 ((s + 1 : Nat) : Int) by go_num]
    exact one_setCell e1
  · go_ret2
    exact ⟨a, b, s, rfl, .inl rfl, .inr rfl, by omega, HSB.out, keeps_drewN (Keeps.refl _ W) nq⟩

/-- What medianOrdered leaves: one of three places. -/
def Med (a b c sb : Nat) (s : Nat) (W : World) (e : Ending) (w' : World) : Prop :=
  ∃ x s' : Nat, e = .returned (.int .i64 x) ∧ (x = a ∨ x = b ∨ x = c) ∧ s' ≤ s + 3 ∧ w'.heap[sb]? = some (.cells #[.int .i64 s'] 3 (0, 0)) ∧ Keeps (fun k => k = sb) W w'

theorem median_u64 (W : World) (blk L cap a b c sb s : Nat) (d : Array Int) (hL : L = d.size) (hH : Holds u64v W blk 0 d) (ha : a < L) (hb : b < L) (hc : c < L) (hd : L ≤ 1000) (hne : blk ≠ sb) (hs : s ≤ 5)
    (hsb : W.heap[sb]? = some (.cells #[.int .i64 s] 3 (0, 0))) :
    Calls Try.prog 69 #[.slice (some ⟨blk, 0, none⟩) L cap, .int .i64 a, .int .i64 b, .int .i64 c, .pointer (some ⟨sb, 0, none⟩)] W (Med a b c sb s W) := by
  have HSB := Lib.hid hsb
  have HH := Lib.hid hH
  have HL := Lib.hid hL
  have hbl : blk < W.heap.size := cell_lt (hH a (by omega)).1
  clear hH hsb hL
  go_enter Try.func69, Try.ntmps69
  go_wp2_with fail
  refine (order2_u64 W blk L cap a b sb s d HL.out HH.out ha hb hd (by omega) HSB.out).mono ?_
  rintro e w1 ⟨x1, y1, s1, rfl, hx1, hy1, hs1, hb1, hk1⟩
  have HB1 := Lib.hid hb1
  have HK1 := Lib.hid hk1
  have HH1 : Hid (Holds u64v w1 blk 0 d) := Lib.hid (holds_of_heap HH.out (hk1.block blk hbl hne))
  have lx1 : x1 < L := by omega
  have ly1 : y1 < L := by omega
  have m1 : (x1 = a ∨ x1 = b ∨ x1 = c) ∧ (y1 = a ∨ y1 = b ∨ y1 = c) := by omega
  have M1 := Lib.hid m1
  clear hx1 hy1 hb1 hk1 m1
  go_wp2_with fail
  refine (order2_u64 w1 blk L cap y1 c sb s1 d HL.out HH1.out ly1 hc hd (by omega) HB1.out).mono ?_
  rintro e w2 ⟨x2, y2, s2, rfl, hx2, hy2, hs2, hb2, hk2⟩
  have HB2 := Lib.hid hb2
  have HK2 := Lib.hid (HK1.out.trans hk2)
  have HH2 : Hid (Holds u64v w2 blk 0 d) := Lib.hid (holds_of_heap HH1.out (hk2.block blk (Nat.lt_of_lt_of_le hbl HK1.out.size) hne))
  have lx2 : x2 < L := by omega
  have m2 : x2 = a ∨ x2 = b ∨ x2 = c := by have := M1.out; omega
  have M2 := Lib.hid m2
  clear hx2 hy2 hb2 hk2 m2
  go_wp2_with fail
  refine (order2_u64 w2 blk L cap x1 x2 sb s2 d HL.out HH2.out lx1 lx2 hd (by omega) HB2.out).mono ?_
  rintro e w3 ⟨x3, y3, s3, rfl, hx3, hy3, hs3, hb3, hk3⟩
  have HK3 := Lib.hid (HK2.out.trans hk3)
  have m3 : y3 = a ∨ y3 = b ∨ y3 = c := by have := M1.out; have := M2.out; omega
  have M3 := Lib.hid m3
  have HB3 := Lib.hid hb3
  clear hx3 hy3 hb3 hk3 m3
  go_wp2_with fail
  go_ret
  exact ⟨y3, s3, rfl, M3.out, by omega, HB3.out, HK3.out⟩

/-- What choosePivotOrdered leaves: a place of the part, and a hint; it never tells that the part falls (of fewer than fifty). -/
def Piv (a b : Nat) (W : World) (e : Ending) (w' : World) : Prop :=
  ∃ (p : Nat) (h : Int), e = .returned (.tuple #[.int .i64 p, .int .i64 h]) ∧ a ≤ p ∧ p < b ∧ (h = 0 ∨ h = 1) ∧ Below W.heap.size W w'

set_option maxRecDepth 100000 in
theorem pivot_u64 (W : World) (blk L cap a b : Nat) (d : Array Int) (hL : L = d.size) (hH : Holds u64v W blk 0 d) (hb : b ≤ L) (hab : a + 12 < b) (hd : L ≤ 49) :
    Calls Try.prog 57 #[.slice (some ⟨blk, 0, none⟩) L cap, .int .i64 a, .int .i64 b] W (Piv a b W) := by
  have HH := Lib.hid hH
  have HL := Lib.hid hL
  have hbl : blk < W.heap.size := cell_lt (hH a (by omega)).1
  clear hH hL
  obtain ⟨q, hq⟩ : ∃ q, q = (b - a) / 4 := ⟨_, rfl⟩
  have hM := median_u64 (W.alloc (.cells #[.int .i64 0] 3)) blk L cap (a + q) (a + q * 2) (a + q * 3) W.heap.size 0 d HL.out
    (holds_of_heap HH.out (Below.heap_alloc _ _ _ hbl)) (by omega) (by omega) (by omega) (by omega) (by omega) (by omega) (heap_new W _)
  rw [show ((a + q : Nat) : Int) = (a : Int) + ((b : Int) - a) / 4 by omega, show ((a + q * 2 : Nat) : Int) = (a : Int) + ((b : Int) - a) / 4 * 2 by omega, show ((a + q * 3 : Nat) : Int) = (a : Int) + ((b : Int) - a) / 4 * 3 by omega] at hM
  have HM := Lib.hid hM
  have HQ := Lib.hid hq
  have h8 : (8 : Int) ≤ (b : Int) - a := by omega
  have h50 : (b : Int) - a < 50 := by omega
  clear hq hM
  go_enter Try.func57, Try.ntmps57
  go_wp2_with fail
  refine HM.out.mono ?_
  rintro e w1 ⟨p, s, rfl, hp, hs, hb1, hk1⟩
  have HP := Lib.hid (show a ≤ p ∧ p < b by have := HQ.out; omega)
  have hbel : Below W.heap.size W w1 := ((Below.refl _ _).alloc (Nat.le_refl _) _).trans (hk1.below (by simp) (by intro k hk; exact Nat.le_of_eq hk.symm))
  have HB := Lib.hid hbel
  have c1 := cell_of_one hb1
  have l1 := lt_of_block hb1
  clear hp hb1 hk1 hbel
  by_cases h0 : s = 0
  · subst h0
    go_wp2
    go_ret2
    exact ⟨p, 1, rfl, HP.out.1, HP.out.2, .inr rfl, HB.out⟩
  · have n0 : ((s : Int) == 0) = false := by simpa using h0
    have n12 : ((s : Int) == 12) = false := by simp; omega
    clear h0
    go_wp2
    go_ret2
    exact ⟨p, 0, rfl, HP.out.1, HP.out.2, .inl rfl, HB.out⟩

/-- Whether a part of fewer than fifty rises: what partialInsertionSortOrdered tells. -/
def PartI (a b : Nat) (d : Array Int) (W : World) (e : Ending) (w' : World) : Prop :=
  ∃ r : Bool, e = .returned (.bool r) ∧ (r = true → SortedIn ltInt a b d) ∧ Below W.heap.size W w'

set_option maxRecDepth 100000 in
theorem partial_u64 (W : World) (blk L cap a b : Nat) (d : Array Int) (hL : L = d.size) (hH : Holds u64v W blk 0 d) (hb : b ≤ L) (hab : a + 12 < b) (hd : L ≤ 49) :
    Calls Try.prog 59 #[.slice (some ⟨blk, 0, none⟩) L cap, .int .i64 a, .int .i64 b] W (PartI a b d W) := by
  have HH := Lib.hid hH
  have HL := Lib.hid hL
  have hbl : blk < W.heap.size := cell_lt (hH a (by omega)).1
  clear hH hL
  have h50 : (b : Int) - a < 50 := by omega
  go_enter Try.func59, Try.ntmps59
  go_wp2
  go_loopw [7, 8] (fun i j wr => i = .int .i64 (a + 1 : Nat) ∧ j = .int .i64 0 ∧ wr = W) (fun _ _ _ => 0)
  case atStart => exact ⟨by go_num, rfl, rfl⟩
  case round =>
    obtain ⟨rfl, rfl, rfl⟩ := hrel
    go_wp2
    go_loopw [7] (fun iv w1 => ∃ (i n : Nat), iv = .int .i64 i ∧ a + 1 ≤ i ∧ i ≤ b ∧ w1 = wr.drewN n ∧ Hid (SortedIn ltInt a i d)) (fun iv _ => b - (intOf iv).toNat)
    case atStart => exact ⟨a + 1, 0, rfl, Nat.le_refl _, by omega, rfl, Lib.hid (fun i j h1 h2 h3 => by omega)⟩
    case round =>
      obtain ⟨i, n, rfl, hi, hib, rfl, hs⟩ := hrel
      generalize hW1 : wr.drewN n = W1
      have HW1 : Hid (Below wr.heap.size wr W1) := Lib.hid (by rw [← hW1]; exact below_drewN (Below.refl _ _) n)
      have HN : Hid (wr.drewN n = W1) := Lib.hid hW1
      have hh : Holds u64v W1 blk 0 d := holds_of_heap HH.out (by rw [← hW1]; rfl)
      clear hW1
      by_cases hlt : i < b
      · obtain ⟨c1, f1⟩ := hh i (by have := HL.out; omega)
        obtain ⟨c0, f0⟩ := hh (i - 1) (by have := HL.out; omega)
        rw [Nat.zero_add] at c1 c0 f1 f0
        obtain ⟨k, rfl⟩ : ∃ k, i = k + 1 := ⟨i - 1, by omega⟩
        rw [Nat.add_sub_cancel] at c0 f0
        generalize hx : d[k + 1]! = x at c1
        generalize hy : d[k]! = y at c0
        have HX := Lib.hid hx
        have HY := Lib.hid hy
        clear hx hy hh
        unfold u64v at c1 c0
        have hw1 : IntKind.i64.wrap ((k : Int) + 1 - 1) = (k : Int) := by rw [IntKind.wrap_i64]; omega
        have hdec : decide ((k : Int) + 1 < (b : Int)) = true := by simp; omega
        have hki : (k : Int) + 1 ≤ 49 := by omega
        have hnb : ((k : Int) + 1 == (b : Int)) = false := by simp; omega
        cases hl : ltInt x y
        · have HLT := Lib.hid hl
          go_wp2
          go_quiet ((go_at_call 60; exact Calls.quiet_of_same (less_same _ _ _)))
          go_wp2
          go_roundw
          case rel =>
            refine ⟨k + 1 + 1, n + nq, by go_num, by omega, by omega, by rw [← HN.out, drewN_ahead, drewN_ahead, ahead_ahead]; rfl, Lib.hid ?_⟩
            exact SortedIn.snoc swo_ltInt hs.out (by rw [HX.out, Nat.add_sub_cancel, HY.out]; exact HLT.out)
          case measure => simp [intOf]; omega
        · go_wp2
          go_quiet ((go_at_call 60; exact Calls.quiet_of_same (less_same _ _ _)))
          go_wp2
          go_ret
          exact ⟨false, rfl, (fun h => by cases h), below_drewN HW1.out nq⟩
      · obtain rfl : i = b := by omega
        have hdec : decide ((i : Int) < (i : Int)) = false := by simp
        go_wp2
        go_quiet ((go_at_call 60; exact Calls.quiet_of_same (less_same _ _ _)))
        go_wp2
        go_ret
        exact ⟨true, rfl, fun _ => hs.out, below_drewN HW1.out nq⟩

end Go.Proofs.Ytckmenongeklpaa

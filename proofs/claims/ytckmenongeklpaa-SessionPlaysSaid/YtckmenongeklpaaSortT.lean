/- slices.Sort at []uint64: patterns that are broken. -/
import Derived.Test.YtckmenongeklpaaSortS
namespace Go.Proofs.Ytckmenongeklpaa
open Go.RowKit Go.Sort

/-- What a draw of xorshift leaves: some number. -/
def Xs (rb : Nat) (W : World) (e : Ending) (w' : World) : Prop :=
  ∃ r : Nat, e = .returned (.int .u64 r) ∧ r < 18446744073709551616 ∧ w'.heap[rb]? = some (.cells #[.int .u64 r] 113 (0, 0)) ∧ Keeps (fun k => k = rb) W w'

theorem xor_some (a b : Int) : ∃ r : Nat, r < 18446744073709551616 ∧ bits .xor .u64 a b = (r : Int) := by
  refine ⟨(bits .xor .u64 a b).toNat, ?_, ?_⟩ <;> (unfold bits; simp only [IntKind.wrap_u64]; omega)
theorem and_some (a b : Int) : ∃ r : Nat, r < 18446744073709551616 ∧ bits .and .u64 a b = (r : Int) := by
  refine ⟨(bits .and .u64 a b).toNat, ?_, ?_⟩ <;> (unfold bits; simp only [IntKind.wrap_u64]; omega)

set_option maxRecDepth 100000 in
theorem next_any (W : World) (rb r : Nat) (hrb : W.heap[rb]? = some (.cells #[.int .u64 r] 113 (0, 0))) :
    Calls Try.prog 67 #[.pointer (some ⟨rb, 0, none⟩)] W (Xs rb W) := by
  have c0 := cell_of_one hrb
  have f0 := free_of_one hrb
  have l0 := lt_of_block hrb
  have HB := Lib.hid hrb
  have HK := Lib.hid (Keeps.refl (fun k => k = rb) W)
  clear hrb
  go_enter Try.func67, Try.ntmps67
  go_wp2
  go_region
  all_goals
  go_wp2
  obtain ⟨r1, hr1, h1⟩ := xor_some (r : Int) (IntKind.u64.wrap ((r : Int) * 8192))
  rw [h1]
  generalize hW : World.drew _ = W1
  have HB1 : Hid (W1.heap[rb]? = some (.cells #[.int .u64 r1] 113 (0, 0))) := Lib.hid (by rw [← hW]; exact one_setCell HB.out)
  have HK1 : Hid (Keeps (fun k => k = rb) W W1) := Lib.hid (by rw [← hW]; exact (HK.out.setCell (p := ⟨rb, 0, none⟩) (.inl rfl) _).drew)
  have l1 := lt_of_block HB1.out
  clear h1 hW c0 f0 l0
  have c0 := cell_of_one HB1.out
  have f0 := free_of_one HB1.out
  go_region
  all_goals
  go_wp2
  generalize hx : bits .xor .u64 (r1 : Int) _ = x2
  obtain ⟨r2, hr2, rfl⟩ : ∃ r2 : Nat, r2 < 18446744073709551616 ∧ x2 = (r2 : Int) := by rw [← hx]; exact xor_some _ _
  generalize hW : World.drew _ = W2
  have HB2 : Hid (W2.heap[rb]? = some (.cells #[.int .u64 r2] 113 (0, 0))) := Lib.hid (by rw [← hW]; exact one_setCell HB1.out)
  have HK2 : Hid (Keeps (fun k => k = rb) W W2) := Lib.hid (by rw [← hW]; exact (HK1.out.setCell (p := ⟨rb, 0, none⟩) (.inl rfl) _).drew)
  have l2 := lt_of_block HB2.out
  clear hx hW c0 f0 l1
  have c0 := cell_of_one HB2.out
  have f0 := free_of_one HB2.out
  go_region
  all_goals
  go_wp2
  generalize hx : bits .xor .u64 (r2 : Int) _ = x3
  obtain ⟨r3, hr3, rfl⟩ : ∃ r3 : Nat, r3 < 18446744073709551616 ∧ x3 = (r3 : Int) := by rw [← hx]; exact xor_some _ _
  generalize hW : World.drew _ = W3
  have HB3 : Hid (W3.heap[rb]? = some (.cells #[.int .u64 r3] 113 (0, 0))) := Lib.hid (by rw [← hW]; exact one_setCell HB2.out)
  have HK3 : Hid (Keeps (fun k => k = rb) W W3) := Lib.hid (by rw [← hW]; exact (HK2.out.setCell (p := ⟨rb, 0, none⟩) (.inl rfl) _).drew)
  have l3 := lt_of_block HB3.out
  clear hx hW c0 f0 l2
  have c0 := cell_of_one HB3.out
  go_wp2
  go_ret
  exact ⟨r3, rfl, hr3, HB3.out, HK3.out⟩

theorem keeps_newer {S T : Nat → Prop} {W w w1 : World} (h : Keeps S W w) (h1 : Keeps T w w1) (hT : ∀ k, T k → W.heap.size ≤ k) : Keeps S W w1 :=
  ⟨h1.os.trans h.os, h1.tape.trans h.tape, h1.output.trans h.output, Nat.le_trans h.size h1.size, fun k hk hn => (h1.block k (Nat.lt_of_lt_of_le hk h.size) (fun t => by have := hT k t; omega)).trans (h.block k hk hn)⟩

theorem and_15 (r : Nat) (hr : r < 18446744073709551616) : ∃ o : Nat, o ≤ 15 ∧ bits .and .u64 (r : Int) 15 = (o : Int) := by
  refine ⟨r &&& 15, Nat.and_le_right, ?_⟩
  have h1 : (BitVec.ofInt 64 (r : Int)).toNat = r := by
    rw [BitVec.ofInt_natCast, BitVec.toNat_ofNat]; exact Nat.mod_eq_of_lt (by omega)
  show IntKind.u64.wrap ((BitVec.ofInt 64 (r : Int) &&& BitVec.ofInt 64 (15 : Int)).toNat : Int) = _
  rw [BitVec.toNat_and, h1, show (BitVec.ofInt 64 (15 : Int)).toNat = 15 by rfl, IntKind.wrap_u64]
  have : r &&& 15 ≤ 15 := Nat.and_le_right
  omega

theorem pow_any (n : Nat) (h1 : 13 ≤ n) (h2 : n ≤ 15) (w : World) : Calls Try.prog 66 #[.int .i64 n] w (Ret (.int .u64 16) w) := by
  have hL := len_small n (by omega) w
  have e : lenT n = 4 := by
    unfold lenT
    rw [if_neg (by omega), if_neg (by omega), if_neg (by omega), if_neg (by omega), if_pos (by omega)]
  rw [e] at hL
  have HL := Lib.hid hL
  clear hL e
  go_enter Try.func66, Try.ntmps66
  go_wp2_with fail
  refine HL.out.mono ?_
  rintro e w' ⟨rfl, rfl⟩
  go_wp2
  go_ret
  exact Ret.mk rfl

/-- What breakPatternsOrdered leaves: the part in another order. -/
def Brk (a b blk : Nat) (d : Array Int) (W : World) (e : Ending) (w' : World) : Prop :=
  ∃ d' : Array Int, e = .returned (.tuple #[]) ∧ PermIn a b d d' ∧ RowW W blk d' w'

set_option maxRecDepth 100000 in
theorem break_u64 (W : World) (blk L cap a b : Nat) (d : Array Int) (hL : L = d.size) (hH : Holds u64v W blk 0 d) (hb : b ≤ L) (h13 : a + 13 ≤ b) (h15 : b ≤ a + 15) (hd : L ≤ 49) :
    Calls Try.prog 56 #[.slice (some ⟨blk, 0, none⟩) L cap, .int .i64 a, .int .i64 b] W (Brk a b blk d W) := by
  have HH := Lib.hid hH
  have HL := Lib.hid hL
  have hbl : blk < W.heap.size := cell_lt (hH a (by omega)).1
  clear hH hL
  obtain ⟨l, hl⟩ : ∃ l : Nat, (b : Int) - a = l := ⟨b - a, by omega⟩
  have l1 : 13 ≤ l := by omega
  have l2 : l ≤ 15 := by omega
  have h8 : (8 : Int) ≤ (l : Int) := by omega
  have e4 : (l : Int) / 4 = 3 := by omega
  have HPW := fun w => pow_any l l1 l2 w
  have HPW := Lib.hid HPW
  have ha : (a : Int) ≤ 49 := by omega
  go_enter Try.func56, Try.ntmps56
  go_wp2_with fail
  refine (HPW.out _).mono ?_
  rintro e w' ⟨rfl, rfl⟩
  go_wp2
  have hr0 : Hid ((W.alloc (.cells #[.int .u64 l] 113)).heap[W.heap.size]? = some (.cells #[.int .u64 l] 113 (0, 0))) := Lib.hid (heap_new W _)
  go_loopw [9, 10] (fun iv _ wr => ∃ (i r : Nat) (dk : Array Int), iv = .int .i64 i ∧ a + 5 ≤ i ∧ i ≤ a + 8 ∧ Hid (PermIn a b d dk) ∧ Hid (wr.heap[W.heap.size]? = some (.cells #[.int .u64 r] 113 (0, 0))) ∧ RowW W blk dk wr) (fun iv _ _ => b - (intOf iv).toNat)
  case atStart => exact ⟨a + 5, l, d, by go_num, by omega, by omega, Lib.hid (permIn_refl d a b), hr0, (RowW.refl HH.out).below hbl ((Below.refl _ _).alloc (Nat.le_refl _) _)⟩
  case round =>
    clear hr0
    obtain ⟨i, r, dk, rfl, hi1, hi2, hp, hrb, hR⟩ := hrel
    have HR := Lib.hid hR
    clear hR
    by_cases hlt : i ≤ a + 7
    · have hi3 : (i : Int) ≤ a + 7 := by omega
      go_wp2_with fail
      refine (next_any wr W.heap.size r hrb.out).mono ?_
      rintro e w1 ⟨r1, rfl, hr1, hb1, hk1⟩
      have HB1 := Lib.hid hb1
      have hR1 : RowW W blk dk w1 := ⟨(hk1.block blk (Nat.lt_of_lt_of_le hbl HR.out.2.size) (by omega)).trans HR.out.1, keeps_newer HR.out.2 hk1 (fun k hk => Nat.le_of_eq hk.symm)⟩
      clear hb1 hk1
      obtain ⟨o, ho, hbo⟩ := and_15 r1 hr1
      obtain ⟨q, hq, hcase⟩ : ∃ q : Nat, q < l ∧ ((o < l ∧ o = q) ∨ (l ≤ o ∧ o = l + q)) := by
        rcases Nat.lt_or_ge o l with h | h
        · exact ⟨o, h, .inl ⟨h, rfl⟩⟩
        · exact ⟨o - l, by omega, .inr ⟨h, by omega⟩⟩
      have hH1 := hR1.holds HH.out hp.out.1
      have hS := hR1.swp (i := i) (j := a + q) (by have := hp.out.1; have := HL.out; omega) (by have := hp.out.1; have := HL.out; omega)
      obtain ⟨c1, f1⟩ := hH1 i (by have := hp.out.1; have := HL.out; omega)
      obtain ⟨c0, f0⟩ := hH1 (a + q) (by have := hp.out.1; have := HL.out; omega)
      have HP' : Hid (PermIn a b d (swp dk i (a + q))) := Lib.hid (permIn_trans d dk _ a b hp.out (swp_permIn dk a b i (a + q) (by omega) (by omega) (by omega) (by omega) (by have := hp.out.1; have := HL.out; omega)))
      rw [Nat.zero_add] at c1 c0 f1 f0
      generalize hx : dk[i]! = x at c1 hS
      generalize hy : dk[a + q]! = y at c0 hS
      unfold u64v at c1 c0
      obtain ⟨v', hy'⟩ := cell?_setCell_some (w := w1) (p := ⟨blk, i, none⟩) (x := .int .u64 y) (q := ⟨blk, a + q, none⟩) c0
      have HS := Lib.hid hS
      have hw : IntKind.i64.wrap ((a : Int) + (q : Int)) = ((a + q : Nat) : Int) := by rw [IntKind.wrap_i64]; omega
      have hlen : (a + q : Nat) < L := by omega
      clear hx hy hS hH1 hR1
      have q1 : (q : Int) ≤ 15 := by omega
      have hfin : Hid (((w1.setCell ⟨blk, i, none⟩ (.int .u64 y)).setCell ⟨blk, a + q, none⟩ (.int .u64 x)).drew.heap[W.heap.size]? = some (.cells #[.int .u64 r1] 113 (0, 0))) := by
        refine Lib.hid ?_
        show ((w1.setCell ⟨blk, i, none⟩ (.int .u64 y)).setCell ⟨blk, a + q, none⟩ (.int .u64 x)).heap[W.heap.size]? = _
        rw [Below.heap_setCell _ _ _ _ (by simp; omega), Below.heap_setCell _ _ _ _ (by simp; omega)]
        exact HB1.out
      rcases hcase with ⟨hol, rfl⟩ | ⟨hol, rfl⟩
      · have d1 : decide ((l : Int) ≤ (o : Int)) = false := by simp; omega
        go_wp2
        go_region
        all_goals
        go_wp2
        go_roundw
        case rel => exact ⟨i + 1, r1, swp dk i (a + o), (by go_num), by omega, by omega, HP', hfin, HS.out⟩
        case measure => simp [intOf]; omega
      · have d1 : decide ((l : Int) ≤ ((l + q : Nat) : Int)) = true := by simp; omega
        have e5 : (l : Int) + (q : Int) - (l : Int) = (q : Int) := by omega
        go_wp2
        go_region
        all_goals
        go_wp2
        go_roundw
        case rel => exact ⟨i + 1, r1, swp dk i (a + q), (by go_num), by omega, by omega, HP', hfin, HS.out⟩
        case measure => simp [intOf]; omega
    · have hi3 : (a : Int) + 6 + 1 < i := by omega
      go_wp2
      go_end0
      exact ⟨dk, rfl, hp.out, HR.out⟩

end Go.Proofs.Ytckmenongeklpaa

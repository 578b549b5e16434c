/- Package octet: what its Reader reads. Package octet: the Reader's numbers and texts. Package octet: the Reader's counts, texts and signed numbers, and its end. Package octet: Read: a Reader over a copy of the bytes. -/
import Derived.Test.YtheipmallojdkaaGreatDoorIrM16
import Derived.Test.YtheipmallojdkaaGreatDoorIrM02
import Derived.Laws.IdiomStrings
import Derived.Laws.ShiftsVarLaws

namespace Go.Proofs.YtheipmallojdkaaGreatDoor
open Go.RowKit

/-- Block p is a Reader in this state. -/
def RdAt (w : World) (p : Nat) (s : RS) : Prop :=
  ∃ v, w.heap[p]? = some (.cells #[v, .int .i64 s.e] 75 (0, 0)) ∧ (∀ k, v.ownBlock = some k → k < p) ∧ Sl u8v w v s.b ∧ s.ok

theorem RdAt.lt {w : World} {p : Nat} {s : RS} (h : RdAt w p s) : p < w.heap.size := by
  obtain ⟨v, h, _⟩ := h
  exact heap_lt h

theorem RdAt.alloc {w : World} {p : Nat} {s : RS} (h : RdAt w p s) (o : Obj) : RdAt (w.alloc o) p s := by
  obtain ⟨v, h1, h2, h3, h4⟩ := h
  exact ⟨v, aheap h1 _, h2, h3.alloc _, h4⟩

theorem RdAt.kept {S : Nat → Prop} {w w' : World} {p : Nat} {s : RS} (h : RdAt w p s) (hk : Keeps S w w') (hS : ∀ k, k ≤ p → ¬ S k) : RdAt w' p s := by
  obtain ⟨v, h1, h2, h3, h4⟩ := h
  exact ⟨v, hk.heap (hS p (Nat.le_refl _)) h1, h2, h3.kept hk fun k hv => hS k (Nat.le_of_lt (h2 k hv)), h4⟩

/-- The call returned v, and the Reader in block p is in another state; all else is as it was. -/
def RetR (v : Value) (p : Nat) (s : RS) (w : World) (e : Ending) (w' : World) : Prop := e = .returned v ∧ RdAt w' p s ∧ Keeps (fun k => k = p) w w'

section
variable (w : World) (p : Nat) (s : RS) (h : RdAt w p s)
include h

theorem err_any : Calls Tryz.prog 31 #[.pointer (some ⟨p, 0, none⟩)] w (Ret (.int .i64 s.e) w) := by
  obtain ⟨v, hp, _⟩ := h
  have c1 := blk_cell hp 1 rfl
  clear hp
  go_enter Tryz.func31, Tryz.ntmps31
  go_wp2
  go_ret
  exact Ret.mk rfl

theorem fail_any (e : Int) (he : e ≠ 0) : Calls Tryz.prog 33 #[.pointer (some ⟨p, 0, none⟩), .int .i64 e] w (RetR (.tuple #[]) p (s.fail e) w) := by
  have her := err_any w p s h
  have H := Lib.hid h
  obtain ⟨v, hp, hne, hs, hok⟩ := h
  have c0 := blk_cell hp 0 rfl
  have c1 := blk_cell hp 1 rfl
  have f0 := blk_free hp 0
  have f1 := blk_free hp 1
  have HP := Lib.hid hp
  have HE := Lib.hid he
  clear hp hs hok he
  cases h0 : (s.e == 0)
  · have e1 : s.fail e = s := by unfold RS.fail; rw [if_neg (by simpa using h0)]
    rw [e1]
    clear e1
    go_enter Tryz.func33, Tryz.ntmps33
    go_wp2_with (go_at_call 31; refine her.mono ?_; rintro e w' ⟨rfl, rfl⟩)
    go_end0
    exact ⟨rfl, H.out, Keeps.refl _ _⟩
  · have e1 : s.fail e = ⟨[], e⟩ := by unfold RS.fail; rw [if_pos (by simpa using h0)]
    rw [e1]
    clear e1
    go_enter Tryz.func33, Tryz.ntmps33
    go_wp2_with (go_at_call 31; refine her.mono ?_; rintro e w' ⟨rfl, rfl⟩)
    go_end0
    refine ⟨rfl, ⟨.slice none 0 0, blk_set (blk_set HP.out 1 _) 0 _, by simp [Value.ownBlock], Sl.nil _ _, fun _ => rfl⟩, ((Keeps.refl (fun k => k = p) w).setCell (.inl rfl) _).setCell (.inl rfl) _⟩

theorem one_err (h0 : (s.e == 0) = false) : Calls Tryz.prog 32 #[.pointer (some ⟨p, 0, none⟩)] w (RetR (.int .u8 0) p s w) := by
  have her := err_any w p s h
  have H := Lib.hid h
  clear h
  go_enter Tryz.func32, Tryz.ntmps32
  go_wp2_with (go_at_call 31; refine her.mono ?_; rintro e w' ⟨rfl, rfl⟩)
  go_ret
  exact ⟨rfl, H.out, Keeps.refl _ _⟩

theorem one_short (h0 : s = ⟨[], 0⟩) : Calls Tryz.prog 32 #[.pointer (some ⟨p, 0, none⟩)] w (RetR (.int .u8 0) p ⟨[], 4⟩ w) := by
  subst h0
  have her := err_any w p _ h
  have hfl : Calls Tryz.prog 33 #[.pointer (some ⟨p, 0, none⟩), .int .i64 4] w (RetR (.tuple #[]) p ⟨[], 4⟩ w) := fail_any w p _ h 4 (by decide)
  obtain ⟨v, hp, hne, ⟨a, cap, rfl, hl, hm, hx⟩, hok⟩ := h
  have c0 := blk_cell hp 0 rfl
  clear hp hx hok hne
  simp only [List.length_nil] at *
  go_enter Tryz.func32, Tryz.ntmps32
  go_wp2_with (go_at_call 31; refine her.mono ?_; rintro e w' ⟨rfl, rfl⟩)
  refine hfl.mono ?_
  rintro e w1 ⟨rfl, h1, hk⟩
  have her1 := err_any w1 p _ h1
  clear her hfl c0
  go_wp2_with (go_at_call 31; refine her1.mono ?_; rintro e w' ⟨rfl, rfl⟩)
  go_ret
  exact ⟨rfl, h1, hk⟩

theorem one_yes (c : UInt8) (r : List UInt8) (h0 : s = ⟨c :: r, 0⟩) : Calls Tryz.prog 32 #[.pointer (some ⟨p, 0, none⟩)] w (RetR (.int .u8 c.toNat) p ⟨r, 0⟩ w) := by
  subst h0
  have her := err_any w p _ h
  obtain ⟨v, hp, hne, ⟨a, cap, rfl, hl, hm, hx⟩, hok⟩ := h
  have c0 := blk_cell hp 0 rfl
  have f0 := blk_free hp 0
  rcases hx with ⟨rfl, rfl⟩ | ⟨b, o, rfl, hb, hc⟩
  · simp at hl
  have hcb : w.cell? ⟨b, o, none⟩ = some (.int .u8 (c.toNat : Int)) := hc 0 c rfl
  clear hok
  have HC := Lib.hid hc
  have HP := Lib.hid hp
  have HE := Lib.hid (show b < p from hne b (by simp [Value.ownBlock]))
  have HL := Lib.hid hl
  clear hc hp hne
  simp only [List.length_cons] at *
  unfold maxLen at hm
  by_cases h1 : cap = 1
  · subst h1
    go_enter Tryz.func32, Tryz.ntmps32
    go_wp2_with (go_at_call 31; refine her.mono ?_; rintro e w' ⟨rfl, rfl⟩)
    go_ret
    have hr : r = [] := List.eq_nil_of_length_eq_zero (by have := HL.out; omega)
    subst hr
    refine ⟨rfl, ⟨_, blk_set HP.out 0 _, fun k hk => by simp [Value.ownBlock] at hk; have := HE.out; omega, ?_, fun h => absurd rfl h⟩, (Keeps.refl (fun k => k = p) w).setCell (.inl rfl) _⟩
    exact ⟨_, 0, rfl, by simp, Nat.zero_le _, .inr ⟨b, o, rfl, by simpa [World.setCell] using hb, fun i c hi => by simp at hi⟩⟩
  · go_enter Tryz.func32, Tryz.ntmps32
    go_wp2_with (go_at_call 31; refine her.mono ?_; rintro e w' ⟨rfl, rfl⟩)
    go_ret
    refine ⟨rfl, ⟨_, blk_set HP.out 0 _, fun k hk => by simp [Value.ownBlock] at hk; have := HE.out; omega, ?_, fun h => absurd rfl h⟩, (Keeps.refl (fun k => k = p) w).setCell (.inl rfl) _⟩
    have hs : Sl u8v w (.slice (some ⟨b, o + 1, none⟩) r.length (cap - 1)) r :=
      ⟨_, _, rfl, by have := HL.out; omega, by unfold maxLen; omega, .inr ⟨b, o + 1, rfl, hb, fun i c hi => by
        have := HC.out (i + 1) c (by simpa using hi)
        rw [Nat.add_assoc, Nat.add_comm 1 i]
        exact this⟩⟩
    exact hs.setCell (by simp only [Value.ownBlock, ne_eq, Option.some.injEq]; have := HE.out; omega) _
end

end Go.Proofs.YtheipmallojdkaaGreatDoor

namespace Go.Proofs.YtheipmallojdkaaGreatDoor
open Go.RowKit

theorem RetR.mk {v u : Value} {p : Nat} {s : RS} {w w' : World} (hv : u = v) (h : RdAt w' p s) (k : Keeps (fun k => k = p) w w') : RetR v p s w (.returned u) w' := ⟨by rw [hv], h, k⟩

section
variable (w : World) (p : Nat) (s : RS) (h : RdAt w p s)
include h

set_option maxRecDepth 100000 in
set_option maxHeartbeats 1000000 in
theorem rnum_any : Calls Tryz.prog 10 #[.pointer (some ⟨p, 0, none⟩)] w (RetR (.int .u64 (numR s).1) p (numR s).2 w) := by
  have H := Lib.hid h
  have hok := h
  cases h0 : (s.e == 0)
  · have her := err_any w p s h
    have e1 : numR s = (0, s) := numR_err (by simpa using h0)
    rw [e1]
    clear h e1 hok
    go_enter Tryz.func10, Tryz.ntmps10
    go_wp2
    go_loopw [3, 4] (fun x sh wr => x = .int .u64 0 ∧ sh = .int .i64 0 ∧ w = wr) (fun _ _ _ => 0)
    case atStart => exact ⟨rfl, rfl, rfl⟩
    case round =>
      obtain ⟨rfl, rfl, rfl⟩ := hrel
      go_wp2_with (go_at_call 31; refine her.mono ?_; rintro e w' ⟨rfl, rfl⟩)
      go_ret
      exact ⟨rfl, H.out, Keeps.refl _ _⟩
  · obtain ⟨bs, e⟩ := s
    obtain rfl : e = 0 := by simpa using h0
    clear h0 h hok
    go_enter Tryz.func10, Tryz.ntmps10
    go_wp2
    go_loopw [3, 4] (fun x sh wr => ∃ (k : Nat) (acc : Nat) (sv av : Int) (l : List UInt8), x = .int .u64 av ∧ sh = .int .i64 sv ∧ sv = 7 * (k : Int) ∧ k ≤ 10 ∧ av = (acc : Int) ∧ acc < 128 ^ k ∧ dec 0 0 bs = dec k acc l ∧ RdAt wr p ⟨l, 0⟩ ∧ Keeps (fun k => k = p) w wr) (fun _ sh _ => (80 - intOf sh).toNat)
    case atStart => exact ⟨0, 0, 0, 0, bs, rfl, rfl, by omega, by omega, rfl, by simp, rfl, H.out, Keeps.refl _ _⟩
    case round =>
      obtain ⟨k, acc, sv, av, l, rfl, rfl, hsv, hk, hav, hacc, hdec, hR, hkp⟩ := hrel
      have HSV := Lib.hid hsv
      have HAV := Lib.hid hav
      have HK := Lib.hid hk
      have HAC := Lib.hid hacc
      have HD := Lib.hid hdec
      have HKP := Lib.hid hkp
      have hs0 : 0 ≤ sv := by omega
      have hs1 : sv ≤ 70 := by omega
      have her := err_any wr p _ hR
      cases l with
      | nil =>
        have hone := one_short wr p _ hR rfl
        clear hsv hk hav hacc hdec hkp hR
        go_wp2_with (go_at_call 31; refine her.mono ?_; rintro e w' ⟨rfl, rfl⟩)
        refine hone.mono ?_
        rintro e w1 ⟨rfl, h1, hk1⟩
        have her1 := err_any w1 p _ h1
        clear her hone
        go_wp2_with (go_at_call 31; refine her1.mono ?_; rintro e w' ⟨rfl, rfl⟩)
        go_ret
        have e1 : numR ⟨bs, 0⟩ = (0, ⟨[], 4⟩) := by simp [numR, HD.out, dec]
        rw [e1]
        exact ⟨rfl, h1, HKP.out.trans hk1⟩
      | cons c r =>
        have hone := one_yes wr p _ hR c r rfl
        have hc256 := c.toNat_lt
        obtain ⟨ci, hci⟩ : ∃ ci : Int, ci = (c.toNat : Int) := ⟨_, rfl⟩
        rw [← hci] at hone
        have hc0 : 0 ≤ ci := by omega
        have hc1 : ci ≤ 255 := by omega
        have HCI := Lib.hid hci
        by_cases hbad : 9 < k ∨ (k = 9 ∧ 1 < c.toNat) ∨ (c.toNat = 0 ∧ 0 < k)
        · have hfl := fun W hW => fail_any W p ⟨r, 0⟩ hW 2 (by decide)
          have efl : RS.fail ⟨r, 0⟩ 2 = ⟨[], 2⟩ := rfl
          rw [efl] at hfl
          have e1 : numR ⟨bs, 0⟩ = (0, ⟨[], 2⟩) := by simp only [numR, HD.out, dec, if_pos hbad, if_true]
          have E1 := Lib.hid e1
          have hcase : (63 < sv) ∨ (¬ 63 < sv ∧ (sv == 63) = true ∧ 1 < ci) ∨ (¬ 63 < sv ∧ (sv == 63) = true ∧ ¬ 1 < ci ∧ (ci == 0) = true ∧ 0 < sv) ∨ (¬ 63 < sv ∧ (sv == 63) = false ∧ (ci == 0) = true ∧ 0 < sv) := by
            simp only [beq_iff_eq, beq_eq_false_iff_ne, ne_eq]
            omega
          clear hsv hk hav hacc hdec hkp hR hci hbad e1 efl hc256
          rcases hcase with hcase | ⟨t1, t2, t3⟩ | ⟨t1, t2, t3, t4, t5⟩ | ⟨t1, t2, t4, t5⟩
          all_goals
            go_wp2_with (go_at_call 31; refine her.mono ?_; rintro e w' ⟨rfl, rfl⟩)
            refine hone.mono ?_
            rintro e w1 ⟨rfl, h1, hk1⟩
            have her1 := err_any w1 p _ h1
            have hfl1 := hfl w1 h1
            go_wp2_with (first | (go_at_call 31; refine her1.mono ?_; rintro e w' ⟨rfl, rfl⟩) | (go_at_call 33; refine hfl1.mono ?_; rintro e w2 ⟨rfl, h2, hk2⟩))
            go_ret
            rw [E1.out]
            exact ⟨rfl, h2, (HKP.out.trans hk1).trans hk2⟩
        · have hst := num_step k acc c hacc (by omega) (by omega)
          rw [← hav, ← hci, ← hsv] at hst
          have HST := Lib.hid hst
          have hcase : (¬ 63 < sv ∧ (sv == 63) = true ∧ ¬ 1 < ci ∧ (ci == 0) = false) ∨ (¬ 63 < sv ∧ (sv == 63) = false ∧ (ci == 0) = false) ∨ (¬ 63 < sv ∧ (sv == 63) = false ∧ (ci == 0) = true ∧ ¬ 0 < sv) := by
            simp only [beq_iff_eq, beq_eq_false_iff_ne, ne_eq]
            omega
          have HB := Lib.hid hbad
          have hav0 : 0 ≤ av := by omega
          clear hsv hk hav hacc hdec hkp hR hci hbad hst hc256
          by_cases hlt : ci < 128
          · rcases hcase with ⟨t1, t2, t3, t4⟩ | ⟨t1, t2, t4⟩ | ⟨t1, t2, t4, t5⟩
            all_goals
              go_wp2_with (go_at_call 31; refine her.mono ?_; rintro e w' ⟨rfl, rfl⟩)
              refine hone.mono ?_
              rintro e w1 ⟨rfl, h1, hk1⟩
              have her1 := err_any w1 p _ h1
              go_wp2_with (first | (go_at_call 31; refine her1.mono ?_; rintro e w' ⟨rfl, rfl⟩))
              go_ret
              have hlt' : c.toNat < 128 := by have := HCI.out; omega
              have e1 : numR ⟨bs, 0⟩ = (acc + c.toNat % 128 * 128 ^ k, ⟨r, 0⟩) := by simp only [numR, HD.out, dec, if_neg HB.out, if_pos hlt', if_true]
              rw [e1]
              exact RetR.mk (int_eq HST.out) h1 (HKP.out.trans hk1)
          · rcases hcase with ⟨t1, t2, t3, t4⟩ | ⟨t1, t2, t4⟩ | ⟨t1, t2, t4, t5⟩
            · exfalso; omega
            rotate_left
            · exfalso; have : ci = 0 := by simpa using t4
              omega
            all_goals
              go_wp2_with (go_at_call 31; refine her.mono ?_; rintro e w' ⟨rfl, rfl⟩)
              refine hone.mono ?_
              rintro e w1 ⟨rfl, h1, hk1⟩
              have her1 := err_any w1 p _ h1
              go_wp2_with (first | (go_at_call 31; refine her1.mono ?_; rintro e w' ⟨rfl, rfl⟩))
              go_roundw
              case rel =>
                have hk9 : k ≤ 9 := by have := HB.out; omega
                have hlt' : ¬ c.toNat < 128 := by have := HCI.out; omega
                refine ⟨k + 1, acc + c.toNat % 128 * 128 ^ k, sv + 7, _, r, rfl, by go_num, by have := HSV.out; omega, by omega, HST.out, ?_, ?_, h1, HKP.out.trans hk1⟩
                · have h1 := HAC.out
                  have h2 : c.toNat % 128 * 128 ^ k ≤ 127 * 128 ^ k := Nat.mul_le_mul_right _ (by omega)
                  rw [Nat.pow_succ]
                  omega
                · rw [HD.out]; simp only [dec, if_neg HB.out, if_neg hlt']
              case measure => simp [intOf]; omega
end

end Go.Proofs.YtheipmallojdkaaGreatDoor

namespace Go.Proofs.YtheipmallojdkaaGreatDoor
open Go.RowKit

section
variable (w : World) (p : Nat) (s : RS) (h : RdAt w p s)
include h

theorem count_any (m : Nat) (hm : m ≤ 4611686018427387904) : Calls Tryz.prog 34 #[.pointer (some ⟨p, 0, none⟩), .int .i64 m] w (RetR (.int .i64 (countR m s).1) p (countR m s).2 w) := by
  have hn := rnum_any w p s h
  have hlt := numR_lt s
  have hfl := fun W hW => fail_any W p (numR s).2 hW 15 (by decide)
  unfold countR
  obtain ⟨mi, hmi⟩ : ∃ mi : Int, mi = (m : Int) := ⟨_, rfl⟩
  have hm0 : 0 ≤ mi := by omega
  have hm1 : mi ≤ 4611686018427387904 := by omega
  rw [← hmi]
  obtain ⟨x, hx⟩ : ∃ x : Int, x = ((numR s).1 : Int) := ⟨_, rfl⟩
  have hx0 : 0 ≤ x := by omega
  have hx1 : x ≤ 18446744073709551615 := by omega
  rw [← hx] at hn
  by_cases hc : m < (numR s).1
  · rw [if_pos hc]
    have hc' : mi < x := by omega
    clear hc hm hmi hx hlt h
    go_enter Tryz.func34, Tryz.ntmps34
    go_wp2_with fail
    refine hn.mono ?_
    rintro e w1 ⟨rfl, h1, hk1⟩
    have hf1 := hfl w1 h1
    go_wp2_with fail
    refine hf1.mono ?_
    rintro e w2 ⟨rfl, h2, hk2⟩
    go_wp2_with fail
    go_ret
    exact RetR.mk rfl h2 (hk1.trans hk2)
  · rw [if_neg hc, ← hx]
    have hc' : x ≤ mi := by omega
    clear hc hm hmi hx hlt hfl h hx1
    go_enter Tryz.func34, Tryz.ntmps34
    go_wp2_with fail
    refine hn.mono ?_
    rintro e w1 ⟨rfl, h1, hk1⟩
    go_wp2_with fail
    go_ret
    exact RetR.mk rfl h1 hk1

theorem left_any : Calls Tryz.prog 37 #[.pointer (some ⟨p, 0, none⟩)] w (Ret (.int .i64 s.b.length) w) := by
  have her := err_any w p s h
  obtain ⟨v, hp, hne, ⟨a, cap, rfl, hl, hm, hx⟩, hok⟩ := h
  have c0 := blk_cell hp 0 rfl
  clear hp hx
  cases h0 : (s.e == 0)
  · have : s.b = [] := hok (by simpa using h0)
    rw [this]
    clear hok hl hm this
    go_enter Tryz.func37, Tryz.ntmps37
    go_wp2_with (go_at_call 31; refine her.mono ?_; rintro e w' ⟨rfl, rfl⟩)
    go_ret
    exact Ret.mk rfl
  · clear hok hl hm
    go_enter Tryz.func37, Tryz.ntmps37
    go_wp2_with (go_at_call 31; refine her.mono ?_; rintro e w' ⟨rfl, rfl⟩)
    go_ret
    exact Ret.mk rfl

theorem end_any : Calls Tryz.prog 13 #[.pointer (some ⟨p, 0, none⟩)] w (Ret (.int .i64 (endR s)) w) := by
  have her := err_any w p s h
  have hle := left_any w p s h
  have hok : s.ok := by obtain ⟨v, _, _, _, h⟩ := h; exact h
  obtain ⟨n, hn⟩ : ∃ n : Int, n = (s.b.length : Int) := ⟨_, rfl⟩
  rw [← hn] at hle
  have hn0 : 0 ≤ n := by omega
  by_cases hz : 0 < n
  · have e1 : endR s = 15 := by
      unfold endR
      by_cases h0 : s.e = 0
      · rw [if_pos h0, if_neg (by omega)]
      · have := hok h0; rw [this] at hn; simp at hn; omega
    rw [e1]
    clear e1 hn hok h
    go_enter Tryz.func13, Tryz.ntmps13
    go_wp2_with (first | (go_at_call 31; refine her.mono ?_; rintro e w' ⟨rfl, rfl⟩) | (go_at_call 37; refine hle.mono ?_; rintro e w' ⟨rfl, rfl⟩))
    go_ret
    exact Ret.mk rfl
  · have e1 : endR s = s.e := by
      unfold endR
      by_cases h0 : s.e = 0
      · rw [if_pos h0, if_pos (by omega), h0]
      · rw [if_neg h0]
    rw [e1]
    clear e1 hn hok h
    go_enter Tryz.func13, Tryz.ntmps13
    go_wp2_with (first | (go_at_call 31; refine her.mono ?_; rintro e w' ⟨rfl, rfl⟩) | (go_at_call 37; refine hle.mono ?_; rintro e w' ⟨rfl, rfl⟩))
    go_ret
    exact Ret.mk rfl

theorem rint_any : Calls Tryz.prog 9 #[.pointer (some ⟨p, 0, none⟩)] w (RetR (.int .i64 (intR s).1) p (intR s).2 w) := by
  have hn := rnum_any w p s h
  have hlt := numR_lt s
  unfold intR
  obtain ⟨x, hx⟩ : ∃ x : Int, x = ((numR s).1 : Int) := ⟨_, rfl⟩
  have hx0 : 0 ≤ x := by omega
  have hx1 : x ≤ 18446744073709551615 := by omega
  rw [← hx] at hn
  clear h
  have HX := Lib.hid hx
  have HL := Lib.hid hlt
  clear hx hlt
  go_enter Tryz.func9, Tryz.ntmps9
  go_wp2_with fail
  refine hn.mono ?_
  rintro e w1 ⟨rfl, h1, hk1⟩
  go_wp2_with fail
  go_ret
  refine RetR.mk (int_eq ?_) h1 hk1
  rw [HX.out]
  exact zag_bits _ HL.out

set_option maxRecDepth 100000 in
set_option maxHeartbeats 1000000 in
theorem rtext_any (m : Nat) (hm : m ≤ 4611686018427387904) : Calls Tryz.prog 56 #[.pointer (some ⟨p, 0, none⟩), .int .i64 m] w (RetR (.string ⟨(textR m s).1.toArray⟩) p (textR m s).2 w) := by
  have hn := count_any w p s h m hm
  have hcle : (countR m s).1 ≤ m := by unfold countR; split <;> omega
  have her := fun W S hW => err_any W p S hW
  have hfl := fun W hW => fail_any W p (countR m s).2 hW 4 (by decide)
  unfold textR
  generalize (countR m s).1 = k at *
  generalize (countR m s).2 = t at *
  obtain ⟨ki, hki⟩ : ∃ ki : Int, ki = (k : Int) := ⟨_, rfl⟩
  have hk0 : 0 ≤ ki := by omega
  have hk1 : ki ≤ 4611686018427387904 := by omega
  rw [← hki] at hn
  have HKI := Lib.hid hki
  have HM := Lib.hid hm
  have HCL := Lib.hid hcle
  clear hki hm hcle h
  cases h0 : (t.e == 0)
  · rw [if_neg (by simpa using h0)]
    go_enter Tryz.func56, Tryz.ntmps56
    go_wp2_with fail
    refine hn.mono ?_
    rintro e w1 ⟨rfl, h1, hkk⟩
    have her1 := her w1 _ h1
    go_wp2_with (go_at_call 31; refine her1.mono ?_; rintro e w' ⟨rfl, rfl⟩)
    go_ret
    exact RetR.mk rfl h1 hkk
  · rw [if_pos (by simpa using h0)]
    by_cases hs : t.b.length < k
    · rw [if_pos hs]
      have efl : t.fail 4 = ⟨[], 4⟩ := by unfold RS.fail; rw [if_pos (by simpa using h0)]
      rw [efl] at hfl
      obtain ⟨ln, hln⟩ : ∃ ln : Int, ln = (t.b.length : Int) := ⟨_, rfl⟩
      have hlt : ln < ki := by have := HKI.out; omega
      have HLN := Lib.hid hln
      have HS := Lib.hid hs
      clear hln hs efl
      go_enter Tryz.func56, Tryz.ntmps56
      go_wp2_with fail
      refine hn.mono ?_
      rintro e w1 ⟨rfl, h1, hkk⟩
      have her1 := her w1 _ h1
      have hf1 := hfl w1 h1
      obtain ⟨v, hp, hne, ⟨a, cap, rfl, hl, hmm, hx⟩, hok⟩ := h1
      have c0 := blk_cell hp 0 rfl
      have hin : ∀ c, (Builtin.len_ #[22] c #[.slice a t.b.length cap]).run Tryz.prog w1 = .ok (.int .i64 ln) w1 := by
        intro c
        rw [HLN.out]
        rfl
      clear hp hne hl hmm hx hok
      go_wp2_with (first | (go_at_call 31; refine her1.mono ?_; rintro e w' ⟨rfl, rfl⟩))
      refine hf1.mono ?_
      rintro e w2 ⟨rfl, h2, hk2⟩
      have her2 := her w2 _ h2
      clear c0 hin hf1 her1
      go_wp2_with (first | (go_at_call 31; refine her2.mono ?_; rintro e w' ⟨rfl, rfl⟩))
      go_ret
      exact RetR.mk rfl h2 (hkk.trans hk2)
    · rw [if_neg hs]
      obtain ⟨tb, te⟩ := t
      obtain rfl : te = 0 := by simpa using h0
      simp only [] at *
      clear h0
      obtain rfl : ki = (k : Int) := HKI.out
      have hs' : k ≤ tb.length := by omega
      clear hs hk0 hk1
      have hkm : k ≤ 4611686018427387904 := by have := HM.out; have := HCL.out; omega
      go_enter Tryz.func56, Tryz.ntmps56
      go_wp2_with fail
      refine hn.mono ?_
      rintro e w1 ⟨rfl, h1, hkk⟩
      have her1 := her w1 _ h1
      obtain ⟨v, hp, hne, hsl, hok⟩ := h1
      obtain ⟨a, cap, rfl, hlc, hcm, hx⟩ := id hsl
      have c0 := blk_cell hp 0 rfl
      have f0 := blk_free hp 0
      unfold maxLen at hcm
      change tb.length ≤ cap at hlc
      clear hok
      cases a with
      | none =>
        obtain ⟨hb0, hln, rfl⟩ := hsl.none_nil
        change tb = [] at hb0
        change tb.length = 0 at hln
        have hk0 : k = 0 := by omega
        subst hk0
        have hst := sl_string (hsl.take 0 hs') Tryz.underlying22
        have HP := Lib.hid hp
        have HB0 := Lib.hid hb0
        clear hsl hp hne hx hb0
        rw [hln] at c0
        have HLN := Lib.hid hln
        clear hln hlc hs'
        go_wp2_with (first | (go_at_call 31; refine her1.mono ?_; rintro e w' ⟨rfl, rfl⟩))
        go_ret
        refine RetR.mk rfl ?_ (hkk.setCell (.inl rfl) _)
        refine ⟨.slice none 0 0, blk_set HP.out 0 _, by simp [Value.ownBlock], ?_, fun h => absurd rfl h⟩
        rw [List.drop_zero, HB0.out]
        exact Sl.nil _ _
      | some x =>
        obtain ⟨b, o, rfl, hb, _, _⟩ := hsl.some_row
        have hst := sl_string (hsl.take k hs') Tryz.underlying22
        have HSL := Lib.hid hsl
        have HP := Lib.hid hp
        have HNE := Lib.hid (show b < p from hne b (by simp [Value.ownBlock]))
        clear hsl hp hne hx
        by_cases hck : cap = k
        · subst hck
          have HE := Lib.hid (show tb.drop cap = [] from List.drop_eq_nil_of_le (by omega))
          go_wp2_with (first | (go_at_call 31; refine her1.mono ?_; rintro e w' ⟨rfl, rfl⟩))
          go_ret
          refine RetR.mk rfl ?_ (hkk.setCell (.inl rfl) _)
          refine ⟨_, blk_set HP.out 0 _, fun k hk => by simp [Value.ownBlock] at hk; have := HNE.out; omega, ?_, fun h => absurd rfl h⟩
          rw [HE.out]
          exact (Sl.empty hb).setCell (by simp only [Value.ownBlock, ne_eq, Option.some.injEq]; have := HNE.out; omega) _
        · go_wp2_with (first | (go_at_call 31; refine her1.mono ?_; rintro e w' ⟨rfl, rfl⟩))
          go_ret
          refine RetR.mk rfl ?_ (hkk.setCell (.inl rfl) _)
          refine ⟨_, blk_set HP.out 0 _, fun k hk => by simp [Value.ownBlock] at hk; have := HNE.out; omega, ?_, fun h => absurd rfl h⟩
          exact (HSL.out.drop k hs').setCell (by simp only [Value.ownBlock, ne_eq, Option.some.injEq]; have := HNE.out; omega) _
end

end Go.Proofs.YtheipmallojdkaaGreatDoor

namespace Go.Proofs.YtheipmallojdkaaGreatDoor
open Go.RowKit

theorem read_any (w : World) (ad : Option Addr) (n cp : Nat) (l : List UInt8) (hu : Sl u8v w (.slice ad n cp) l) (hl : l.length ≤ 70368744177664) :
    Calls Tryz.prog 8 #[.slice ad n cp] w fun e w' => ∃ p, e = .returned (.pointer (some ⟨p, 0, none⟩)) ∧ w.heap.size ≤ p ∧ RdAt w' p ⟨l, 0⟩ ∧ Below w.heap.size w w' := by
  have hcl := clone_any w ad n cp l hu hl
  clear hu hl
  go_enter Tryz.func8, Tryz.ntmps8
  go_wp2_with fail
  refine hcl.mono ?_
  rintro e w1 ⟨u, rfl, hb, hs, hown, hr⟩
  obtain ⟨ad', cp', rfl, _⟩ := id hs
  have HS := Lib.hid hs
  clear hs hown hcl
  go_wp2_with fail
  go_ret
  exact ⟨w1.heap.size, rfl, hb.size, ⟨_, heap_new _ _, fun k hk => HS.out.row_lt k hk, HS.out.alloc _, fun h => absurd rfl h⟩, hb.alloc hb.size _⟩

end Go.Proofs.YtheipmallojdkaaGreatDoor

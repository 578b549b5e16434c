/- Package octet: the Reader's counts, texts and signed numbers, and its end. -/
import Derived.Test.YtbfhgljmopgejaaGreatOctN
import Derived.Test.YtbfhgljmopgejaaGreatOctU
namespace Go.Proofs.YtbfhgljmopgejaaGreat
open Go.RowKit

section
variable (w : World) (p : Nat) (s : RS) (h : RdAt w p s)
include h

theorem count_any (m : Nat) (hm : m ≤ 4611686018427387904) : Calls Tryz.prog 80 #[.pointer (some ⟨p, 0, none⟩), .int .i64 m] w (RetR (.int .i64 (countR m s).1) p (countR m s).2 w) := by
  have hn := rnum_any w p s h
  have hlt := numR_lt s
  have hfl := fun W hW => fail_any W p (numR s).2 hW 15 (by decide)
  unfold countR
  obtain ⟨mi, hmi⟩ : ∃ mi : Int, mi = (m : Int) := ⟨_, rfl⟩
  have hm0 : 0 ≤ mi := by omega
  have hm1 : mi ≤ 4611686018427387904 := by omega
  rw [← hmi]
  obtain ⟨x, hx⟩ : ∃ x : Int, x = ((numR s).1 : Int) := ⟨_, rfl⟩
  have hx0 : 0 ≤ x := by omega
  have hx1 : x ≤ 18446744073709551615 := by omega
  rw [← hx] at hn
  by_cases hc : m < (numR s).1
  · rw [if_pos hc]
    have hc' : mi < x := by omega
    clear hc hm hmi hx hlt h
    go_enter Tryz.func80, Tryz.ntmps80
    go_wp2_with fail
    refine hn.mono ?_
    rintro e w1 ⟨rfl, h1, hk1⟩
    have hf1 := hfl w1 h1
    go_wp2_with fail
    refine hf1.mono ?_
    rintro e w2 ⟨rfl, h2, hk2⟩
    go_wp2_with fail
    go_ret
    exact RetR.mk rfl h2 (hk1.trans hk2)
  · rw [if_neg hc, ← hx]
    have hc' : x ≤ mi := by omega
    clear hc hm hmi hx hlt hfl h hx1
    go_enter Tryz.func80, Tryz.ntmps80
    go_wp2_with fail
    refine hn.mono ?_
    rintro e w1 ⟨rfl, h1, hk1⟩
    go_wp2_with fail
    go_ret
    exact RetR.mk rfl h1 hk1

theorem left_any : Calls Tryz.prog 84 #[.pointer (some ⟨p, 0, none⟩)] w (Ret (.int .i64 s.b.length) w) := by
  have her := err_any w p s h
  obtain ⟨v, hp, hne, ⟨a, cap, rfl, hl, hm, hx⟩, hok⟩ := h
  have c0 := blk_cell hp 0 rfl
  clear hp hx
  cases h0 : (s.e == 0)
  · have : s.b = [] := hok (by simpa using h0)
    rw [this]
    clear hok hl hm this
    go_enter Tryz.func84, Tryz.ntmps84
    go_wp2_with (go_at_call 81; refine her.mono ?_; rintro e w' ⟨rfl, rfl⟩)
    go_ret
    exact Ret.mk rfl
  · clear hok hl hm
    go_enter Tryz.func84, Tryz.ntmps84
    go_wp2_with (go_at_call 81; refine her.mono ?_; rintro e w' ⟨rfl, rfl⟩)
    go_ret
    exact Ret.mk rfl

theorem end_any : Calls Tryz.prog 72 #[.pointer (some ⟨p, 0, none⟩)] w (Ret (.int .i64 (endR s)) w) := by
  have her := err_any w p s h
  have hle := left_any w p s h
  have hok : s.ok := by obtain ⟨v, _, _, _, h⟩ := h; exact h
  obtain ⟨n, hn⟩ : ∃ n : Int, n = (s.b.length : Int) := ⟨_, rfl⟩
  rw [← hn] at hle
  have hn0 : 0 ≤ n := by omega
  by_cases hz : 0 < n
  · have e1 : endR s = 15 := by
      unfold endR
      by_cases h0 : s.e = 0
      · rw [if_pos h0, if_neg (by omega)]
      · have := hok h0; rw [this] at hn; simp at hn; omega
    rw [e1]
    clear e1 hn hok h
    go_enter Tryz.func72, Tryz.ntmps72
    go_wp2_with (first | (go_at_call 81; refine her.mono ?_; rintro e w' ⟨rfl, rfl⟩) | (go_at_call 84; refine hle.mono ?_; rintro e w' ⟨rfl, rfl⟩))
    go_ret
    exact Ret.mk rfl
  · have e1 : endR s = s.e := by
      unfold endR
      by_cases h0 : s.e = 0
      · rw [if_pos h0, if_pos (by omega), h0]
      · rw [if_neg h0]
    rw [e1]
    clear e1 hn hok h
    go_enter Tryz.func72, Tryz.ntmps72
    go_wp2_with (first | (go_at_call 81; refine her.mono ?_; rintro e w' ⟨rfl, rfl⟩) | (go_at_call 84; refine hle.mono ?_; rintro e w' ⟨rfl, rfl⟩))
    go_ret
    exact Ret.mk rfl

theorem rint_any : Calls Tryz.prog 113 #[.pointer (some ⟨p, 0, none⟩)] w (RetR (.int .i64 (intR s).1) p (intR s).2 w) := by
  have hn := rnum_any w p s h
  have hlt := numR_lt s
  unfold intR
  obtain ⟨x, hx⟩ : ∃ x : Int, x = ((numR s).1 : Int) := ⟨_, rfl⟩
  have hx0 : 0 ≤ x := by omega
  have hx1 : x ≤ 18446744073709551615 := by omega
  rw [← hx] at hn
  clear h
  have HX := Lib.hid hx
  have HL := Lib.hid hlt
  clear hx hlt
  go_enter Tryz.func113, Tryz.ntmps113
  go_wp2_with fail
  refine hn.mono ?_
  rintro e w1 ⟨rfl, h1, hk1⟩
  go_wp2_with fail
  go_ret
  refine RetR.mk (int_eq ?_) h1 hk1
  rw [HX.out]
  exact zag_bits _ HL.out

set_option maxRecDepth 100000 in
set_option maxHeartbeats 1000000 in
theorem rtext_any (m : Nat) (hm : m ≤ 4611686018427387904) : Calls Tryz.prog 118 #[.pointer (some ⟨p, 0, none⟩), .int .i64 m] w (RetR (.string ⟨(textR m s).1.toArray⟩) p (textR m s).2 w) := by
  have hn := count_any w p s h m hm
  have hcle : (countR m s).1 ≤ m := by unfold countR; split <;> omega
  have her := fun W S hW => err_any W p S hW
  have hfl := fun W hW => fail_any W p (countR m s).2 hW 4 (by decide)
  unfold textR
  generalize (countR m s).1 = k at *
  generalize (countR m s).2 = t at *
  obtain ⟨ki, hki⟩ : ∃ ki : Int, ki = (k : Int) := ⟨_, rfl⟩
  have hk0 : 0 ≤ ki := by omega
  have hk1 : ki ≤ 4611686018427387904 := by omega
  rw [← hki] at hn
  have HKI := Lib.hid hki
  have HM := Lib.hid hm
  have HCL := Lib.hid hcle
  clear hki hm hcle h
  cases h0 : (t.e == 0)
  · rw [if_neg (by simpa using h0)]
    go_enter Tryz.func118, Tryz.ntmps118
    go_wp2_with fail
    refine hn.mono ?_
    rintro e w1 ⟨rfl, h1, hkk⟩
    have her1 := her w1 _ h1
    go_wp2_with (go_at_call 81; refine her1.mono ?_; rintro e w' ⟨rfl, rfl⟩)
    go_ret
    exact RetR.mk rfl h1 hkk
  · rw [if_pos (by simpa using h0)]
    by_cases hs : t.b.length < k
    · rw [if_pos hs]
      have efl : t.fail 4 = ⟨[], 4⟩ := by unfold RS.fail; rw [if_pos (by simpa using h0)]
      rw [efl] at hfl
      obtain ⟨ln, hln⟩ : ∃ ln : Int, ln = (t.b.length : Int) := ⟨_, rfl⟩
      have hlt : ln < ki := by have := HKI.out; omega
      have HLN := Lib.hid hln
      have HS := Lib.hid hs
      clear hln hs efl
      go_enter Tryz.func118, Tryz.ntmps118
      go_wp2_with fail
      refine hn.mono ?_
      rintro e w1 ⟨rfl, h1, hkk⟩
      have her1 := her w1 _ h1
      have hf1 := hfl w1 h1
      obtain ⟨v, hp, hne, ⟨a, cap, rfl, hl, hmm, hx⟩, hok⟩ := h1
      have c0 := blk_cell hp 0 rfl
      have hin : ∀ c, (Builtin.len_ #[33] c #[.slice a t.b.length cap]).run Tryz.prog w1 = .ok (.int .i64 ln) w1 := by
        intro c
        rw [HLN.out]
        rfl
      clear hp hne hl hmm hx hok
      go_wp2_with (first | (go_at_call 81; refine her1.mono ?_; rintro e w' ⟨rfl, rfl⟩))
      refine hf1.mono ?_
      rintro e w2 ⟨rfl, h2, hk2⟩
      have her2 := her w2 _ h2
      clear c0 hin hf1 her1
      go_wp2_with (first | (go_at_call 81; refine her2.mono ?_; rintro e w' ⟨rfl, rfl⟩))
      go_ret
      exact RetR.mk rfl h2 (hkk.trans hk2)
    · rw [if_neg hs]
      obtain ⟨tb, te⟩ := t
      obtain rfl : te = 0 := by simpa using h0
      simp only [] at *
      clear h0
      obtain rfl : ki = (k : Int) := HKI.out
      have hs' : k ≤ tb.length := by omega
      clear hs hk0 hk1
      have hkm : k ≤ 4611686018427387904 := by have := HM.out; have := HCL.out; omega
      go_enter Tryz.func118, Tryz.ntmps118
      go_wp2_with fail
      refine hn.mono ?_
      rintro e w1 ⟨rfl, h1, hkk⟩
      have her1 := her w1 _ h1
      obtain ⟨v, hp, hne, hsl, hok⟩ := h1
      obtain ⟨a, cap, rfl, hlc, hcm, hx⟩ := id hsl
      have c0 := blk_cell hp 0 rfl
      have f0 := blk_free hp 0
      unfold maxLen at hcm
      change tb.length ≤ cap at hlc
      clear hok
      cases a with
      | none =>
        obtain ⟨hb0, hln, rfl⟩ := hsl.none_nil
        change tb = [] at hb0
        change tb.length = 0 at hln
        have hk0 : k = 0 := by omega
        subst hk0
        have hst := sl_string (hsl.take 0 hs') Tryz.underlying33
        have HP := Lib.hid hp
        have HB0 := Lib.hid hb0
        clear hsl hp hne hx hb0
        rw [hln] at c0
        have HLN := Lib.hid hln
        clear hln hlc hs'
        go_wp2_with (first | (go_at_call 81; refine her1.mono ?_; rintro e w' ⟨rfl, rfl⟩))
        go_ret
        refine RetR.mk rfl ?_ (hkk.setCell (.inl rfl) _)
        refine ⟨.slice none 0 0, blk_set HP.out 0 _, by simp [Value.ownBlock], ?_, fun h => absurd rfl h⟩
        rw [List.drop_zero, HB0.out]
        exact Sl.nil _ _
      | some x =>
        obtain ⟨b, o, rfl, hb, _, _⟩ := hsl.some_row
        have hst := sl_string (hsl.take k hs') Tryz.underlying33
        have HSL := Lib.hid hsl
        have HP := Lib.hid hp
        have HNE := Lib.hid (show b < p from hne b (by simp [Value.ownBlock]))
        clear hsl hp hne hx
        by_cases hck : cap = k
        · subst hck
          have HE := Lib.hid (show tb.drop cap = [] from List.drop_eq_nil_of_le (by omega))
          go_wp2_with (first | (go_at_call 81; refine her1.mono ?_; rintro e w' ⟨rfl, rfl⟩))
          go_ret
          refine RetR.mk rfl ?_ (hkk.setCell (.inl rfl) _)
          refine ⟨_, blk_set HP.out 0 _, fun k hk => by simp [Value.ownBlock] at hk; have := HNE.out; omega, ?_, fun h => absurd rfl h⟩
          rw [HE.out]
          exact (Sl.empty hb).setCell (by simp only [Value.ownBlock, ne_eq, Option.some.injEq]; have := HNE.out; omega) _
        · go_wp2_with (first | (go_at_call 81; refine her1.mono ?_; rintro e w' ⟨rfl, rfl⟩))
          go_ret
          refine RetR.mk rfl ?_ (hkk.setCell (.inl rfl) _)
          refine ⟨_, blk_set HP.out 0 _, fun k hk => by simp [Value.ownBlock] at hk; have := HNE.out; omega, ?_, fun h => absurd rfl h⟩
          exact (HSL.out.drop k hs').setCell (by simp only [Value.ownBlock, ne_eq, Option.some.injEq]; have := HNE.out; omega) _
end

end Go.Proofs.YtbfhgljmopgejaaGreat

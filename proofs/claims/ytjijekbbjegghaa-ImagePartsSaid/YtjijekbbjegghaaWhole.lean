/- Package image: Whole, parts put together; the library's Concat and Grow under it. -/
import Derived.Test.YtjijekbbjegghaaParts
namespace Go.Proofs.Ytjijekbbjegghaa
open Go.RowKit Go.ChangeMaps Go.Sort

theorem parts_bad (w : World) (a : Option Addr) (L cap : Nat) (n : Int) (hn : n < 1) : Calls Try.prog 5 #[.slice a L cap, .int .i64 n] w (Ret (.tuple #[.slice none 0 0, .int .i64 1]) w) := by
  go_enter Try.func5, Try.ntmps5
  go_wp2
  go_ret2
  exact Ret.mk rfl

set_option maxRecDepth 100000 in
theorem grow_any (w : World) (n : Nat) (hn : n ≤ 1000000) : Calls Try.prog 29 #[.slice none 0 0, .int .i64 n] w (fun e w' => ∃ a c, e = .returned (.slice a 0 c) ∧ Below w.heap.size w w' ∧ w'.ownsRow w.heap.size 5 1 (.slice a 0 c) 0 []) := by
  by_cases h0 : n = 0
  · subst h0
    go_enter Try.func29, Try.ntmps29
    go_wp2
    go_ret
    exact ⟨_, _, rfl, Below.refl _ _, World.ownsRow_nil _ _ _ _⟩
  · have h1 : (0 : Int) < (n : Int) := by omega
    have h2 : 0 < n := by omega
    have hby : (Try.t5).bytes = 1 := rfl
    have hnc : Builtin.nextslicecap n 0 = n := by
      unfold Builtin.nextslicecap
      simp
      omega
    have hg1 := grownCap_ge w n 0 5
    have hg2 := grownCap_le_maxLen w n 0 5 (by unfold maxLen; omega)
    unfold grownCap at hg1 hg2
    have HG := Lib.hid (And.intro hg1 hg2)
    clear hg1 hg2
    go_enter Try.func29, Try.ntmps29
    go_wp2
    go_ret
    have h3 := HG.out.1
    have h4 := HG.out.2
    generalize (Question.appendCap n 0 5).cut (w.tape w.drawn (Question.appendCap n 0 5)) = C at *
    have hz : (Builtin.zeroCells #[Value.int .u8 0] n ++ Builtin.zeroCells #[Value.int .u8 0] (C - n)).size = C := by
      simp [Builtin.zeroCells]
      omega
    generalize (Builtin.zeroCells #[Value.int .u8 0] n ++ Builtin.zeroCells #[Value.int .u8 0] (C - n)) = cur at *
    refine ⟨_, _, rfl, ?_, rfl, .inr ⟨w.heap.size, C, cur, rfl, Nat.le_refl _, heap_new w _, by omega, h4, by omega, rfl⟩⟩
    have hb := (Below.refl w.heap.size w).alloc (Nat.le_refl _) (.cells cur 5)
    exact ⟨hb.os, hb.tape, hb.output, hb.size, hb.block⟩

theorem flat_next {bss : List (List UInt8)} {k : Nat} {l : List UInt8} (h : bss[k]? = some l) : (bss.take (k + 1)).flatten = (bss.take k).flatten ++ l := by
  rw [List.take_add_one, h, List.flatten_append]; simp
theorem flat_le (bss : List (List UInt8)) (k : Nat) : (bss.take k).flatten.length ≤ bss.flatten.length := by
  conv => rhs; rw [← List.take_append_drop k bss, List.flatten_append]
  rw [List.length_append]; omega

set_option maxRecDepth 100000 in
set_option maxHeartbeats 4000000 in
theorem concat_any (w : World) (v : Value) (vs : List Value) (bss : List (List UInt8)) (hs : Sl idV w v vs) (hl : vs.length = bss.length) (hp : ∀ (j : Nat) (u : Value) (l : List UInt8), vs[j]? = some u → bss[j]? = some l → Sl u8v w u l) (ht : bss.flatten.length ≤ 1000000) :
    Calls Try.prog 12 #[v] w (fun e w' => ∃ u, e = .returned u ∧ Below w.heap.size w w' ∧ Sl u8v w' u bss.flatten) := by
  have HG := Lib.hid grow_any
  have HP := Lib.hid hp
  have HT := Lib.hid ht
  have HLL := Lib.hid hl
  obtain ⟨a, cap, rfl, h1, h2, h3⟩ := hs
  unfold maxLen at h2
  have HCAP := Lib.hid h1
  have hlm : vs.length ≤ 9223372036854775807 := by omega
  have each : ∀ k, k < vs.length → ∃ (b o : Nat) (ua : Option Addr) (uc : Nat) (l : List UInt8), a = some ⟨b, o, none⟩ ∧ b < w.heap.size ∧ w.cell? ⟨b, o + k, none⟩ = some (.slice ua l.length uc) ∧ bss[k]? = some l ∧ Sl u8v w (.slice ua l.length uc) l := fun k hk => by
    rcases h3 with ⟨_, h0⟩ | ⟨b, o, e, hb, hc⟩
    · omega
    · have g1 : vs[k]? = some vs[k] := List.getElem?_eq_getElem hk
      have g2 : bss[k]? = some (bss[k]'(by omega)) := List.getElem?_eq_getElem _
      have g3 := HP.out k _ _ g1 g2
      obtain ⟨ua, uc, g4, _⟩ := id g3
      exact ⟨b, o, ua, uc, _, e, hb, by rw [hc k _ g1]; show some vs[k] = _; rw [g4], g2, by rw [← g4]; exact g3⟩
  have HE := Lib.hid each
  clear each h3 h1 hp ht hl
  obtain ⟨F, hF⟩ : ∃ F : Nat → Nat, F = fun k => (bss.take k).flatten.length := ⟨_, rfl⟩
  have HF0 : Hid (F 0 = 0) := Lib.hid (by rw [hF]; rfl)
  have HF1 : Hid (∀ k l, bss[k]? = some l → F (k + 1) = F k + l.length) := Lib.hid fun k l h => by rw [hF]; simp only; rw [flat_next h, List.length_append]
  have HFL : Hid (∀ k, F k ≤ 1000000) := Lib.hid fun k => by rw [hF]; exact Nat.le_trans (flat_le bss k) HT.out
  have HFE : Hid (∀ k, F k = (bss.take k).flatten.length) := Lib.hid fun k => by rw [hF]
  clear hF
  go_enter Try.func12, Try.ntmps12
  go_wp2
  go_loop [3, 11] (fun s3 s11 => ∃ k : Nat, k ≤ vs.length ∧ s11 = .int .i64 k ∧ s3 = .int .i64 (F k : Nat)) (fun _ s11 => vs.length - (intOf s11).toNat)
  case atStart => exact ⟨0, by omega, rfl, by rw [HF0.out]; rfl⟩
  case round =>
    obtain ⟨k, hk, rfl, rfl⟩ := hrel
    by_cases hlt : k < vs.length
    · obtain ⟨b, o, ua, uc, l, rfl, hb, hc, hbs, hsl⟩ := HE.out k hlt
      have HN := Lib.hid (HF1.out k l hbs)
      have hm : F k + l.length ≤ 1000000 := by rw [← HN.out]; exact HFL.out _
      clear hbs hsl
      go_wp2
      go_round
      case rel => exact ⟨k + 1, by omega, by go_num, by rw [HN.out]; go_num⟩
      case measure => simp [intOf] <;> omega
    · obtain rfl : k = vs.length := by omega
      have hg := HG.out w (F vs.length) (HFL.out _)
      go_wp2_with fail
      refine hg.mono ?_
      rintro e w1 ⟨ga, gc, rfl, hb1, hown1⟩
      have HB1 := Lib.hid hb1
      have HO1 : Hid (w1.ownsRow 0 5 1 (.slice ga 0 gc) 0 [] ∧ ∀ j, (Value.slice ga 0 gc).ownBlock = some j → w.heap.size ≤ j) := Lib.hid ⟨owns_mono hown1 (Nat.zero_le _), fun j hj => by
        rcases hown1.2 with ⟨e1, _⟩ | ⟨g, c, cur, e1, e2, _⟩
        · rw [e1] at hj; cases hj
        · rw [e1] at hj
          obtain rfl : g = j := by simpa [Value.ownBlock] using hj
          exact e2⟩
      clear hg hb1 hown1 hk hlt
      go_wp2_with fail
      go_loopw [6, 27] (fun s6 s27 wr => ∃ (k : Nat) (ra : Option Addr) (rc : Nat), k ≤ vs.length ∧ s27 = .int .i64 k ∧ s6 = .slice ra (F k) rc ∧ wr.ownsRow 0 5 1 (.slice ra (F k) rc) (F k) ((bss.take k).flatten.map u8v) ∧ (∀ j, (Value.slice ra (F k) rc).ownBlock = some j → w.heap.size ≤ j) ∧ Below w.heap.size w wr) (fun _ s27 _ => vs.length - (intOf s27).toNat)
      case atStart =>
        refine ⟨0, ga, gc, by omega, rfl, by rw [HF0.out], ?_, ?_, HB1.out⟩
        · rw [HF0.out]; simpa using HO1.out.1
        · rw [HF0.out]; exact HO1.out.2
      case round =>
        obtain ⟨k, ra, rc, hk, rfl, rfl, hown, hnew, hbw⟩ := hrel
        have HOW := Lib.hid hown
        have HNW := Lib.hid hnew
        have HBW := Lib.hid hbw
        clear hown hnew hbw
        by_cases hlt : k < vs.length
        · obtain ⟨b, o, ua, uc, l, rfl, hb, hc, hbs, hsl⟩ := HE.out k hlt
          have HN := Lib.hid (HF1.out k l hbs)
          have hm : F k + l.length ≤ 1000000 := by rw [← HN.out]; exact HFL.out _
          have HFN := Lib.hid (flat_next hbs)
          have hcell : wr.cell? ⟨b, o + k, none⟩ = some (.slice ua l.length uc) := (bcell HBW.out _ _ hb).trans hc
          have HSL := Lib.hid (hsl.below HBW.out hsl.row_lt)
          have HM0 := Lib.hid (show F k + l.length ≤ maxLen by unfold maxLen; omega)
          have HM1 := Lib.hid (show (F k + l.length) * 1 ≤ 140737488355328 by omega)
          obtain ⟨i0, hi, hz0, hz1, hz2⟩ := info_parts info_u8
          clear hbs hsl hc
          go_wp2_with (at_builtin; refine wpList_append_sl wr rfl _ _ _ rfl 5 i0 (.int .u8 0) 1 Try.underlying22 hi hz0 hz1 hz2 rfl (.slice ra (F k) rc) (F k) _ rfl HOW.out (.slice ua l.length uc) l rfl HSL.out u8v_one HM0.out HM1.out ?_; intro v' w2 hown2 hg2 hr2; have HO2 := Lib.hid hown2; have HG2 := Lib.hid hg2; have HR2 := Lib.hid hr2; clear hown2 hg2 hr2)
          have hsv := owns_sl (enc := u8v) (l := (bss.take (k + 1)).flatten) (w := w2) (e := 5) (v := v') (by
            have := HO2.out
            rw [← HFE.out, HN.out, HFN.out, List.map_append]; exact this)
          obtain ⟨ra2, rc2, hv2, _⟩ := hsv
          rw [← HFE.out] at hv2
          subst hv2
          go_roundw
          case rel =>
            refine ⟨k + 1, ra2, rc2, by omega, by go_num, rfl, ?_, ?_, ?_⟩
            · have := HO2.out
              rw [HN.out, HFN.out, List.map_append]
              rw [HN.out] at this
              exact this
            · intro j hj
              rcases HR2.out with e1 | ⟨j2, e1, e2, _⟩
              · exact HNW.out j (e1 ▸ hj)
              · rw [e1] at hj; cases hj; have := HBW.out.size; omega
            · have hk1 : Keeps (fun k => w.heap.size ≤ k) w w2 := (Keeps.of_below HBW.out).trans (grown_keeps HG2.out fun j hj => HNW.out j hj.symm)
              exact hk1.below (Nat.le_refl _) fun j hj => hj
          case measure => simp [intOf] <;> omega
        · have hke : bss.take k = bss := List.take_of_length_le (by have := HLL.out; omega)
          have HR : Hid (Sl u8v wr (.slice ra (F k) rc) bss.flatten) := Lib.hid (by
            have := owns_sl (enc := u8v) (l := bss.flatten) (w := wr) (e := 5) (v := .slice ra (F k) rc) (by
              have h := HOW.out
              rw [hke] at h
              have h2 : F k = bss.flatten.length := by rw [HFE.out, hke]
              rw [h2] at h ⊢
              exact h)
            exact this)
          clear hke
          go_wp2
          go_ret
          exact ⟨_, rfl, HBW.out, HR.out⟩

theorem whole_any (w : World) (v : Value) (vs : List Value) (bss : List (List UInt8)) (hs : Sl idV w v vs) (hl : vs.length = bss.length) (hp : ∀ (j : Nat) (u : Value) (l : List UInt8), vs[j]? = some u → bss[j]? = some l → Sl u8v w u l) (ht : bss.flatten.length ≤ 1000000) :
    Calls Try.prog 6 #[v] w (fun e w' => ∃ u, e = .returned u ∧ Below w.heap.size w w' ∧ Sl u8v w' u bss.flatten) := by
  have hc := concat_any w v vs bss hs hl hp ht
  obtain ⟨a, cap, rfl, _⟩ := hs
  clear hl hp ht
  go_enter Try.func6, Try.ntmps6
  go_wp2_with fail
  refine hc.mono ?_
  rintro e w1 ⟨u, rfl, hb, hu⟩
  go_wp2_with fail
  go_ret
  exact ⟨u, rfl, hb, hu⟩

end Go.Proofs.Ytjijekbbjegghaa

/- The reference for package spec: Check answers what the program's does. -/
import Derived.Test.YtldieadbkaphkaaGreatDoorSpecC
import Derived.Test.YtldieadbkaphkaaGreatDoorRefName
import Derived.Test.YtldieadbkaphkaaGreatDoorRefK
import Derived.Test.YtldieadbkaphkaaGreatDoorFew
namespace Go.Proofs.YtldieadbkaphkaaGreatDoor
open Go.RowKit Go.Maps Go.ChangeMaps

set_option maxRecDepth 100000 in
theorem refParse_bad (w : World) (s : Bs) (hs : s.length ≤ 200) (h : (parseF s).2 ≠ 0) :
    Calls Tryz.prog 10 #[.string ⟨s.toArray⟩] w (RetB (.tuple #[.slice none 0 0, .slice none 0 0, .int .i64 (parseF s).2]) w) := by
  by_cases h1 : 128 < s.length
  · have e : (parseF s).2 = 15 := by unfold parseF; rw [if_pos h1]
    rw [e]
    clear e h hs
    go_enter Tryz.func10, Tryz.ntmps10
    go_wp2
    exact bodyPost_ret (v := .tuple #[.slice none 0 0, .slice none 0 0, .int .i64 15]) (by simp [results, Tryz.results10, go_sem]) rfl (RetB.mk rfl (Below.refl _ _))
  by_cases h5 : (splitL 32 s).length = 5
  · refine (refParse_main w s (by omega) h5).mono ?_
    rintro en w' ⟨hb, ⟨_, rfl⟩ | ⟨h0, _⟩⟩
    · exact ⟨rfl, hb⟩
    · exact absurd h0 h
  · have e : (parseF s).2 = 2 := by unfold parseF; rw [if_neg h1, if_pos h5]
    rw [e]
    have hsp := refSplit_any w 32 s hs
    have h5b : (((splitL 32 s).length : Nat) : Int) ≠ 5 := by omega
    have h5c : ((((splitL 32 s).length : Nat) : Int) == 5) = false := by simpa using h5b
    clear e h h5b
    generalize splitL 32 s = L at *
    go_enter Tryz.func10, Tryz.ntmps10
    go_wp2_with fail
    refine hsp.mono ?_
    rintro en w1 ⟨tv, rfl, hsl, hb1, _⟩
    obtain ⟨a, cap, rfl, hc1, hc2, hx⟩ := hsl
    go_wp2_with fail
    exact bodyPost_ret (v := .tuple #[.slice none 0 0, .slice none 0 0, .int .i64 2]) (by simp [results, Tryz.results10, go_sem]) rfl (RetB.mk rfl hb1)

/-- One of the four spans. -/
def fourL (s : Sp) : List Int := [s.delay, s.base, s.cap, s.lease]
theorem four_ok {s : Sp} (h : ∀ z ∈ fourL s, spanB z = true) : spanB s.delay = true ∧ spanB s.base = true ∧ spanB s.cap = true ∧ spanB s.lease = true :=
  ⟨h _ (by simp [fourL]), h _ (by simp [fourL]), h _ (by simp [fourL]), h _ (by simp [fourL])⟩
theorem four_bad {s : Sp} {z : Int} (hz : z ∈ fourL s) (h : spanB z = false) : numbersB s = false := by
  unfold fourL at hz
  simp at hz
  unfold numbersB
  rcases hz with rfl | rfl | rfl | rfl <;> rw [h] <;> simp
theorem check_num {s : Sp} (h1 : spNamesB s = true) (h2 : numbersB s = false) : checkF s = 3 := by
  unfold checkF; rw [if_neg (by simp [h1]), if_pos h2]

set_option maxRecDepth 100000 in
set_option maxHeartbeats 8000000 in
theorem refCheck_any (w : World) (s : Sp) (a : Option Addr) (n cap : Nat) (h : SpAt w s a n cap) (hf : fewB s = true) : Calls Tryz.prog 9 #[s.v (.slice a n cap)] w (RetB (.int .i64 (checkF s)) w) := by
  unfold fewB at hf
  simp only [Bool.and_eq_true, decide_eq_true_eq, List.all_eq_true] at hf
  obtain ⟨⟨⟨⟨f1, f2⟩, f3⟩, f4⟩, f5⟩ := hf
  have HF1 := Lib.hid f1
  have hN1 := fun W => refName_any s.name W f2
  have hN2 := fun W => refName_any s.ten W f3
  have HROW := Lib.hid h.row
  have HPB : Hid ((parseF (bsOf s.cron)).2 ≠ 0 → ∀ W, Calls Tryz.prog 10 #[.string s.cron] W (RetB (.tuple #[.slice none 0 0, .slice none 0 0, .int .i64 (parseF (bsOf s.cron)).2]) W)) := Lib.hid fun hp W => by
    have := refParse_bad W (bsOf s.cron) (by rw [bs_len]; exact f5) hp
    rwa [bs_back] at this
  have HPO : Hid ((parseF (bsOf s.cron)).2 = 0 → ∀ W, Calls Tryz.prog 10 #[.string s.cron] W (fun e w' => ∃ v l, e = .returned (.tuple #[v, l, .int .i64 0]) ∧ Below W.heap.size W w')) := Lib.hid fun hp W => by
    have := refParse_ok W (bsOf s.cron) hp
    rw [bs_back] at this
    refine this.mono ?_
    rintro en w' ⟨v, l, rfl, _, hb⟩
    exact ⟨v, l, rfl, hb⟩
  have HCF : Hid ((cronF (bsOf s.cron)).2 = (parseF (bsOf s.cron)).2) := Lib.hid (by unfold cronF; split <;> rename_i h0 <;> simp [h0])
  obtain ⟨hl1, hl2⟩ := h.len
  subst hl1
  have HL2 := Lib.hid hl2
  obtain ⟨a', cap', he, hle, hcm, hx⟩ := HROW.out
  cases he
  have HLE := Lib.hid hle
  have HB0 : Hid (Below w.heap.size w (w.alloc (.cells #[.string s.name, .string s.ten, .int .i64 s.pri, .int .i64 s.delay, .slice a s.deps.length cap, .int .i64 s.base, .int .i64 s.cap, .int .i64 s.att, .int .i64 s.lease, .string s.cron, .int .i64 s.catch_] 24))) := Lib.hid ((Below.refl _ _).alloc (Nat.le_refl _) _)
  have HX0 := Lib.hid (heap_new w (.cells #[.string s.name, .string s.ten, .int .i64 s.pri, .int .i64 s.delay, .slice a s.deps.length cap, .int .i64 s.base, .int .i64 s.cap, .int .i64 s.att, .int .i64 s.lease, .string s.cron, .int .i64 s.catch_] 24))
  have hd20 : s.deps.length ≤ 20 := f4
  clear f1 f2 f3 f4 f5 hl2 hle hcm h
  unfold Sp.v Sp.cells
  go_enter Tryz.func9, Tryz.ntmps9
  cases hn1 : nameB s.name
  · rw [hn1] at hN1
    have HF : Hid (checkF s = 16) := Lib.hid (by unfold checkF; rw [if_pos (by simp [spNamesB, hn1])])
    clear hn1 hN2
    go_wp2_with (go_at_call 15; refine (hN1 _).mono ?_; rintro e w' ⟨rfl, rfl⟩)
    go_ret
    exact RetB.mk (by rw [HF.out]; rfl) HB0.out
  rw [hn1] at hN1
  cases hn2 : nameB s.ten
  · rw [hn2] at hN2
    have HF : Hid (checkF s = 16) := Lib.hid (by unfold checkF; rw [if_pos (by simp [spNamesB, hn2])])
    clear hn1 hn2
    go_wp2_with fail
    refine (hN1 _).mono ?_
    rintro e w' ⟨rfl, rfl⟩
    go_wp2_with fail
    refine (hN2 _).mono ?_
    rintro e w' ⟨rfl, rfl⟩
    go_wp2_with fail
    go_ret
    exact RetB.mk (by rw [HF.out]; rfl) HB0.out
  rw [hn2] at hN2
  have HNN : Hid (nameB s.name = true ∧ nameB s.ten = true) := Lib.hid ⟨hn1, hn2⟩
  clear hn1 hn2
  go_wp2_with fail
  refine (hN1 _).mono ?_
  rintro e w' ⟨rfl, rfl⟩
  go_wp2_with fail
  refine (hN2 _).mono ?_
  rintro e w' ⟨rfl, rfl⟩
  go_wp2_with fail
  clear hN1 hN2
  obtain ⟨W0, hW0⟩ : ∃ W0, W0 = w.alloc (.cells #[.string s.name, .string s.ten, .int .i64 s.pri, .int .i64 s.delay, .slice a s.deps.length cap, .int .i64 s.base, .int .i64 s.cap, .int .i64 s.att, .int .i64 s.lease, .string s.cron, .int .i64 s.catch_] 24) := ⟨_, rfl⟩
  rw [← hW0] at HB0 HX0 ⊢
  clear hW0
  have c3 : W0.cell? ⟨w.heap.size, 3, none⟩ = some (.int .i64 s.delay) := blk_cell HX0.out 3 rfl
  have c5 : W0.cell? ⟨w.heap.size, 5, none⟩ = some (.int .i64 s.base) := blk_cell HX0.out 5 rfl
  have c6 : W0.cell? ⟨w.heap.size, 6, none⟩ = some (.int .i64 s.cap) := blk_cell HX0.out 6 rfl
  have c8 : W0.cell? ⟨w.heap.size, 8, none⟩ = some (.int .i64 s.lease) := blk_cell HX0.out 8 rfl
  go_loop [24] (fun i => ∃ k : Nat, k ≤ s.deps.length ∧ i = .int .i64 k ∧ (s.deps.take k).all nameB = true) (fun i => s.deps.length - (intOf i).toNat)
  case atStart => exact ⟨0, by omega, rfl, by simp⟩
  case round =>
    obtain ⟨k, hk, rfl, hm⟩ := hrel
    have HM := Lib.hid hm
    clear hm
    by_cases hlt : k < s.deps.length
    · rcases hx with ⟨rfl, rfl⟩ | ⟨b, o, rfl, hb, hc⟩
      · have := HLE.out; omega
      · have hk0 : s.deps[k]? = some s.deps[k] := List.getElem?_eq_getElem hlt
        have hcell : W0.cell? ⟨b, o + k, none⟩ = some (.string s.deps[k]) := (bcell HB0.out _ _ hb).trans (hc k _ hk0)
        have HTK := Lib.hid (show s.deps.take (k + 1) = s.deps.take k ++ [s.deps[k]] by rw [List.take_succ_eq_append_getElem hlt])
        have hcy := refName_any s.deps[k] W0 (HF1.out _ (List.getElem_mem hlt))
        have HALL : Hid (nameB s.deps[k] = false → checkF s = 16) := Lib.hid fun hf => by
          have h1 : s.deps.all nameB = false := by rw [List.all_eq_false]; exact ⟨_, List.getElem_mem hlt, by simp [hf]⟩
          unfold checkF; rw [if_pos (by simp [spNamesB, h1])]
        generalize s.deps[k] = y at *
        clear hc hk0 c3 c5 c6 c8
        cases he : nameB y
        · rw [he] at hcy
          have HF := Lib.hid (HALL.out he)
          clear he HALL
          go_wp2_with (go_at_call 15; refine hcy.mono ?_; rintro e w' ⟨rfl, rfl⟩)
          go_ret
          exact RetB.mk (by rw [HF.out]; rfl) HB0.out
        · rw [he] at hcy
          have HE := Lib.hid he
          clear he HALL
          go_wp2_with (go_at_call 15; refine hcy.mono ?_; rintro e w' ⟨rfl, rfl⟩)
          go_round
          case rel => exact ⟨k + 1, by omega, by go_num, by rw [HTK.out, List.all_append, HM.out]; simp [HE.out]⟩
          case measure => simp [intOf]; omega
    · have HNA : Hid (spNamesB s = true) := Lib.hid (by
        have h1 := HM.out
        rw [List.take_of_length_le (by omega)] at h1
        unfold spNamesB
        rw [HNN.out.1, HNN.out.2, h1]; rfl)
      go_wp2_with fail
      obtain ⟨W1, hW1⟩ : ∃ W1, W1 = W0.alloc (.cells #[.int .i64 s.delay, .int .i64 s.base, .int .i64 s.cap, .int .i64 s.lease] 2) := ⟨_, rfl⟩
      rw [← hW1]
      have HX1 : Hid (W1.heap[W0.heap.size]? = some (.cells #[.int .i64 s.delay, .int .i64 s.base, .int .i64 s.cap, .int .i64 s.lease] 2)) := Lib.hid (by rw [hW1]; exact heap_new _ _)
      have HXS : Hid (W1.heap[w.heap.size]? = some (.cells #[.string s.name, .string s.ten, .int .i64 s.pri, .int .i64 s.delay, .slice a s.deps.length cap, .int .i64 s.base, .int .i64 s.cap, .int .i64 s.att, .int .i64 s.lease, .string s.cron, .int .i64 s.catch_] 24)) := Lib.hid (by rw [hW1]; exact aheap HX0.out _)
      have HB1 : Hid (Below w.heap.size w W1) := Lib.hid (by rw [hW1]; exact HB0.out.alloc HB0.out.size _)
      have HG0 : Hid (w.heap.size < W0.heap.size) := Lib.hid (heap_lt HX0.out)
      clear hW1 c3 c5 c6 c8 HM hk hlt HX0 HB0
      go_loop [42] (fun i => ∃ k : Nat, k ≤ 4 ∧ i = .int .i64 k ∧ ∀ z ∈ (fourL s).take k, spanB z = true) (fun i => 4 - (intOf i).toNat)
      case atStart => exact ⟨0, by omega, rfl, by simp⟩
      case round =>
        obtain ⟨k, hk, rfl, hm⟩ := hrel
        have HM := Lib.hid hm
        clear hm
        by_cases hlt : k < 4
        · obtain ⟨z, hz⟩ : ∃ z, (fourL s)[k]? = some z := ⟨_, List.getElem?_eq_getElem (by simp [fourL]; omega)⟩
          have hcell : W1.cell? ⟨W0.heap.size, k, none⟩ = some (.int .i64 z) := by
            have hk4 : k = 0 ∨ k = 1 ∨ k = 2 ∨ k = 3 := by omega
            rcases hk4 with rfl | rfl | rfl | rfl <;> (simp [fourL] at hz; subst hz; exact blk_cell HX1.out _ rfl)
          have HTK : Hid ((fourL s).take (k + 1) = (fourL s).take k ++ [z]) := Lib.hid (by rw [List.take_add_one, hz]; rfl)
          have HBD : Hid (spanB z = false → checkF s = 3) := Lib.hid fun hf => check_num HNA.out (four_bad (List.mem_of_getElem? hz) hf)
          clear hz
          by_cases z1 : z < 0
          · have HF : Hid (checkF s = 3) := Lib.hid (HBD.out (by unfold spanB; rw [decide_eq_false (by omega)]; rfl))
            go_wp2_with fail
            go_ret
            exact RetB.mk (by rw [HF.out]; rfl) HB1.out
          by_cases z2 : 1048576 < z
          · have HF : Hid (checkF s = 3) := Lib.hid (HBD.out (by unfold spanB; rw [decide_eq_false (p := z ≤ 1048576) (by omega), Bool.and_false]))
            go_wp2_with fail
            go_ret
            exact RetB.mk (by rw [HF.out]; rfl) HB1.out
          have HZ : Hid (spanB z = true) := Lib.hid (by unfold spanB; rw [decide_eq_true (by omega), decide_eq_true (by omega)]; rfl)
          go_wp2_with fail
          go_round
          case rel =>
            refine ⟨k + 1, by omega, by go_num, fun u hu => ?_⟩
            rw [HTK.out, List.mem_append] at hu
            rcases hu with hu | hu
            · exact HM.out u hu
            · simp at hu; subst hu; exact HZ.out
          case measure => simp [intOf]; omega
        · have HFO := Lib.hid (four_ok (s := s) (fun z hz => HM.out z (by rwa [List.take_of_length_le (by simp [fourL]; omega)])))
          have HLP : Hid (0 ≤ s.lease) := Lib.hid (by have := HFO.out.2.2.2; unfold spanB at this; simp at this; exact this.1)
          have c2 : W1.cell? ⟨w.heap.size, 2, none⟩ = some (.int .i64 s.pri) := blk_cell HXS.out 2 rfl
          have c4 : W1.cell? ⟨w.heap.size, 4, none⟩ = some (.slice a s.deps.length cap) := blk_cell HXS.out 4 rfl
          have c7 : W1.cell? ⟨w.heap.size, 7, none⟩ = some (.int .i64 s.att) := blk_cell HXS.out 7 rfl
          have c8 : W1.cell? ⟨w.heap.size, 8, none⟩ = some (.int .i64 s.lease) := blk_cell HXS.out 8 rfl
          have c10 : W1.cell? ⟨w.heap.size, 10, none⟩ = some (.int .i64 s.catch_) := blk_cell HXS.out 10 rfl
          clear HM
          by_cases h1 : s.pri < 0
          · have HF : Hid (checkF s = 3) := Lib.hid (check_num HNA.out (by unfold numbersB; rw [decide_eq_false (p := 0 ≤ s.pri) (by omega)]; simp))
            go_wp2_with fail
            go_ret
            exact RetB.mk (by rw [HF.out]; rfl) HB1.out
          by_cases h2 : 3 < s.pri
          · have HF : Hid (checkF s = 3) := Lib.hid (check_num HNA.out (by unfold numbersB; rw [decide_eq_false (p := s.pri < 4) (by omega)]; simp))
            go_wp2_with fail
            go_ret
            exact RetB.mk (by rw [HF.out]; rfl) HB1.out
          by_cases h3 : s.lease = 0
          · have HF : Hid (checkF s = 3) := Lib.hid (check_num HNA.out (by unfold numbersB; rw [decide_eq_false (p := 0 < s.lease) (by omega)]; simp))
            have h3b : (s.lease == 0) = true := by simp [h3]
            clear h3
            go_wp2_with fail
            go_ret
            exact RetB.mk (by rw [HF.out]; rfl) HB1.out
          have h3b : (s.lease == 0) = false := by simp [h3]
          have HL0 : Hid (¬ s.lease = 0) := Lib.hid h3
          clear h3
          by_cases h4 : s.att < 1
          · have HF : Hid (checkF s = 3) := Lib.hid (check_num HNA.out (by unfold numbersB; rw [decide_eq_false (p := 1 ≤ s.att) (by omega)]; simp))
            go_wp2_with fail
            go_ret
            exact RetB.mk (by rw [HF.out]; rfl) HB1.out
          by_cases h5 : 16 < s.att
          · have HF : Hid (checkF s = 3) := Lib.hid (check_num HNA.out (by unfold numbersB; rw [decide_eq_false (p := s.att ≤ 16) (by omega)]; simp))
            go_wp2_with fail
            go_ret
            exact RetB.mk (by rw [HF.out]; rfl) HB1.out
          by_cases h6 : s.catch_ < 0
          · have HF : Hid (checkF s = 3) := Lib.hid (check_num HNA.out (by unfold numbersB; rw [decide_eq_false (p := 0 ≤ s.catch_) (by omega)]; simp))
            go_wp2_with fail
            go_ret
            exact RetB.mk (by rw [HF.out]; rfl) HB1.out
          by_cases h7 : 16 < s.catch_
          · have HF : Hid (checkF s = 3) := Lib.hid (check_num HNA.out (by unfold numbersB; rw [decide_eq_false (p := s.catch_ ≤ 16) (by omega)]; simp))
            go_wp2_with fail
            go_ret
            exact RetB.mk (by rw [HF.out]; rfl) HB1.out
          by_cases h8 : (8 : Int) < (s.deps.length : Int)
          · have HF : Hid (checkF s = 3) := Lib.hid (check_num HNA.out (by unfold numbersB; rw [decide_eq_false (p := s.deps.length ≤ 8) (by omega)]; simp))
            go_wp2_with fail
            go_ret
            exact RetB.mk (by rw [HF.out]; rfl) HB1.out
          have HNB : Hid (risesB s.deps = true → numbersB s = true) := Lib.hid fun hr => by
            have g1 := HFO.out
            have g2 := HL0.out
            have g3 := HLP.out
            unfold numbersB
            rw [g1.1, g1.2.1, g1.2.2.1, g1.2.2.2, hr, decide_eq_true (p := 0 ≤ s.pri) (by omega), decide_eq_true (p := s.pri < 4) (by omega), decide_eq_true (p := 0 < s.lease) (by omega), decide_eq_true (p := 1 ≤ s.att) (by omega), decide_eq_true (p := s.att ≤ 16) (by omega),
              decide_eq_true (p := 0 ≤ s.catch_) (by omega), decide_eq_true (p := s.catch_ ≤ 16) (by omega), decide_eq_true (p := s.deps.length ≤ 8) (by omega)]
            rfl
          have HNC : Hid (risesB s.deps = false → checkF s = 3) := Lib.hid fun hr => check_num HNA.out (by unfold numbersB; rw [hr]; simp)
          have HCT : Hid (0 ≤ s.catch_) := Lib.hid (by omega)
          go_wp2_with fail
          clear h1 h2 h3b h4 h5 h6 h7 h8 c2 c7 c8 HL0 HLP HFO HX1 hk hlt
          go_loopw [7] (fun i wr => ∃ k nq : Nat, 1 ≤ k ∧ (k ≤ s.deps.length ∨ k = 1) ∧ i = .int .i64 k ∧ wr = W1.drewN nq ∧ ∀ i a b, i + 1 < k → s.deps[i]? = some a → s.deps[i + 1]? = some b → lessB a b = true) (fun i _ => s.deps.length - (intOf i).toNat)
          case atStart => exact ⟨1, 0, by omega, .inr rfl, rfl, rfl, fun i a b hi => by omega⟩
          case round =>
            obtain ⟨k, nq, hk1, hk, rfl, rfl, hm⟩ := hrel
            have HM := Lib.hid hm
            clear hm
            by_cases hlt : k < s.deps.length
            · rcases hx with ⟨rfl, rfl⟩ | ⟨b, o, rfl, hb, hc⟩
              · have := HLE.out; omega
              · obtain ⟨j, rfl⟩ : ∃ j, k = j + 1 := ⟨k - 1, by omega⟩
                have hj0 : s.deps[j]? = some s.deps[j] := List.getElem?_eq_getElem (by omega)
                have hj1 : s.deps[j + 1]? = some s.deps[j + 1] := List.getElem?_eq_getElem hlt
                have d0 : W1.cell? ⟨b, o + j, none⟩ = some (.string s.deps[j]) := (bcell HB1.out _ _ hb).trans (hc j _ hj0)
                have d1 : W1.cell? ⟨b, o + (j + 1), none⟩ = some (.string s.deps[j + 1]) := (bcell HB1.out _ _ hb).trans (hc (j + 1) _ hj1)
                generalize s.deps[j] = u at *
                generalize s.deps[j + 1] = v at *
                have HJ0 := Lib.hid hj0
                have HJ1 := Lib.hid hj1
                clear hc hj0 hj1
                have hw1 : IntKind.i64.wrap ((j + 1 : Nat) - 1 : Int) = (j : Int) := by rw [IntKind.wrap_i64]; omega
                have hw2 : IntKind.i64.wrap (((j : Int) + 1) - 1 : Int) = (j : Int) := by rw [IntKind.wrap_i64]; omega
                cases hxy : Op.bytesLess u.toList v.toList
                · have HF : Hid (checkF s = 3) := Lib.hid (HNC.out (rises_stop HJ0.out HJ1.out hxy))
                  have hgeq : (!Op.bytesLess u.toList v.toList) = true := by rw [hxy]; rfl
                  go_wp2_with fail
                  go_quiet (fail)
                  go_wp2_with fail
                  go_ret
                  exact RetB.mk (by rw [HF.out]; rfl) (bel_drewN (bel_drewN HB1.out _) _)
                · have HXY := Lib.hid hxy
                  have hgeq : (!Op.bytesLess u.toList v.toList) = false := by rw [hxy]; rfl
                  go_wp2_with fail
                  go_quiet (fail)
                  go_wp2_with fail
                  go_round
                  case rel =>
                    refine ⟨j + 2, _, by omega, .inl (by omega), by go_num, by first | rfl | (rw [← drewN_add]), fun i a b hi ha hb => ?_⟩
                    by_cases hij : i = j
                    · subst hij
                      rw [HJ0.out] at ha
                      rw [HJ1.out] at hb
                      cases ha; cases hb
                      exact HXY.out
                    · exact HM.out i a b (by omega) ha hb
                  case measure => simp [intOf]; omega
            · have HNU : Hid (numbersB s = true) := Lib.hid (HNB.out (rises_end (by omega) HM.out))
              obtain ⟨W2, hW2⟩ : ∃ W2, W2 = W1.drewN nq := ⟨_, rfl⟩
              have HB2 : Hid (Below w.heap.size w W2) := Lib.hid (by rw [hW2]; exact bel_drewN HB1.out _)
              have HX2 : Hid (W2.heap[w.heap.size]? = some (.cells #[.string s.name, .string s.ten, .int .i64 s.pri, .int .i64 s.delay, .slice a s.deps.length cap, .int .i64 s.base, .int .i64 s.cap, .int .i64 s.att, .int .i64 s.lease, .string s.cron, .int .i64 s.catch_] 24)) := Lib.hid (by rw [hW2]; exact HXS.out)
              rw [← hW2]
              have HLEN : Hid (¬ k < s.deps.length) := Lib.hid hlt
              have d4 : W2.cell? ⟨w.heap.size, 4, none⟩ = some (.slice a s.deps.length cap) := blk_cell HX2.out 4 rfl
              have d9 : W2.cell? ⟨w.heap.size, 9, none⟩ = some (.string s.cron) := blk_cell HX2.out 9 rfl
              have d10 : W2.cell? ⟨w.heap.size, 10, none⟩ = some (.int .i64 s.catch_) := blk_cell HX2.out 10 rfl
              clear hW2 c4 c10 HXS HNB HNC HM
              by_cases h0 : s.cron.size = 0
              · have e9 := empty_yes h0
                have e9' : s.cron.toList.isEmpty = true := by rw [e9]; rfl
                by_cases hk0 : 0 < s.catch_
                · have HF : Hid (checkF s = 1) := Lib.hid (by unfold checkF; rw [if_neg (by simp [HNA.out]), if_neg (by simp [HNU.out]), if_pos h0, if_neg (by omega)])
                  clear h0
                  go_wp2_with fail
                  go_ret
                  exact RetB.mk (by rw [HF.out]; rfl) HB2.out
                · have HF : Hid (checkF s = 0) := Lib.hid (by have := HCT.out; unfold checkF; rw [if_neg (by simp [HNA.out]), if_neg (by simp [HNU.out]), if_pos h0, if_pos (by omega)])
                  clear h0
                  go_wp2_with fail
                  go_ret
                  exact RetB.mk (by rw [HF.out]; rfl) HB2.out
              have e9 := empty_no h0
              have e9' : s.cron.toList.isEmpty = false := by simpa using e9
              have HFX : Hid (checkF s = if (parseF (bsOf s.cron)).2 ≠ 0 then (parseF (bsOf s.cron)).2 else if s.catch_ = 0 then 3 else if 0 < s.deps.length ∨ 0 < s.delay ∨ 16 < s.name.size then 1 else 0) := Lib.hid (by rw [← HCF.out]; unfold checkF; rw [if_neg (by simp [HNA.out]), if_neg (by simp [HNU.out]), if_neg h0])
              clear h0 HCF
              generalize parseF (bsOf s.cron) = R at *
              obtain ⟨r1, r2⟩ := R
              simp only at HFX HPB HPO
              by_cases hp : r2 = 0
              case neg =>
                have HF : Hid (checkF s = r2) := Lib.hid (by rw [HFX.out, if_pos hp])
                have ee : (r2 == 0) = false := by simpa using hp
                have hN5 := HPB.out hp W2
                clear hp HFX HPO HPB
                go_wp2_with fail
                refine hN5.mono ?_
                rintro en w5 ⟨rfl, hb5⟩
                have HB5 := Lib.hid (HB2.out.trans (hb5.mono HB2.out.size))
                clear hb5 hN5
                go_wp2_with fail
                go_ret
                exact RetB.mk (by rw [HF.out]; rfl) HB5.out
              have hN5 := HPO.out hp W2
              have HFY : Hid (checkF s = if s.catch_ = 0 then 3 else if 0 < s.deps.length ∨ 0 < s.delay ∨ 16 < s.name.size then 1 else 0) := Lib.hid (by rw [HFX.out, if_neg (by omega)])
              clear HPO HPB HFX hp
              go_wp2_with fail
              refine hN5.mono ?_
              rintro en w5 ⟨pv, pl, rfl, hb5⟩
              have HX5 := Lib.hid (bheap hb5 HX2.out (heap_lt HX2.out))
              have HB5 := Lib.hid (HB2.out.trans (hb5.mono HB2.out.size))
              clear hb5 hN5 d4 d9 d10 HX2 HB2
              have g0 : w5.cell? ⟨w.heap.size, 0, none⟩ = some (.string s.name) := blk_cell HX5.out 0 rfl
              have g3 : w5.cell? ⟨w.heap.size, 3, none⟩ = some (.int .i64 s.delay) := blk_cell HX5.out 3 rfl
              have g4 : w5.cell? ⟨w.heap.size, 4, none⟩ = some (.slice a s.deps.length cap) := blk_cell HX5.out 4 rfl
              have g10 : w5.cell? ⟨w.heap.size, 10, none⟩ = some (.int .i64 s.catch_) := blk_cell HX5.out 10 rfl
              by_cases k1 : s.catch_ = 0
              · have k1' : (s.catch_ == 0) = true := by simp [k1]
                have HF : Hid (checkF s = 3) := Lib.hid (by rw [HFY.out]; simp [k1])
                clear HFY k1
                go_wp2_with fail
                go_ret
                exact RetB.mk (by rw [HF.out]; rfl) HB5.out
              have k1' : (s.catch_ == 0) = false := by simp [k1]
              by_cases k2 : 0 < s.deps.length
              · have k2' : (0 : Int) < (s.deps.length : Int) := by omega
                have HF : Hid (checkF s = 1) := Lib.hid (by rw [HFY.out]; simp [k1, k2])
                clear HFY k1
                go_wp2_with fail
                go_ret
                exact RetB.mk (by rw [HF.out]; rfl) HB5.out
              have k2' : ¬ (0 : Int) < (s.deps.length : Int) := by omega
              by_cases k3 : 0 < s.delay
              · have HF : Hid (checkF s = 1) := Lib.hid (by rw [HFY.out]; simp [k1, k3])
                clear HFY k1
                go_wp2_with fail
                go_ret
                exact RetB.mk (by rw [HF.out]; rfl) HB5.out
              by_cases k4 : 16 < s.name.size
              · have k4' : (16 : Int) < (s.name.size : Int) := by omega
                have HF : Hid (checkF s = 1) := Lib.hid (by rw [HFY.out]; simp [k1, k4])
                clear HFY k1
                go_wp2_with fail
                go_ret
                exact RetB.mk (by rw [HF.out]; rfl) HB5.out
              have k4' : ¬ (16 : Int) < (s.name.size : Int) := by omega
              have HF : Hid (checkF s = 0) := Lib.hid (by rw [HFY.out]; simp [k1, k2, k3, k4])
              clear HFY k1
              go_wp2_with fail
              go_ret
              exact RetB.mk (by rw [HF.out]; rfl) HB5.out

end Go.Proofs.YtldieadbkaphkaaGreatDoor

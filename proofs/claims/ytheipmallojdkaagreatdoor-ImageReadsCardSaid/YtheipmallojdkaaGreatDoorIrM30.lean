/- Package image: Of. Package image: rises. -/
import Derived.Test.YtheipmallojdkaaGreatDoorIrM29
import Derived.Test.YtheipmallojdkaaGreatDoorIrM25
import Derived.Test.YtheipmallojdkaaGreatDoorIrM16
import Derived.Test.YtheipmallojdkaaGreatDoorIrM22

namespace Go.Proofs.YtheipmallojdkaaGreatDoor
open Go.RowKit Go.Maps Go.ChangeMaps

theorem wrote_onI {B p : Nat} {w w1 w2 : World} {r r' : Option Nat} (hk : Below B w w1) (hp : B ≤ p) (hr : ∀ k, r = some k → B ≤ k) (hB : B ≤ w1.heap.size) (h : Wrote p w1 r w2 r') : Below B w w2 ∧ ∀ k, r' = some k → B ≤ k := by
  refine ⟨hk.trans (h.keeps.below hB fun k hk => ?_), fun k hk => ?_⟩
  · rcases hk with rfl | hk
    · exact hp
    · exact hr k hk.symm
  · rcases h.row with h1 | ⟨j, h1, h2⟩
    · exact hr k (h1 ▸ hk)
    · rw [h1] at hk; cases hk; omega

/-- An image's bytes. -/
def imgB (now each order : Int) (js : List Jb) : List UInt8 := intB now ++ (nuB each ++ (nuB order ++ jobsB js))
def ImgOfP (w : World) (now each order : Int) (jes : List JE) (e : Ending) (w' : World) : Prop := ∃ xs, JobsDone jes xs ∧ Cloned w (imgB now each order (xs.map (·.1))) e w'

theorem mid_below {w0 w w' : World} {s mj g r u q : Nat} {F : Nat → Prop} {now each order : Int} {jes : List JE} {n : Nat} (h : SAt w w0.heap.size s mj g r u q F now each order jes n) (hb : Below w.heap.size w w') : SAt w' w0.heap.size s mj g r u q F now each order jes n := h.below hb

set_option maxRecDepth 100000 in
set_option maxHeartbeats 4000000 in
theorem imgOf_any (w : World) (B s mj g r u q : Nat) (F : Nat → Prop) (now each order : Int) (jes : List JE) (n : Nat) (hS : SAt w B s mj g r u q F now each order jes n) (hy : beginB now each) (ho0 : 0 ≤ order) (ho1 : order ≤ 18446744073709551615) (hsm : ∀ x ∈ jes, x.j.small) (hl : jes.length ≤ 128) :
    Calls Tryz.prog 6 #[.pointer (some ⟨s, 0, none⟩)] w (ImgOfP w now each order jes) := by
  obtain ⟨⟨hn0, hn1⟩, he0, he1⟩ := hy
  have HS := Lib.hid hS
  have HSM := Lib.hid hsm
  have hl1 : (intB now).length ≤ 10 := intB_len10 (by unfold i64B; omega)
  have hl2 : (nuB each).length ≤ 10 := numB_len10 (by omega)
  have hl3 : (nuB order).length ≤ 10 := numB_len10 (by omega)
  have HL := Lib.hid (And.intro hl1 (And.intro hl2 hl3))
  have hwe : IntKind.u64.wrap each = each := IntWalk.u64_in _ (by omega)
  obtain ⟨bs1, hbs1⟩ : ∃ b, b = intB now := ⟨_, rfl⟩
  obtain ⟨bs2, hbs2⟩ : ∃ b, b = nuB each := ⟨_, rfl⟩
  obtain ⟨bs3, hbs3⟩ : ∃ b, b = nuB order := ⟨_, rfl⟩
  have HBS := Lib.hid (And.intro hbs1 (And.intro hbs2 hbs3))
  rw [← hbs1, ← hbs2, ← hbs3] at HL
  clear hl1 hl2 hl3 hS hsm
  go_enter Tryz.func6, Tryz.ntmps6
  go_upto_region 4 with (fail)
  obtain ⟨w1, hw1⟩ : ∃ w1, w1 = w.alloc (.cells #[.slice none 0 0] 49) := ⟨_, rfl⟩
  rw [← hw1]
  have hW1 : Wr w1 w.heap.size none [] := by
    rw [hw1]
    exact ⟨.slice none 0 0, heap_new _ _, rfl, by simp, World.ownsRow_nil _ _ _ _⟩
  have HK1 : Hid (Below w.heap.size w w1 ∧ ∀ k, (none : Option Nat) = some k → w.heap.size ≤ k) := Lib.hid ⟨by rw [hw1]; exact (Below.refl _ _).alloc (Nat.le_refl _) _, fun k hk => by cases hk⟩
  clear hw1
  have hc1 := snow_any (HS.out.below HK1.out.1).box
  have hi1 := wint_any w1 w.heap.size none [] hW1 now (by omega) (by omega) (by simp)
  rw [List.nil_append, ← hbs1] at hi1
  clear hW1
  go_wp2_with fail
  refine hc1.mono ?_
  rintro e w' ⟨rfl, rfl⟩
  go_wp2_with fail
  refine hi1.mono ?_
  rintro e w2 ⟨rfl, r2, hW2, hk2⟩
  have HK2 := Lib.hid (wrote_onI HK1.out.1 (Nat.le_refl _) HK1.out.2 HK1.out.1.size hk2)
  have hc2 := seach_any (HS.out.below HK2.out.1).box
  have hi2 := num_any w2 w.heap.size r2 _ hW2 each he0 (by omega) (by have := HL.out; omega)
  rw [show numB each.toNat = nuB each from rfl, ← hbs2] at hi2
  clear hW2 hk2 hc1 hi1 HK1
  go_wp2_with fail
  refine hc2.mono ?_
  rintro e w' ⟨rfl, rfl⟩
  go_wp2_with fail
  refine hi2.mono ?_
  rintro e w3 ⟨rfl, r3, hW3, hk3⟩
  have HK3 := Lib.hid (wrote_onI HK2.out.1 (Nat.le_refl _) HK2.out.2 HK2.out.1.size hk3)
  have hc3 := sorder_any (HS.out.below HK3.out.1).box
  have hi3 := num_any w3 w.heap.size r3 _ hW3 order ho0 ho1 (by have := HL.out; rw [List.length_append]; omega)
  rw [show numB order.toNat = nuB order from rfl, ← hbs3] at hi3
  clear hW3 hk3 hc2 hi2 HK2 hbs1 hbs2 hbs3
  go_wp2_with fail
  refine hc3.mono ?_
  rintro e w' ⟨rfl, rfl⟩
  go_wp2_with fail
  refine hi3.mono ?_
  rintro e w4 ⟨rfl, r4, hW4, hk4⟩
  have HK4 := Lib.hid (wrote_onI HK3.out.1 (Nat.le_refl _) HK3.out.2 HK3.out.1.size hk4)
  have hj := sjobs_any w4 s
  have hba : Below w4.heap.size w4 (w4.alloc (.cells #[.pointer (some ⟨s, 0, none⟩)] 24)) := (Below.refl _ _).alloc (Nat.le_refl _) _
  have hS4 := HS.out.below (HK4.out.1.trans (hba.mono HK4.out.1.size))
  have hc := collectJ (w4.alloc (.cells #[.pointer (some ⟨s, 0, none⟩)] 24)) 49 #[.pointer (some ⟨w4.heap.size, 0, none⟩)] (enters_of Tryz.func49 (by kernel_rfl) rfl) (InJobs jes) (JobsDone jes) _ (jobs_iter B w4.heap.size s mj g r u q now each order jes HSM.out hl) fun A hA => ⟨bheap hA (heap_new _ _) (by simp), F, n, hS4.below hA⟩
  have HW4 := Lib.hid hW4
  clear hW4 hk4 hc3 hi3 HK3 hba hS4
  go_wp2_with fail
  refine hj.mono ?_
  rintro e w' ⟨rfl, rfl⟩
  go_wp2_with fail
  refine hc.mono ?_
  rintro e w5 ⟨v, xs, rfl, hdone, hown, hvn, hx, hb5, hlen⟩
  have hb45 : Below w4.heap.size w4 w5 := ((Below.refl _ w4).alloc (Nat.le_refl _) _).trans (hb5.mono (by simp))
  have hW5 : Wr w5 w.heap.size r4 _ := HW4.out.kept (Keeps.of_below hb45) (fun hh => by have := HW4.out.lt; omega) (fun k hk hh => by have := HW4.out.row_lt k hk; omega)
  have HK5 : Hid (Below w.heap.size w w5) := Lib.hid (HK4.out.1.trans (hb45.mono HK4.out.1.size))
  have HR4 := Lib.hid HK4.out.2
  have hsmx : ∀ x ∈ xs, x.1.small := fun x hx' => by
    obtain ⟨e, he, hej⟩ := (hx x hx').1
    rw [← hej]; exact HSM.out e he
  have hz4 : ∀ k, w4.heap.size + 1 ≤ k → k ≠ w.heap.size ∧ r4 ≠ some k := fun k hk => by
    have := HW4.out.lt
    exact ⟨by omega, fun e => by have := HW4.out.row_lt k e; omega⟩
  have hp := putJs_any w5 w.heap.size r4 _ hW5 v xs hown (fun k hk => hz4 k (by have := hvn k hk; simpa using this)) (fun x hx' => ⟨(hx x hx').2.1, fun k hk => hz4 k (by have := (hx x hx').2.2 k hk; simpa using this), hsmx x hx'⟩) hlen (by have := HL.out; rw [List.length_append, List.length_append]; omega)
  obtain ⟨va, vc, rfl⟩ : ∃ va vc, v = .slice va xs.length vc := by
    rcases hown.2 with ⟨e1, e2⟩ | ⟨g, c, cur, e1, _⟩
    · exact ⟨none, 0, by rw [e1, e2]⟩
    · exact ⟨_, _, e1⟩
  have hjl : (jobsB (xs.map (·.1))).length ≤ 20000000 := by
    have h1 := jobsB_len (xs.map (·.1)) (fun d hd => by obtain ⟨x, hx', rfl⟩ := List.mem_map.1 hd; exact hsmx x hx')
    have h2 := numB_len10 (x := (xs.map (·.1)).length) (by simp; omega)
    unfold jobsB
    rw [List.length_append]
    simp only [List.length_map] at h1 h2 ⊢
    omega
  have HDONE := Lib.hid hdone
  have HJL := Lib.hid hjl
  clear hb5 hb45 hW5 hc hj HW4 HK4 hdone hown hvn hx hsmx hz4 hjl
  go_wp2_with fail
  refine hp.mono ?_
  rintro e w6 ⟨rfl, r6, hW6, hk6⟩
  have HK6 := Lib.hid (wrote_onI HK5.out (Nat.le_refl _) HR4.out HK5.out.size hk6)
  have hby := wbytes_any w6 w.heap.size r6 _ hW6 (by have := HL.out; have := HJL.out; rw [List.length_append, List.length_append, List.length_append]; omega)
  clear hW6 hk6 hp HK5 HR4
  go_wp2_with fail
  refine hby.mono ?_
  rintro e w7 ⟨v, rfl, hb7, hs7, ho7, hn7⟩
  obtain ⟨ad7, L7, cp7, rfl⟩ : ∃ a L c, v = .slice a L c := by obtain ⟨a, c, e, _⟩ := id hs7; exact ⟨a, _, c, e⟩
  have HF := Lib.hid (show JobsDone jes xs ∧ Cloned w (imgB now each order (xs.map (·.1))) (.returned (.slice ad7 L7 cp7)) w7 from ⟨HDONE.out, _, rfl, HK6.out.1.trans (hb7.mono HK6.out.1.size), by
    have h := hs7
    rw [HBS.out.1, HBS.out.2.1, HBS.out.2.2] at h
    simpa [imgB, List.append_assoc] using h, by
    have h := ho7
    rw [HBS.out.1, HBS.out.2.1, HBS.out.2.2] at h
    simpa [imgB, List.append_assoc] using h, fun k hk => Nat.le_trans HK6.out.1.size (hn7 k hk)⟩)
  clear hb7 hs7 ho7 hn7 hby
  go_wp2_with fail
  go_ret
  exact ⟨xs, HF.out⟩

end Go.Proofs.YtheipmallojdkaaGreatDoor

namespace Go.Proofs.YtheipmallojdkaaGreatDoor
open Go.RowKit Go.Maps Go.ChangeMaps

def namesJ (xs : List JD) : List ByteArray := xs.map fun x => x.1.sp.name

theorem name_at {w : World} {a : Option Addr} {n cap : Nat} {xs : List JD} (h : w.ownsRow 0 42 21 (.slice a n cap) xs.length (flatJ xs)) {k : Nat} {x : JD} (hx : xs[k]? = some x) : ∃ g, a = some ⟨g, 0, none⟩ ∧ g < w.heap.size ∧ n ≤ cap ∧ w.cell? ⟨g, k * 21, none⟩ = some (.string x.1.sp.name) := by
  obtain ⟨g, c, C, hv, hg, hC, h1, h2⟩ := job_at h hx
  injection hv with e1 e2 e3
  subst e1 e2 e3
  refine ⟨g, rfl, heap_lt hg, h1, blk_cell hg _ ?_⟩
  have e := congrArg (fun l : List Value => l[0]?) hC
  simp only [List.getElem?_take, List.getElem?_drop, Nat.add_zero] at e
  rw [← Array.getElem?_toList]
  simpa [Jb.cells] using e

set_option maxRecDepth 100000 in
theorem irises_any (w : World) (a : Option Addr) (n cap : Nat) (xs : List JD) (h : w.ownsRow 0 42 21 (.slice a n cap) xs.length (flatJ xs)) (hn : n = xs.length) (hn2 : n ≤ 128) :
    Calls Tryz.prog 15 #[.slice a n cap] w (RetB (.bool (risesB (namesJ xs))) w) := by
  have H := Lib.hid h
  have HN := Lib.hid hn
  clear h hn
  go_enter Tryz.func15, Tryz.ntmps15
  go_wp2
  go_loopw [3] (fun i wr => ∃ k : Nat, 1 ≤ k ∧ (k ≤ n ∨ k = 1) ∧ i = .int .i64 k ∧ Below w.heap.size w wr ∧ ∀ i a b, i + 1 < k → (namesJ xs)[i]? = some a → (namesJ xs)[i + 1]? = some b → lessB a b = true) (fun i _ => n - (intOf i).toNat)
  case atStart => exact ⟨1, by omega, .inr rfl, rfl, Below.refl _ _, fun i a b hi => by omega⟩
  case round =>
    obtain ⟨k, hk1, hk, rfl, hbw, hm⟩ := hrel
    have HM := Lib.hid hm
    have HBW := Lib.hid hbw
    clear hm
    by_cases hlt : k < n
    · obtain ⟨j, rfl⟩ : ∃ j, k = j + 1 := ⟨k - 1, by omega⟩
      obtain ⟨x0, hx0⟩ : ∃ x, xs[j]? = some x := ⟨xs[j]'(by have := HN.out; omega), by simp⟩
      obtain ⟨x1, hx1⟩ : ∃ x, xs[j + 1]? = some x := ⟨xs[j + 1]'(by have := HN.out; omega), by simp⟩
      obtain ⟨g, rfl, hg, hnc, c0'⟩ := name_at H.out hx0
      obtain ⟨g', hg', _, _, c1'⟩ := name_at H.out hx1
      obtain rfl : g = g' := by injection hg' with e; injection e
      have c0 : wr.cell? ⟨g, j * 21, none⟩ = some (.string x0.1.sp.name) := (bcell hbw _ _ hg).trans c0'
      have c1 : wr.cell? ⟨g, (j + 1) * 21, none⟩ = some (.string x1.1.sp.name) := (bcell hbw _ _ hg).trans c1'
      have hj0 : (namesJ xs)[j]? = some x0.1.sp.name := by simp [namesJ, hx0]
      have hj1 : (namesJ xs)[j + 1]? = some x1.1.sp.name := by simp [namesJ, hx1]
      generalize x0.1.sp.name = x at *
      generalize x1.1.sp.name = y at *
      have HJ0 := Lib.hid hj0
      have HJ1 := Lib.hid hj1
      clear hj0 hj1 hbw hx0 hx1 c0' c1' hg' x0 x1
      have hw1 : IntKind.i64.wrap ((j + 1 : Nat) - 1 : Int) = (j : Int) := by rw [IntKind.wrap_i64]; omega
      have hw2 : IntKind.i64.wrap (((j : Int) + 1) - 1 : Int) = (j : Int) := by rw [IntKind.wrap_i64]; omega
      cases hxy : Op.bytesLess x.toList y.toList
      · have HXY : Hid (risesB (namesJ xs) = false) := Lib.hid (rises_stop HJ0.out HJ1.out hxy)
        have hgeq : (!Op.bytesLess x.toList y.toList) = true := by rw [hxy]; rfl
        go_wp2_with fail
        go_quiet (fail)
        go_wp2_with fail
        go_ret
        exact RetB.mk (by rw [HXY.out]; rfl) (bel_drewN HBW.out _)
      · have HXY := Lib.hid hxy
        have hgeq : (!Op.bytesLess x.toList y.toList) = false := by rw [hxy]; rfl
        go_wp2_with fail
        go_quiet (fail)
        go_wp2_with fail
        go_round
        case rel =>
          refine ⟨j + 2, by omega, .inl (by omega), by go_num, bel_drewN HBW.out _, fun i a b hi ha hb => ?_⟩
          by_cases hij : i = j
          · subst hij
            rw [HJ0.out] at ha
            rw [HJ1.out] at hb
            cases ha; cases hb
            exact HXY.out
          · exact HM.out i a b (by omega) ha hb
        case measure => simp [intOf]; omega
    · have HR : Hid (risesB (namesJ xs) = true) := Lib.hid (rises_end (k := k) (by have := HN.out; simp [namesJ]; omega) HM.out)
      go_wp2_with fail
      go_ret
      exact RetB.mk (by rw [HR.out]; rfl) HBW.out

end Go.Proofs.YtheipmallojdkaaGreatDoor

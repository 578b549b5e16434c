/- The reference for package cron: what Parse answers, as a whole; Named: is a moment named. -/
import Derived.Test.YtldieadbkaphkaaGreatDoorRefM
import Derived.Test.YtldieadbkaphkaaGreatDoorCronM
namespace Go.Proofs.YtldieadbkaphkaaGreatDoor
open Go.RowKit Go.Maps Go.ChangeMaps

/-- Maps and texts of five fields, in memory. -/
def RefAt (w : World) (v l : Value) (V : Nat → List Int) (L : List Bs) : Prop :=
  ∃ bs, Sl mapE w v bs ∧ bs.length = 5 ∧ Sl strE w l L ∧ L.length = 5 ∧ ∀ k b, bs[k]? = some b → BitMap w b (V k)
theorem RefAt.below {w w' : World} {v l : Value} {V : Nat → List Int} {L : List Bs} (h : RefAt w v l V L) (hb : Below w.heap.size w w') : RefAt w' v l V L := by
  obtain ⟨bs, h1, h2, h3, h4, h5⟩ := h
  exact ⟨bs, h1.below hb h1.row_lt, h2, h3.below hb h3.row_lt, h4, fun k b hk => (h5 k b hk).below hb (h5 k b hk).lt⟩
def refV (s : Bs) (k : Nat) : List Int := ((parseF s).1.getD k []).map (nrm k)

theorem refParse_ok (w : World) (s : Bs) (h : (parseF s).2 = 0) :
    Calls Tryz.prog 10 #[.string ⟨s.toArray⟩] w (fun e w' => ∃ v l, e = .returned (.tuple #[v, l, .int .i64 0]) ∧ RefAt w' v l (refV s) (splitL 32 s) ∧ Below w.heap.size w w') := by
  obtain ⟨h1, h2, _⟩ := parseF_ok h
  refine (refParse_main w s h1 h2).mono ?_
  rintro e w' ⟨hb, ⟨hne, _⟩ | ⟨_, v, l, bs, rfl, g1, g2, g3, g4⟩⟩
  · exact absurd h hne
  · exact ⟨v, l, rfl, ⟨bs, g1, g2, g3, h2, g4⟩, hb⟩

def namedF (V : Nat → List Int) (L : List Bs) (M : Mom) : Bool :=
  if decide (M.mi ∈ V 0) = false ∨ decide (M.h ∈ V 1) = false ∨ decide (M.m ∈ V 3) = false then false
  else if L.getD 2 [] = [42] then decide (M.wd ∈ V 4)
  else if L.getD 4 [] = [42] then decide (M.d ∈ V 2)
  else decide (M.d ∈ V 2) || decide (M.wd ∈ V 4)

theorem zero_bool (w : World) : (zeroValue 4).run Tryz.prog w = .ok (.bool false) w := Tryz.zeroValue4 w
theorem BitMap.look {w : World} {b : Nat} {vals : List Int} (h : BitMap w b vals) {x : Int} (hx : (Lit.int .i64 x).wf = true) :
    (Instr.lookup 60 (.map (some b)) (.int .i64 x) false).run Tryz.prog w = .ok (.bool (decide (x ∈ vals))) w := by
  obtain ⟨m, hm, hv⟩ := h
  have := hm.run_lookup ikeyed intE_inj Tryz.underlying60 (zero_bool w) (ikey hx) false
  rw [← hv x]
  simp only [Bool.false_eq_true, if_false] at this
  show _ = _
  rw [show (Value.int .i64 x) = intE x from rfl, this]
  cases aget x m <;> rfl

set_option maxRecDepth 100000 in
set_option maxHeartbeats 8000000 in
theorem named_any (w : World) (v l : Value) (V : Nat → List Int) (L : List Bs) (M : Mom) (h : RefAt w v l V L) (r1 : 0 ≤ M.mi ∧ M.mi ≤ 1000) (r2 : 0 ≤ M.h ∧ M.h ≤ 1000) (r3 : 0 ≤ M.m ∧ M.m ≤ 1000) (r4 : 0 ≤ M.d ∧ M.d ≤ 1000) (r5 : 0 ≤ M.wd ∧ M.wd ≤ 1000) :
    Calls Tryz.prog 11 #[v, l, M.v] w (RetB (.bool (namedF V L M)) w) := by
  have HF : Hid (namedF V L M = if decide (M.mi ∈ V 0) = false ∨ decide (M.h ∈ V 1) = false ∨ decide (M.m ∈ V 3) = false then false else if L.getD 2 [] = [42] then decide (M.wd ∈ V 4) else if L.getD 4 [] = [42] then decide (M.d ∈ V 2) else decide (M.d ∈ V 2) || decide (M.wd ∈ V 4)) := Lib.hid rfl
  obtain ⟨y, m, d, wd, hh, mi⟩ := M
  unfold Mom.v
  simp only at *
  obtain ⟨bs, hsv, hb5, hsl, hl5, hmp⟩ := h
  obtain ⟨va, vcap, rfl, hv1, hv2, hvx⟩ := hsv
  obtain ⟨la, lcap, rfl, hl1, hl2, hlx⟩ := hsl
  rcases hvx with ⟨_, h0⟩ | ⟨vb, vo, rfl, hvb, hvc⟩
  · exfalso; omega
  rcases hlx with ⟨_, h0⟩ | ⟨lb, lo, rfl, hlb, hlc⟩
  · exfalso; omega
  rw [hb5] at hv1 ⊢
  rw [hl5] at hl1 ⊢
  have hg : ∀ k, k < 5 → ∃ b, bs[k]? = some b := fun k hk => ⟨bs[k]'(by omega), List.getElem?_eq_getElem _⟩
  obtain ⟨b0, e0⟩ := hg 0 (by omega)
  obtain ⟨b1, e1⟩ := hg 1 (by omega)
  obtain ⟨b2, e2⟩ := hg 2 (by omega)
  obtain ⟨b3, e3⟩ := hg 3 (by omega)
  obtain ⟨b4, e4⟩ := hg 4 (by omega)
  obtain ⟨s2, f2⟩ : ∃ t, L[2]? = some t := ⟨L[2]'(by omega), List.getElem?_eq_getElem _⟩
  obtain ⟨s4, f4⟩ : ∃ t, L[4]? = some t := ⟨L[4]'(by omega), List.getElem?_eq_getElem _⟩
  rw [show L.getD 2 [] = s2 by rw [List.getD_eq_getElem?_getD, f2]; rfl, show L.getD 4 [] = s4 by rw [List.getD_eq_getElem?_getD, f4]; rfl] at HF
  obtain ⟨W, hW⟩ : ∃ W, W = w.alloc (.cells #[.int .i64 y, .int .i64 m, .int .i64 d, .int .i64 wd, .int .i64 hh, .int .i64 mi] 37) := ⟨_, rfl⟩
  have hbW : Below w.heap.size w W := by rw [hW]; exact (Below.refl _ _).alloc (Nat.le_refl _) _
  have hxW := heap_new w (.cells #[.int .i64 y, .int .i64 m, .int .i64 d, .int .i64 wd, .int .i64 hh, .int .i64 mi] 37)
  rw [← hW] at hxW
  have q1 : W.cell? ⟨w.heap.size, 1, none⟩ = some (.int .i64 m) := blk_cell hxW 1 rfl
  have q2 : W.cell? ⟨w.heap.size, 2, none⟩ = some (.int .i64 d) := blk_cell hxW 2 rfl
  have q3 : W.cell? ⟨w.heap.size, 3, none⟩ = some (.int .i64 wd) := blk_cell hxW 3 rfl
  have q4 : W.cell? ⟨w.heap.size, 4, none⟩ = some (.int .i64 hh) := blk_cell hxW 4 rfl
  have q5 : W.cell? ⟨w.heap.size, 5, none⟩ = some (.int .i64 mi) := blk_cell hxW 5 rfl
  have c0 : W.cell? ⟨vb, vo, none⟩ = some (.map (some b0)) := by rw [World.cell?_of_block (hbW.block vb hvb)]; exact hvc 0 b0 e0
  have c1 : W.cell? ⟨vb, vo + 1, none⟩ = some (.map (some b1)) := by rw [World.cell?_of_block (hbW.block vb hvb)]; exact hvc 1 b1 e1
  have c2 : W.cell? ⟨vb, vo + 2, none⟩ = some (.map (some b2)) := by rw [World.cell?_of_block (hbW.block vb hvb)]; exact hvc 2 b2 e2
  have c3 : W.cell? ⟨vb, vo + 3, none⟩ = some (.map (some b3)) := by rw [World.cell?_of_block (hbW.block vb hvb)]; exact hvc 3 b3 e3
  have c4 : W.cell? ⟨vb, vo + 4, none⟩ = some (.map (some b4)) := by rw [World.cell?_of_block (hbW.block vb hvb)]; exact hvc 4 b4 e4
  have d2 : W.cell? ⟨lb, lo + 2, none⟩ = some (.string ⟨s2.toArray⟩) := by rw [World.cell?_of_block (hbW.block lb hlb)]; exact hlc 2 s2 f2
  have d4 : W.cell? ⟨lb, lo + 4, none⟩ = some (.string ⟨s4.toArray⟩) := by rw [World.cell?_of_block (hbW.block lb hlb)]; exact hlc 4 s4 f4
  have l0 : ∀ n, (Instr.lookup 60 (.map (some b0)) (.int .i64 mi) false).run Tryz.prog (W.drewN n) = .ok (.bool (decide (mi ∈ V 0))) (W.drewN n) := fun n => BitMap.look (w := W.drewN n) ((hmp 0 b0 e0).below (bel_drewN hbW n) (hmp 0 b0 e0).lt) (small_wf r1.1 r1.2)
  have l1 : ∀ n, (Instr.lookup 60 (.map (some b1)) (.int .i64 hh) false).run Tryz.prog (W.drewN n) = .ok (.bool (decide (hh ∈ V 1))) (W.drewN n) := fun n => BitMap.look (w := W.drewN n) ((hmp 1 b1 e1).below (bel_drewN hbW n) (hmp 1 b1 e1).lt) (small_wf r2.1 r2.2)
  have l2 : ∀ n, (Instr.lookup 60 (.map (some b2)) (.int .i64 d) false).run Tryz.prog (W.drewN n) = .ok (.bool (decide (d ∈ V 2))) (W.drewN n) := fun n => BitMap.look (w := W.drewN n) ((hmp 2 b2 e2).below (bel_drewN hbW n) (hmp 2 b2 e2).lt) (small_wf r4.1 r4.2)
  have l3 : ∀ n, (Instr.lookup 60 (.map (some b3)) (.int .i64 m) false).run Tryz.prog (W.drewN n) = .ok (.bool (decide (m ∈ V 3))) (W.drewN n) := fun n => BitMap.look (w := W.drewN n) ((hmp 3 b3 e3).below (bel_drewN hbW n) (hmp 3 b3 e3).lt) (small_wf r3.1 r3.2)
  have l4 : ∀ n, (Instr.lookup 60 (.map (some b4)) (.int .i64 wd) false).run Tryz.prog (W.drewN n) = .ok (.bool (decide (wd ∈ V 4))) (W.drewN n) := fun n => BitMap.look (w := W.drewN n) ((hmp 4 b4 e4).below (bel_drewN hbW n) (hmp 4 b4 e4).lt) (small_wf r5.1 r5.2)
  have HW := Lib.hid hW
  have HBW := Lib.hid hbW
  clear hW hbW hxW hvc hlc hmp e0 e1 e2 e3 e4 f2 f4 hg r1 r2 r3 r4 r5
  generalize namedF V L ⟨y, m, d, wd, hh, mi⟩ = R at *
  generalize decide (mi ∈ V 0) = k0 at *
  generalize decide (hh ∈ V 1) = k1 at *
  generalize decide (d ∈ V 2) = k2 at *
  generalize decide (m ∈ V 3) = k3 at *
  generalize decide (wd ∈ V 4) = k4 at *
  cases k0 <;> cases k1 <;> cases k3
  case true.true.true =>
    by_cases h2 : s2 = [42]
    · have HR := Lib.hid (show R = k4 by rw [HF.out, if_neg (by simp), if_pos h2])
      subst h2
      clear HF
      go_enter Tryz.func11, Tryz.ntmps11
      go_upto_region 1 with (fail)
      rw [← HW.out]
      go_quiet (fail)
      go_wp2_with fail
      go_quiet (fail)
      go_wp2_with fail
      go_ret
      exact RetB.mk (by rw [HR.out]; rfl) (by first | exact bel_drewN (bel_drewN HBW.out _) _ | exact bel_drewN HBW.out _)
    · have hb2 : (s2 == [42]) = false := by simpa using h2
      by_cases h4 : s4 = [42]
      · have HR := Lib.hid (show R = k2 by rw [HF.out, if_neg (by simp), if_neg h2, if_pos h4])
        subst h4
        clear HF h2
        go_enter Tryz.func11, Tryz.ntmps11
        go_upto_region 1 with (fail)
        rw [← HW.out]
        go_quiet (fail)
        go_wp2_with fail
        go_quiet (fail)
        go_wp2_with fail
        go_ret
        exact RetB.mk (by rw [HR.out]; rfl) (by first | exact bel_drewN (bel_drewN HBW.out _) _ | exact bel_drewN HBW.out _)
      · have hb4 : (s4 == [42]) = false := by simpa using h4
        have HR := Lib.hid (show R = (k2 || k4) by rw [HF.out, if_neg (by simp), if_neg h2, if_neg h4])
        clear HF h2 h4
        cases k2
        all_goals
          go_enter Tryz.func11, Tryz.ntmps11
          go_upto_region 1 with (fail)
          rw [← HW.out]
          go_quiet (fail)
          go_wp2_with fail
          go_quiet (fail)
          go_wp2_with fail
          go_ret
          exact RetB.mk (by rw [HR.out]; rfl) (by first | exact bel_drewN (bel_drewN HBW.out _) _ | exact bel_drewN HBW.out _)
  all_goals
    have HR := Lib.hid (show R = false by rw [HF.out, if_pos (by simp)])
    clear HF
    go_enter Tryz.func11, Tryz.ntmps11
    go_upto_region 1 with (fail)
    rw [← HW.out]
    go_quiet (fail)
    go_wp2_with fail
    go_ret
    exact RetB.mk (by rw [HR.out]; rfl) (by first | exact bel_drewN (bel_drewN HBW.out _) _ | exact bel_drewN HBW.out _)

end Go.Proofs.YtldieadbkaphkaaGreatDoor

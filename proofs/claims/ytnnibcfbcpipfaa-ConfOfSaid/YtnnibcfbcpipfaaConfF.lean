/- conf.Cut; the statements' own 'same'. -/
import Derived.Test.YtnnibcfbcpipfaaConfE
namespace Go.Proofs.Ytnnibcfbcpipfaa
open Go.RowKit Go.Sort

/-- Without one. -/
def cutL (l : List Int) (x : Int) : List Int := l.filter fun y => !(y == x)

set_option maxRecDepth 100000 in
set_option maxHeartbeats 1000000 in
theorem cut_yes (w : World) (a : Option Addr) (n cap : Nat) (l : List Int) (h : Sl intv w (.slice a n cap) l) (x : Int) (hm : membersB l = true) (hx : 1 ≤ x ∧ x ≤ 7) (hin : x ∈ l) (hl : l.length ≠ 1) :
    Calls Try.prog 23 #[.slice a n cap, .int .i64 x] w (ConfR w (cutL l x)) := by
  have hlt := h.row_lt
  have hr := right_any (w.alloc (.cells #[.int .i64 x] 3)) a n cap l (h.alloc _)
  have hnd := fun w => node_any x w
  have hn : n = l.length := by obtain ⟨_, _, he, _⟩ := h; cases he; rfl
  have H := Lib.hid (fun (W : World) (hW : Below w.heap.size w W) => h.below hW hlt)
  obtain ⟨hl1, hl7, _⟩ := members_len hm
  rw [hm] at hr
  have hf : decide (1 ≤ x ∧ x ≤ 7) = true := by simp; omega
  rw [hf] at hnd
  have hdi : decide (x ∈ l) = true := by simpa using hin
  have hle : ((l.length : Int) == 1) = false := by simp; omega
  have HIN := Lib.hid hin
  clear hm hf hx h hlt hin hl
  subst hn
  go_enter Try.func23, Try.ntmps23
  go_wp2_with fail
  refine hr.mono ?_
  rintro e w1 ⟨rfl, hb1⟩
  have hbx := bheap hb1 (heap_new w (.cells #[.int .i64 x] 3)) (by simp)
  have hcx := cell_of_one hbx
  have hbb : Below w.heap.size w w1 := ((Below.refl _ _).alloc (Nat.le_refl _) _).trans (hb1.mono (by simp))
  have hh := has_any w1 a _ cap l (H.out _ hbb) x
  rw [hdi] at hh
  have hcl := clone_anyI w1 a _ cap l (H.out _ hbb) (by omega)
  have HBB := Lib.hid hbb
  have HBX := Lib.hid hbx
  have hs1 := hb1.size
  simp at hs1
  clear hdi hbb hbx hb1 hr
  go_wp2_with (first | (go_at_call 51; refine (hnd _).mono ?_; rintro e w' ⟨rfl, rfl⟩) | (go_at_call 20; refine hh.mono ?_; rintro e w' ⟨rfl, rfl⟩))
  refine hcl.mono ?_
  rintro e w2 ⟨v, rfl, hb2, _, hown2, hnew2⟩
  obtain ⟨g1, cap1, rfl, hH, hc1, hcm1, hg1⟩ := owns_holdsI hown2 (by omega)
  have hge := hnew2 g1 rfl
  have hs2 := hb2.size
  have hdel := deleteFunc_any w2 w.heap.size x (cell_of_one (bheap hb2 HBX.out (heap_lt HBX.out))) g1 cap1 (by omega) l hH hc1 hcm1 (by omega) HIN.out hg1
  have HB2 := Lib.hid (HBB.out.trans (hb2.mono HBB.out.size))
  have hcx2 := cell_of_one (bheap hb2 HBX.out (heap_lt HBX.out))
  clear hown2 hH hnew2 hcl hh hcx hb2
  go_wp2_with fail
  refine hdel.mono ?_
  rintro e w3 ⟨rfl, hk3, hs3⟩
  have HK3 := Lib.hid hk3
  have HS3 := Lib.hid hs3
  clear hk3 hs3 hdel
  go_wp2_with fail
  go_ret2
  refine ⟨some ⟨g1, 0, none⟩, cap1, rfl, HB2.out.trans (HK3.out.below HB2.out.size (fun k hk => by omega)), HS3.out, fun k hk => ?_⟩
  simp [Value.ownBlock] at hk
  omega

theorem same_len (w : World) (a : Option Addr) (n cap : Nat) (b : Option Addr) (m dap : Nat) (hne : n ≠ m) (_ : n ≤ 9223372036854775807) (_ : m ≤ 9223372036854775807) :
    Calls Try.prog 24 #[.slice a n cap, .slice b m dap] w (RetB (.bool false) w) := by
  have h1 : ((n : Int) == (m : Int)) = false := by simp; omega
  have h2 : ((n : Int) != (m : Int)) = true := by simp; omega
  clear hne
  go_enter Try.func24, Try.ntmps24
  go_wp2
  go_ret
  exact RetB.mk rfl (Below.refl _ _)

set_option maxRecDepth 100000 in
set_option maxHeartbeats 1000000 in
theorem same_any (w : World) (a : Option Addr) (n cap : Nat) (l : List Int) (h : Sl intv w (.slice a n cap) l) (b : Option Addr) (m dap : Nat) (g : Sl intv w (.slice b m dap) l) :
    Calls Try.prog 24 #[.slice a n cap, .slice b m dap] w (RetB (.bool true) w) := by
  have H := Lib.hid h
  have G := Lib.hid g
  obtain ⟨_, _, he, h1, h2, h3⟩ := h
  cases he
  obtain ⟨_, _, he, g1, g2, g3⟩ := g
  cases he
  unfold maxLen at h2 g2
  have hlm : l.length ≤ 9223372036854775807 := by omega
  have HL := Lib.hid h1
  have GL := Lib.hid g1
  clear h1 g1
  go_enter Try.func24, Try.ntmps24
  go_wp2
  go_loopw [13] (fun i wr => ∃ k m : Nat, k ≤ l.length ∧ i = .int .i64 k ∧ wr = w.drewN m) (fun i _ => l.length - (intOf i).toNat)
  case atStart => exact ⟨0, 0, by omega, rfl, rfl⟩
  case round =>
    obtain ⟨k, q, hk, rfl, rfl⟩ := hrel
    by_cases hlt : k < l.length
    · rcases h3 with ⟨rfl, rfl⟩ | ⟨b1, o1, rfl, hb1, hc1⟩
      · have := HL.out; omega
      · rcases g3 with ⟨rfl, rfl⟩ | ⟨b2, o2, rfl, hb2, hc2⟩
        · have := GL.out; omega
        · have hk0 : l[k]? = some l[k] := List.getElem?_eq_getElem hlt
          have hcell1 : w.cell? ⟨b1, o1 + k, none⟩ = some (.int .i64 l[k]) := hc1 k _ hk0
          have hcell2 : w.cell? ⟨b2, o2 + k, none⟩ = some (.int .i64 l[k]) := hc2 k _ hk0
          generalize l[k] = x at *
          clear hc1 hc2 hk0
          have i0 : (0 : Int) ≤ (k : Int) := by omega
          have i1 : ((k : Int)) < (l.length : Int) := by omega
          go_wp2
          go_quiet (fail)
          go_wp2
          go_roundw
          case rel => exact ⟨k + 1, q + nq, by omega, by go_num, rfl⟩
          case measure => simp [intOf]; omega
    · go_wp2
      go_ret
      exact RetB.mk rfl ⟨rfl, rfl, rfl, Nat.le_refl _, fun _ _ => rfl⟩

end Go.Proofs.Ytnnibcfbcpipfaa

/- conf.Cut: slices.DeleteFunc at []int. -/
import Derived.Test.YtnnibcfbcpipfaaConfD
import Derived.Lib.SliceRun
import Derived.Laws.IdiomCopy
namespace Go.Proofs.Ytnnibcfbcpipfaa
open Go.RowKit Go.Sort

theorem cut1_any (w : World) (pb : Nat) (x y : Int) (hp : w.cell? ⟨pb, 0, none⟩ = some (.int .i64 x)) : Calls Try.prog 55 #[.int .i64 y, .pointer (some ⟨pb, 0, none⟩)] w (Ret (.bool (y == x)) w) := by
  go_enter Try.func55, Try.ntmps55
  go_wp2
  go_ret
  exact Ret.mk rfl

theorem indexFunc_any (w : World) (pb : Nat) (x : Int) (hp : w.cell? ⟨pb, 0, none⟩ = some (.int .i64 x)) (a : Option Addr) (n cap : Nat) (l : List Int) (h : Sl intv w (.slice a n cap) l) (hin : x ∈ l) :
    Calls Try.prog 97 #[.slice a n cap, .func (Fn.func 55) #[] #[.pointer (some ⟨pb, 0, none⟩)]] w fun e w' => ∃ i : Nat, i < l.length ∧ l[i]? = some x ∧ x ∉ l.take i ∧ e = .returned (.int .i64 i) ∧ w = w' := by
  have HIN := Lib.hid hin
  have hcut := fun y => cut1_any w pb x y hp
  obtain ⟨a', cap', he, h1, h2, h3⟩ := h
  cases he
  unfold maxLen at h2
  have HLC := Lib.hid h1
  have hlm : l.length ≤ 9223372036854775807 := by omega
  clear h1 hp hin
  go_enter Try.func97, Try.ntmps97
  go_wp2
  go_loop [8] (fun i => ∃ k : Nat, k ≤ l.length ∧ i = .int .i64 k ∧ x ∉ l.take k) (fun i => l.length - (intOf i).toNat)
  case atStart => exact ⟨0, by omega, rfl, by simp⟩
  case round =>
    obtain ⟨k, hk, rfl, hm⟩ := hrel
    have HM := Lib.hid hm
    clear hm
    by_cases hlt : k < l.length
    · rcases h3 with ⟨rfl, rfl⟩ | ⟨b, o, rfl, hb, hc⟩
      · have := HLC.out; omega
      · have hk0 : l[k]? = some l[k] := List.getElem?_eq_getElem hlt
        have hcell : w.cell? ⟨b, o + k, none⟩ = some (.int .i64 l[k]) := hc k _ hk0
        have HTK := Lib.hid (show l.take (k + 1) = l.take k ++ [l[k]] by rw [List.take_succ_eq_append_getElem hlt])
        have hcy := hcut l[k]
        generalize l[k] = y at *
        have HK0 := Lib.hid hk0
        clear hc hk0 hcut
        cases he : (y == x)
        · rw [he] at hcy
          have HE := Lib.hid he
          clear he
          go_wp2_with (go_at_call 55; refine hcy.mono ?_; rintro e w' ⟨rfl, rfl⟩)
          go_round
          case rel =>
            refine ⟨k + 1, by omega, by go_num, ?_⟩
            rw [HTK.out, List.mem_append, not_or]
            refine ⟨HM.out, ?_⟩
            have : ¬ y = x := by simpa using HE.out
            simp
            exact fun e => this e.symm
          case measure => simp [intOf]; omega
        · rw [he] at hcy
          have HE := Lib.hid he
          clear he
          go_wp2_with (go_at_call 55; refine hcy.mono ?_; rintro e w' ⟨rfl, rfl⟩)
          go_ret
          have : y = x := by simpa using HE.out
          exact ⟨k, hlt, by rw [HK0.out, this], HM.out, rfl, rfl⟩
    · exfalso
      have := HM.out
      rw [List.take_of_length_le (by omega)] at this
      exact this HIN.out

theorem setCells_keeps (b : Nat) : ∀ (vs : List Value) (o : Nat) (w : World), Keeps (fun k => k = b) w (w.setCells b o vs)
  | [], _, w => Keeps.refl _ w
  | v :: r, o, w => ((Keeps.refl (fun k => k = b) w).setCell (.inl rfl) v).trans (setCells_keeps b r (o + 1) _)

theorem zero_i64 (w : World) : (zeroValue 3).run Try.prog w = .ok (.int .i64 0) w := by kernel_rfl

/-- The row between two rounds of DeleteFunc: what is kept of the first j lies ahead, the rest as it was. -/
structure DelI (l : List Int) (x : Int) (d : Array Int) (i j : Nat) : Prop where
  sz : d.size = l.length
  kept : ((l.take j).filter fun y => !(y == x)).length = i
  pre : ∀ k, k < i → d[k]! = ((l.take j).filter fun y => !(y == x)).getD k 0
  rest : ∀ k, j ≤ k → k < l.length → d[k]! = l.getD k 0

theorem DelI.skip {l : List Int} {x : Int} {d : Array Int} {i j : Nat} (h : DelI l x d i j) (hj : l[j]? = some x) : DelI l x d i (j + 1) := by
  obtain ⟨hlt, hx⟩ := List.getElem?_eq_some_iff.1 hj
  have e : (l.take (j + 1)).filter (fun y => !(y == x)) = (l.take j).filter fun y => !(y == x) := by
    rw [List.take_succ_eq_append_getElem hlt, List.filter_append, hx]
    simp
  exact ⟨h.sz, by rw [e]; exact h.kept, by rw [e]; exact h.pre, fun k hk => h.rest k (by omega)⟩

theorem DelI.keep {l : List Int} {x y : Int} {d : Array Int} {i j : Nat} (h : DelI l x d i j) (hj : l[j]? = some y) (hne : (y == x) = false) (hij : i < j) : DelI l x (d.setIfInBounds i y) (i + 1) (j + 1) := by
  obtain ⟨hlt, hx⟩ := List.getElem?_eq_some_iff.1 hj
  have e : (l.take (j + 1)).filter (fun y => !(y == x)) = (l.take j).filter (fun y => !(y == x)) ++ [y] := by
    rw [List.take_succ_eq_append_getElem hlt, List.filter_append, hx]
    simp [hne]
  have hs := h.sz
  refine ⟨by simp [hs], by rw [e, List.length_append, h.kept]; rfl, fun k hk => ?_, fun k hk hk2 => ?_⟩
  · rw [e]
    by_cases hki : k = i
    · subst hki
      rw [getElem!_set_same d k y (by omega), List.getD_eq_getElem?_getD, List.getElem?_append_right (by rw [h.kept]; omega), h.kept]
      simp
    · rw [getElem!_set_other d i k y hki, h.pre k (by omega), List.getD_eq_getElem?_getD, List.getD_eq_getElem?_getD, List.getElem?_append_left (by rw [h.kept]; omega)]
  · rw [getElem!_set_other d i k y (by omega)]
    exact h.rest k (by omega) hk2

set_option maxRecDepth 100000 in
set_option maxHeartbeats 2000000 in
theorem deleteFunc_any (w : World) (pb : Nat) (x : Int) (hp : w.cell? ⟨pb, 0, none⟩ = some (.int .i64 x)) (g cap : Nat) (hpg : pb ≠ g) (l : List Int) (hH : Holds intv w g 0 l.toArray) (hcap : l.length ≤ cap) (hcm : cap ≤ maxLen) (hl : l.length ≤ 1000) (hin : x ∈ l) (hg : g < w.heap.size) :
    Calls Try.prog 54 #[.slice (some ⟨g, 0, none⟩) l.length cap, .func (Fn.func 55) #[] #[.pointer (some ⟨pb, 0, none⟩)]] w
      fun e w' => e = .returned (.slice (some ⟨g, 0, none⟩) (l.filter fun y => !(y == x)).length cap) ∧ Keeps (fun k => k = g) w w' ∧ Sl intv w' (.slice (some ⟨g, 0, none⟩) (l.filter fun y => !(y == x)).length cap) (l.filter fun y => !(y == x)) := by
  have hsl : Sl intv w (.slice (some ⟨g, 0, none⟩) l.length cap) l := by
    refine ⟨_, cap, rfl, hcap, hcm, .inr ⟨g, 0, rfl, hg, fun i c hi => ?_⟩⟩
    obtain ⟨hi', he⟩ := List.getElem?_eq_some_iff.1 hi
    have := (hH i (by simpa using hi')).1
    rw [this, getElem!_pos l.toArray i (by simpa using hi')]
    simp [he]
  have hix := indexFunc_any w pb x hp _ _ _ l hsl hin
  have HH := Lib.hid hH
  have HP := Lib.hid hp
  have HC := Lib.hid hcap
  have HCM := Lib.hid hcm
  have hlenp : (l.filter fun y => !(y == x)).length < l.length :=
    List.length_filter_lt_length_iff_exists.2 ⟨x, hin, by simp⟩
  have HLP := Lib.hid hlenp
  clear hsl hH hp hin hcm hlenp
  go_enter Try.func54, Try.ntmps54
  go_wp2_with fail
  refine hix.mono ?_
  rintro e w' ⟨i0, hi0, hix0, hnot, rfl, rfl⟩
  have hd0 : DelI l x l.toArray i0 (i0 + 1) := by
    obtain ⟨hlt0, hx0⟩ := List.getElem?_eq_some_iff.1 hix0
    have ef : (l.take (i0 + 1)).filter (fun y => !(y == x)) = l.take i0 := by
      rw [List.take_succ_eq_append_getElem hlt0, List.filter_append, hx0]
      have h1 : (l.take i0).filter (fun y => !(y == x)) = l.take i0 := by
        rw [List.filter_eq_self]
        intro y hy
        have : y ≠ x := by rintro rfl; exact hnot hy
        simpa using this
      rw [h1]
      simp
    refine ⟨by simp, by rw [ef, List.length_take]; omega, fun k hk => ?_, fun k _ hk => ?_⟩
    · rw [ef, getElem!_pos l.toArray k (by simp; omega), List.getD_eq_getElem?_getD, List.getElem?_take, if_pos hk, List.getElem?_eq_getElem (by omega)]
      simp
    · rw [getElem!_pos l.toArray k (by simpa using hk), List.getD_eq_getElem?_getD, List.getElem?_eq_getElem hk]
      simp
  have HD0 := Lib.hid hd0
  have hi1 : ((i0 : Int) == -1) = false := by simp
  clear hix0 hnot hd0 hix
  go_wp2_with fail
  go_loopw [5, 6] (fun iv jv wr => ∃ (i j m : Nat) (d : Array Int), iv = .int .i64 i ∧ jv = .int .i64 j ∧ i < j ∧ j ≤ l.length ∧ wr = Sort.ahead (putRow intv w g 0 d) m ∧ DelI l x d i j) (fun _ jv _ => l.length - (intOf jv).toNat)
  case atStart => exact ⟨i0, i0 + 1, 0, l.toArray, rfl, by go_num, by omega, by omega, by rw [putRow_self intv w g 0 _ HH.out]; rfl, HD0.out⟩
  case round =>
    obtain ⟨i, j, m, d, rfl, rfl, hij, hj, hwr, hD⟩ := hrel
    have HD := Lib.hid hD
    have hh := holds_ahead intv _ m g 0 d (holds_putRow intv w g 0 l.toArray d HH.out (by rw [hD.sz]; simp))
    have hpc : wr.cell? ⟨pb, 0, none⟩ = some (.int .i64 x) := by
      rw [hwr]
      exact (cell?_putRow_other intv w g 0 d ⟨pb, 0, none⟩ (.inl hpg)).trans HP.out
    rw [← hwr] at hh
    have HWR := Lib.hid hwr
    clear hwr
    by_cases hlt : j < l.length
    · have hcell := (hh j (by rw [hD.sz]; exact hlt)).1
      have hfri := (hh i (by rw [hD.sz]; omega)).2
      have hcelli := (hh i (by rw [hD.sz]; omega)).1
      have hrest := hD.rest j (Nat.le_refl _) hlt
      have hjx : l[j]? = some (d[j]!) := by rw [hrest, List.getD_eq_getElem?_getD, List.getElem?_eq_getElem hlt]; rfl
      rw [Nat.zero_add] at hcell hfri hcelli
      have HJX := Lib.hid hjx
      have hcy := cut1_any wr pb x (d[j]!) hpc
      clear hrest hjx hD hh hpc
      generalize d[j]! = y at *
      generalize d[i]! = z at *
      unfold intv at hcell hcelli
      cases he : (y == x)
      · rw [he] at hcy
        have HE := Lib.hid he
        clear he
        go_wp2_with (go_at_call 55; refine hcy.mono ?_; rintro e w' ⟨rfl, rfl⟩)
        go_roundw
        case rel =>
          refine ⟨i + 1, j + 1, m, d.setIfInBounds i y, by go_num, by go_num, by omega, by omega, ?_, HD.out.keep HJX.out HE.out hij⟩
          have hsw := putRow_set intv w g 0 d i y (by rw [HD.out.sz]; omega)
          rw [Nat.zero_add] at hsw
          rw [HWR.out, setCell_ahead, ← hsw]
          rfl
        case measure => simp [intOf]; omega
      · rw [he] at hcy
        have HE := Lib.hid he
        clear he
        go_wp2_with (go_at_call 55; refine hcy.mono ?_; rintro e w' ⟨rfl, rfl⟩)
        go_roundw
        case rel =>
          have : y = x := by simpa using HE.out
          exact ⟨i, j + 1, m, d, rfl, by go_num, by omega, by omega, HWR.out, HD.out.skip (by rw [HJX.out, this])⟩
        case measure => simp [intOf]; omega
    · obtain rfl : j = l.length := by omega
      have hki := hD.kept
      rw [List.take_length] at hki
      have hfri : ∀ k, k < l.length - i → wr.frozen? ⟨g, i + k, none⟩ = false := fun k hk => by have := (hh (i + k) (by rw [hD.sz]; omega)).2; rwa [Nat.zero_add] at this
      have hcell : ∀ k, k < l.length - i → (wr.cell? ⟨g, i + k, none⟩).isSome = true := fun k hk => by have := (hh (i + k) (by rw [hD.sz]; omega)).1; rw [Nat.zero_add] at this; rw [this]; rfl
      have hclr := fun ty => Lib.run_clear_slice (P := Try.prog) wr 22 3 ty (.int .i64 0) Try.underlying22 zero_i64 rfl rfl g i (l.length - i) (cap - i) (by omega) hcell hfri
      have hcne : ¬ cap = i := by omega
      have HHH := Lib.hid hh
      have HKI := Lib.hid hki
      clear hh hki hD hpc hfri hcell
      go_wp2
      go_ret
      refine ⟨by rw [HKI.out]; rfl, ?_, ?_⟩
      · rw [HWR.out]
        exact (putRow_keepsI w g d m).trans (setCells_keeps g _ i _)
      · rw [HKI.out]
        have hci := HCM.out
        refine ⟨_, cap, by rw [HKI.out], by rw [HKI.out]; omega, hci, .inr ⟨g, 0, rfl, ?_, fun k c hk => ?_⟩⟩
        · have := ((putRow_keepsI w g d m).trans (setCells_keeps g (List.replicate (l.length - i) (.int .i64 0)) i _)).size
          rw [HWR.out]
          exact Nat.lt_of_lt_of_le hg this
        · obtain ⟨hk1, hk2⟩ := List.getElem?_eq_some_iff.1 hk
          rw [HKI.out] at hk1
          rw [Nat.zero_add, World.cell?_setCells_out g _ i wr ⟨g, k, none⟩ (fun _ _ => .inl hk1)]
          have := (HHH.out k (by rw [HD.out.sz]; omega)).1
          rw [Nat.zero_add] at this
          rw [this, HD.out.pre k hk1, List.take_length, List.getD_eq_getElem?_getD, hk]
          rfl

end Go.Proofs.Ytnnibcfbcpipfaa

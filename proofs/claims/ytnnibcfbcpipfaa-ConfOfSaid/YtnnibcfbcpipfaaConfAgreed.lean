/- The statement ConfAgreed: its walk. -/
import Derived.Test.YtnnibcfbcpipfaaConfA
import Derived.Test.YtnnibcfbcpipfaaOpenSl
namespace Go.Proofs.Ytnnibcfbcpipfaa
open Go.RowKit Go.Sort

theorem callable_lives23 (args : Array Value) (w : World) : (callFunc 47 args).run Try.prog w = .ok (Next.enter 47 args) w := by
  kernel_rfl

theorem callable_agreed1 (args : Array Value) (w : World) : (callFunc 13 args).run Try.prog w = .ok (Next.enter 13 args) w := by
  kernel_rfl

def exF (n : Int) : Int := if n = 1 then 5 else if n = 2 then 7 else if n = 3 then 2 else 0

theorem lives1_any (n : Int) (h : n = 1 ∨ n = 2 ∨ n = 3) (w : World) : Calls Try.prog 47 #[.int .i64 n] w (RetB (.int .u64 (exF n)) w) := by
  rcases h with rfl | rfl | rfl
  all_goals
    go_enter Try.func47, Try.ntmps47
    go_wp2
    go_ret
    exact RetB.mk rfl ((Below.refl _ _).alloc (Nat.le_refl _) _)

theorem ag_ex : agreedF [1, 2, 3] exF = 5 := by
  unfold agreedF sortA insertionSort
  simp [exF, insOuter, insInner, swp, ltInt]

theorem lives23 (w : World) : Calls Try.prog 12 #[] w (RetB (.bool true) w) := by
  have hs : Sl intv (w.alloc (.cells #[.int .i64 1, .int .i64 2, .int .i64 3] 3)) (.slice (some ⟨w.heap.size, 0, none⟩) 3 3) [1, 2, 3] := by
    refine ⟨_, 3, rfl, by simp, by unfold maxLen; omega, .inr ⟨w.heap.size, 0, rfl, by simp, fun i c hi => ?_⟩⟩
    rw [Nat.zero_add, cell_of_row _ _ i _ _ _ (heap_new _ _)]
    rcases i with _ | _ | _ | i <;> simp at hi <;> subst hi <;> rfl
  have hag := agreed_any _ _ _ _ _ hs (by decide) 47 #[] exF callable_lives23 (fun x hx W _ => lives1_any x (by simpa using hx) W)
  rw [ag_ex] at hag
  have hr := fun W => right_any W none 0 0 [] (Sl.nil _ _)
  rw [show membersB [] = false from rfl] at hr
  clear hs
  go_enter Try.func12, Try.ntmps12
  go_wp2_with fail
  refine hag.mono ?_
  rintro e w1 ⟨rfl, hb1⟩
  go_wp2_with fail
  refine (hr _).mono ?_
  rintro e w2 ⟨rfl, hb2⟩
  go_wp2_with fail
  go_ret
  have hs1 := hb1.size
  simp at hs1
  exact RetB.mk rfl ((((Below.refl _ _).alloc (Nat.le_refl _) _).trans (hb1.mono (by simp))).trans (hb2.mono (by omega)))

/-- What the statement's own function answers. -/
def ofF (zs : List Int) (n : Int) : Int := if 0 ≤ n ∧ n < zs.length then zs.getD n.toNat 0 else 0

theorem of1_any (w : World) (pb : Nat) (a : Option Addr) (len cap : Nat) (zs : List Int) (hp : w.heap[pb]? = some (.cells #[.slice a len cap] 23)) (hs : Sl u64v w (.slice a len cap) zs) (n : Int) (h1 : 1 ≤ n) (h7 : n ≤ 7) :
    Calls Try.prog 13 #[.int .i64 n, .pointer (some ⟨pb, 0, none⟩)] w (RetB (.int .u64 (ofF zs n)) w) := by
  have hcell := cell_of_one hp
  have hplt := heap_lt hp
  clear hp
  have HS := Lib.hid hs
  obtain ⟨a', cap', he, hl1, hl2, hx⟩ := hs
  cases he
  unfold maxLen at hl2
  obtain ⟨k, rfl⟩ : ∃ k : Nat, n = (k : Int) := ⟨n.toNat, by omega⟩
  by_cases hlt : k < zs.length
  · have e1 : ofF zs k = zs[k] := by
      unfold ofF
      rw [if_pos ⟨by omega, by omega⟩, show ((k : Int)).toNat = k by omega, List.getD_eq_getElem?_getD, List.getElem?_eq_getElem hlt]
      rfl
    rw [e1]
    rcases hx with ⟨rfl, rfl⟩ | ⟨b, o, rfl, hb, hc⟩
    · omega
    · have hcl : w.cell? ⟨b, o + k, none⟩ = some (.int .u64 zs[k]) := hc k _ (List.getElem?_eq_getElem hlt)
      generalize zs[k] = x at *
      clear e1 hc
      go_enter Try.func13, Try.ntmps13
      go_wp2
      go_ret
      exact RetB.mk rfl (Below.refl _ _)
  · have e1 : ofF zs k = 0 := by
      unfold ofF
      rw [if_neg (by omega)]
    rw [e1]
    clear e1 hx
    go_enter Try.func13, Try.ntmps13
    go_wp2
    go_ret
    exact RetB.mk rfl (Below.refl _ _)

theorem agreed_law (l : List Int) (f : Int → Int) (h : 1 ≤ l.length) :
    ((l.map f).any fun x => x == agreedF l f) = true ∧ l.length / 2 + 1 ≤ (l.map f).countP (fun x => decide (agreedF l f ≤ x)) ∧ (l.map f).countP (fun x => decide (agreedF l f < x)) < l.length / 2 + 1 := by
  have hp := sortA_perm (l.map f)
  have hsz := sortA_size (l.map f)
  have hso := sortA_sorted (l.map f)
  unfold agreedF
  rw [List.length_map] at hsz hso
  generalize sortA (l.map f) = S at *
  have hl : S.toList.length = l.length := by simpa using hsz
  have hq : l.length - (l.length / 2 + 1) < l.length := by omega
  have hget : ∀ i (hi : i < S.toList.length), S.toList[i] = S[i]! := fun i hi => by rw [getElem!_pos S i (by simpa using hi)]; simp
  generalize hr : l.length - (l.length / 2 + 1) = r at *
  have hg : S[r]! = S.toList[r]'(by omega) := (hget r (by omega)).symm
  refine ⟨?_, ?_, ?_⟩
  · rw [List.any_eq_true]
    refine ⟨S[r]!, (hp.mem_iff).1 ?_, by simp⟩
    rw [hg]
    exact List.getElem_mem _
  · rw [← hp.countP_eq]
    have : S.toList.countP (fun x => decide (S[r]! ≤ x)) ≥ (S.toList.drop r).countP (fun x => decide (S[r]! ≤ x)) := (List.drop_sublist r _).countP_le
    have h2 : (S.toList.drop r).countP (fun x => decide (S[r]! ≤ x)) = (S.toList.drop r).length := by
      rw [List.countP_eq_length]
      intro x hx
      obtain ⟨i, hi, rfl⟩ := List.getElem_of_mem hx
      rw [List.getElem_drop, hget]
      rw [List.length_drop] at hi
      rcases Nat.eq_zero_or_pos i with rfl | h0
      · simp
      · have := hso r (r + i) (by omega) (by omega)
        simpa using this
    rw [h2, List.length_drop] at this
    omega
  · rw [← hp.countP_eq]
    have h1 : S.toList.countP (fun x => decide (S[r]! < x)) = (S.toList.take (r + 1)).countP (fun x => decide (S[r]! < x)) + (S.toList.drop (r + 1)).countP (fun x => decide (S[r]! < x)) := by
      rw [← List.countP_append, List.take_append_drop]
    have h2 : (S.toList.take (r + 1)).countP (fun x => decide (S[r]! < x)) = 0 := by
      rw [List.countP_eq_zero]
      intro x hx
      obtain ⟨i, hi, rfl⟩ := List.getElem_of_mem hx
      rw [List.getElem_take, hget]
      rw [List.length_take] at hi
      rcases Nat.lt_or_ge i r with h0 | h0
      · have := hso i r h0 (by omega)
        simp; omega
      · obtain rfl : i = r := by omega
        simp
    have h3 := List.countP_le_length (p := fun x => decide (S[r]! < x)) (l := S.toList.drop (r + 1))
    rw [List.length_drop] at h3
    omega

theorem agreed_long (w : World) (a : Option Addr) (len cap : Nat) (ua : Option Addr) (un uc : Nat) (h : 20 < len) (h2 : len ≤ 9223372036854775807) :
    Calls Try.prog 3 #[.slice a len cap, .slice ua un uc] w (RetB (.bool true) w) := by
  go_enter Try.func3, Try.ntmps3
  go_wp2_with fail
  refine (lives23 _).mono ?_
  rintro e w1 ⟨rfl, hb1⟩
  go_wp2_with fail
  refine (lives23 _).mono ?_
  rintro e w2 ⟨rfl, hb2⟩
  go_wp2_with fail
  go_ret
  have h1 := hb1.size
  simp at h1
  exact RetB.mk rfl ((((Below.refl _ _).alloc (Nat.le_refl _) _).trans (hb1.mono (by simp))).trans (hb2.mono (by omega)))

theorem agreedw_no (w : World) (a : Option Addr) (len cap : Nat) (l : List Int) (ua : Option Addr) (un uc : Nat) (h : Sl intv w (.slice a len cap) l) (hl : l.length ≤ 20) (hm : membersB l = false) :
    Calls Try.prog 3 #[.slice a len cap, .slice ua un uc] w (RetB (.bool true) w) := by
  have hlen : len = l.length := by obtain ⟨_, _, he, _⟩ := h; cases he; rfl
  subst hlen
  have hlt := h.row_lt
  go_enter Try.func3, Try.ntmps3
  go_wp2_with fail
  refine (lives23 _).mono ?_
  rintro e w1 ⟨rfl, hb1⟩
  have hs1 := hb1.size
  simp at hs1
  have hB1 := ((Below.refl w.heap.size w).alloc (Nat.le_refl _) (.cells #[.slice ua un uc] 23)).trans (hb1.mono (by simp))
  have h1 := h.below hB1 hlt
  have hag := fun u => agreed_no w1 a l.length cap l h1 hm u
  have H1 := Lib.hid h1
  clear h h1
  go_wp2_with fail
  refine (hag _).mono ?_
  rintro e w2 ⟨rfl, hb2⟩
  have h2 : Sl intv w2 (.slice a l.length cap) l := H1.out.below hb2 H1.out.row_lt
  have hrr := refRight_any w2 a l.length cap l h2
  rw [hm] at hrr
  clear h2 hag
  go_wp2_with fail
  refine hrr.mono ?_
  rintro e w' ⟨rfl, rfl⟩
  go_wp2_with fail
  go_ret
  exact RetB.mk rfl (hB1.trans (hb2.mono (by omega)))

def cnt1 (g : Int) (xs : List Int) : Nat := xs.countP fun x => decide (g ≤ x)
def cnt2 (g : Int) (xs : List Int) : Nat := xs.countP fun x => decide (g < x)
def anyE (g : Int) (xs : List Int) : Bool := xs.any fun x => x == g
theorem cnt1_snoc (g : Int) (xs : List Int) (y : Int) : cnt1 g (xs ++ [y]) = cnt1 g xs + if g ≤ y then 1 else 0 := by
  simp [cnt1, List.countP_append, List.countP_cons]
theorem cnt2_snoc (g : Int) (xs : List Int) (y : Int) : cnt2 g (xs ++ [y]) = cnt2 g xs + if g < y then 1 else 0 := by
  simp [cnt2, List.countP_append, List.countP_cons]
theorem anyE_snoc (g : Int) (xs : List Int) (y : Int) : anyE g (xs ++ [y]) = (anyE g xs || y == g) := by
  simp [anyE]
theorem cnt1_le (g : Int) (xs : List Int) : cnt1 g xs ≤ xs.length := List.countP_le_length
theorem cnt2_le (g : Int) (xs : List Int) : cnt2 g xs ≤ xs.length := List.countP_le_length

set_option maxRecDepth 100000 in
set_option maxHeartbeats 2000000 in
theorem agreedw_yes (w : World) (a : Option Addr) (len cap : Nat) (l : List Int) (ua : Option Addr) (un uc : Nat) (zs : List Int) (h : Sl intv w (.slice a len cap) l) (hz : Sl u64v w (.slice ua un uc) zs) (hm : membersB l = true) :
    Calls Try.prog 3 #[.slice a len cap, .slice ua un uc] w (RetB (.bool true) w) := by
  have hlen : len = l.length := by obtain ⟨_, _, he, _⟩ := h; cases he; rfl
  subst hlen
  have hlt := h.row_lt
  obtain ⟨hl1, hl7, hmm⟩ := members_len hm
  obtain ⟨hlaw1, hlaw2, hlaw3⟩ := agreed_law l (ofF zs) hl1
  have HLAW1 := Lib.hid hlaw1
  have HLAW2 := Lib.hid hlaw2
  have HLAW3 := Lib.hid hlaw3
  have HMM := Lib.hid hmm
  have HZ0 := Lib.hid hz
  have H0 := Lib.hid h
  clear hlaw1 hlaw2 hlaw3 hmm
  go_enter Try.func3, Try.ntmps3
  go_wp2_with fail
  obtain ⟨w0, hw0⟩ : ∃ w0, w0 = w.alloc (.cells #[.slice ua un uc] 23) := ⟨_, rfl⟩
  have hsz0 : w0.heap.size = w.heap.size + 1 := by rw [hw0]; simp
  have hbx : w0.heap[w.heap.size]? = some (.cells #[.slice ua un uc] 23) := by rw [hw0]; exact heap_new _ _
  have hs0 : Sl intv w0 (.slice a l.length cap) l := by rw [hw0]; exact h.alloc _
  have hz0 : Sl u64v w0 (.slice ua un uc) zs := by rw [hw0]; exact hz.alloc _
  have hbw0 : Below w.heap.size w w0 := by rw [hw0]; exact (Below.refl _ _).alloc (Nat.le_refl _) _
  rw [← hw0]
  have HOF : Hid (∀ W, Below w0.heap.size w0 W → ∀ n, 1 ≤ n → n ≤ 7 → Calls Try.prog 13 #[.int .i64 n, .pointer (some ⟨w.heap.size, 0, none⟩)] W (RetB (.int .u64 (ofF zs n)) W)) :=
    Lib.hid fun W hW n h1 h7 => of1_any W _ ua un uc zs (bheap hW hbx (by omega)) (hz0.below hW hz0.row_lt) n h1 h7
  have HSL : Hid (∀ W, Below w0.heap.size w0 W → Sl intv W (.slice a l.length cap) l) := Lib.hid fun W hW => hs0.below hW hs0.row_lt
  have HW0 := Lib.hid hbw0
  have HSZ := Lib.hid hsz0
  clear hw0 hbx hs0 hz0 hbw0 h hz hlt hsz0
  refine (lives23 _).mono ?_
  rintro e w1 ⟨rfl, hb1⟩
  have hag := agreed_any w1 a l.length cap l (HSL.out _ hb1) hm 13 #[.pointer (some ⟨w.heap.size, 0, none⟩)] (ofF zs) callable_agreed1 (fun x hx W hW => HOF.out W (hb1.trans (hW.mono hb1.size)) x (HMM.out x hx).1 (HMM.out x hx).2)
  generalize hG : agreedF l (ofF zs) = G at *
  have HG := Lib.hid hG
  clear hG
  go_wp2_with fail
  refine hag.mono ?_
  rintro e w2 ⟨rfl, hb2⟩
  have hb2' := hb1.trans (hb2.mono hb1.size)
  have hrr := refRight_any w2 a l.length cap l (HSL.out _ hb2')
  rw [hm] at hrr
  clear hag hb2 hm
  go_wp2_with fail
  refine hrr.mono ?_
  rintro e w' ⟨rfl, rfl⟩
  clear hrr
  go_wp2_with fail
  go_loopw [7, 8, 9, 31] (fun hv mv iv i wr => ∃ k : Nat, k ≤ l.length ∧ i = .int .i64 k ∧ hv = .int .i64 (cnt1 G ((l.take k).map (ofF zs))) ∧ mv = .int .i64 (cnt2 G ((l.take k).map (ofF zs))) ∧ iv = .bool (anyE G ((l.take k).map (ofF zs))) ∧ Below w0.heap.size w0 wr) (fun _ _ _ i _ => l.length - (intOf i).toNat)
  case atStart => exact ⟨0, by omega, rfl, rfl, rfl, rfl, hb2'⟩
  case round =>
    obtain ⟨k, hk, rfl, rfl, rfl, rfl, hb⟩ := hrel
    have HB := Lib.hid hb
    have hc1 := cnt1_le G ((l.take k).map (ofF zs))
    have hc2 := cnt2_le G ((l.take k).map (ofF zs))
    rw [List.length_map, List.length_take] at hc1 hc2
    by_cases hlk : k < l.length
    · obtain ⟨_, _, he, hlc, _, hx⟩ := HSL.out wr hb
      cases he
      rcases hx with ⟨rfl, rfl⟩ | ⟨b, o, rfl, hbb, hc⟩
      · exact absurd hlc (by omega)
      · have hk0 : l[k]? = some l[k] := List.getElem?_eq_getElem hlk
        have hcell : wr.cell? ⟨b, o + k, none⟩ = some (.int .i64 l[k]) := hc k _ hk0
        obtain ⟨hx0, hx1⟩ := HMM.out l[k] (List.getElem_mem hlk)
        have hofw : ∀ W, Below wr.heap.size wr W → Calls Try.prog 13 #[.int .i64 l[k], .pointer (some ⟨w.heap.size, 0, none⟩)] W (RetB (.int .u64 (ofF zs l[k])) W) := fun W hW => HOF.out W (hb.trans (hW.mono hb.size)) _ hx0 hx1
        have htk : (l.take (k + 1)).map (ofF zs) = (l.take k).map (ofF zs) ++ [ofF zs l[k]] := by rw [List.take_succ_eq_append_getElem hlk, List.map_append]; rfl
        have HTK := Lib.hid htk
        have hs1 := cnt1_snoc G ((l.take k).map (ofF zs)) (ofF zs l[k])
        have hs2 := cnt2_snoc G ((l.take k).map (ofF zs)) (ofF zs l[k])
        have hs3 := anyE_snoc G ((l.take k).map (ofF zs)) (ofF zs l[k])
        rw [← htk] at hs1 hs2 hs3
        generalize ofF zs l[k] = y at *
        generalize l[k] = x at *
        generalize cnt1 G ((l.take k).map (ofF zs)) = c1 at *
        generalize cnt2 G ((l.take k).map (ofF zs)) = c2 at *
        generalize anyE G ((l.take k).map (ofF zs)) = ai at *
        have HS1 := Lib.hid hs1
        have HS2 := Lib.hid hs2
        have HS3 := Lib.hid hs3
        have hc1' : c1 ≤ 7 := by omega
        have hc2' : c2 ≤ 7 := by omega
        have HOX := Lib.hid hofw
        clear hs1 hs2 hs3 htk hc hk0 hc1 hc2 hb hofw
        have hcs : y < G ∨ y = G ∨ G < y := by omega
        cases ai
        · rcases hcs with h1 | rfl | h1
          all_goals
            go_wp2_with fail
            refine (HOX.out wr (Below.refl _ _)).mono ?_
            rintro e w3 ⟨rfl, hb3⟩
            go_wp2_with fail
            refine (HOX.out w3 hb3).mono ?_
            rintro e w4 ⟨rfl, hb4⟩
            have hb4' := hb3.trans (hb4.mono hb3.size)
            go_wp2_with fail
            refine (HOX.out w4 hb4').mono ?_
            rintro e w5 ⟨rfl, hb5⟩
            have hb5' := hb4'.trans (hb5.mono hb4'.size)
            clear hb3 hb4 hb5 hb4'
            go_wp2_with fail
            go_roundw
            case rel =>
              refine ⟨k + 1, by omega, by go_num, ?_, ?_, ?_, HB.out.trans (hb5'.mono HB.out.size)⟩
              · rw [HS1.out]; (first | rw [if_pos (show _ ≤ _ by omega)] | rw [if_neg (show ¬ _ ≤ _ by omega)]); (first | rfl | go_num)
              · rw [HS2.out]; (first | rw [if_pos (show _ < _ by omega)] | rw [if_neg (show ¬ _ < _ by omega)]); (first | rfl | go_num)
              · rw [HS3.out]; simp
            case measure => simp [intOf]; omega
        · rcases hcs with h1 | rfl | h1
          all_goals
            go_wp2_with fail
            refine (HOX.out wr (Below.refl _ _)).mono ?_
            rintro e w3 ⟨rfl, hb3⟩
            go_wp2_with fail
            refine (HOX.out w3 hb3).mono ?_
            rintro e w4 ⟨rfl, hb4⟩
            have hb4' := hb3.trans (hb4.mono hb3.size)
            clear hb3 hb4
            go_wp2_with fail
            go_roundw
            case rel =>
              refine ⟨k + 1, by omega, by go_num, ?_, ?_, ?_, HB.out.trans (hb4'.mono HB.out.size)⟩
              · rw [HS1.out]; (first | rw [if_pos (show _ ≤ _ by omega)] | rw [if_neg (show ¬ _ ≤ _ by omega)]); (first | rfl | go_num)
              · rw [HS2.out]; (first | rw [if_pos (show _ < _ by omega)] | rw [if_neg (show ¬ _ < _ by omega)]); (first | rfl | go_num)
              · rw [HS3.out]; simp
            case measure => simp [intOf]; omega
    · obtain rfl : k = l.length := by omega
      have p1 : anyE G ((l.take l.length).map (ofF zs)) = true := by rw [List.take_length]; exact HLAW1.out
      have p2 : l.length / 2 + 1 ≤ cnt1 G ((l.take l.length).map (ofF zs)) := by rw [List.take_length]; exact HLAW2.out
      have p3 : cnt2 G ((l.take l.length).map (ofF zs)) < l.length / 2 + 1 := by rw [List.take_length]; exact HLAW3.out
      rw [p1]
      generalize cnt1 G ((l.take l.length).map (ofF zs)) = c1 at *
      generalize cnt2 G ((l.take l.length).map (ofF zs)) = c2 at *
      clear p1 hb
      have q2 : (l.length : Int) / 2 + 1 ≤ (c1 : Int) := by omega
      have q3 : (c2 : Int) < (l.length : Int) / 2 + 1 := by omega
      clear p2 p3 hc1 hc2
      go_wp2_with fail
      go_ret
      exact RetB.mk (bool_eq (by simp; try omega)) (HW0.out.trans (HB.out.mono HW0.out.size))

theorem agreedw_any (w : World) (a : Option Addr) (len cap : Nat) (l : List Int) (ua : Option Addr) (un uc : Nat) (zs : List Int) (h : SlOk .i64 w (.slice a len cap) l) (hz : SlOk .u64 w (.slice ua un uc) zs) :
    Calls Try.prog 3 #[.slice a len cap, .slice ua un uc] w (RetB (.bool true) w) := by
  obtain ⟨⟨_, _, he, h1, h2, _⟩, _⟩ := id h
  cases he
  unfold maxLen at h2
  by_cases hl : 20 < l.length
  · exact agreed_long w a _ cap ua un uc hl (by omega)
  · cases hm : membersB l
    · exact agreedw_no w a _ cap l ua un uc h.1 (by omega) hm
    · exact agreedw_yes w a _ cap l ua un uc zs h.1 hz.1 hm

end Go.Proofs.Ytnnibcfbcpipfaa

/- conf.Agreed: what a majority has. -/
import Derived.Test.YtbfhgljmopgejaaGreatConfP
import Derived.Test.YtbfhgljmopgejaaGreatSortB
namespace Go.Proofs.YtbfhgljmopgejaaGreat
open Go.RowKit Go.Sort

theorem info_u64 : (Tryz.prog.info? 23).map (fun i => (i.zero, i.size, i.bytes)) = some (some (.int .u64 0), 1, 8) := by kernel_rfl

theorem majority_any (w : World) (a : Option Addr) (n cap : Nat) (hn : n ≤ 9223372036854775800) : Calls Tryz.prog 76 #[.slice a n cap] w (Ret (.int .i64 ((n / 2 + 1 : Nat) : Int)) w) := by
  go_enter Tryz.func76, Tryz.ntmps76
  go_wp2
  go_ret
  exact Ret.mk (int_eq (by omega))

/-- A row of numbers, sorted. -/
def sortA (xs : List Int) : Array Int := insertionSort ltInt xs.toArray 0 xs.toArray.size

theorem sortA_perm (xs : List Int) : (sortA xs).toList.Perm xs := by
  have h := (insertionSort_holds (lt := ltInt) swo_ltInt xs.toArray 0 xs.toArray.size (Nat.zero_le _) (Nat.le_refl _)).1
  have h3 := h.2.2
  have hs : (insertionSort ltInt xs.toArray 0 xs.toArray.size).size = xs.toArray.size := h.1
  have e1 : xs.toArray.extract 0 xs.toArray.size = xs.toArray := Array.extract_size
  have e2 : (insertionSort ltInt xs.toArray 0 xs.toArray.size).extract 0 xs.toArray.size = insertionSort ltInt xs.toArray 0 xs.toArray.size := by
    have := Array.extract_size (xs := insertionSort ltInt xs.toArray 0 xs.toArray.size)
    rwa [hs] at this
  rw [e1, e2] at h3
  exact h3

theorem sortA_size (xs : List Int) : (sortA xs).size = xs.length := by
  have := (sortA_perm xs).length_eq
  simpa using this

theorem sortA_sorted (xs : List Int) (i j : Nat) (hij : i < j) (hj : j < xs.length) : (sortA xs)[i]! ≤ (sortA xs)[j]! := by
  have h := (insertionSort_holds (lt := ltInt) swo_ltInt xs.toArray 0 xs.toArray.size (Nat.zero_le _) (Nat.le_refl _)).2
  exact Int.not_lt.1 (of_decide_eq_false (h i j (Nat.zero_le _) hij (by simpa using hj)))

/-- The greatest number that a majority has. -/
def agreedF (l : List Int) (f : Int → Int) : Int := (sortA (l.map f))[l.length - (l.length / 2 + 1)]!

theorem owns_holds {w : World} {T : TypeId} {v : Value} {l : List Int} (h : w.ownsRow 0 T 1 v l.length (l.map u64v)) (h0 : 0 < l.length) : ∃ g cap, v = .slice (some ⟨g, 0, none⟩) l.length cap ∧ Holds u64v w g 0 l.toArray ∧ l.length ≤ cap ∧ g < w.heap.size := by
  rcases h.2 with ⟨_, h1⟩ | ⟨g, cap, cur, rfl, _, hg, hn, hm, hc, ht⟩
  · omega
  · refine ⟨g, cap, rfl, fun j hj => ?_, hn, heap_lt hg⟩
    have hj' : j < l.length := by simpa using hj
    refine ⟨?_, by simp [World.frozen?, hg]⟩
    rw [Nat.zero_add, cell_of_row w g j cur T (0, 0) hg]
    have h1 : (l.map u64v)[j]? = some (u64v l[j]) := by rw [List.getElem?_map, List.getElem?_eq_getElem hj']; rfl
    rw [← ht, List.getElem?_take] at h1
    split at h1
    · have h2 : cur[j]? = some (u64v l[j]) := by simpa using h1
      rw [h2, getElem!_pos l.toArray j hj]
      simp
    · cases h1

theorem putRow_keeps (w : World) (g : Nat) (d : Array Int) (n : Nat) : Keeps (fun k => k = g) w (Sort.ahead (putRow u64v w g 0 d) n) := by
  refine ⟨rfl, rfl, rfl, ?_, fun k hk hn => ?_⟩
  · simp [Sort.ahead, putRow, mapBlock]
  · show (w.heap.modify g _)[k]? = _
    rw [Array.getElem?_modify, if_neg (fun e => hn e.symm)]

section
variable (w : World) (a : Option Addr) (n cap : Nat) (l : List Int) (h : Sl intv w (.slice a n cap) l)
include h

theorem agreed_no (hm : membersB l = false) (u : Value) : Calls Tryz.prog 63 #[.slice a n cap, u] w (RetB (.int .u64 0) w) := by
  have hr := right_any w a n cap l h
  rw [hm] at hr
  clear h hm
  go_enter Tryz.func63, Tryz.ntmps63
  go_wp2_with fail
  refine hr.mono ?_
  rintro e w1 ⟨rfl, hb⟩
  go_wp2_with fail
  go_ret
  exact RetB.mk rfl hb

set_option maxRecDepth 100000 in
set_option maxHeartbeats 1000000 in
theorem agreed_any (hm : membersB l = true) (g : Nat) (caps : Array Value) (f : Int → Int) (hC : ∀ (args : Array Value) (w : World), (callFunc g args).run Tryz.prog w = .ok (Next.enter g args) w) (hF : ∀ x ∈ l, ∀ W, Below w.heap.size w W → Calls Tryz.prog g (#[.int .i64 x] ++ caps) W (RetB (.int .u64 (f x)) W)) :
    Calls Tryz.prog 63 #[.slice a n cap, .func (Fn.func g) #[] caps] w (RetB (.int .u64 (agreedF l f)) w) := by
  have hr := right_any w a n cap l h
  rw [hm] at hr
  obtain ⟨hl1, hl7, hmm⟩ := members_len hm
  have HF := Lib.hid hF
  have HS := Lib.hid h
  have hlt := h.row_lt
  have HLT := Lib.hid hlt
  obtain ⟨a', cap', he, h1, h2, hx⟩ := h
  cases he
  obtain ⟨i0, hi, hz0, hz1, hz2⟩ := info_parts info_u64
  clear hm hmm hlt h1 h2
  clear hF
  rcases hx with ⟨rfl, rfl⟩ | ⟨b, o, rfl, hb, hc⟩
  · have := HS.out.none_nil.1
    rw [this] at hl1
    simp at hl1
  clear hc
  go_enter Tryz.func63, Tryz.ntmps63
  go_wp2_with fail
  refine hr.mono ?_
  rintro e w1 ⟨rfl, hb1⟩
  clear hr
  go_wp2_with fail
  go_loopw [5, 13] (fun v i wr => ∃ k : Nat, k ≤ l.length ∧ i = .int .i64 k ∧ wr.ownsRow 0 23 1 v k (((l.take k).map f).map u64v) ∧ (∀ j, v.ownBlock = some j → w.heap.size ≤ j) ∧ Below w.heap.size w wr) (fun _ i _ => l.length - (intOf i).toNat)
  case atStart => exact ⟨0, by omega, rfl, by simpa using World.ownsRow_nil _ _ _ _, by simp [Value.ownBlock], hb1⟩
  case round =>
    obtain ⟨k, hk, rfl, hown, hnew, hbw⟩ := hrel
    have HO := Lib.hid hown
    have HN := Lib.hid hnew
    have HB := Lib.hid hbw
    clear hb1
    by_cases hlk : k < l.length
    · have hsw := HS.out.below hbw HLT.out
      obtain ⟨_, _, he, _, _, hx2⟩ := hsw
      cases he
      rcases hx2 with ⟨h, _⟩ | ⟨b', o', he, hb', hc'⟩
      · cases h
      · cases he
        have hk0 : l[k]? = some l[k] := List.getElem?_eq_getElem hlk
        have hcell : wr.cell? ⟨b, o + k, none⟩ = some (.int .i64 l[k]) := hc' k _ hk0
        have hfx := HF.out l[k] (List.getElem_mem hlk) wr hbw
        have HTK := Lib.hid (show l.take (k + 1) = l.take k ++ [l[k]] by rw [List.take_succ_eq_append_getElem hlk])
        generalize l[k] = x at *
        clear hc' hk0 hown hnew hbw
        go_wp2_with fail
        have HC := hC (#[.int .i64 x] ++ caps) wr
        refine hfx.mono ?_
        rintro e w2 ⟨rfl, hb2⟩
        have hown2 := owns_kept HO.out (Keeps.of_belowS (S := fun _ => False) hb2) (fun _ _ h => h)
        have HO2 := Lib.hid hown2
        have HM0 := Lib.hid (show k + 1 ≤ maxLen by unfold maxLen; omega)
        have HM1 := Lib.hid (show (k + 1) * 8 ≤ 140737488355328 by omega)
        clear hown2 hfx
        go_wp2_with (at_builtin; refine wpList_append_one w2 rfl _ _ _ rfl 23 i0 (.int .u64 0) 8 Tryz.underlying126 hi hz0 hz1 hz2 rfl u5 k _ rfl HO2.out (.int .u64 (f x)) _ rfl rfl HM0.out HM1.out ?_; intro v' w3 hown3 hg3 hrow3; have HO3 := Lib.hid hown3; have HG3 := Lib.hid hg3; have HR3 := Lib.hid hrow3; clear hown3 hg3 hrow3)
        go_roundw
        case rel =>
          have hbw2 : Below w.heap.size w w2 := HB.out.trans (hb2.mono HB.out.size)
          have hs2 := hbw2.size
          refine ⟨k + 1, by omega, by go_num, ?_, ?_, ?_⟩
          · have := HO3.out
            rw [HTK.out]
            simpa [u64v] using this
          · intro j hj
            rcases HR3.out with h1 | ⟨i, h1, h2, _⟩
            · exact HN.out j (h1 ▸ hj)
            · rw [h1] at hj; cases hj; simp at h2; omega
          · have h1 : Keeps (fun k => w.heap.size ≤ k) w w3 := ((Keeps.of_below hbw2).alloc _).trans (grown_keeps HG3.out fun k hk => HN.out k hk.symm)
            exact h1.below (Nat.le_refl _) (fun k hk => hk)
        case measure => simp [intOf]; omega
    · obtain rfl : k = l.length := by omega
      rw [List.take_length] at hown
      have hown' : wr.ownsRow 0 23 1 u5 (l.map f).length ((l.map f).map u64v) := by simpa using hown
      obtain ⟨g1, cap1, rfl, hH, hc1, hg1⟩ := owns_holds hown' (by simp; omega)
      have hge : w.heap.size ≤ g1 := HN.out g1 rfl
      have hsz : (l.map f).toArray.size = l.length := by simp
      have hsort := sort_few wr g1 cap1 (l.map f).toArray hH (by rw [hsz]; omega)
      have esz : (l.map f).length = l.length := by simp
      rw [hsz] at hsort
      have hmaj := fun W => majority_any W (some ⟨b, o, none⟩) l.length cap (by omega)
      have HH := Lib.hid hH
      have HESZ := Lib.hid esz
      have HSZ := Lib.hid hsz
      rw [esz]
      clear hown hown' hnew hbw hH hsz esz
      go_wp2_with fail
      refine hsort.mono ?_
      rintro e w2 ⟨rfl, nd, hw2⟩
      have hsz2 : (insertionSort ltInt (l.map f).toArray 0 l.length).size = (l.map f).toArray.size := by
        have := sortA_size (l.map f)
        unfold sortA at this
        rw [HSZ.out] at this
        rw [this]; simp
      have hq : l.length / 2 + 1 ≤ l.length := by omega
      have hcell := (holds_putRow u64v wr g1 0 _ _ HH.out hsz2 (l.length - (l.length / 2 + 1)) (by rw [hsz2, HSZ.out]; omega)).1
      have hcell2 : w2.cell? ⟨g1, l.length - (l.length / 2 + 1), none⟩ = some (.int .u64 (agreedF l f)) := by
        subst hw2
        rw [Nat.zero_add] at hcell
        unfold agreedF sortA
        rw [HSZ.out]
        exact hcell
      have HK2 := Lib.hid (putRow_keeps wr g1 (insertionSort ltInt (l.map f).toArray 0 l.length) nd)
      rw [← hw2] at HK2
      clear hcell hw2 hsort hsz2
      generalize agreedF l f = res at *
      have hidx : l.length - (l.length / 2 + 1) < l.length := by omega
      have hidx2 : ((l.length : Int) - ((l.length / 2 + 1 : Nat) : Int)) = ((l.length - (l.length / 2 + 1) : Nat) : Int) := by omega
      generalize l.length / 2 + 1 = q at *
      generalize hr : l.length - q = r at *
      have HR := Lib.hid hr
      clear hr
      go_wp2_with (go_at_call 76; refine (hmaj _).mono ?_; rintro e w' ⟨rfl, rfl⟩)
      go_ret
      exact RetB.mk rfl (HB.out.trans (HK2.out.below HB.out.size (fun k hk => by omega)))
end

end Go.Proofs.YtbfhgljmopgejaaGreat

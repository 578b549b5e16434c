/- conf.Add and conf.Cut. -/
import Derived.Test.YtnnibcfbcpipfaaConfC
import Derived.Test.YtnnibcfbcpipfaaConfA
import Derived.Test.YtnnibcfbcpipfaaSortIB
namespace Go.Proofs.Ytnnibcfbcpipfaa
open Go.RowKit Go.Sort

theorem owns_holdsI {w : World} {T : TypeId} {v : Value} {l : List Int} (h : w.ownsRow 0 T 1 v l.length (l.map intv)) (h0 : 0 < l.length) : ∃ g cap, v = .slice (some ⟨g, 0, none⟩) l.length cap ∧ Holds intv w g 0 l.toArray ∧ l.length ≤ cap ∧ cap ≤ maxLen ∧ g < w.heap.size := by
  rcases h.2 with ⟨_, h1⟩ | ⟨g, cap, cur, rfl, _, hg, hn, hm, hc, ht⟩
  · omega
  · refine ⟨g, cap, rfl, fun j hj => ?_, hn, hm, heap_lt hg⟩
    have hj' : j < l.length := by simpa using hj
    refine ⟨?_, by simp [World.frozen?, hg]⟩
    rw [Nat.zero_add, cell_of_row w g j cur T (0, 0) hg]
    have h1 : (l.map intv)[j]? = some (intv l[j]) := by rw [List.getElem?_map, List.getElem?_eq_getElem hj']; rfl
    rw [← ht, List.getElem?_take] at h1
    split at h1
    · have h2 : cur[j]? = some (intv l[j]) := by simpa using h1
      rw [h2, getElem!_pos l.toArray j hj]
      simp
    · cases h1

theorem putRow_keepsI (w : World) (g : Nat) (d : Array Int) (n : Nat) : Keeps (fun k => k = g) w (Sort.ahead (putRow intv w g 0 d) n) := by
  refine ⟨rfl, rfl, rfl, ?_, fun k hk hn => ?_⟩
  · simp [Sort.ahead, putRow, mapBlock]
  · show (w.heap.modify g _)[k]? = _
    rw [Array.getElem?_modify, if_neg (fun e => hn e.symm)]


/-- The row behind a sort, as a slice that is read. -/
theorem sorted_sl {w w' : World} {g cap nd : Nat} {l : List Int} (hH : Holds intv w g 0 l.toArray) (hc : l.length ≤ cap) (hm : cap ≤ maxLen) (hg : g < w.heap.size) (hw : w' = Sort.ahead (putRow intv w g 0 (sortA l)) nd) :
    Sl intv w' (.slice (some ⟨g, 0, none⟩) (sortA l).toList.length cap) (sortA l).toList := by
  have hsz := sortA_size l
  have hk := putRow_keepsI w g (sortA l) nd
  rw [← hw] at hk
  refine ⟨_, cap, rfl, by simp [hsz]; omega, hm, .inr ⟨g, 0, rfl, Nat.lt_of_lt_of_le hg hk.size, fun i c hi => ?_⟩⟩
  have hi' : i < (sortA l).size := by have := (List.getElem?_eq_some_iff.1 hi).1; simpa using this
  have h1 := (holds_putRow intv w g 0 l.toArray (sortA l) hH (by rw [hsz]; simp) i hi').1
  subst hw
  refine h1.trans ?_
  rw [getElem!_pos (sortA l) i hi']
  have h2 := (List.getElem?_eq_some_iff.1 hi).2
  rw [← h2]
  simp

/-- With one more, sorted. -/
def insL (l : List Int) (n : Int) : List Int := (sortA (l ++ [n])).toList

theorem callable_cut1 (args : Array Value) (w : World) : (callFunc 55 args).run Try.prog w = .ok (Next.enter 55 args) w := by
  kernel_rfl

theorem node_any (x : Int) (w : World) : Calls Try.prog 51 #[.int .i64 x] w (Ret (.bool (decide (1 ≤ x ∧ x ≤ 7))) w) := by
  by_cases h1 : 1 ≤ x <;> by_cases h2 : x ≤ 7
  all_goals
    go_enter Try.func51, Try.ntmps51
    go_wp2
    go_ret
    exact Ret.mk (bool_eq (by simp; try omega))

section
variable (w : World) (a : Option Addr) (n cap : Nat) (l : List Int) (h : Sl intv w (.slice a n cap) l) (x : Int)
include h

theorem add_arg (hm : membersB l = false ∨ membersB l = true ∧ ¬ (1 ≤ x ∧ x ≤ 7)) : Calls Try.prog 22 #[.slice a n cap, .int .i64 x] w (RetB (.tuple #[.slice none 0 0, .int .i64 1]) w) := by
  have hr := right_any w a n cap l h
  have hnd := fun w => node_any x w
  clear h
  rcases hm with hm | ⟨hm, hx⟩
  · rw [hm] at hr
    clear hm
    go_enter Try.func22, Try.ntmps22
    go_wp2_with fail
    refine hr.mono ?_
    rintro e w1 ⟨rfl, hb1⟩
    go_wp2_with fail
    go_ret2
    exact RetB.mk rfl hb1
  · rw [hm] at hr
    have hf : decide (1 ≤ x ∧ x ≤ 7) = false := by simp; omega
    rw [hf] at hnd
    clear hm hf hx
    go_enter Try.func22, Try.ntmps22
    go_wp2_with fail
    refine hr.mono ?_
    rintro e w1 ⟨rfl, hb1⟩
    go_wp2_with (go_at_call 51; refine (hnd _).mono ?_; rintro e w' ⟨rfl, rfl⟩)
    go_ret2
    exact RetB.mk rfl hb1

theorem add_same (hm : membersB l = true) (hx : 1 ≤ x ∧ x ≤ 7) (hin : x ∈ l) : Calls Try.prog 22 #[.slice a n cap, .int .i64 x] w (RetB (.tuple #[.slice none 0 0, .int .i64 8]) w) := by
  have hr := right_any w a n cap l h
  have hnd := fun w => node_any x w
  have hlt := h.row_lt
  have H := Lib.hid (fun (W : World) (hW : Below w.heap.size w W) => h.below hW hlt)
  rw [hm] at hr
  have hf : decide (1 ≤ x ∧ x ≤ 7) = true := by simp; omega
  rw [hf] at hnd
  have hdi : decide (x ∈ l) = true := by simpa using hin
  clear hm hf hx h hlt hin
  go_enter Try.func22, Try.ntmps22
  go_wp2_with fail
  refine hr.mono ?_
  rintro e w1 ⟨rfl, hb1⟩
  have hh := has_any w1 a n cap l (H.out _ hb1) x
  rw [hdi] at hh
  clear hdi
  go_wp2_with (first | (go_at_call 51; refine (hnd _).mono ?_; rintro e w' ⟨rfl, rfl⟩) | (go_at_call 20; refine hh.mono ?_; rintro e w' ⟨rfl, rfl⟩))
  go_ret2
  exact RetB.mk rfl hb1

/-- What Add and Cut answer where they may. -/
def ConfR (w : World) (l : List Int) (e : Ending) (w' : World) : Prop :=
  ∃ a cap, e = .returned (.tuple #[.slice a l.length cap, .int .i64 0]) ∧ Below w.heap.size w w' ∧ Sl intv w' (.slice a l.length cap) l ∧ ∀ k, (Value.slice a l.length cap).ownBlock = some k → w.heap.size ≤ k

set_option maxRecDepth 100000 in
set_option maxHeartbeats 1000000 in
theorem add_yes (hm : membersB l = true) (hx : 1 ≤ x ∧ x ≤ 7) (hin : x ∉ l) : Calls Try.prog 22 #[.slice a n cap, .int .i64 x] w (ConfR w (insL l x)) := by
  have hr := right_any w a n cap l h
  have hnd := fun w => node_any x w
  have hlt := h.row_lt
  have H := Lib.hid (fun (W : World) (hW : Below w.heap.size w W) => h.below hW hlt)
  obtain ⟨hl1, hl7, _⟩ := members_len hm
  rw [hm] at hr
  have hf : decide (1 ≤ x ∧ x ≤ 7) = true := by simp; omega
  rw [hf] at hnd
  have hdi : decide (x ∈ l) = false := by simpa using hin
  obtain ⟨i0, hi, hz0, hz1, hz2⟩ := info_parts info_i64
  clear hm hf hx h hlt hin
  go_enter Try.func22, Try.ntmps22
  go_wp2_with fail
  refine hr.mono ?_
  rintro e w1 ⟨rfl, hb1⟩
  have hh := has_any w1 a n cap l (H.out _ hb1) x
  rw [hdi] at hh
  have hcl := clone_anyI w1 a n cap l (H.out _ hb1) (by omega)
  clear hdi
  go_wp2_with (first | (go_at_call 51; refine (hnd _).mono ?_; rintro e w' ⟨rfl, rfl⟩) | (go_at_call 20; refine hh.mono ?_; rintro e w' ⟨rfl, rfl⟩))
  refine hcl.mono ?_
  rintro e w2 ⟨v, rfl, hb2, _, hown2, hnew2⟩
  have HO := Lib.hid hown2
  have HM0 := Lib.hid (show l.length + 1 ≤ maxLen by unfold maxLen; omega)
  have HM1 := Lib.hid (show (l.length + 1) * 8 ≤ 140737488355328 by omega)
  clear hown2 hcl hh
  go_wp2_with (at_builtin; refine wpList_append_one w2 rfl _ _ _ rfl 3 i0 (.int .i64 0) 8 Try.underlying22 hi hz0 hz1 hz2 rfl v l.length (l.map intv) rfl HO.out (.int .i64 x) _ rfl rfl HM0.out HM1.out ?_; intro v' w3 hown3 hg3 hrow3; have HO3 := Lib.hid hown3; have HG3 := Lib.hid hg3; have HR3 := Lib.hid hrow3; clear hown3 hg3 hrow3)
  have hown' : w3.ownsRow 0 3 1 v' (l ++ [x]).length ((l ++ [x]).map intv) := by have := HO3.out; simpa [intv] using this
  obtain ⟨g1, cap1, rfl, hH, hc1, hcm1, hg1⟩ := owns_holdsI hown' (by simp)
  have hsort := sort_fewI w3 g1 cap1 (l ++ [x]).toArray hH (by simp; omega)
  have hsort' : Calls Try.prog 53 #[.slice (some ⟨g1, 0, none⟩) (l ++ [x]).length cap1] w3 (SortedI w3 g1 (sortA (l ++ [x]))) := hsort
  have hb2' := hb1.trans (hb2.mono hb1.size)
  have hs2 := hb2'.size
  have hs1 := hb1.size
  have hge : w.heap.size ≤ g1 := by
    rcases HR3.out with h1 | ⟨i, h1, h2, _⟩
    · have := hnew2 g1 h1.symm; omega
    · cases h1; simp at h2; omega
  have hb3 : Below w.heap.size w w3 := (((Keeps.of_below hb2').alloc _).trans (grown_keeps HG3.out fun k hk => by have := hnew2 k hk.symm; simp; omega)).below (Nat.le_refl _) (fun k hk => hk)
  have HH := Lib.hid hH
  have HB3 := Lib.hid hb3
  have HGE := Lib.hid hge
  clear hsort hown' hH hb3 hge hnew2 hb1 hb2 hb2'
  refine hsort'.mono ?_
  rintro e w4 ⟨rfl, nd, hw4⟩
  have HSL := Lib.hid (sorted_sl HH.out hc1 hcm1 hg1 hw4)
  have HK4 := Lib.hid (putRow_keepsI w3 g1 (sortA (l ++ [x])) nd)
  rw [← hw4] at HK4
  have HLN := Lib.hid (show (insL l x).length = l.length + 1 by unfold insL; rw [Array.length_toList, sortA_size]; simp)
  clear hw4 hsort'
  go_wp2_with fail
  go_ret2
  refine ⟨some ⟨g1, 0, none⟩, cap1, by rw [HLN.out]; rfl, ?_, ?_, ?_⟩
  · exact HB3.out.trans (HK4.out.below HB3.out.size (fun k hk => by have := HGE.out; omega))
  · exact HSL.out
  · intro k hk
    simp [Value.ownBlock] at hk
    have := HGE.out
    omega

/-! ### without one -/
theorem cut_arg (hm : membersB l = false ∨ membersB l = true ∧ ¬ (1 ≤ x ∧ x ≤ 7)) : Calls Try.prog 23 #[.slice a n cap, .int .i64 x] w (RetB (.tuple #[.slice none 0 0, .int .i64 1]) w) := by
  have hlt := h.row_lt
  have hr := right_any (w.alloc (.cells #[.int .i64 x] 3)) a n cap l (h.alloc _)
  have hnd := fun w => node_any x w
  clear h hlt
  rcases hm with hm | ⟨hm, hx⟩
  · rw [hm] at hr
    clear hm
    go_enter Try.func23, Try.ntmps23
    go_wp2_with fail
    refine hr.mono ?_
    rintro e w1 ⟨rfl, hb1⟩
    go_wp2_with fail
    go_ret2
    exact RetB.mk rfl (((Below.refl _ _).alloc (Nat.le_refl _) _).trans (hb1.mono (by simp)))
  · rw [hm] at hr
    have hf : decide (1 ≤ x ∧ x ≤ 7) = false := by simp; omega
    rw [hf] at hnd
    clear hm hf hx
    go_enter Try.func23, Try.ntmps23
    go_wp2_with fail
    refine hr.mono ?_
    rintro e w1 ⟨rfl, hb1⟩
    have hcx := cell_of_one (bheap hb1 (heap_new w _) (by simp))
    go_wp2_with (go_at_call 51; refine (hnd _).mono ?_; rintro e w' ⟨rfl, rfl⟩)
    go_ret2
    exact RetB.mk rfl (((Below.refl _ _).alloc (Nat.le_refl _) _).trans (hb1.mono (by simp)))

theorem cut_none (hm : membersB l = true) (hx : 1 ≤ x ∧ x ≤ 7) (hin : x ∉ l ∨ x ∈ l ∧ l.length = 1) : Calls Try.prog 23 #[.slice a n cap, .int .i64 x] w (RetB (.tuple #[.slice none 0 0, .int .i64 7]) w) := by
  have hlt := h.row_lt
  have hr := right_any (w.alloc (.cells #[.int .i64 x] 3)) a n cap l (h.alloc _)
  have hnd := fun w => node_any x w
  have hn : n = l.length := by obtain ⟨_, _, he, _⟩ := h; cases he; rfl
  have H := Lib.hid (fun (W : World) (hW : Below w.heap.size w W) => h.below hW hlt)
  rw [hm] at hr
  have hf : decide (1 ≤ x ∧ x ≤ 7) = true := by simp; omega
  rw [hf] at hnd
  clear hm hf hx h hlt
  subst hn
  rcases hin with hin | ⟨hin, hl⟩
  · have hdi : decide (x ∈ l) = false := by simpa using hin
    clear hin
    go_enter Try.func23, Try.ntmps23
    go_wp2_with fail
    refine hr.mono ?_
    rintro e w1 ⟨rfl, hb1⟩
    have hcx := cell_of_one (bheap hb1 (heap_new w _) (by simp))
    have hbb : Below w.heap.size w w1 := ((Below.refl _ _).alloc (Nat.le_refl _) _).trans (hb1.mono (by simp))
    have hh := has_any w1 a _ cap l (H.out _ hbb) x
    rw [hdi] at hh
    clear hdi
    go_wp2_with (first | (go_at_call 51; refine (hnd _).mono ?_; rintro e w' ⟨rfl, rfl⟩) | (go_at_call 20; refine hh.mono ?_; rintro e w' ⟨rfl, rfl⟩))
    go_ret2
    exact RetB.mk rfl hbb
  · have hdi : decide (x ∈ l) = true := by simpa using hin
    clear hin
    have hle : ((l.length : Int) == 1) = true := by simp [hl]
    clear hl
    go_enter Try.func23, Try.ntmps23
    go_wp2_with fail
    refine hr.mono ?_
    rintro e w1 ⟨rfl, hb1⟩
    have hcx := cell_of_one (bheap hb1 (heap_new w _) (by simp))
    have hbb : Below w.heap.size w w1 := ((Below.refl _ _).alloc (Nat.le_refl _) _).trans (hb1.mono (by simp))
    have hh := has_any w1 a _ cap l (H.out _ hbb) x
    rw [hdi] at hh
    clear hdi
    go_wp2_with (first | (go_at_call 51; refine (hnd _).mono ?_; rintro e w' ⟨rfl, rfl⟩) | (go_at_call 20; refine hh.mono ?_; rintro e w' ⟨rfl, rfl⟩))
    go_ret2
    exact RetB.mk rfl hbb
end

end Go.Proofs.Ytnnibcfbcpipfaa

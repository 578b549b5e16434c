/- slices.Collect, slices.Sort, slices.Sorted at uint64: a table's clients, rising. -/
import Derived.Test.YtckmenongeklpaaCollU
namespace Go.Proofs.Ytckmenongeklpaa
open Go.RowKit Go.Maps Go.ChangeMaps Go.Sort

theorem collectU (w : World) (gf : Nat) (lb : Array Value) (eg : ∀ args w, (callFunc gf args).run Try.prog w = .ok (.enter gf args) w) (ks : List Int) (hk : ks.length ≤ 100000) (R : World → Prop)
    (iter : IterK keyU ks R 4 gf lb) (hR : ∀ A, Below w.heap.size w A → R A) :
    Calls Try.prog 41 #[.func (.func gf) #[] lb] w (CollP w ks) := by
  have h := Lib.hid (appendU w gf lb eg ks hk R iter hR)
  generalize (Value.func (.func gf) #[] lb) = f at *
  clear iter hR eg
  go_enter Try.func41, Try.ntmps41
  go_wp2_with fail
  refine h.out.mono ?_
  rintro e w' ⟨v, xs, rfl, hp, hn⟩
  have HP := Lib.hid hp
  have HN := Lib.hid hn
  clear hp hn
  go_wp2_with fail
  go_ret
  exact ⟨v, xs, rfl, HP.out, HN.out⟩

set_option maxRecDepth 100000 in
theorem pdq_nilU (w : World) (k : Int) : Calls Try.prog 51 #[.slice none 0 0, .int .i64 0, .int .i64 0, .int .i64 k] w (RetB (.tuple #[]) w) := by
  have hi : ∀ W, Calls Try.prog 54 #[.slice none 0 0, .int .i64 0, .int .i64 0] W (RetB (.tuple #[]) W) := fun W => by
    go_enter Try.func54, Try.ntmps54
    go_wp2
    go_loop [6] (fun i => i = .int .i64 1) (fun _ => 0)
    case atStart => rfl
    case round =>
      obtain rfl := hrel
      go_wp2
      go_end0
      exact RetB.mk rfl (Below.refl _ _)
  have HI := Lib.hid hi
  clear hi
  go_enter Try.func51, Try.ntmps51
  go_wp2
  go_loop [1, 2, 3, 8, 9] (fun s1 s2 s3 s8 s9 => s1 = .int .i64 0 ∧ s2 = .int .i64 0 ∧ s3 = .int .i64 k ∧ s8 = .bool true ∧ s9 = .bool true) (fun _ _ _ _ _ => 0)
  case atStart => exact ⟨rfl, rfl, rfl, rfl, rfl⟩
  case round =>
    obtain ⟨rfl, rfl, rfl, rfl, rfl⟩ := hrel
    go_wp2_with fail
    refine (HI.out _).mono ?_
    rintro e w' ⟨rfl, hb⟩
    go_wp2_with fail
    go_end0
    exact RetB.mk rfl hb

theorem sort_nilU (w : World) : Calls Try.prog 42 #[.slice none 0 0] w (RetB (.tuple #[]) w) := by
  have HL := Lib.hid fun w => len_small 0 (by omega) w
  have HP := Lib.hid pdq_nilU
  go_enter Try.func42, Try.ntmps42
  go_wp2_with fail
  refine (HL.out _).mono ?_
  rintro e w1 ⟨rfl, rfl⟩
  go_wp2_with fail
  refine (HP.out _ _).mono ?_
  rintro e w2 ⟨rfl, hb2⟩
  go_wp2_with fail
  go_end0
  exact RetB.mk rfl hb2

theorem lenT_lim (n : Nat) (h : n ≤ 16) : n < lenT n + 12 ∧ lenT n ≤ 64 := by
  unfold lenT
  repeat' split
  all_goals omega

theorem sort_someU (w : World) (blk L cap : Nat) (d : Array Int) (hL : L = d.size) (hH : Holds u64v w blk 0 d) (hd : L ≤ 16) (hn : Nd d) :
    Calls Try.prog 42 #[.slice (some ⟨blk, 0, none⟩) L cap] w (Srt 0 d.size blk d w) := by
  have HL := Lib.hid fun w => len_small L hd w
  have hp := Lib.hid (pdq_u64 w blk L cap (lenT L) d hL hH hd (lenT_lim L hd).1 (lenT_lim L hd).2 hn)
  clear hH hn hL
  go_enter Try.func42, Try.ntmps42
  go_wp2_with fail
  refine (HL.out _).mono ?_
  rintro e w1 ⟨rfl, rfl⟩
  go_wp2_with fail
  refine hp.out.mono ?_
  rintro e w2 ⟨d', rfl, h⟩
  go_wp2_with fail
  go_end0
  exact ⟨d', rfl, h⟩

theorem take_putU (cur : Array Value) (d : Array Int) (h : d.size ≤ cur.size) : (putCells u64v 0 d cur).toList.take d.size = d.toList.map keyU := by
  apply List.ext_getElem?
  intro j
  by_cases hj : j < d.size
  · rw [List.getElem?_take_of_lt hj, Array.getElem?_toList]
    simp [putCells, hj, show j < cur.size by omega, u64v, keyU]
  · rw [List.getElem?_take_eq_none (by omega), List.getElem?_eq_none (by simp; omega)]

theorem holdsU {w : World} {g : Nat} {cur : Array Value} {e : TypeId} {xs : List Int} (hb : w.heap[g]? = some (.cells cur e (0, 0))) (ht : cur.toList.take xs.length = xs.map keyU) : Holds u64v w g 0 xs.toArray := by
  intro j hj
  have hj' : j < xs.length := by simpa using hj
  refine ⟨?_, by simp [World.frozen?, hb]⟩
  have h1 : (cur.toList.take xs.length)[j]? = (xs.map keyU)[j]? := by rw [ht]
  rw [List.getElem?_take_of_lt hj'] at h1
  simp only [World.cell?, hb, Nat.zero_add]
  simp only [Option.isSome_none, Bool.false_eq_true, if_false]
  rw [← Array.getElem?_toList, h1]
  simp [hj', u64v, keyU]

/-- The numbers ks, rising, in a new slice. -/
def RiseP (w : World) (ks : List Int) (e : Ending) (w' : World) : Prop := ∃ v ys, e = .returned v ∧ ys.Perm ks ∧ ys.Pairwise (· < ·) ∧ NewU w ys v w'

theorem sorted_any (w : World) (gf : Nat) (lb : Array Value) (eg : ∀ args w, (callFunc gf args).run Try.prog w = .ok (.enter gf args) w) (ks : List Int) (hk : ks.length ≤ 16) (hnd : ks.Nodup) (R : World → Prop)
    (iter : IterK keyU ks R 4 gf lb) (hR : ∀ A, Below w.heap.size w A → R A) :
    Calls Try.prog 22 #[.func (.func gf) #[] lb] w (RiseP w ks) := by
  have h := Lib.hid (collectU w gf lb eg ks (by omega) R iter hR)
  generalize (Value.func (.func gf) #[] lb) = f at *
  have HND := Lib.hid hnd
  clear iter hR eg hnd
  go_enter Try.func22, Try.ntmps22
  go_wp2_with fail
  refine h.out.mono ?_
  rintro e w1 ⟨v, xs, rfl, hp, hn⟩
  have HP := Lib.hid hp
  have HN := Lib.hid hn
  have hxl : xs.length ≤ 16 := by rw [hp.length_eq]; exact hk
  have HXN := Lib.hid (hp.nodup_iff.2 HND.out)
  rcases hn.1.2 with ⟨rfl, h0⟩ | ⟨g, cap, cur, rfl, hg1, hg2, hg3, hg4, hg5, hg6⟩
  · have h0' : xs.length = 0 := h0
    have hx : xs = [] := List.eq_nil_of_length_eq_zero h0'
    subst hx
    clear hp hn h0 h0'
    go_wp2_with fail
    refine (sort_nilU w1).mono ?_
    rintro e w2 ⟨rfl, hb⟩
    have HB := Lib.hid (HN.out.2.trans (hb.mono HN.out.2.size))
    clear hb
    go_wp2_with fail
    go_ret
    exact ⟨_, [], rfl, HP.out, List.Pairwise.nil, World.ownsRow_nil _ _ _ _, HB.out⟩
  · have hH : Holds u64v w1 g 0 xs.toArray := holdsU hg2 (by simpa using hg6)
    have HS := Lib.hid (sort_someU w1 g xs.length cap xs.toArray (by simp) hH hxl (by unfold Nd; simpa using HXN.out))
    have HG2 := Lib.hid hg2
    have HG := Lib.hid (show w.heap.size ≤ g ∧ xs.length ≤ cap ∧ cap ≤ maxLen ∧ cur.size = cap * 1 from ⟨hg1, hg3, hg4, hg5⟩)
    clear hp hn hH hg1 hg2 hg3 hg4 hg5 hg6
    go_wp2_with fail
    refine HS.out.mono ?_
    rintro e w2 ⟨d', rfl, hpm, hso, hrw⟩
    have hds : d'.size = xs.length := by simpa using hpm.1
    have hperm : d'.toList.Perm xs := by
      obtain ⟨_, _, hpp⟩ := hpm
      have e1 : (d'.extract 0 xs.toArray.size).toList = d'.toList := by rw [List.size_toArray, ← hds]; simp
      have e2 : (xs.toArray.extract 0 xs.toArray.size).toList = xs := by simp
      rw [e1, e2] at hpp
      exact hpp
    have hrise : d'.toList.Pairwise (· < ·) := by
      have hnd' : d'.toList.Nodup := hperm.nodup_iff.2 HXN.out
      rw [List.pairwise_iff_getElem]
      intro i j hi hj hij
      have h1 := hso i j (Nat.zero_le _) hij (by simpa [hds] using hj)
      have hi' : i < d'.size := by simpa using hi
      have hj' : j < d'.size := by simpa using hj
      rw [getElem!_pos d' i hi', getElem!_pos d' j hj'] at h1
      have h2 : d'.toList[i] ≠ d'.toList[j] := fun e => by
        have := (List.getElem_inj (h₀ := hi) (h₁ := hj) hnd').1 e
        omega
      simp only [Array.getElem_toList] at h2 ⊢
      simp [ltInt] at h1
      omega
    have hown : w2.ownsRow w.heap.size 34 1 (.slice (some ⟨g, 0, none⟩) xs.length cap) d'.toList.length (d'.toList.map keyU) := by
      have e1 : d'.toList.length = xs.length := by rw [Array.length_toList]; exact hds
      refine ⟨by simp, .inr ⟨g, cap, putCells u64v 0 d' cur, by rw [e1], HG.out.1, ?_, by rw [e1]; exact HG.out.2.1, HG.out.2.2.1, by simpa [putCells] using HG.out.2.2.2, ?_⟩⟩
      · rw [hrw.1, heap_putRow_at, HG2.out]
        rfl
      · rw [Nat.mul_one, Array.length_toList]
        exact take_putU cur d' (by have := HG.out; omega)
    have HFIN := Lib.hid (show d'.toList.Perm ks ∧ d'.toList.Pairwise (· < ·) ∧ NewU w d'.toList (.slice (some ⟨g, 0, none⟩) xs.length cap) w2 from
      ⟨hperm.trans HP.out, hrise, hown, (Keeps.of_below HN.out.2).trans (hrw.2.mono (fun k _ e => by have := HG.out; show w.heap.size ≤ k; omega)) |>.below (Nat.le_refl _) fun k h => h⟩)
    clear hpm hso hrw hds hperm hrise hown
    go_wp2_with fail
    go_ret
    exact ⟨_, d'.toList, rfl, HFIN.out⟩

end Go.Proofs.Ytckmenongeklpaa

/- conf.Has. slices.Clone at []int. slices.Sort at []uint64: the insertion sort, and rows of at most twelve. slices.Sort at []uint64: rows of at most twelve. conf.Agreed: what a majority has. Whole structs in one step, as rules of the walk: a store or a load of many cells in a block that is known. Of whatever program. command.MembersOf: the members whose bytes these are. conf.Of: the members by a log. -/
import Derived.Test.YtdjooojpcepleaaGreatRsM04
import Derived.Test.YtdjooojpcepleaaGreatRsM02
import Derived.Sort.LotA
import Derived.Sort.Row
import Derived.BigQuiet
import Derived.Deep.QuietTactic
import Derived.RegionTactic

namespace Go.Proofs.YtdjooojpcepleaaGreat
section
open Go.RowKit
section
variable (w : World) (a : Option Addr) (n cap : Nat) (l : List Int) (h : Sl intv w (.slice a n cap) l) (x : Int)
include h
theorem index_any : Calls Tryz.prog 89 #[.slice a n cap, .int .i64 x] w fun e w' => ∃ r : Int, (decide (0 ≤ r) = decide (x ∈ l)) ∧ e = .returned (.int .i64 r) ∧ w = w' := by
 have H := hI h
 obtain ⟨a', cap', he, h1, h2, h3⟩ := h
 cases he
 unfold maxLen at h2
 have HLC := hI h1
 have hlm : l.length ≤ 9223372036854775807 := by omega
 clear h1
 go_enter Tryz.func89, Tryz.ntmps89
 go_wp2
 go_loop [8] (fun i => ∃ k : Nat, k ≤ l.length ∧ i = .int .i64 k ∧ x ∉ l.take k) (fun i => l.length - (intOf i).toNat)
 case atStart => exact ⟨0, by omega, rfl, by simp⟩
 case round =>
  obtain ⟨k, hk, rfl, hm⟩ := hrel
  have HM := hI hm
  clear hm
  by_cases hlt : k < l.length
  ·rcases h3 with ⟨rfl, rfl⟩ | ⟨b, o, rfl, hb, hc⟩
   ·have := HLC.out; omega
   ·have hk0 : l[k]? = some l[k] := List.getElem?_eq_getElem hlt
    have hcell : w.cell? ⟨b, o + k, none⟩ = some (.int .i64 l[k]) := hc k _ hk0
    have HTK := hI (show l.take (k + 1) = l.take k ++ [l[k]] by rw [List.take_succ_eq_append_getElem hlt])
    have HIN := hI (List.getElem_mem hlt)
    generalize l[k] = y at *
    clear hc hk0
    cases he : (x == y)
    ·go_wp2
     go_round
     case rel => exact ⟨k + 1, by omega, by go_num, by rw [HTK.out, List.mem_append, not_or]; exact ⟨HM.out, by simpa using he⟩⟩
     case measure => simp [intOf]; omega
    ·obtain rfl : x = y := by simpa using he
     clear he
     go_wp2
     go_ret
     exact ⟨_, by simp [HIN.out], rfl, rfl⟩
  ·obtain rfl : k = l.length := by omega
   clear h3
   go_wp2
   go_ret
   have := HM.out
   rw [List.take_length] at this
   exact ⟨-1, by simp [this], rfl, rfl⟩
theorem contains_any : Calls Tryz.prog 59 #[.slice a n cap, .int .i64 x] w (Ret (.bool (decide (x ∈ l))) w) := by
 have hi := index_any w a n cap l h x
 clear h
 go_enter Tryz.func59, Tryz.ntmps59
 go_wp2_with fail
 refine hi.mono ?_
 rintro e w' ⟨r, hr, rfl, rfl⟩
 have HR := hI hr
 clear hr
 go_wp2_with fail
 go_ret
 exact Ret.mk (bool_eq HR.out)
theorem has_any : Calls Tryz.prog 30 #[.slice a n cap, .int .i64 x] w (Ret (.bool (decide (x ∈ l))) w) := by
 have hi := contains_any w a n cap l h x
 clear h
 go_enter Tryz.func30, Tryz.ntmps30
 go_wp2_with (go_at_call 59; refine hi.mono ?_; rintro e w' ⟨rfl, rfl⟩)
 go_ret
 exact Ret.mk rfl
end
theorem info_i64 : (Tryz.prog.info? 3).map (fun i => (i.zero, i.size, i.bytes)) = some (some (.int .i64 0), 1, 8) := by kernel_rfl
end
section
open Go.RowKit
def ClonedI (w : World) (l : List Int) (e : Ending) (w' : World) : Prop :=
 ∃ v, e = .returned v ∧ Below w.heap.size w w' ∧ Sl intv w' v l ∧ w'.ownsRow 0 3 1 v l.length (l.map intv) ∧ ∀ k, v.ownBlock = some k → w.heap.size ≤ k
set_option maxRecDepth 100000 in
theorem clone_anyI (w : World) (ad : Option Addr) (n cp : Nat) (l : List Int) (hu : Sl intv w (.slice ad n cp) l) (hl : l.length ≤ 1000) :
  Calls Tryz.prog 47 #[.slice ad n cp] w (ClonedI w l) := by
 have HU := hI hu
 have HL := hI hl
 clear hl
 cases ad with
 | none =>
  obtain ⟨rfl, rfl, rfl⟩ := hu.none_nil
  clear hu
  have hnil := fun w => Lib.run_eql_slice_nil (P := Tryz.prog) w 37 3 none 0 0 0 0 Tryz.underlying37
  go_enter Tryz.func47, Tryz.ntmps47
  go_wp2
  go_ret
  exact ⟨_, rfl, bR, Sl.nil _ _, World.ownsRow_nil _ _ _ _, fun k hk => by simp [Value.ownBlock] at hk⟩
 | some x =>
  obtain ⟨b, o, rfl, hb, rfl, hn, hc⟩ := hu.some_row
  clear hu hc hn
  have hnil := fun w => Lib.run_eql_slice_nil (P := Tryz.prog) w 37 3 (some ⟨b, o, none⟩) l.length cp 0 0 Tryz.underlying37
  obtain ⟨i0, hi, hz0, hz1, hz2⟩ := info_parts info_i64
  go_enter Tryz.func47, Tryz.ntmps47
  have how : (w.alloc (.cells #[] 3)).ownsRow 0 3 1 (.slice (some ⟨w.heap.size, 0, none⟩) 0 0) 0 [] := World.ownsRow_made w #[] 0 (Nat.zero_le _) (Nat.zero_le _) rfl
  have hus : Sl intv (w.alloc (.cells #[] 3)) (.slice (some ⟨b, o, none⟩) l.length cp) l := HU.out.alloc _
  have HM0 := hI (show 0 + l.length ≤ maxLen by unfold maxLen; have := HL.out; omega)
  have HM1 := hI (show (0 + l.length) * 8 ≤ 140737488355328 by have := HL.out; omega)
  have HO0 := hI how
  have HU0 := hI hus
  clear how hus
  go_wp2_with (at_builtin; refine wpList_append_sl (w.alloc (.cells #[] 3)) rfl _ _ _ rfl 3 i0 (.int .i64 0) 8 Tryz.underlying37 hi hz0 hz1 hz2 rfl (.slice (some ⟨w.heap.size, 0, none⟩) 0 0) 0 [] rfl HO0.out (.slice (some ⟨b, o, none⟩) l.length cp) l rfl HU0.out intv_one HM0.out HM1.out ?_; intro v' w1 hown hg hrow; have HO := hI hown; have HG := hI hg; have HR := hI hrow; clear hown hg hrow)
  go_ret
  have hown : w1.ownsRow 0 3 1 v' l.length (l.map intv) := by have := HO.out; rwa [Nat.zero_add, List.nil_append] at this
  refine ⟨v', rfl, ?_, owns_sl hown, hown, fun k hk => ?_⟩
  ·have h1 : Keeps (fun k => w.heap.size ≤ k) w w1 := ((Keeps.refl _ w).alloc _).trans (gK HG.out (fun k hk => by simp [Value.ownBlock] at hk; omega))
   exact h1.below nL (fun k hk => hk)
  ·rcases HR.out with h1 | ⟨j, h1, h2, _⟩
   ·rw [h1] at hk; simp [Value.ownBlock] at hk; omega
   ·rw [h1] at hk; cases hk; simp at h2; omega
end
section
open Go.RowKit Go.Sort
def u64v (n : Int) : Value := .int .u64 n
theorem drewN_ahead (w : World) (n : Nat) : w.drewN n = Sort.ahead w n := by
 rfl
theorem isNaN_u64 (x : Int) (w : World) : Calls Tryz.prog 147 #[.int .u64 x] w (Ret (.bool false) w) := by
 go_enter Tryz.func147, Tryz.ntmps147
 go_wp2
 go_ret
 exact Ret.mk (bool_eq (by simp))
theorem less_u64 (x y : Int) (w : World) : Calls Tryz.prog 130 #[.int .u64 x, .int .u64 y] w (Ret (.bool (ltInt x y)) w) := by
 have h1 := fun w => isNaN_u64 x w
 have h2 := fun w => isNaN_u64 y w
 go_enter Tryz.func130, Tryz.ntmps130
 go_wp2_with (go_at_call 147; refine (isNaN_u64 _ _).mono ?_; rintro e w' ⟨rfl, rfl⟩)
 go_ret
 exact Ret.mk rfl
def Sorted (w : World) (blk : Nat) (d' : Array Int) (e : Ending) (w' : World) : Prop := e = .returned (.tuple #[]) ∧ ∃ n, w' = Sort.ahead (putRow u64v w blk 0 d') n
theorem less_same (x y : Int) (w : World) : Calls Tryz.prog 130 #[.int .u64 x, .int .u64 y] w fun e w' => e = .returned (.bool (ltInt x y)) ∧ w' = w :=
 (less_u64 x y w).mono fun _ _ h => ⟨h.1, h.2.symm⟩
theorem ins_any (w : World) (blk cap : Nat) (d : Array Int) (a b : Nat) (hH : Holds u64v w blk 0 d) (hab : a ≤ b) (hb : b ≤ d.size) (hd : d.size ≤ 1000) :
  Calls Tryz.prog 124 #[.slice (some ⟨blk, 0, none⟩) d.size cap, .int .i64 a, .int .i64 b] w (Sorted w blk (insertionSort ltInt d a b)) := by
 have H := hI hH
 clear hH
 go_enter Tryz.func124, Tryz.ntmps124
 go_wp2
 go_loopw [6, 7] (fun i _ wr => ∃ (k n : Nat) (dk : Array Int), i = .int .i64 k ∧ k ≤ b + 1 ∧ dk.size = d.size ∧ a + 1 ≤ k ∧ wr = Sort.ahead (putRow u64v w blk 0 dk) n ∧ insOuter ltInt a b k dk = insertionSort ltInt d a b) (fun i _ _ => b - (intOf i).toNat)
 case atStart => exact ⟨a + 1, 0, d, by go_num, by omega, rfl, by omega, by rw [putRow_self u64v w blk 0 d H.out]; rfl, rfl⟩
 case round =>
  obtain ⟨k, n, dk, rfl, hk, hdk, hak, rfl, hins⟩ := hrel
  have HI := hI hins
  have HDK := hI hdk
  clear hins hdk
  by_cases hlt : k < b
  ·go_wp2
   generalize hwo : Sort.ahead (putRow u64v w blk 0 dk) n = wo
   have HWO := hI hwo
   clear hwo
   go_loopw [7] (fun jv wr => ∃ (j m : Nat) (dj : Array Int), jv = .int .i64 j ∧ j ≤ k ∧ dj.size = d.size ∧ wr = Sort.ahead (putRow u64v w blk 0 dj) m ∧ insInner ltInt a j dj = insInner ltInt a k dk) (fun jv _ => (intOf jv).toNat)
   case atStart => exact ⟨k, n, dk, rfl, Nat.le_refl _, HDK.out, HWO.out.symm, rfl⟩
   case round =>
    obtain ⟨j, m, dj, rfl, hj, hdj, rfl, hin⟩ := hrel
    have HIN := hI hin
    have HDJ := hI hdj
    clear hin
    by_cases haj : a < j
    ·obtain ⟨i, rfl⟩ : ∃ i, j = i + 1 := ⟨j - 1, by omega⟩
     have hh := holds_ahead u64v _ m blk 0 dj (holds_putRow u64v w blk 0 d dj H.out hdj)
     have h1 := hh (i + 1) (by omega)
     have h0 := hh i (by omega)
     rw [Nat.zero_add] at h1 h0
     generalize hW : Sort.ahead (putRow u64v w blk 0 dj) m = W at *
     have HW := hI hW
     clear hW hh
     generalize hx : dj[i + 1]! = x at *
     generalize hy : dj[i]! = y at *
     have HX := hI hx
     have HY := hI hy
     clear hx hy
     obtain ⟨c1, f1⟩ := h1
     obtain ⟨c0, f0⟩ := h0
     unfold u64v at c1 c0
     have hdec : decide ((a : Int) < (i : Int) + 1) = true := by simp; omega
     have hi1 : i ≤ 1000 := by omega
     have hw1 : IntKind.i64.wrap ((i : Int) + 1 - 1) = (i : Int) := by rw [IntKind.wrap_i64]; omega
     cases hl : ltInt x y
     ·go_wp2
      go_quiet ((go_at_call 130; exact Calls.quiet_of_same (less_same _ _ _)))
      go_wp2
      go_roundw
      case rel =>
       have e1 : insInner ltInt a (i + 1) dj = dj := by
        unfold insInner
        rw [HX.out, HY.out, hl]
        simp
       refine ⟨k + 1, m + nq, dj, by go_num, by omega, hdj, by omega, ?_, ?_⟩
       ·rw [drewN_ahead, ← HW.out, ahead_ahead]
       ·rw [← HI.out, insOuter.eq_def ltInt a b k, if_pos hlt, ← HIN.out, e1]
      case measure => simp [intOf]; omega
     ·go_wp2
      go_quiet ((go_at_call 130; exact Calls.quiet_of_same (less_same _ _ _)))
      go_wp2
      go_region
      go_wp2
      all_goals
       go_roundw
       case rel =>
        have e1 : insInner ltInt a (i + 1) dj = insInner ltInt a i (swp dj (i + 1) i) := by
         rw [insInner, HX.out, HY.out, hl, if_pos (by simp; omega)]
        refine ⟨i, m + (nq + 1), swp dj (i + 1) i, by go_num, by omega, by rw [swp_size]; exact hdj, ?_, by rw [← HIN.out, e1]⟩
        have hsw := putRow_swp u64v w blk 0 dj (i + 1) i (by omega) (by omega)
        rw [Nat.zero_add, Nat.zero_add, HX.out, HY.out] at hsw
        rw [drewN_ahead, ← HW.out, ahead_ahead, setCell_ahead, setCell_ahead, ← hsw]
        rfl
       case measure => simp [intOf]
    ·have hdec : decide ((a : Int) < (j : Int)) = false := by simp; omega
     have e1 : insInner ltInt a j dj = dj := by
      cases j with
      | zero => rfl
      | succ i => rw [insInner, if_neg (by simp; omega)]
     generalize hW : Sort.ahead (putRow u64v w blk 0 dj) m = W at *
     have HW := hI hW
     have E1 := hI e1
     clear hW e1
     go_wp2
     go_quiet ((go_at_call 130; exact Calls.quiet_of_same (less_same _ _ _)))
     go_wp2
     go_roundw
     case rel =>
      refine ⟨k + 1, m + nq, dj, by go_num, by omega, hdj, by omega, ?_, ?_⟩
      ·rw [drewN_ahead, ← HW.out, ahead_ahead]
      ·rw [← HI.out, insOuter.eq_def ltInt a b k, if_pos hlt, ← HIN.out, E1.out]
     case measure => simp [intOf]; omega
  ·have e1 : insOuter ltInt a b k dk = dk := by rw [insOuter.eq_def, if_neg hlt]
   have E1 := hI e1
   clear e1
   go_wp2
   go_end0
   exact ⟨rfl, n, by rw [← HI.out, E1.out]⟩
end
section
open Go.RowKit Go.Sort
def lenT (n : Nat) : Nat := if n = 0 then 0 else if n < 2 then 1 else if n < 4 then 2 else if n < 8 then 3 else if n < 16 then 4 else 5
set_option maxRecDepth 100000 in
theorem len_small (n : Nat) (hn : n ≤ 16) (w : World) : Calls Tryz.prog 118 #[.int .u64 n] w (Ret (.int .i64 (lenT n)) w) := by
 rcases n with _ | _ | _ | _ | _ | _ | _ | _ | _ | _ | _ | _ | _ | _ | _ | _ | _ | n
 rotate_right
 ·omega
 all_goals
  clear hn
  go_enter Tryz.func118, Tryz.ntmps118
  go_wp2_with go_in
  go_ret
  exact Ret.mk (by kernel_rfl)
set_option maxRecDepth 100000 in
theorem sort_few (w : World) (blk cap : Nat) (d : Array Int) (hH : Holds u64v w blk 0 d) (hd : d.size ≤ 12) :
  Calls Tryz.prog 109 #[.slice (some ⟨blk, 0, none⟩) d.size cap] w (Sorted w blk (insertionSort ltInt d 0 d.size)) := by
 have hins := ins_any w blk cap d 0 d.size hH (by omega) (by omega) (by omega)
 have hlen := fun w => len_small d.size (by omega) w
 have hp : Calls Tryz.prog 117 #[.slice (some ⟨blk, 0, none⟩) d.size cap, .int .i64 0, .int .i64 d.size, .int .i64 (lenT d.size)] w (Sorted w blk (insertionSort ltInt d 0 d.size)) := by
  clear hH hlen
  generalize lenT d.size = bl
  go_enter Tryz.func117, Tryz.ntmps117
  go_wp2
  go_loopw [1, 2, 3, 8, 9] (fun a b l x y wr => a = .int .i64 0 ∧ b = .int .i64 d.size ∧ l = .int .i64 bl ∧ x = .bool true ∧ y = .bool true ∧ w = wr) (fun _ _ _ _ _ _ => 0)
  case atStart => exact ⟨rfl, rfl, rfl, rfl, rfl, rfl⟩
  case round =>
   obtain ⟨rfl, rfl, rfl, rfl, rfl, rfl⟩ := hrel
   go_wp2_with (go_at_call 124; refine hins.mono ?_; rintro e w' ⟨rfl, hs⟩)
   go_end0
   exact ⟨rfl, hs⟩
 clear hH hins
 go_enter Tryz.func109, Tryz.ntmps109
 go_wp2_with (first | (go_at_call 118; refine (hlen _).mono ?_; rintro e w' ⟨rfl, rfl⟩) | (go_at_call 117; refine hp.mono ?_; rintro e w' ⟨rfl, hs⟩))
 go_end0
 exact ⟨rfl, hs⟩
end
section
open Go.RowKit Go.Sort
theorem info_u64 : (Tryz.prog.info? 26).map (fun i => (i.zero, i.size, i.bytes)) = some (some (.int .u64 0), 1, 8) := by kernel_rfl
theorem majority_any (w : World) (a : Option Addr) (n cap : Nat) (hn : n ≤ 9223372036854775800) : Calls Tryz.prog 94 #[.slice a n cap] w (Ret (.int .i64 ((n / 2 + 1 : Nat) : Int)) w) := by
 go_enter Tryz.func94, Tryz.ntmps94
 go_wp2
 go_ret
 exact Ret.mk (int_eq (by omega))
def sortA (xs : List Int) : Array Int := insertionSort ltInt xs.toArray 0 xs.toArray.size
theorem sortA_perm (xs : List Int) : (sortA xs).toList.Perm xs := by
 have h := (insertionSort_holds (lt := ltInt) swo_ltInt xs.toArray 0 xs.toArray.size (Nat.zero_le _) nL).1
 have h3 := h.2.2
 have hs : (insertionSort ltInt xs.toArray 0 xs.toArray.size).size = xs.toArray.size := h.1
 have e1 : xs.toArray.extract 0 xs.toArray.size = xs.toArray := Array.extract_size
 have e2 : (insertionSort ltInt xs.toArray 0 xs.toArray.size).extract 0 xs.toArray.size = insertionSort ltInt xs.toArray 0 xs.toArray.size := by
  have := Array.extract_size (xs := insertionSort ltInt xs.toArray 0 xs.toArray.size)
  rwa [hs] at this
 rw [e1, e2] at h3
 exact h3
theorem sortA_size (xs : List Int) : (sortA xs).size = xs.length := by
 have := (sortA_perm xs).length_eq
 simpa using this
theorem sortA_sorted (xs : List Int) (i j : Nat) (hij : i < j) (hj : j < xs.length) : (sortA xs)[i]! ≤ (sortA xs)[j]! := by
 have h := (insertionSort_holds (lt := ltInt) swo_ltInt xs.toArray 0 xs.toArray.size (Nat.zero_le _) nL).2
 exact Int.not_lt.1 (of_decide_eq_false (h i j (Nat.zero_le _) hij (by simpa using hj)))
def agreedF (l : List Int) (f : Int → Int) : Int := (sortA (l.map f))[l.length - (l.length / 2 + 1)]!
theorem owns_holds {w : World} {T : TypeId} {v : Value} {l : List Int} (h : w.ownsRow 0 T 1 v l.length (l.map u64v)) (h0 : 0 < l.length) : ∃ g cap, v = .slice (some ⟨g, 0, none⟩) l.length cap ∧ Holds u64v w g 0 l.toArray ∧ l.length ≤ cap ∧ g < w.heap.size := by
 rcases h.2 with ⟨_, h1⟩ | ⟨g, cap, cur, rfl, _, hg, hn, hm, hc, ht⟩
 ·omega
 ·refine ⟨g, cap, rfl, fun j hj => ?_, hn, heap_lt hg⟩
  have hj' : j < l.length := by simpa using hj
  refine ⟨?_, by simp [World.frozen?, hg]⟩
  rw [Nat.zero_add, cell_of_row w g j cur T (0, 0) hg]
  have h1 : (l.map u64v)[j]? = some (u64v l[j]) := by rw [List.getElem?_map, List.getElem?_eq_getElem hj']; rfl
  rw [← ht, List.getElem?_take] at h1
  split at h1
  ·have h2 : cur[j]? = some (u64v l[j]) := by simpa using h1
   rw [h2, getElem!_pos l.toArray j hj]
   simp
  ·cases h1
theorem putRow_keeps (w : World) (g : Nat) (d : Array Int) (n : Nat) : Keeps (fun k => k = g) w (Sort.ahead (putRow u64v w g 0 d) n) := by
 refine ⟨rfl, rfl, rfl, ?_, fun k hk hn => ?_⟩
 ·simp [Sort.ahead, putRow, mapBlock]
 ·show (w.heap.modify g _)[k]? = _
  rw [Array.getElem?_modify, if_neg (fun e => hn e.symm)]
section
variable (w : World) (a : Option Addr) (n cap : Nat) (l : List Int) (h : Sl intv w (.slice a n cap) l)
include h
set_option maxRecDepth 100000 in
set_option maxHeartbeats 1000000 in
theorem agreed_any (hm : mB l = true) (g : Nat) (caps : Array Value) (f : Int → Int) (hC : ∀ (args : Array Value) (w : World), (callFunc g args).run Tryz.prog w = .ok (Next.enter g args) w) (hF : ∀ x ∈ l, ∀ W, Below w.heap.size w W → Calls Tryz.prog g (#[.int .i64 x] ++ caps) W (RetB (.int .u64 (f x)) W)) :
  Calls Tryz.prog 98 #[.slice a n cap, .func (Fn.func g) #[] caps] w (RetB (.int .u64 (agreedF l f)) w) := by
 have hr := right_any w a n cap l h
 rw [hm] at hr
 obtain ⟨hl1, hl7, hmm⟩ := mL hm
 have HF := hI hF
 have HS := hI h
 have hlt := h.row_lt
 have HLT := hI hlt
 obtain ⟨a', cap', he, h1, h2, hx⟩ := h
 cases he
 obtain ⟨i0, hi, hz0, hz1, hz2⟩ := info_parts info_u64
 clear hm hmm hlt h1 h2
 clear hF
 rcases hx with ⟨rfl, rfl⟩ | ⟨b, o, rfl, hb, hc⟩
 ·have := HS.out.none_nil.1
  rw [this] at hl1
  simp at hl1
 clear hc
 go_enter Tryz.func98, Tryz.ntmps98
 go_wp2_with fail
 refine hr.mono ?_
 rintro e w1 ⟨rfl, hb1⟩
 clear hr
 go_wp2_with fail
 go_loopw [5, 13] (fun v i wr => ∃ k : Nat, k ≤ l.length ∧ i = .int .i64 k ∧ wr.ownsRow 0 26 1 v k (((l.take k).map f).map u64v) ∧ (∀ j, v.ownBlock = some j → w.heap.size ≤ j) ∧ Below w.heap.size w wr) (fun _ i _ => l.length - (intOf i).toNat)
 case atStart => exact ⟨0, by omega, rfl, by simpa using World.ownsRow_nil _ _ _ _, by simp [Value.ownBlock], hb1⟩
 case round =>
  obtain ⟨k, hk, rfl, hown, hnew, hbw⟩ := hrel
  have HO := hI hown
  have HN := hI hnew
  have HB := hI hbw
  clear hb1
  by_cases hlk : k < l.length
  ·have hsw := HS.out.below hbw HLT.out
   obtain ⟨_, _, he, _, _, hx2⟩ := hsw
   cases he
   rcases hx2 with ⟨h, _⟩ | ⟨b', o', he, hb', hc'⟩
   ·cases h
   ·cases he
    have hk0 : l[k]? = some l[k] := List.getElem?_eq_getElem hlk
    have hcell : wr.cell? ⟨b, o + k, none⟩ = some (.int .i64 l[k]) := hc' k _ hk0
    have hfx := HF.out l[k] (List.getElem_mem hlk) wr hbw
    have HTK := hI (show l.take (k + 1) = l.take k ++ [l[k]] by rw [List.take_succ_eq_append_getElem hlk])
    generalize l[k] = x at *
    clear hc' hk0 hown hnew hbw
    go_wp2_with fail
    have HC := hC (#[.int .i64 x] ++ caps) wr
    refine hfx.mono ?_
    rintro e w2 ⟨rfl, hb2⟩
    have hown2 := owns_kept HO.out (Keeps.of_belowS (S := fun _ => False) hb2) (fun _ _ h => h)
    have HO2 := hI hown2
    have HM0 := hI (show k + 1 ≤ maxLen by unfold maxLen; omega)
    have HM1 := hI (show (k + 1) * 8 ≤ 140737488355328 by omega)
    clear hown2 hfx
    go_wp2_with (at_builtin; refine wpList_append_one w2 rfl _ _ _ rfl 26 i0 (.int .u64 0) 8 Tryz.underlying158 hi hz0 hz1 hz2 rfl u5 k _ rfl HO2.out (.int .u64 (f x)) _ rfl rfl HM0.out HM1.out ?_; intro v' w3 hown3 hg3 hrow3; have HO3 := hI hown3; have HG3 := hI hg3; have HR3 := hI hrow3; clear hown3 hg3 hrow3)
    go_roundw
    case rel =>
     have hbw2 : Below w.heap.size w w2 := HB.out.trans (hb2.mono HB.out.size)
     have hs2 := hbw2.size
     refine ⟨k + 1, by omega, by go_num, ?_, ?_, ?_⟩
     ·have := HO3.out
      rw [HTK.out]
      simpa [u64v] using this
     ·intro j hj
      rcases HR3.out with h1 | ⟨i, h1, h2, _⟩
      ·exact HN.out j (h1 ▸ hj)
      ·rw [h1] at hj; cases hj; simp at h2; omega
     ·have h1 : Keeps (fun k => w.heap.size ≤ k) w w3 := ((Keeps.of_below hbw2).alloc _).trans (gK HG3.out fun k hk => HN.out k hk.symm)
      exact h1.below nL (fun k hk => hk)
    case measure => simp [intOf]; omega
  ·obtain rfl : k = l.length := by omega
   rw [List.take_length] at hown
   have hown' : wr.ownsRow 0 26 1 u5 (l.map f).length ((l.map f).map u64v) := by simpa using hown
   obtain ⟨g1, cap1, rfl, hH, hc1, hg1⟩ := owns_holds hown' (by simp; omega)
   have hge : w.heap.size ≤ g1 := HN.out g1 rfl
   have hsz : (l.map f).toArray.size = l.length := by simp
   have hsort := sort_few wr g1 cap1 (l.map f).toArray hH (by rw [hsz]; omega)
   have esz : (l.map f).length = l.length := by simp
   rw [hsz] at hsort
   have hmaj := fun W => majority_any W (some ⟨b, o, none⟩) l.length cap (by omega)
   have HH := hI hH
   have HESZ := hI esz
   have HSZ := hI hsz
   rw [esz]
   clear hown hown' hnew hbw hH hsz esz
   go_wp2_with fail
   refine hsort.mono ?_
   rintro e w2 ⟨rfl, nd, hw2⟩
   have hsz2 : (insertionSort ltInt (l.map f).toArray 0 l.length).size = (l.map f).toArray.size := by
    have := sortA_size (l.map f)
    unfold sortA at this
    rw [HSZ.out] at this
    rw [this]; simp
   have hq : l.length / 2 + 1 ≤ l.length := by omega
   have hcell := (holds_putRow u64v wr g1 0 _ _ HH.out hsz2 (l.length - (l.length / 2 + 1)) (by rw [hsz2, HSZ.out]; omega)).1
   have hcell2 : w2.cell? ⟨g1, l.length - (l.length / 2 + 1), none⟩ = some (.int .u64 (agreedF l f)) := by
    subst hw2
    rw [Nat.zero_add] at hcell
    unfold agreedF sortA
    rw [HSZ.out]
    exact hcell
   have HK2 := hI (putRow_keeps wr g1 (insertionSort ltInt (l.map f).toArray 0 l.length) nd)
   rw [← hw2] at HK2
   clear hcell hw2 hsort hsz2
   generalize agreedF l f = res at *
   have hidx : l.length - (l.length / 2 + 1) < l.length := by omega
   have hidx2 : ((l.length : Int) - ((l.length / 2 + 1 : Nat) : Int)) = ((l.length - (l.length / 2 + 1) : Nat) : Int) := by omega
   generalize l.length / 2 + 1 = q at *
   generalize hr : l.length - q = r at *
   have HR := hI hr
   clear hr
   go_wp2_with (go_at_call 94; refine (hmaj _).mono ?_; rintro e w' ⟨rfl, rfl⟩)
   go_ret
   exact RetB.mk rfl (HB.out.trans (HK2.out.below HB.out.size (fun k hk => by omega)))
end
end
section
open Go.RowKit Go.ChangeMaps
def ptrB : Value → Nat | .pointer (some a) => a.block | _ => 0
def ptrO : Value → Nat | .pointer (some a) => a.off | _ => 0
def ptrOk : Value → Bool | .pointer (some ⟨_, _, none⟩) => true | _ => false
def aggL : Value → List Value | .agg c => c.toList | _ => []
def aggOk : Value → Bool | .agg _ => true | _ => false
@[simp] theorem ptrB_mk (b o : Nat) : ptrB (.pointer (some ⟨b, o, none⟩)) = b := rfl
@[simp] theorem ptrO_mk (b o : Nat) : ptrO (.pointer (some ⟨b, o, none⟩)) = o := rfl
@[simp] theorem ptrOk_mk (b o : Nat) : ptrOk (.pointer (some ⟨b, o, none⟩)) = true := rfl
@[simp] theorem aggL_mk (l : List Value) : aggL (.agg l.toArray) = l := by simp [aggL]
@[simp] theorem aggOk_mk (c : Array Value) : aggOk (.agg c) = true := rfl
theorem Keeps.andThen {S T : Nat → Prop} {a b c : World} (h : Keeps S a b) (k : Keeps T b c) (hT : ∀ i, T i → a.heap.size ≤ i ∨ S i) : Keeps S a c :=
 ⟨k.os.trans h.os, k.tape.trans h.tape, k.output.trans h.output, Nat.le_trans h.size k.size, fun i hi hn => by
   have hs := h.size
   refine (k.block i (by omega) (fun ht => ?_)).trans (h.block i hi hn)
   rcases hT i ht with h1 | h1
   · omega
   · exact hn h1⟩
end
section
open Go.RowKit Go.Sort
def rdL : Nat → RS → List Int → List Int × RS
 | 0, s, acc => (acc, s)
 | n + 1, s, acc => if (numR s).2.e = 0 then rdL n (numR s).2 (acc ++ [min ((numR s).1 : Int) 8]) else ([], (numR s).2)
def getI (s : RS) : List Int × RS := rdL (countR 7 s).1 (countR 7 s).2 []
theorem countR_le (m : Nat) (s : RS) : (countR m s).1 ≤ m := by
 unfold countR
 split
 ·exact Nat.zero_le _
 ·omega
theorem rdL_back : ∀ (n : Nat) (s : RS) (acc : List Int), (rdL n s acc).2.e = 0 → ∃ xs : List Nat, xs.length = n ∧ (rdL n s acc).1 = acc ++ xs.map (fun x : Nat => min (x : Int) 8) ∧ s = ⟨(xs.map numB).flatten ++ (rdL n s acc).2.b, 0⟩
 | 0, s, acc, h => ⟨[], rfl, by simp [rdL], by simp [rdL] at h ⊢; cases s; simp_all⟩
 | n + 1, s, acc, h => by
  by_cases h0 : (numR s).2.e = 0
  ·simp only [rdL, if_pos h0] at h ⊢
   obtain ⟨xs, h1, h2, h3⟩ := rdL_back n _ _ h
   refine ⟨(numR s).1 :: xs, by simp [h1], by rw [h2]; simp, ?_⟩
   have hb := numR_back h0
   rw [h3] at hb
   simp only [List.map_cons, List.flatten_cons, List.append_assoc]
   exact hb
  ·simp only [rdL, if_neg h0] at h
   exact absurd h h0
theorem rdL_num (r : List UInt8) : ∀ (l : List Int) (acc : List Int), (∀ n ∈ l, 0 ≤ n ∧ n ≤ 7) → rdL l.length ⟨numsB l ++ r, 0⟩ acc = (acc ++ l, ⟨r, 0⟩)
 | [], acc, _ => by simp [rdL, numsB]
 | x :: l, acc, h => by
  have hx := h x (by simp)
  have e : numsB (x :: l) ++ r = numB x.toNat ++ (numsB l ++ r) := by simp [numsB]
  have hn := numR_num (x := x.toNat) (by omega) (numsB l ++ r)
  rw [List.length_cons, rdL, e, hn]
  simp only [if_true]
  rw [rdL_num r l _ fun n hn => h n (List.mem_cons_of_mem _ hn)]
  have e2 : min ((x.toNat : Nat) : Int) 8 = x := by omega
  rw [e2, List.append_assoc]
  rfl
def membersOf (d : List UInt8) : Option (List Int) := if endR (getI ⟨d, 0⟩).2 = 0 ∧ mB (getI ⟨d, 0⟩).1 = true then some (getI ⟨d, 0⟩).1 else none
theorem membersOf_some {d : List UInt8} {l : List Int} (h : membersOf d = some l) : mB l = true ∧ d = membB l := by
 unfold membersOf at h
 split at h
 ·rename_i hc
  obtain ⟨he, hm⟩ := hc
  simp only [Option.some.injEq] at h
  subst h
  refine ⟨hm, ?_⟩
  have hz : (getI ⟨d, 0⟩).2.e = 0 ∧ (getI ⟨d, 0⟩).2.b = [] := by
   unfold endR at he
   split at he
   ·rename_i h0
    split at he
    ·exact ⟨h0, List.eq_nil_of_length_eq_zero (by assumption)⟩
    ·cases he
   ·rename_i h0; exact absurd he h0
  obtain ⟨xs, h1, h2, h3⟩ := rdL_back _ _ _ hz.1
  change (getI ⟨d, 0⟩).1 = _ at h2
  change _ = (⟨(xs.map numB).flatten ++ (getI ⟨d, 0⟩).2.b, 0⟩ : RS) at h3
  rw [hz.2, List.append_nil] at h3
  have hce : (countR 7 (⟨d, 0⟩ : RS)).2.e = 0 := by rw [h3]
  obtain ⟨hb, hle⟩ := countR_back hce
  rw [List.nil_append] at h2
  have hxs : ∀ x ∈ xs, (x : Int) ≤ 7 := by
   intro x hx
   have := (mL hm).2.2 (min (x : Int) 8) (by rw [h2]; exact List.mem_map.2 ⟨x, hx, rfl⟩)
   omega
  have hmap : numsB (getI ⟨d, 0⟩).1 = (xs.map numB).flatten := by
   rw [h2]
   unfold numsB
   rw [List.map_map]
   congr 1
   refine List.map_congr_left fun x hx => ?_
   have := hxs x hx
   show numB (min (x : Int) 8).toNat = numB x
   rw [show (min (x : Int) 8).toNat = x by omega]
  have hd := congrArg RS.b hb
  simp only at hd
  have hlen : (getI ⟨d, 0⟩).1.length = (countR 7 (⟨d, 0⟩ : RS)).1 := by rw [h2, List.length_map, h1]
  refine hd.trans ?_
  unfold membB
  rw [hmap, hlen, h3]
 ·cases h
theorem membersOf_membB {l : List Int} (h : mB l = true) : membersOf (membB l) = some l := by
 obtain ⟨h1, h7, hm⟩ := mL h
 have e : getI ⟨membB l, 0⟩ = (l, ⟨[], 0⟩) := by
  unfold getI membB
  rw [countR_num (m := 7) (by omega) h7]
  have := rdL_num [] l [] fun n hn => by have := hm n hn; omega
  rw [List.append_nil, List.nil_append] at this
  exact this
 unfold membersOf
 rw [e, if_pos ⟨rfl, h⟩]
theorem memOf1_any (w : World) (p : Nat) (s : RS) (h : RdAt w p s) : Calls Tryz.prog 103 #[.pointer (some ⟨p, 0, none⟩)] w (RetR (.int .i64 (min ((numR s).1 : Int) 8)) p (numR s).2 w) := by
 have hn := rnum_any w p s h
 clear h
 go_enter Tryz.func103, Tryz.ntmps103
 go_wp2_with fail
 refine hn.mono ?_
 rintro e w1 ⟨rfl, h1, k1⟩
 clear hn
 obtain ⟨x, hx⟩ : ∃ x, x = (numR s).1 := ⟨_, rfl⟩
 rw [← hx]
 have HX := hI hx
 clear hx
 by_cases hx : (x : Int) ≤ 8
 all_goals
  go_wp2_with fail
  go_ret
  exact RetR.mk (int_eq (by rw [← HX.out]; omega)) h1 k1
theorem clip_any (w : World) (a : Option Addr) (cap : Nat) (l : List Int) (h : Sl intv w (.slice a l.length cap) l) :
  Calls Tryz.prog 106 #[.slice a l.length cap] w (Ret (.slice a l.length l.length) w) := by
 obtain ⟨_, _, he, h1, h2, h3⟩ := h
 cases he
 unfold maxLen at h2
 clear h3
 cases a
 all_goals
  go_enter Tryz.func106, Tryz.ntmps106
  go_wp2
  go_ret
  exact Ret.mk rfl
theorem Sl.clip {α : Type} {enc : α → Value} {w : World} {a : Option Addr} {cap : Nat} {l : List α} (h : Sl enc w (.slice a l.length cap) l) : Sl enc w (.slice a l.length l.length) l := by
 obtain ⟨_, _, he, h1, h2, h3⟩ := h
 cases he
 refine ⟨a, l.length, rfl, Nat.le_refl _, by omega, ?_⟩
 rcases h3 with ⟨rfl, rfl⟩ | h3
 ·exact .inl ⟨rfl, by omega⟩
 ·exact .inr h3
end
section
open Go.RowKit Go.Sort
def ofD (es : List Ent) : Nat → Option (List Int × Nat)
 | 0 => none
 | k + 1 => match es[k]? with
  | some e => if e.cf = true then (match membersOf e.d with | some l => some (l, k + 1) | none => ofD es k) else ofD es k
  | none => ofD es k
section
variable (w : World) (t : Nat) (r : Option Nat) (ix tm : Int) (es : List Ent) (h : LogAt w t r ix tm es) (ok : LogOk ix tm es) (hd : ∀ e ∈ es, e.d.length ≤ 900)
 (a : Option Addr) (cap : Nat) (base : List Int) (hb : Sl intv w (.slice a base.length cap) base) (hbl : base.length ≤ 1000)
include h ok hd hb hbl
end
end
end Go.Proofs.YtdjooojpcepleaaGreat

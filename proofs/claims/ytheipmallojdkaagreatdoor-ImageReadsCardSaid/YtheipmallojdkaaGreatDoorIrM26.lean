/- slices.Collect, slices.Sort, slices.Sorted at texts: names, rising. Of no program: a region that draws its order, every operation of which but the last ones is quiet (reads, and calls that lay blocks), and whose last ones come one behind the other. -/
import Derived.Test.YtheipmallojdkaaGreatDoorIrM06
import Derived.Test.YtheipmallojdkaaGreatDoorShelf
import Derived.Test.YtheipmallojdkaaGreatDoorIrM10
import Derived.Shelf.Slices.In.SortNone
import Derived.Sort.EveryDepth
import Derived.Sort.Walk0
import Derived.Sort.OwnSorted
import Derived.Lib.QuietBelow
import Derived.StillTail

namespace Go.Proofs.YtheipmallojdkaaGreatDoor
open Go.RowKit Go.Maps Go.ChangeMaps Go.Sort Go.Shelf

theorem collectS (w : World) (gf : Nat) (lb : Array Value) (eg : ∀ args w, (callFunc gf args).run Tryz.prog w = .ok (.enter gf args) w) (ks : List ByteArray) (hk : ks.length ≤ 100000) (R : World → Prop)
    (iter : IterK keyS ks R 4 gf lb) (hR : ∀ A, Below w.heap.size w A → R A) :
    Calls Tryz.prog 64 #[.func (.func gf) #[] lb] w (CollPS w ks) := by
  have h := Lib.hid (appendS w gf lb eg ks hk R iter hR)
  generalize (Value.func (.func gf) #[] lb) = f at *
  clear iter hR eg
  go_enter Tryz.func64, Tryz.ntmps64
  go_wp2_with fail
  refine h.out.mono ?_
  rintro e w' ⟨v, xs, rfl, hp, hn⟩
  have HP := Lib.hid hp
  have HN := Lib.hid hn
  clear hp hn
  go_wp2_with fail
  go_ret
  exact ⟨v, xs, rfl, HP.out, HN.out⟩

theorem lessB_lt (a b : ByteArray) : lessB a b = decide (a.data.toList < b.data.toList) := by
  unfold lessB
  rw [bytesLess_eq, Lib.toList_data, Lib.toList_data]

/-- Names, rising. -/
def RiseS (l : List ByteArray) : Prop := l.Pairwise fun a b => lessB a b = true

theorem riseS_unique {a b : List ByteArray} (hp : a.Perm b) (ha : RiseS a) (hb : RiseS b) : a = b := by
  refine List.Perm.eq_of_pairwise (le := fun x y => lessB x y = true) (fun x y _ _ h1 h2 => ?_) ha hb hp
  rw [lessB_lt, decide_eq_true_eq] at h1 h2
  exact absurd (List.lt_trans h1 h2) (List.lt_irrefl _)

theorem rise_sorted (zs : List (List UInt8)) (hn : zs.Nodup) : (zs.mergeSort fun x y => decide (x ≤ y)).Pairwise (fun a b => a < b) := by
  have h1 := List.pairwise_mergeSort (le := fun x y : List UInt8 => decide (x ≤ y)) (fun a b c h1 h2 => by
    rw [decide_eq_true_eq] at *
    exact List.le_trans h1 h2) (fun a b => by
    rw [Bool.or_eq_true, decide_eq_true_eq, decide_eq_true_eq]
    exact List.le_total a b) zs
  have h2 : (zs.mergeSort fun x y => decide (x ≤ y)).Nodup := (List.mergeSort_perm zs _).nodup_iff.2 hn
  refine (h1.and h2).imp ?_
  rintro a b ⟨h3, h4⟩
  rw [decide_eq_true_eq] at h3
  by_cases h5 : a < b
  · exact h5
  · exact absurd (List.le_antisymm h3 (List.not_lt.1 h5)) h4

/-- The texts ks, rising, in a new slice. -/
def RisePS (w : World) (ks : List ByteArray) (e : Ending) (w' : World) : Prop := ∃ v ys, e = .returned v ∧ ys.Perm ks ∧ RiseS ys ∧ NewS w ys v w'

/-- What Sort leaves of a row. -/
def SrtS (w : World) (blk : Nat) (zs : List (List UInt8)) (e : Ending) (w' : World) : Prop := e = .returned (.tuple #[]) ∧ ∃ n os, w' = grow (putRow encStr (Sort.ahead w n) blk 0 (zs.mergeSort fun x y => decide (x ≤ y)).toArray) os
theorem sort_someS (w : World) (blk cap : Nat) (zs : List (List UInt8)) (hH : Holds encStr w blk 0 zs.toArray) (hb : blk < w.heap.size) (hl : zs.length < 4611686018427387904) :
    Calls Tryz.prog 65 #[.slice (some ⟨blk, 0, none⟩) zs.length cap] w (SrtS w blk zs) :=
  calls_of_every_depth fun D => AnyS.slices_Sort_string_alone Tryz.lays190 D blk 0 cap zs w hH hb hl
theorem sort_noneS (w : World) (p : Option Addr) (cap : Nat) : Calls Tryz.prog 65 #[.slice p 0 cap] w (RetB (.tuple #[]) w) :=
  (Any.slices_Sort_string_none Tryz.lays190 p cap w).mono fun e w' h => ⟨h.1, by rw [h.2]; exact RowKit.Below.refl _ _⟩

theorem holdsS {w : World} {g : Nat} {cur : Array Value} {e : TypeId} {xs : List ByteArray} (hb : w.heap[g]? = some (.cells cur e (0, 0))) (ht : cur.toList.take xs.length = xs.map keyS) : Holds encStr w g 0 (xs.map fun x => x.data.toList).toArray := by
  intro j hj
  have hj' : j < xs.length := by simpa using hj
  refine ⟨?_, by simp [World.frozen?, hb]⟩
  have h1 : (cur.toList.take xs.length)[j]? = (xs.map keyS)[j]? := by rw [ht]
  rw [List.getElem?_take_of_lt hj'] at h1
  simp only [World.cell?, hb, Nat.zero_add]
  simp only [Option.isSome_none, Bool.false_eq_true, if_false]
  rw [← Array.getElem?_toList, h1]
  simp [hj', keyS, encStr]

theorem take_putS (cur : Array Value) (d : List (List UInt8)) (h : d.length ≤ cur.size) : (putCells encStr 0 d.toArray cur).toList.take d.length = (d.map fun l => (⟨l.toArray⟩ : ByteArray)).map keyS := by
  rw [take_putCells cur d h, List.map_map]
  rfl

set_option maxRecDepth 100000 in
theorem sortedS_any (w : World) (gf : Nat) (lb : Array Value) (eg : ∀ args w, (callFunc gf args).run Tryz.prog w = .ok (.enter gf args) w) (ks : List ByteArray) (hk : ks.length ≤ 100000) (hnd : ks.Nodup) (R : World → Prop)
    (iter : IterK keyS ks R 4 gf lb) (hR : ∀ A, RowKit.Below w.heap.size w A → R A) :
    Calls Tryz.prog 43 #[.func (.func gf) #[] lb] w (RisePS w ks) := by
  have h := Lib.hid (collectS w gf lb eg ks hk R iter hR)
  generalize (Value.func (.func gf) #[] lb) = f at *
  have HND := Lib.hid hnd
  clear iter hR eg hnd
  go_enter Tryz.func43, Tryz.ntmps43
  go_wp2_with fail
  refine h.out.mono ?_
  rintro e w1 ⟨v, xs, rfl, hp, hn⟩
  have HP := Lib.hid hp
  have HN := Lib.hid hn
  have hxl : xs.length ≤ 100000 := by rw [hp.length_eq]; exact hk
  have HXN := Lib.hid (hp.nodup_iff.2 HND.out)
  rcases hn.1.2 with ⟨rfl, h0⟩ | ⟨g, cap, cur, rfl, hg1, hg2, hg3, hg4, hg5, hg6⟩
  · have h0' : xs.length = 0 := h0
    have hx : xs = [] := List.eq_nil_of_length_eq_zero h0'
    subst hx
    clear hp hn h0 h0'
    go_wp2_with fail
    refine (sort_noneS w1 none 0).mono ?_
    rintro e w2 ⟨rfl, hb⟩
    have HB := Lib.hid (HN.out.2.trans (hb.mono HN.out.2.size))
    clear hb
    go_wp2_with fail
    go_ret
    exact ⟨_, [], rfl, HP.out, List.Pairwise.nil, World.ownsRow_nil _ _ _ _, HB.out⟩
  · have hH : Holds encStr w1 g 0 (xs.map fun x => x.data.toList).toArray := holdsS hg2 (by simpa using hg6)
    obtain ⟨zs, hzs⟩ : ∃ zs, zs = xs.map fun x => x.data.toList := ⟨_, rfl⟩
    rw [← hzs] at hH
    have hzl : zs.length = xs.length := by rw [hzs]; simp
    have HS := Lib.hid (sort_someS w1 g cap zs hH (heap_lt hg2) (by omega))
    rw [hzl] at HS
    have HG2 := Lib.hid hg2
    have HG := Lib.hid (show w.heap.size ≤ g ∧ xs.length ≤ cap ∧ cap ≤ maxLen ∧ cur.size = cap * 1 from ⟨hg1, hg3, hg4, hg5⟩)
    have HZS := Lib.hid hzs
    clear hp hn hH hg1 hg2 hg3 hg4 hg5 hg6 hzs
    go_wp2_with fail
    refine HS.out.mono ?_
    rintro e w2 ⟨rfl, n, os, hw2⟩
    obtain ⟨ys, hys⟩ : ∃ ys : List ByteArray, ys = (zs.mergeSort fun x y => decide (x ≤ y)).map fun l => (⟨l.toArray⟩ : ByteArray) := ⟨_, rfl⟩
    have hzn : zs.Nodup := by
      rw [HZS.out]
      exact List.pairwise_map.2 (HXN.out.imp fun hne hab => hne (ByteArray.ext (Array.ext' hab)))
    have hpz := List.mergeSort_perm zs fun x y => decide (x ≤ y)
    have hback : zs.map (fun l => (⟨l.toArray⟩ : ByteArray)) = xs := by
      rw [HZS.out, List.map_map]
      exact (List.map_congr_left (g := id) (fun x _ => ByteArray.ext (by simp))).trans (List.map_id xs)
    have hperm : ys.Perm xs := by
      rw [hys]
      have := hpz.map fun l => (⟨l.toArray⟩ : ByteArray)
      rwa [hback] at this
    have hrise : RiseS ys := by
      rw [hys]
      refine List.pairwise_map.2 ((rise_sorted zs hzn).imp ?_)
      intro a b hab
      rw [lessB_lt, decide_eq_true_eq]
      simpa using hab
    have hylen : ys.length = xs.length := hperm.length_eq
    have hml : (zs.mergeSort fun x y => decide (x ≤ y)).length = xs.length := by rw [List.length_mergeSort]; exact hzl
    have hg2' : w2.heap[g]? = some (.cells (putCells encStr 0 (zs.mergeSort fun x y => decide (x ≤ y)).toArray cur) 9 (0, 0)) := by
      rw [hw2]; exact heap_sorted _ HG2.out
    have hown : w2.ownsRow w.heap.size 9 1 (.slice (some ⟨g, 0, none⟩) xs.length cap) ys.length (ys.map keyS) := by
      refine ⟨by simp, .inr ⟨g, cap, _, by rw [hylen], HG.out.1, hg2', by rw [hylen]; exact HG.out.2.1, HG.out.2.2.1, by simpa [putCells] using HG.out.2.2.2, ?_⟩⟩
      rw [Nat.mul_one, hylen, ← hml, hys]
      exact take_putS cur _ (by have := HG.out; omega)
    have hkeep : RowKit.Below w.heap.size w w2 := by
      rw [hw2]
      have h1 : Keeps (fun k => k = g) w1 (grow (putRow encStr (Sort.ahead w1 n) g 0 (zs.mergeSort fun x y => decide (x ≤ y)).toArray) os) := grown_keeps (grownBy_sorted _) fun k hk => by cases hk; rfl
      exact (Keeps.of_below HN.out.2).trans (h1.mono (fun k _ e => by have := HG.out; show w.heap.size ≤ k; omega)) |>.below (Nat.le_refl _) fun k h => h
    have HFIN := Lib.hid (show ys.Perm ks ∧ RiseS ys ∧ NewS w ys (.slice (some ⟨g, 0, none⟩) xs.length cap) w2 from ⟨hperm.trans HP.out, hrise, hown, hkeep⟩)
    clear hw2 hys hzn hpz hback hperm hrise hylen hml hg2' hown hkeep
    go_wp2_with fail
    go_ret
    exact ⟨_, ys, rfl, HFIN.out⟩

end Go.Proofs.YtheipmallojdkaaGreatDoor

namespace Go.Proofs.YtheipmallojdkaaGreatDoor
open Go.RowKit Go.Sort

section
variable {P : Program} {ops : Array Oper} {md : Region.Mode} {C : World → Prop}

/-- An operation whose guard is false. -/
theorem wpQuiet_skip {Q : Act → Prop} {a : Act} {o : Oper} {rest : List Oper} (h : Region.wanted o (yielded ops a.tmps) = false) (hr : wpQuiet P ops C Q rest (a.put o.dst undef)) : wpQuiet P ops C Q (o :: rest) a :=
  wpQuiet_step fun K hK => by rw [h]; exact hK _ hr

def qAny (P : Program) (md : Region.Mode) (ops : Array Oper) (C : World → Prop) (n : Nat) (L : Array Bool → Act → Prop) : Nat → Array Bool → Act → Prop
  | 0, listed, a => L listed a
  | f + 1, listed, a => Region.ready md ops listed ≠ [] ∧ ∀ i ∈ Region.ready md ops listed, i < n ∧ qOp P ops C i (qAny P md ops C n L f (listed.setIfInBounds i true)) a

theorem any_of_q {n g : Nat} {L : Array Bool → Act → Prop} {Q' : Exit → Act → World → Prop} (hL : ∀ listed a w, C w → L listed a → wpAny P md ops Q' g listed a w) :
    ∀ (f : Nat) (listed : Array Bool) (a : Act) (w : World), C w → qAny P md ops C n L f listed a → wpAny P md ops Q' (f + g) listed a w
  | 0, listed, a, w, hw, h => by rw [Nat.zero_add]; exact hL _ _ _ hw h
  | f + 1, listed, a, w, hw, h => by
    rw [show f + 1 + g = (f + g) + 1 by omega]
    exact ⟨fun h0 => absurd h0 h.1, fun i hi => wpOp_of_qOp hw (fun a' w' hw' h' => any_of_q hL f _ a' w' hw' h') (h.2 i hi).2⟩

theorem q_first {n i : Nat} {oi : Oper} {v : Value} {L : Array Bool → Act → Prop} (hi : ops[i]? = some oi) (hsel : ∀ (j : Nat) (o : Oper) cs b, ops[j]? = some o → o.op ≠ .select cs b)
    (hs : Region.sinkB md ops n = true) (hc : Region.chainB md ops n = true) (hn : n < ops.size) (hin : i < n) (hdone : ∀ listed a, L listed a → ∀ j ∈ Region.ready md ops listed, n ≤ j) :
    ∀ (f : Nat) (listed : Array Bool) (a : Act), HeadInv md ops n listed →
      (∀ j oj, ops[j]? = some oj → j ≠ i → listed.getD j true = false → (∀ e ∈ oj.after, Region.binds md e = true → e.on ≠ i) → oi.apart ops oj = true) →
      i ∈ Region.ready md ops listed → YieldsIn P ops C oi v a →
      qAny P md ops C n L f (listed.setIfInBounds i true) (a.put oi.dst v) → qAny P md ops C n L (f + 1) listed a := by
  intro f
  induction f with
  | zero =>
    intro listed a inv _ hr hy H
    refine ⟨fun h => (by rw [h] at hr; cases hr), fun j hj => ?_⟩
    have hjn : j < n := Nat.lt_of_not_le fun h => absurd hj (tail_waits hs hc hn inv _ i rfl hin (mem_ready.1 hr).1 j h)
    refine ⟨hjn, ?_⟩
    by_cases hji : j = i
    · subst hji; exact hy.qOp hi H
    · have := hdone _ _ H j (ready_mono hj hji)
      omega
  | succ f ih =>
    intro listed a inv hfree hr hy H
    have hun := (mem_ready.1 hr).1
    refine ⟨fun h => (by rw [h] at hr; cases hr), fun j hj => ?_⟩
    have hjn : j < n := Nat.lt_of_not_le fun h => absurd hj (tail_waits hs hc hn inv _ i rfl hin hun j h)
    refine ⟨hjn, ?_⟩
    by_cases hji : j = i
    · subst hji; exact hy.qOp hi H
    · have h1 := (H.2 j (ready_mono hj hji)).2
      obtain ⟨hjun, oj, hoj, hall⟩ := mem_ready.1 hj
      have hnot : ∀ e ∈ oj.after, Region.binds md e = true → e.on ≠ i := fun e he hb heq => by
        have h1 := hall e he hb
        rw [heq, getD_both hun] at h1
        cases h1
      have h2 := qOp_put hoj (hfree j oj hoj hji hjun hnot) (fun cs b => hsel i oi cs b hi) (fun cs b => hsel j oj cs b hoj) hy h1
      refine qOp_mono (fun a' h3 => ih (listed.setIfInBounds j true) a' (inv.set hj hjn) (fun k ok hk hki hun' hno => hfree k ok hk hki ?_ hno) (ready_mono hr (Ne.symm hji)) h3.1 ?_) h2
      · by_cases hjk : j = k
        · subst hjk; exact hjun
        · rw [getD_set_ne true hjk] at hun'; exact hun'
      · rw [Array.setIfInBounds_comm _ _ hji]
        exact h3.2

theorem q_lex {n g : Nat} {Lq : Act → Prop} (hsel : Region.noSelect ops = true) (hs : Region.sinkB md ops n = true) (hc : Region.chainB md ops n = true) (hn : n < ops.size) :
    ∀ (l : List Oper) (k : Nat) (listed : Array Bool) (a : Act), (∀ j, j < l.length → l[j]? = ops[k + j]?) → k + l.length = n → HeadInv md ops n listed →
    Region.lexHead md ops g l.length k listed = true → wpQuiet P ops C Lq l a →
    qAny P md ops C n (fun listed' a' => Region.seqB md ops g n listed' = true ∧ Lq a') l.length listed a
  | [], k, listed, a, _, hk, _, hB, h => by
    have : k = n := by simpa using hk
    subst this
    exact ⟨by simpa [Region.lexHead] using hB, h⟩
  | o :: l, k, listed, a, hl, hk, inv, hB, h => by
    have h0 : ops[k]? = some o := by simpa using (hl 0 (by simp)).symm
    simp only [List.length_cons, Region.lexHead, Bool.and_eq_true] at hB
    obtain ⟨⟨hr, hf⟩, hB'⟩ := hB
    have hkn : k < n := by simp only [List.length_cons] at hk; omega
    have hr' : k ∈ Region.ready md ops listed := by simpa using hr
    have hst : qOp P ops C k (wpQuiet P ops C Lq l) a := by unfold qOp; simp only [h0]; exact h
    obtain ⟨v, hy, hK⟩ := yieldsIn_of_qOp h0 hst
    exact q_first h0 (Region.noSelect_spec hsel) hs hc hn hkn (fun listed' a' hL => seqB_ready hL.1) l.length listed a inv (Region.free_spec h0 hf) hr' hy
      (q_lex hsel hs hc hn l (k + 1) _ _ (fun j hj => by have := hl (j + 1) (by simp; omega); simpa [Nat.add_assoc, Nat.add_comm 1 j] using this) (by simp only [List.length_cons] at hk; omega) (inv.set hr' hkn) hB' hK)

/-- Quiet ones first, then the last ones, from whatever world the quiet ones leave. -/
theorem region_quiet_tail {id : Nat} {Q : Exit → Act → World → Prop} {a : Act} {w : World} {l : List Oper} (n : Nat) (hm : P.follows .mixedOrders = true) (hB : Region.lexTailB .any l.toArray n = true)
    (h : wpQuiet P l.toArray (fun w' => ∃ p : Regrown, w' = grow (redrawn w p.d) p.os) (fun a' => ∀ w', (∃ p : Regrown, w' = grow (redrawn w p.d) p.os) → wpList P l.toArray Q (l.drop n) a' w') (l.take n) a) : (Code.region id l.toArray true).wp P Q a w := by
  simp only [Region.lexTailB, Bool.and_eq_true, decide_eq_true_eq] at hB
  obtain ⟨⟨⟨⟨hsel, hn⟩, hs⟩, hc⟩, hlex⟩ := hB
  have hn' : n < l.length := by simpa using hn
  have htl : (l.take n).length = n := by simp; omega
  have hdl : (l.drop n).length = l.toArray.size - n := by simp
  have inv0 : HeadInv .any l.toArray n (Array.replicate l.toArray.size false) :=
    ⟨by simp, fun j oj _ hl => (by rw [getD_replicate_false] at hl; cases hl), fun t _ ht => getD_in (by simpa using ht) (getD_replicate_false _ _)⟩
  have H := q_lex (md := .any) (g := l.toArray.size - n) hsel hs hc hn (l.take n) 0 _ a (fun j hj => by
    have hj' : j < n := by rw [htl] at hj; exact hj
    simp [hj']) (by simpa using htl) inv0 (by rw [htl]; exact hlex) h
  refine wp_region_any hm ?_
  have := any_of_q (Q' := Q) (g := l.toArray.size - n) (fun listed a' w' hw' hL => by
    have := wpAny_of_seq (md := .any) (Q' := Q) (l.drop n) n listed a' w' (fun j => by simp [List.getElem?_drop]) (by rw [hdl]; exact hL.1) (hL.2 w' hw')
    rwa [hdl] at this) _ _ _ { w with drawn := w.drawn + 1 } ⟨⟨w.drawn + 1, #[]⟩, by rw [grow_empty]; rfl⟩ H
  rw [htl, show n + (l.toArray.size - n) = l.toArray.size by omega] at this
  exact this
end

end Go.Proofs.YtheipmallojdkaaGreatDoor

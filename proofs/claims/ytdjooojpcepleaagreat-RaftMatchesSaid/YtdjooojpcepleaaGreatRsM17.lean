/- Of no program: a region that draws its order, every operation of which but the last ones is quiet (reads, and calls that lay blocks), and whose last ones come one behind the other. -/
import Derived.Lib.QuietBelow
import Derived.StillTail
import Derived.Test.YtdjooojpcepleaaGreatRsM16

namespace Go.Proofs.YtdjooojpcepleaaGreat
section
open Go.RowKit Go.Sort
section
variable {P : Program} {ops : Array Oper} {md : Region.Mode} {C : World → Prop}
theorem wQ {Q : Act → Prop} {a : Act} {o : Oper} {rest : List Oper} (h : Region.wanted o (yielded ops a.tmps) = false) (hr : wpQuiet P ops C Q rest (a.put o.dst undef)) : wpQuiet P ops C Q (o :: rest) a :=
 wpQuiet_step fun K hK => by rw [h]; exact hK _ hr
def qAny (P : Program) (md : Region.Mode) (ops : Array Oper) (C : World → Prop) (n : Nat) (L : Array Bool → Act → Prop) : Nat → Array Bool → Act → Prop
 | 0, listed, a => L listed a
 | f + 1, listed, a => Region.ready md ops listed ≠ [] ∧ ∀ i ∈ Region.ready md ops listed, i < n ∧ qOp P ops C i (qAny P md ops C n L f (listed.setIfInBounds i true)) a
theorem any_of_q {n g : Nat} {L : Array Bool → Act → Prop} {Q' : Exit → Act → World → Prop} (hL : ∀ listed a w, C w → L listed a → wpAny P md ops Q' g listed a w) :
  ∀ (f : Nat) (listed : Array Bool) (a : Act) (w : World), C w → qAny P md ops C n L f listed a → wpAny P md ops Q' (f + g) listed a w
 | 0, listed, a, w, hw, h => by rw [Nat.zero_add]; exact hL _ _ _ hw h
 | f + 1, listed, a, w, hw, h => by
  rw [show f + 1 + g = (f + g) + 1 by omega]
  exact ⟨fun h0 => absurd h0 h.1, fun i hi => wpOp_of_qOp hw (fun a' w' hw' h' => any_of_q hL f _ a' w' hw' h') (h.2 i hi).2⟩
theorem q_first {n i : Nat} {oi : Oper} {v : Value} {L : Array Bool → Act → Prop} (hi : ops[i]? = some oi) (hsel : ∀ (j : Nat) (o : Oper) cs b, ops[j]? = some o → o.op ≠ .select cs b)
  (hs : Region.sinkB md ops n = true) (hc : Region.chainB md ops n = true) (hn : n < ops.size) (hin : i < n) (hdone : ∀ listed a, L listed a → ∀ j ∈ Region.ready md ops listed, n ≤ j) :
  ∀ (f : Nat) (listed : Array Bool) (a : Act), HeadInv md ops n listed →
   (∀ j oj, ops[j]? = some oj → j ≠ i → listed.getD j true = false → (∀ e ∈ oj.after, Region.binds md e = true → e.on ≠ i) → oi.apart ops oj = true) →
   i ∈ Region.ready md ops listed → YieldsIn P ops C oi v a →
   qAny P md ops C n L f (listed.setIfInBounds i true) (a.put oi.dst v) → qAny P md ops C n L (f + 1) listed a := by
 intro f
 induction f with
 | zero =>
  intro listed a inv _ hr hy H
  refine ⟨fun h => (by rw [h] at hr; cases hr), fun j hj => ?_⟩
  have hjn : j < n := Nat.lt_of_not_le fun h => absurd hj (tail_waits hs hc hn inv _ i rfl hin (mem_ready.1 hr).1 j h)
  refine ⟨hjn, ?_⟩
  by_cases hji : j = i
  ·subst hji; exact hy.qOp hi H
  ·have := hdone _ _ H j (ready_mono hj hji)
   omega
 | succ f ih =>
  intro listed a inv hfree hr hy H
  have hun := (mem_ready.1 hr).1
  refine ⟨fun h => (by rw [h] at hr; cases hr), fun j hj => ?_⟩
  have hjn : j < n := Nat.lt_of_not_le fun h => absurd hj (tail_waits hs hc hn inv _ i rfl hin hun j h)
  refine ⟨hjn, ?_⟩
  by_cases hji : j = i
  ·subst hji; exact hy.qOp hi H
  ·have h1 := (H.2 j (ready_mono hj hji)).2
   obtain ⟨hjun, oj, hoj, hall⟩ := mem_ready.1 hj
   have hnot : ∀ e ∈ oj.after, Region.binds md e = true → e.on ≠ i := fun e he hb heq => by
    have h1 := hall e he hb
    rw [heq, getD_both hun] at h1
    cases h1
   have h2 := qOp_put hoj (hfree j oj hoj hji hjun hnot) (fun cs b => hsel i oi cs b hi) (fun cs b => hsel j oj cs b hoj) hy h1
   refine qOp_mono (fun a' h3 => ih (listed.setIfInBounds j true) a' (inv.set hj hjn) (fun k ok hk hki hun' hno => hfree k ok hk hki ?_ hno) (ready_mono hr (Ne.symm hji)) h3.1 ?_) h2
   ·by_cases hjk : j = k
    ·subst hjk; exact hjun
    ·rw [getD_set_ne true hjk] at hun'; exact hun'
   ·rw [Array.setIfInBounds_comm _ _ hji]
    exact h3.2
theorem q_lex {n g : Nat} {Lq : Act → Prop} (hsel : Region.noSelect ops = true) (hs : Region.sinkB md ops n = true) (hc : Region.chainB md ops n = true) (hn : n < ops.size) :
  ∀ (l : List Oper) (k : Nat) (listed : Array Bool) (a : Act), (∀ j, j < l.length → l[j]? = ops[k + j]?) → k + l.length = n → HeadInv md ops n listed →
  Region.lexHead md ops g l.length k listed = true → wpQuiet P ops C Lq l a →
  qAny P md ops C n (fun listed' a' => Region.seqB md ops g n listed' = true ∧ Lq a') l.length listed a
 | [], k, listed, a, _, hk, _, hB, h => by
  have : k = n := by simpa using hk
  subst this
  exact ⟨by simpa [Region.lexHead] using hB, h⟩
 | o :: l, k, listed, a, hl, hk, inv, hB, h => by
  have h0 : ops[k]? = some o := by simpa using (hl 0 (by simp)).symm
  simp only [List.length_cons, Region.lexHead, Bool.and_eq_true] at hB
  obtain ⟨⟨hr, hf⟩, hB'⟩ := hB
  have hkn : k < n := by simp only [List.length_cons] at hk; omega
  have hr' : k ∈ Region.ready md ops listed := by simpa using hr
  have hst : qOp P ops C k (wpQuiet P ops C Lq l) a := by unfold qOp; simp only [h0]; exact h
  obtain ⟨v, hy, hK⟩ := yieldsIn_of_qOp h0 hst
  exact q_first h0 (Region.noSelect_spec hsel) hs hc hn hkn (fun listed' a' hL => seqB_ready hL.1) l.length listed a inv (Region.free_spec h0 hf) hr' hy
   (q_lex hsel hs hc hn l (k + 1) _ _ (fun j hj => by have := hl (j + 1) (by simp; omega); simpa [Nat.add_assoc, Nat.add_comm 1 j] using this) (by simp only [List.length_cons] at hk; omega) (inv.set hr' hkn) hB' hK)
theorem region_quiet_tail {id : Nat} {Q : Exit → Act → World → Prop} {a : Act} {w : World} {l : List Oper} (n : Nat) (hm : P.follows .mixedOrders = true) (hB : Region.lexTailB .any l.toArray n = true)
  (h : wpQuiet P l.toArray (fun w' => ∃ p : Regrown, w' = grow (redrawn w p.d) p.os) (fun a' => ∀ w', (∃ p : Regrown, w' = grow (redrawn w p.d) p.os) → wpList P l.toArray Q (l.drop n) a' w') (l.take n) a) : (Code.region id l.toArray true).wp P Q a w := by
 simp only [Region.lexTailB, Bool.and_eq_true, decide_eq_true_eq] at hB
 obtain ⟨⟨⟨⟨hsel, hn⟩, hs⟩, hc⟩, hlex⟩ := hB
 have hn' : n < l.length := by simpa using hn
 have htl : (l.take n).length = n := by simp; omega
 have hdl : (l.drop n).length = l.toArray.size - n := by simp
 have inv0 : HeadInv .any l.toArray n (Array.replicate l.toArray.size false) :=
  ⟨by simp, fun j oj _ hl => (by rw [getD_replicate_false] at hl; cases hl), fun t _ ht => getD_in (by simpa using ht) (getD_replicate_false _ _)⟩
 have H := q_lex (md := .any) (g := l.toArray.size - n) hsel hs hc hn (l.take n) 0 _ a (fun j hj => by
   have hj' : j < n := by rw [htl] at hj; exact hj
   simp [hj']) (by simpa using htl) inv0 (by rw [htl]; exact hlex) h
 refine wp_region_any hm ?_
 have := any_of_q (Q' := Q) (g := l.toArray.size - n) (fun listed a' w' hw' hL => by
   have := wpAny_of_seq (md := .any) (Q' := Q) (l.drop n) n listed a' w' (fun j => by simp [List.getElem?_drop]) (by rw [hdl]; exact hL.1) (hL.2 w' hw')
   rwa [hdl] at this) _ _ _ { w with drawn := w.drawn + 1 } ⟨⟨w.drawn + 1, #[]⟩, by rw [grow_empty]; rfl⟩ H
 rw [htl, show n + (l.toArray.size - n) = l.toArray.size by omega] at this
 exact this
end
end
section
open Go.RowKit Go.Maps Go.ChangeMaps
open Go.«Sort» (grow)
def TrkOk (l : List (Int × (Int × Int))) : Prop := ∀ x ∈ l, (1 ≤ x.1 ∧ x.1 ≤ 7) ∧ (0 ≤ x.2.1 ∧ x.2.1 ≤ 18446744073709551615) ∧ 0 ≤ x.2.2 ∧ x.2.2 ≤ 18446744073709551615
theorem TrkOk.set {l : List (Int × (Int × Int))} (h : TrkOk l) {x : Int} (h1 : 1 ≤ x) (h7 : x ≤ 7) {y : Int × Int} (a : 0 ≤ y.1 ∧ y.1 ≤ 18446744073709551615) (b : 0 ≤ y.2 ∧ y.2 ≤ 18446744073709551615) : TrkOk (aset x y l) := fun q hq => by
 rcases aset_mem hq with hq | rfl
 ·exact h q hq
 ·exact ⟨⟨h1, h7⟩, a, b⟩
theorem TrkP.set {w : World} {S : Nat → Prop} {b m : Nat} {l l' : List (Int × (Int × Int))} (hbx : w.heap[b]? = some (.cells #[.map (some m)] 140 (0, 0))) (hmp : NMap marV w m l) (hSb : S b) (hSm : S m) (ob : Obj) (hM : NMap marV (setBlock w m ob) m l') (hok : TrkOk l') :
  TrkP (setBlock w m ob) S (.pointer (some ⟨b, 0, none⟩)) (some l') ∧ Keeps S w (setBlock w m ob) := by
 have hk : Keeps (fun k => k = m) w (setBlock w m ob) := (Keeps.refl (fun k => k = m) w).setBlock (.inl rfl) ob
 have hne : b ≠ m := fun e => by
  obtain ⟨_, _, hmm, _⟩ := hmp
  rw [← e, hbx] at hmm
  cases hmm
 exact ⟨⟨b, m, rfl, hk.heap hne hbx, hM, hSb, hSm, hok⟩, hk.mono fun k _ e => e ▸ hSm⟩
def yesT (o : Option (List (Int × (Int × Int)))) (x i : Int) : Option (List (Int × (Int × Int))) := match tget o x with
 | some y => if i ≤ y.1 then o else o.map fun l => aset x (i, max y.2 (aboveF i)) l
 | none => o
def yesR (o : Option (List (Int × (Int × Int)))) (x i : Int) : Bool := match tget o x with
 | some y => !decide (i ≤ y.1)
 | none => false
def TrkTo (w : World) (S : Nat → Prop) (v : Value) (o : Option (List (Int × (Int × Int)))) (r : Value) (e : Ending) (w' : World) : Prop := e = .returned r ∧ TrkP w' S v o ∧ Keeps S w w'
set_option maxRecDepth 100000 in
set_option maxHeartbeats 1600000 in
theorem rtrk_yes (w : World) (S : Nat → Prop) (v : Value) (o : Option (List (Int × (Int × Int)))) (h : TrkP w S v o) (x : Int) (h1 : 1 ≤ x) (h7 : x ≤ 7) (i : Int) (i0 : 0 ≤ i) (i1 : i ≤ 18446744073709551615) :
  Calls Tryz.prog 72 #[v, .int .i64 x, .int .u64 i] w (TrkTo w S v (yesT o x i) (.bool (yesR o x i))) := by
 have hh := rtrk_has w S v o h x h1 h7
 have H := hI h
 have hwf := id_wf h1 h7
 unfold yesT yesR
 cases ht : tget o x with
 | none =>
  rw [ht] at hh
  simp only [Option.isSome_none] at hh
  clear h ht
  go_enter Tryz.func72, Tryz.ntmps72
  go_wp2_with fail
  refine hh.mono ?_
  rintro e w1 ⟨rfl, hb1⟩
  have HB1 := hI hb1
  clear hh hb1
  go_wp2_with fail
  go_ret
  exact ⟨rfl, H.out.kept (Keeps.of_belowS (S := fun _ => False) HB1.out) (fun _ _ h => h), Keeps.of_belowS HB1.out⟩
 | some y =>
  rw [ht] at hh
  simp only [Option.isSome_some] at hh
  obtain ⟨l, rfl⟩ : ∃ l, o = some l := by
   cases o with
   | none => cases ht
   | some l => exact ⟨l, rfl⟩
  have hg : aget x l = some y := ht
  obtain ⟨y1, y2⟩ := y
  show Calls _ _ _ _ (TrkTo w S v (if i ≤ y1 then some l else some (aset x (i, max y2 (aboveF i)) l)) (.bool (!decide (i ≤ y1))))
  obtain ⟨O, hO⟩ : ∃ O, O = (if i ≤ y1 then some l else some (aset x (i, max y2 (aboveF i)) l)) := ⟨_, rfl⟩
  obtain ⟨R, hR⟩ : ∃ R, R = (!decide (i ≤ y1)) := ⟨_, rfl⟩
  rw [← hO, ← hR]
  have HO := hI hO
  have HR := hI hR
  have hy := (H.out.choose_spec.choose_spec.2.2.2.2.2) (x, (y1, y2)) (aget_some_mem hg)
  obtain ⟨b, m, rfl, _⟩ := id h
  have HG := hI hg
  have HY := hI hy
  clear h ht hg hy hO hR
  go_enter Tryz.func72, Tryz.ntmps72
  go_wp2_with fail
  refine hh.mono ?_
  rintro e w1 ⟨rfl, hb1⟩
  have H1 := H.out.kept (Keeps.of_belowS (S := fun _ => False) hb1) (fun _ _ h => h)
  obtain ⟨b', m', hv, hbx, hmp, hSb, hSm, hok⟩ := id H1
  obtain ⟨rfl⟩ : b = b' := by injection hv with e; injection e with e; injection e
  have HB1 := hI hb1
  have H1 := hI H1
  have HX := hI (show w1.heap[b]? = some (.cells #[.map (some m')] 140 (0, 0)) ∧ NMap marV w1 m' l ∧ S b ∧ S m' ∧ TrkOk l from ⟨hbx, hmp, hSb, hSm, hok⟩)
  have c0 : w1.cell? ⟨b, 0, none⟩ = some (.map (some m')) := bC hbx 0 rfl
  have lt := heap_lt hbx
  have hlk : ∀ n, (Instr.lookup 138 (.map (some m')) (.int .i64 x) false).run Tryz.prog (w1.drewN n) = .ok (.agg #[.int .u64 y1, .int .u64 y2]) (w1.drewN n) := fun n => by
   have := (show NMap marV (w1.drewN n) m' l from hmp).run_lookup nkeyed keyN_inj Tryz.underlying138 (mzero _) (nkey hwf) false
   rw [HG.out] at this
   exact this
  have hlk0 : (Instr.lookup 138 (.map (some m')) (.int .i64 x) false).run Tryz.prog w1 = .ok (.agg #[.int .u64 y1, .int .u64 y2]) w1 := hlk 0
  have hf0 := fun w => mfield0 w y1 y2
  have hf1 := fun w => mfield1 w y1 y2
  clear hh hb1 hv hbx hmp hSb hSm hok
  by_cases hi : i ≤ y1
  ·have hd : decide (i ≤ y1) = true := by simpa using hi
   have HOR : Hid (O = some l ∧ R = false) := hI ⟨by rw [HO.out, if_pos hi], by rw [HR.out, hd]; rfl⟩
   go_wp2_with fail
   go_ret
   exact ⟨by rw [HOR.out.2]; rfl, by rw [HOR.out.1]; exact H1.out, Keeps.of_belowS HB1.out⟩
  ·have hd : decide (i ≤ y1) = false := by simpa using hi
   have HOR : Hid (O = some (aset x (i, max y2 (aboveF i)) l) ∧ R = true) := hI ⟨by rw [HO.out, if_neg hi], by rw [HR.out, hd]; rfl⟩
   have hq : ∀ d os, Calls Tryz.prog 97 #[.int .u64 i] (grow (redrawn w1 d) os) (fun e w'' => e = .returned (.int .u64 (aboveF i)) ∧ ∃ p : Regrown, w'' = grow (redrawn w1 p.d) p.os) := fun d os => Calls.regrown_of ((above_any_ _ i).mono (by rintro e w' ⟨rfl, rfl⟩; exact ⟨rfl, bR⟩))
   have e0 : ∀ d os, (grow (redrawn w1 d) os).cell? ⟨b, 0, none⟩ = some (.map (some m')) := cell_regrown (bC HX.out.1 0 rfl)
   have hlq : ∀ d os, (Instr.lookup 138 (.map (some m')) (.int .i64 x) false).run Tryz.prog (grow (redrawn w1 d) os) = .ok (.agg #[.int .u64 y1, .int .u64 y2]) (grow (redrawn w1 d) os) := fun d os => by
    have := (HX.out.2.1.kept (Keeps.of_belowS (S := fun _ => False) (below_regrown w1 d os)) fun h => h).run_lookup nkeyed keyN_inj Tryz.underlying138 (mzero _) (nkey hwf) false
    rw [HG.out] at this
    exact this
   have HQ := hI hq
   obtain ⟨ab, hab⟩ : ∃ ab, ab = aboveF i := ⟨_, rfl⟩
   rw [← hab] at HQ
   have HAB := hI hab
   have hw2 : ∃ mx, max y2 ab = mx ∧ (0 ≤ mx ∧ mx ≤ 18446744073709551615) := ⟨_, rfl, by
     have h1 := aboveF_lo i0
     have h2 := aboveF_hi i1
     have h3 := HY.out.2.2
     omega⟩
   obtain ⟨mx, hmx, hmxb⟩ := hw2
   have HMX := hI (And.intro hmx hmxb)
   clear hq hab hlk hmx hmxb
   have fin : ∀ w2, Below w1.heap.size w1 w2 → ∀ ob, NMap marV (setBlock w2 m' ob) m' (aset x (i, mx) l) → TrkTo w S (.pointer (some ⟨b, 0, none⟩)) (some (aset x (i, max y2 (aboveF i)) l)) (.bool true) (.returned (.bool true)) (setBlock w2 m' ob) := fun w2 hb2 ob hM => by
    rw [← HAB.out, HMX.out.1]
    have hk12 : Keeps (fun _ => False) w1 w2 := Keeps.of_belowS hb2
    obtain ⟨q1, q2⟩ := TrkP.set (S := S) (hk12.heap (fun h => h) HX.out.1) (HX.out.2.1.kept hk12 fun h => h) HX.out.2.2.1 HX.out.2.2.2.1 ob hM (HX.out.2.2.2.2.set h1 h7 ⟨i0, i1⟩ HMX.out.2)
    refine ⟨rfl, q1, ?_⟩
    have hz := HB1.out.size
    exact ((Keeps.of_belowS (S := S) HB1.out).trans (Keeps.of_belowS hb2)).trans q2
   have FIN := hI fin
   clear fin
   go_wp2_with fail
   have hcm : (y2 < ab ∧ mx = ab) ∨ (¬ y2 < ab ∧ mx = y2) := by have := HMX.out.1; omega
   rcases hcm with ⟨hcm, hcm2⟩ | ⟨hcm, hcm2⟩
   all_goals
    subst hcm2
    refine region_quiet_tail 17 (by kernel_rfl) (by kernel_rfl) ?_
    simp only [List.take_succ_cons, List.take_zero, List.drop_succ_cons, List.drop_zero]
    repeat (quiet_step (first | (with_reducible exact HQ.out _ _)))
    refine wpQuiet_nil ?_
    intro w2 hw'
    have hb2 : Below w1.heap.size w1 w2 := by
     obtain ⟨⟨dq, osq⟩, hw''⟩ := hw'
     subst hw''
     exact below_regrown w1 dq osq
    have HB2 := hI hb2
    have HM2 : Hid (NMap marV w2 m' l) := hI (HX.out.2.1.kept (Keeps.of_belowS (S := fun _ => False) hb2) fun h => h)
    clear hw' hb2
    refine wpList_map_update w2 rfl _ _ _ _ rfl _ nkeyed keyN_inj Tryz.underlying138 m' l rfl HM2.out x _ rfl (nkey hwf) (i, _) rfl ?_
    intro ob hM
    have HMM := hI hM
    clear hM
    go_wp2_with fail
    go_ret
    rw [HOR.out.1, HOR.out.2]
    exact FIN.out w2 HB2.out ob HMM.out
def noT (o : Option (List (Int × (Int × Int)))) (x i : Int) : Option (List (Int × (Int × Int))) := match tget o x with
 | some y => if y.2 ≤ max (min y.2 (aboveF i)) (aboveF y.1) then o else o.map fun l => aset x (y.1, max (min y.2 (aboveF i)) (aboveF y.1)) l
 | none => o
def TrkTo' (w : World) (S : Nat → Prop) (v : Value) (o : Option (List (Int × (Int × Int)))) (e : Ending) (w' : World) : Prop := (∃ r : Bool, e = .returned (.bool r)) ∧ TrkP w' S v o ∧ Keeps S w w'
end
section
open Go.RowKit Go.Maps Go.ChangeMaps
open Go.«Sort» (grow)
set_option maxRecDepth 100000 in
set_option maxHeartbeats 3200000 in
theorem rtrk_no (w : World) (S : Nat → Prop) (v : Value) (o : Option (List (Int × (Int × Int)))) (h : TrkP w S v o) (x : Int) (h1 : 1 ≤ x) (h7 : x ≤ 7) (i : Int) (i0 : 0 ≤ i) (i1 : i ≤ 18446744073709551615) :
  Calls Tryz.prog 70 #[v, .int .i64 x, .int .u64 i] w (TrkTo' w S v (noT o x i)) := by
 have hh := rtrk_has w S v o h x h1 h7
 have H := hI h
 have hwf := id_wf h1 h7
 unfold noT
 cases ht : tget o x with
 | none =>
  rw [ht] at hh
  simp only [Option.isSome_none] at hh
  clear h ht
  go_enter Tryz.func70, Tryz.ntmps70
  go_wp2_with fail
  refine hh.mono ?_
  rintro e w1 ⟨rfl, hb1⟩
  have HB1 := hI hb1
  clear hh hb1
  go_wp2_with fail
  go_ret
  exact ⟨⟨_, rfl⟩, H.out.kept (Keeps.of_belowS (S := fun _ => False) HB1.out) (fun _ _ h => h), Keeps.of_belowS HB1.out⟩
 | some y =>
  rw [ht] at hh
  simp only [Option.isSome_some] at hh
  obtain ⟨l, rfl⟩ : ∃ l, o = some l := by
   cases o with
   | none => cases ht
   | some l => exact ⟨l, rfl⟩
  have hg : aget x l = some y := ht
  obtain ⟨y1, y2⟩ := y
  have hy := (H.out.choose_spec.choose_spec.2.2.2.2.2) (x, (y1, y2)) (aget_some_mem hg)
  obtain ⟨ai, hai⟩ : ∃ ai, ai = aboveF i := ⟨_, rfl⟩
  obtain ⟨am, ham⟩ : ∃ am, am = aboveF y1 := ⟨_, rfl⟩
  obtain ⟨mn, hmn⟩ : ∃ mn, mn = min y2 ai := ⟨_, rfl⟩
  obtain ⟨nx, hnx⟩ : ∃ nx, nx = max mn am := ⟨_, rfl⟩
  have hb : 0 ≤ nx ∧ nx ≤ 18446744073709551615 := by
   have e1 := aboveF_lo i0
   have e2 := aboveF_hi i1
   have e3 := aboveF_lo hy.2.1.1
   have e4 := aboveF_hi hy.2.1.2
   have e5 := hy.2.2
   simp only at e3 e4 e5
   omega
  show Calls _ _ _ _ (TrkTo' w S v (if y2 ≤ max (min y2 (aboveF i)) (aboveF y1) then some l else some (aset x (y1, max (min y2 (aboveF i)) (aboveF y1)) l)))
  rw [← hai, ← ham, ← hmn, ← hnx]
  obtain ⟨O, hO⟩ : ∃ O, O = (if y2 ≤ nx then some l else some (aset x (y1, nx) l)) := ⟨_, rfl⟩
  rw [← hO]
  have HO := hI hO
  have HNB := hI hb
  have q1 := fun W => above_any_ W i
  have q2 := fun W => above_any_ W y1
  rw [← hai] at q1
  rw [← ham] at q2
  have Q1 := hI q1
  have Q2 := hI q2
  have HMN := hI hmn
  have HNX := hI hnx
  obtain ⟨b, m, rfl, _⟩ := id h
  have HG := hI hg
  have HY := hI hy
  clear h ht hg hy hO hb q1 q2 hai ham hmn hnx
  go_enter Tryz.func70, Tryz.ntmps70
  go_wp2_with fail
  refine hh.mono ?_
  rintro e w1 ⟨rfl, hb1⟩
  have H1 := H.out.kept (Keeps.of_belowS (S := fun _ => False) hb1) (fun _ _ h => h)
  obtain ⟨b', m', hv, hbx, hmp, hSb, hSm, hok⟩ := id H1
  obtain ⟨rfl⟩ : b = b' := by injection hv with e; injection e with e; injection e
  have HB1 := hI hb1
  have H1 := hI H1
  have HX := hI (show w1.heap[b]? = some (.cells #[.map (some m')] 140 (0, 0)) ∧ NMap marV w1 m' l ∧ S b ∧ S m' ∧ TrkOk l from ⟨hbx, hmp, hSb, hSm, hok⟩)
  have c0 : w1.cell? ⟨b, 0, none⟩ = some (.map (some m')) := bC hbx 0 rfl
  have lt := heap_lt hbx
  have hlk0 : (Instr.lookup 138 (.map (some m')) (.int .i64 x) false).run Tryz.prog w1 = .ok (.agg #[.int .u64 y1, .int .u64 y2]) w1 := by
   have := hmp.run_lookup nkeyed keyN_inj Tryz.underlying138 (mzero _) (nkey hwf) false
   rw [HG.out] at this
   exact this
  clear hh hb1 hv hbx hmp hSb hSm hok
  go_wp2_with fail
  obtain ⟨W, hW⟩ : ∃ W, W = w1.alloc (.cells #[.int .u64 y1, .int .u64 y2] 137) := ⟨_, rfl⟩
  rw [← hW]
  have HXW : Hid (W.heap[w1.heap.size]? = some (.cells #[.int .u64 y1, .int .u64 y2] 137 (0, 0))) := hI (by rw [hW]; exact bW _ _)
  have HBW : Hid (Below w1.heap.size w1 W) := hI (by rw [hW]; exact bR.alloc nL _)
  have e0 : ∀ d os, (grow (redrawn W d) os).cell? ⟨w1.heap.size, 0, none⟩ = some (.int .u64 y1) := cell_regrown (bC HXW.out 0 rfl)
  have e1 : ∀ d os, (grow (redrawn W d) os).cell? ⟨w1.heap.size, 1, none⟩ = some (.int .u64 y2) := cell_regrown (bC HXW.out 1 rfl)
  have hq1 : ∀ d os, Calls Tryz.prog 97 #[.int .u64 i] (grow (redrawn W d) os) (fun e w'' => e = .returned (.int .u64 ai) ∧ ∃ p : Regrown, w'' = grow (redrawn W p.d) p.os) := fun d os => Calls.regrown_of ((Q1.out _).mono (by rintro e w' ⟨rfl, rfl⟩; exact ⟨rfl, bR⟩))
  have hq2 : ∀ d os, Calls Tryz.prog 97 #[.int .u64 y1] (grow (redrawn W d) os) (fun e w'' => e = .returned (.int .u64 am) ∧ ∃ p : Regrown, w'' = grow (redrawn W p.d) p.os) := fun d os => Calls.regrown_of ((Q2.out _).mono (by rintro e w' ⟨rfl, rfl⟩; exact ⟨rfl, bR⟩))
  have HQ1 := hI hq1
  have HQ2 := hI hq2
  have lW := heap_lt HXW.out
  clear hW c0 hlk0 hq1 hq2
  have hc1 : (¬ ai < y2 ∧ y2 = mn) ∨ (ai < y2 ∧ ai = mn) := by have := HMN.out; omega
  have hc2 : (mn < am ∧ am = nx) ∨ (¬ mn < am ∧ mn = nx) := by have := HNX.out; omega
  have HFIN : Hid (∀ w2, Below w1.heap.size w1 w2 → ∀ ob, NMap marV (setBlock w2 m' ob) m' (aset x (y1, nx) l) → TrkP (setBlock w2 m' ob) S (.pointer (some ⟨b, 0, none⟩)) (some (aset x (y1, nx) l)) ∧ Keeps S w (setBlock w2 m' ob)) := hI fun w2 hb2 ob hM => by
   have hk12 : Keeps (fun _ => False) w1 w2 := Keeps.of_belowS hb2
   obtain ⟨q1, q2⟩ := TrkP.set (S := S) (hk12.heap (fun h => h) HX.out.1) (HX.out.2.1.kept hk12 fun h => h) HX.out.2.2.1 HX.out.2.2.2.1 ob hM (HX.out.2.2.2.2.set h1 h7 HY.out.2.1 HNB.out)
   exact ⟨q1, ((Keeps.of_belowS (S := S) HB1.out).trans (Keeps.of_belowS hb2)).trans q2⟩
  by_cases d3 : y2 ≤ nx
  ·have HOR : Hid (O = some l) := hI (by rw [HO.out, if_pos d3])
   rcases hc1 with ⟨d1, rfl⟩ | ⟨d1, rfl⟩ <;> rcases hc2 with ⟨d2, rfl⟩ | ⟨d2, rfl⟩
   all_goals try (exfalso; omega)
   all_goals
    refine wp_region_quiet_below (by kernel_rfl) (by kernel_rfl) ?_
    repeat (quiet_step (first | (with_reducible exact HQ1.out _ _) | (with_reducible exact HQ2.out _ _)))
    refine wpQuiet_nil ?_
    intro w2 hw'
    have hb2 : Below W.heap.size W w2 := by
     obtain ⟨⟨dq, osq⟩, hw''⟩ := hw'
     subst hw''
     exact below_regrown W dq osq
    have hx2 := bH hb2 HXW.out (heap_lt HXW.out)
    have HB2 := hI (HBW.out.trans (hb2.mono HBW.out.size))
    have f0 : w2.cell? ⟨w1.heap.size, 0, none⟩ = some (.int .u64 y1) := bC hx2 0 rfl
    have f1 : w2.cell? ⟨w1.heap.size, 1, none⟩ = some (.int .u64 y2) := bC hx2 1 rfl
    have l2 := heap_lt hx2
    clear hw' hb2 hx2 e0 e1 lW
    go_wp2_with fail
    go_ret
    rw [HOR.out]
    exact ⟨⟨_, rfl⟩, H1.out.kept (Keeps.of_belowS (S := fun _ => False) HB2.out) (fun _ _ h => h), (Keeps.of_belowS HB1.out).trans (Keeps.of_belowS HB2.out)⟩
  ·have HOR : Hid (O = some (aset x (y1, nx) l)) := hI (by rw [HO.out, if_neg d3])
   rcases hc1 with ⟨d1, rfl⟩ | ⟨d1, rfl⟩ <;> rcases hc2 with ⟨d2, rfl⟩ | ⟨d2, rfl⟩
   all_goals try (exfalso; omega)
   all_goals
    refine wp_region_quiet_below (by kernel_rfl) (by kernel_rfl) ?_
    repeat (quiet_step (first | (with_reducible exact HQ1.out _ _) | (with_reducible exact HQ2.out _ _)))
    refine wpQuiet_nil ?_
    intro w2 hw'
    have hb2 : Below W.heap.size W w2 := by
     obtain ⟨⟨dq, osq⟩, hw''⟩ := hw'
     subst hw''
     exact below_regrown W dq osq
    have hx2 := bH hb2 HXW.out (heap_lt HXW.out)
    have HX2 := hI hx2
    have HB2 := hI (HBW.out.trans (hb2.mono HBW.out.size))
    have f0 : w2.cell? ⟨w1.heap.size, 0, none⟩ = some (.int .u64 y1) := bC hx2 0 rfl
    have f1 : w2.cell? ⟨w1.heap.size, 1, none⟩ = some (.int .u64 y2) := bC hx2 1 rfl
    have l2 := heap_lt hx2
    clear hw' hb2 hx2 e0 e1 lW
    go_wp2_with fail
    refine still_tail 9 (by kernel_rfl) (by kernel_rfl) ?_
    intro W2 hW2
    have hbW : Below w2.heap.size w2 W2 := by rw [hW2]; exact bR.drew
    have hB := HB2.out.trans (hbW.mono HB2.out.size)
    have hk : Keeps (fun _ => False) w1 W2 := Keeps.of_belowS hB
    have hbx := hk.heap (fun h => h) HX.out.1
    have hx2 := bH hbW HX2.out (heap_lt HX2.out)
    have g0 : W2.cell? ⟨b, 0, none⟩ = some (.map (some m')) := bC hbx 0 rfl
    have g1 : W2.cell? ⟨w1.heap.size, 0, none⟩ = some (.int .u64 y1) := bC hx2 0 rfl
    have l3 := heap_lt hbx
    have l4 := heap_lt hx2
    have HMM := hI (HX.out.2.1.kept hk fun h => h)
    have HBB := hI hB
    clear hW2 hbW hB hk hbx hx2 f0 f1 l2
    simp only [List.take_succ_cons, List.take_zero, List.drop_succ_cons, List.drop_zero]
    repeat still_step
    refine wpStill_nil ?_
    refine wpList_map_update W2 rfl _ _ _ _ rfl _ nkeyed keyN_inj Tryz.underlying138 m' l rfl HMM.out x _ rfl (nkey hwf) (y1, _) rfl ?_
    intro ob hM
    have HF := hI (HFIN.out W2 HBB.out ob hM)
    clear hM
    go_wp2_with fail
    go_ret
    rw [HOR.out]
    exact ⟨⟨_, rfl⟩, HF.out⟩
end
end Go.Proofs.YtdjooojpcepleaaGreat

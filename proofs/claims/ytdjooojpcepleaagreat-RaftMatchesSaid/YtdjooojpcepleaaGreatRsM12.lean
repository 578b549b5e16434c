/- Package entry: a row of entries in new memory; From, wherever it begins. Package entry: From, behind the last, and ahead of the first. append onto a row that is the call's own, or onto a clipped head of a row (no room is left: it goes into a new one). Of no program. append onto a row of the call's own or onto a clipped one; a log whose row is such a one. -/
import Derived.Test.YtdjooojpcepleaaGreatRsM11
import Derived.Test.YtdjooojpcepleaaGreatRsM04
import Derived.Laws.Append

namespace Go.Proofs.YtdjooojpcepleaaGreat
section
open Go.RowKit
def Ent.pl (e : Ent) : Int × Int × Bool × List UInt8 := (e.ix, e.tm, e.cf, e.d)
structure RowN (w0 w : World) (v : Value) (l : List Ent) : Prop where
 own : w.ownsRow 0 47 4 v l.length (entCells l)
 new : ∀ k, v.ownBlock = some k → w0.heap.size ≤ k
 data : ∀ e ∈ l, Sl u8v w e.v e.d ∧ ∀ k, e.v.ownBlock = some k → w0.heap.size ≤ k ∧ v.ownBlock ≠ some k
theorem RowN.nil (w0 w : World) : RowN w0 w (.slice none 0 0) [] := ⟨World.ownsRow_nil _ _ _ _, (fun k hk => by simp [Value.ownBlock] at hk), fun e he => by cases he⟩
theorem RowN.lt {w0 w : World} {v : Value} {l : List Ent} (h : RowN w0 w v l) : ∀ k, v.ownBlock = some k → k < w.heap.size := fun k hk => (h.own.lt k hk).2
theorem RowN.below {w0 w w' : World} {v : Value} {l : List Ent} (h : RowN w0 w v l) (hb : Below w.heap.size w w') : RowN w0 w' v l :=
 ⟨owns_kept h.own (Keeps.of_belowS (S := fun _ => False) hb) (fun _ _ h => h), h.new, fun e he => ⟨(h.data e he).1.below hb (h.data e he).1.row_lt, (h.data e he).2⟩⟩
theorem RowN.push {w0 w3 w4 : World} {v v' : Value} {l : List Ent} (h : RowN w0 w3 v l) {ob : Obj} {e : Ent} (h0 : w0.heap.size ≤ w3.heap.size) (hs : Sl u8v w3 e.v e.d) (hn : ∀ k, e.v.ownBlock = some k → w0.heap.size ≤ k ∧ v.ownBlock ≠ some k)
  (hown : w4.ownsRow 0 47 4 v' (l.length + 1) (entCells l ++ e.cells)) (hg : (w3.alloc ob).grownBy w4 v.ownBlock)
  (hat : v'.ownBlock = v.ownBlock ∨ ∃ k, v'.ownBlock = some k ∧ (w3.alloc ob).heap.size ≤ k ∧ k < w4.heap.size) :
  RowN w0 w4 v' (l ++ [e]) ∧ Keeps (fun k => v.ownBlock = some k) w3 w4 := by
 have hk : Keeps (fun k => v.ownBlock = some k) w3 w4 := ((Keeps.refl (fun k => v.ownBlock = some k) w3).alloc ob).trans (gK hg fun k hk => hk.symm)
 have hsz : (w3.alloc ob).heap.size = w3.heap.size + 1 := by simp
 refine ⟨⟨by rw [List.length_append, entCells_snoc]; exact hown, fun k hk' => ?_, fun x hx => ?_⟩, hk⟩
 ·rcases hat with h1 | ⟨k2, h1, h2, _⟩
  ·exact h.new k (h1 ▸ hk')
  ·rw [h1] at hk'; injection hk' with hk'; omega
 ·have key : Sl u8v w3 x.v x.d ∧ ∀ k, x.v.ownBlock = some k → w0.heap.size ≤ k ∧ v.ownBlock ≠ some k := by
   rcases List.mem_append.1 hx with hx | hx
   ·exact h.data x hx
   ·simp at hx; subst hx; exact ⟨hs, hn⟩
  refine ⟨key.1.kept hk fun k hk' => (key.2 k hk').2, fun k hk' => ⟨(key.2 k hk').1, ?_⟩⟩
  rcases hat with h1 | ⟨k2, h1, h2, _⟩
  ·rw [h1]; exact (key.2 k hk').2
  ·rw [h1]; intro e; injection e with e; have := key.1.row_lt k hk'; omega
theorem cells4_new (W : World) (a b c d : Value) (T : TypeId) : ∀ j u, [a, b, c, d][j]? = some u → (W.alloc (.cells #[a, b, c, d] T)).cell? ((⟨W.heap.size, 0, none⟩ : Addr).add j) = some u := by
 intro j u hu
 have hadd : (⟨W.heap.size, 0, none⟩ : Addr).add j = ⟨W.heap.size, j, none⟩ := by unfold Addr.add; split <;> simp_all
 rw [hadd]
 exact bC (bW _ _) _ (by simpa using hu)
theorem k_max {k n j : Nat} (h : k < n - j) (hn : n ≤ 1024) : k + 1 ≤ maxLen ∧ (k + 1) * 48 ≤ 140737488355328 := by unfold maxLen; omega
theorem k_meas {k n : Nat} (h : k < n) : n - (intOf (.int .i64 ((k : Int) + 1))).toNat < n - (intOf (.int .i64 (k : Int))).toNat := by simp [intOf]; omega
def FromR (w : World) (es : List Ent) (e : Ending) (w' : World) : Prop :=
 ∃ v l, e = .returned (.tuple #[v, .int .i64 0]) ∧ RowN w w' v l ∧ Below w.heap.size w w' ∧ l.map Ent.pl = es.map Ent.pl
set_option maxRecDepth 100000 in
set_option maxHeartbeats 1600000 in
theorem from_any (w : World) (t : Nat) (r : Option Nat) (ix tm : Int) (es : List Ent) (h : LogAt w t r ix tm es) (ok : LogOk ix tm es) (hd : ∀ e ∈ es, e.d.length ≤ 900) (hn : es.length ≤ 1024) (j : Nat) (hj : j < es.length) (i : Int) (hi : i = ix + (j : Int) + 1) (most : Nat) (hm : most ≤ 9223372036854775807) :
  Calls Tryz.prog 27 #[.pointer (some ⟨t, 0, none⟩), .int .u64 i, .int .i64 most] w (FromR w ((es.drop j).take most)) := by
 have HLS := hI (last_any w t r ix tm es h ok)
 have H := hI h
 have HD := hI hd
 have HN := hI hn
 obtain ⟨i0, hi0, hz0, hz1, hz2⟩ := info_parts info_entry
 have hx := ok.lo
 have hx2 := ok.hi
 have e1 : IntKind.u64.wrap (i - 1) = ix + (j : Int) := by rw [show i - 1 = ix + (j : Int) by omega]; exact IntWalk.u64_in _ (by omega)
 have e2 : IntKind.u64.wrap (i - ix) = (j : Int) + 1 := by rw [show i - ix = (j : Int) + 1 by omega]; exact IntWalk.u64_in _ (by omega)
 have e3 : IntKind.u64.wrap (j : Int) = (j : Int) := IntWalk.u64_in _ (by omega)
 have q1 : decide (i ≤ ix) = false := decide_eq_false (by omega)
 have q3 : decide (ix + (es.length : Int) < ix + (j : Int)) = false := decide_eq_false (by omega)
 have q2 : ¬ (i ≤ ix) := by omega
 have q4 : ¬ (ix + (es.length : Int) < ix + (j : Int)) := by omega
 have q7 : decide (es.length < j) = false := decide_eq_false (by omega)
 have q8 : ¬ es.length < j := by omega
 have q6 : (j : Int) < (es.length : Int) := by omega
 clear h ok hd hn hi
 generalize lT tm es = lt at *
 go_enter Tryz.func27, Tryz.ntmps27
 go_wp2_with fail
 refine HLS.out.mono ?_
 rintro en w1 ⟨rfl, hb1⟩
 have H1 := hI (H.out.below hb1)
 have HB1 := hI hb1
 obtain ⟨g, cap, hr, hbx, hc1, hc2, d0, d1, d2, d3⟩ := H1.out.at (List.getElem?_eq_getElem hj)
 have x0 := bC hbx 0 rfl
 have x2 := bC hbx 2 rfl
 unfold maxLen at hc2
 have q5 : ¬ cap = j := by omega
 clear hb1 hbx d0 d1 d2 d3
 go_wp2_with fail
 go_quiet (fail)
 go_wp2_with fail
 obtain ⟨W2, hW2⟩ : ∃ W2, W2 = w1.drewN nq := ⟨_, rfl⟩
 rw [← hW2]
 have HB2 : Hid (Below w.heap.size w W2) := hI (by rw [hW2]; exact belowDN HB1.out _)
 have Q6 := hI q6
 clear hW2 x0 x2 e1 e2 e3 q1 q2 q3 q4 q5 hc1 hc2 H1 HB1 HLS q6 q7 q8 hx hx2
 go_loopw [10, 46] (fun ov iv wr => ∃ (k : Nat) (l : List Ent) (oa : Option Addr) (oc : Nat), ov = .slice oa k oc ∧ iv = .int .i64 k ∧ k ≤ most ∧ k ≤ es.length - j ∧ Hid (RowN w wr (.slice oa k oc) l ∧ Below w.heap.size w wr ∧ l.map Ent.pl = ((es.drop j).take k).map Ent.pl ∧ l.length = k)) (fun _ iv _ => es.length - (intOf iv).toNat)
 case atStart => exact ⟨0, [], none, 0, rfl, rfl, Nat.zero_le _, Nat.zero_le _, hI ⟨RowN.nil _ _, HB2.out, rfl, rfl⟩⟩
 case round =>
  clear HB2
  obtain ⟨k, l, oa, oc, rfl, rfl, hkm, hkn, HO⟩ := hrel
  by_cases hlt : k < es.length - j
  ·obtain ⟨e, he⟩ : ∃ e, es[j + k]? = some e := ⟨es[j + k]'(by omega), by simp⟩
   obtain ⟨g', cap', hr', hbx, hc1, hc2, d0, d1, d2, d3⟩ := (H.out.below HO.out.2.1).at he
   obtain rfl : g = g' := by injection (hr.symm.trans hr')
   have HK := hI he
   have hds := ((H.out.below HO.out.2.1).data e (List.mem_of_getElem? he)).1
   obtain ⟨da, dc, hv, _⟩ := id hds
   have HDS := hI hds
   have HV := hI hv
   rw [hv] at d3
   have z1 : (k : Int) < ((es.length - j : Nat) : Int) := by omega
   have y0 : wr.cell? ⟨g, j * 4 + k * 4, none⟩ = some (.int .u64 e.ix) := by rw [← Nat.add_mul]; exact d0
   have y1 : wr.cell? ⟨g, j * 4 + k * 4 + 1, none⟩ = some (.int .u64 e.tm) := by rw [← Nat.add_mul]; exact d1
   have y2 : wr.cell? ⟨g, j * 4 + k * 4 + 2, none⟩ = some (.bool e.cf) := by rw [← Nat.add_mul]; exact d2
   have y3 : wr.cell? ⟨g, j * 4 + k * 4 + 3, none⟩ = some (.slice da e.d.length dc) := by rw [← Nat.add_mul]; exact d3
   clear d0 d1 d2 d3 hbx hc1 hc2 hr' he hds hv
   by_cases hmo : k < most
   ·have q7 : ¬ ((most : Int) ≤ (k : Int)) := by omega
    have hce := cloneE_any (wr.alloc (.cells #[.int .u64 e.ix, .int .u64 e.tm, .bool e.cf, .slice da e.d.length dc] 47)) e (HDS.out.below (bR.alloc nL _) HDS.out.row_lt) (by have := HD.out e (List.mem_of_getElem? HK.out); omega)
    rw [HV.out] at hce
    have HCE := hI hce
    clear hce
    go_wp2_with fail
    refine HCE.out.mono ?_
    rintro en w3 ⟨v, rfl, hb3, hs3, hn3⟩
    have hb13 : Below wr.heap.size wr w3 := ((Below.refl _ wr).alloc nL _).trans (hb3.mono (by simp))
    have HB13 := hI hb13
    have HS3 := hI hs3
    have HR3 := hI (HO.out.1.below hb13)
    have HN3 : Hid (∀ q, v.ownBlock = some q → wr.heap.size < q) := hI fun q hq => by have := hn3 q hq; simp at this; omega
    obtain ⟨va, vc, rfl, _⟩ := id hs3
    have HM0 : Hid (k + 1 ≤ maxLen ∧ (k + 1) * 48 ≤ 140737488355328) := hI (k_max hlt HN.out)
    have HOW : Hid (w3.ownsRow 0 47 4 (.slice oa k oc) k (entCells l)) := hI (by have := HR3.out.own; rw [HO.out.2.2.2] at this; exact this)
    clear hb3 hs3 hn3 hb13 y0 y1 y2 y3 q7 HCE
    go_wp2_with (first | (at_builtin; refine wpList_append_more _ rfl _ _ _ rfl 47 i0 _ 4 48 Tryz.underlying41 hi0 hz0 hz1 hz2 rfl (by decide) _ k (entCells l) rfl (HOW.out.alloc _) ⟨w3.heap.size, 0, none⟩ 1 1 [.int .u64 e.ix, .int .u64 e.tm, .bool e.cf, .slice va e.d.length vc] rfl rfl (cells4_new _ _ _ _ _ _) (by simp [Value.oneCell']) HM0.out.1 HM0.out.2 ?_; intro v' w4 hown4 hg4 hat4) | fail)
    have hpu := RowN.push (e := ⟨e.ix, e.tm, e.cf, .slice va e.d.length vc, e.d⟩) HR3.out (Nat.le_trans HO.out.2.1.size HB13.out.size) HS3.out (fun q hq => ⟨by have := HN3.out q hq; have := HO.out.2.1.size; omega, fun he => by have := HN3.out q hq; have := HO.out.1.lt q he; omega⟩) (by rw [HO.out.2.2.2]; exact hown4) hg4 hat4
    have HF : Hid (∃ a' c', v' = .slice a' (k + 1) c' ∧ RowN w w4 v' (l ++ [⟨e.ix, e.tm, e.cf, .slice va e.d.length vc, e.d⟩]) ∧ Below w.heap.size w w4) := hI (by
      have hb4 := (HO.out.2.1.trans (HB13.out.mono HO.out.2.1.size)).trans (hpu.2.below (Nat.le_trans HO.out.2.1.size HB13.out.size) fun q hq => HO.out.1.new q hq)
      rcases hown4.2 with ⟨_, h0⟩ | ⟨g2, c2, _, h1, _⟩
      · omega
      · exact ⟨_, c2, h1, hpu.1, hb4⟩)
    clear hpu hown4 hg4 hat4
    obtain ⟨a', c', rfl, hrn, hbn⟩ := HF.out
    have HRN := hI (And.intro hrn hbn)
    clear hrn hbn HF
    go_wp2_with fail
    go_roundw
    case rel => exact ⟨k + 1, _, a', c', rfl, by go_num, by omega, by omega, hI ⟨HRN.out.1, HRN.out.2, by rw [List.map_append, HO.out.2.2.1, List.take_add_one, List.map_append, List.getElem?_drop, HK.out]; rfl, by simp [HO.out.2.2.2]⟩⟩
    case measure => exact k_meas (Nat.lt_of_lt_of_le hlt (Nat.sub_le _ _))
   ·obtain rfl : most = k := by omega
    have q7 : ((most : Int) ≤ (most : Int)) := Int.le_refl _
    go_wp2_with fail
    go_ret2
    exact ⟨.slice oa most oc, l, rfl, HO.out.1.below (bR.alloc nL _), HO.out.2.1.alloc HO.out.2.1.size _, HO.out.2.2.1⟩
  ·obtain rfl : k = es.length - j := by omega
   go_wp2_with fail
   go_ret2
   exact ⟨_, l, rfl, HO.out.1, HO.out.2.1, by rw [HO.out.2.2.1]; congr 1; rw [List.take_of_length_le (by simp), List.take_of_length_le (by simp; omega)]⟩
end
section
open Go.RowKit
set_option maxRecDepth 100000 in
set_option maxHeartbeats 1600000 in
theorem from_end (w : World) (t : Nat) (r : Option Nat) (ix tm : Int) (es : List Ent) (h : LogAt w t r ix tm es) (ok : LogOk ix tm es) (i : Int) (hi : i = ix + (es.length : Int) + 1) (most : Nat) (_ : most ≤ 9223372036854775807) :
  Calls Tryz.prog 27 #[.pointer (some ⟨t, 0, none⟩), .int .u64 i, .int .i64 most] w (FromR w []) := by
 have HLS := hI (last_any w t r ix tm es h ok)
 have H := hI h
 have hx := ok.lo
 have hx2 := ok.hi
 have e1 : IntKind.u64.wrap (i - 1) = ix + (es.length : Int) := by rw [show i - 1 = ix + (es.length : Int) by omega]; exact IntWalk.u64_in _ (by omega)
 have e2 : IntKind.u64.wrap (i - ix) = (es.length : Int) + 1 := by rw [show i - ix = (es.length : Int) + 1 by omega]; exact IntWalk.u64_in _ (by omega)
 have e3 : IntKind.u64.wrap (es.length : Int) = (es.length : Int) := IntWalk.u64_in _ (by omega)
 have q1 : decide (i ≤ ix) = false := decide_eq_false (by omega)
 have q2 : ¬ (i ≤ ix) := by omega
 clear h ok hi
 generalize lT tm es = lt at *
 go_enter Tryz.func27, Tryz.ntmps27
 go_wp2_with fail
 refine HLS.out.mono ?_
 rintro en w1 ⟨rfl, hb1⟩
 have H1 := hI (H.out.below hb1)
 have HB1 := hI hb1
 clear hb1 HLS
 obtain ⟨v, hbx, hown, _⟩ := H1.out.box
 rcases hown.2 with ⟨rfl, h0⟩ | ⟨g, cap, cur, rfl, _, hg, hnc, hcm, hcs, _⟩
 ·obtain rfl : es = [] := List.eq_nil_of_length_eq_zero h0
  have x0 := bC hbx 0 rfl
  have x2 := bC hbx 2 rfl
  simp only [List.length_nil, Int.natCast_zero, Int.add_zero, Int.zero_add] at *
  clear hbx hown h0 H1
  go_wp2_with fail
  go_quiet (fail)
  go_wp2_with fail
  obtain ⟨W2, hW2⟩ : ∃ W2, W2 = w1.drewN nq := ⟨_, rfl⟩
  rw [← hW2]
  have HB2 : Hid (Below w.heap.size w W2) := hI (by rw [hW2]; exact belowDN HB1.out _)
  clear hW2 x0 x2
  go_loopw [10, 46] (fun ov iv wr => ov = .slice none 0 0 ∧ iv = .int .i64 0 ∧ wr = W2) (fun _ _ _ => 0)
  case atStart => exact ⟨rfl, rfl, rfl⟩
  case round =>
   obtain ⟨rfl, rfl, rfl⟩ := hrel
   go_wp2_with fail
   go_ret2
   exact ⟨_, [], rfl, RowN.nil _ _, HB2.out, rfl⟩
 ·have x0 := bC hbx 0 rfl
  have x2 := bC hbx 2 rfl
  unfold maxLen at hcm
  clear hbx hown H1 hg hcs
  by_cases hce : cap = es.length
  all_goals
   go_wp2_with fail
   go_quiet (fail)
   go_wp2_with fail
   obtain ⟨W2, hW2⟩ : ∃ W2, W2 = w1.drewN nq := ⟨_, rfl⟩
   rw [← hW2]
   have HB2 : Hid (Below w.heap.size w W2) := hI (by rw [hW2]; exact belowDN HB1.out _)
   clear hW2 x0 x2
   go_loopw [10, 46] (fun ov iv wr => ov = .slice none 0 0 ∧ iv = .int .i64 0 ∧ wr = W2) (fun _ _ _ => 0)
   case atStart => exact ⟨rfl, rfl, rfl⟩
   case round =>
    obtain ⟨rfl, rfl, rfl⟩ := hrel
    go_wp2_with fail
    go_ret2
    exact ⟨_, [], rfl, RowN.nil _ _, HB2.out, rfl⟩
end
section
open Go.RowKit
def RowC (w : World) (e : TypeId) (size : Nat) (v : Value) (n : Nat) (xs : List Value) : Prop :=
 w.ownsRow 0 e size v n xs ∨ (xs.length = n * size ∧ ∃ g, v = .slice (some ⟨g, 0, none⟩) n n ∧ g < w.heap.size ∧ ∀ j u, xs[j]? = some u → w.cell? ⟨g, j, none⟩ = some u)
theorem RowC.alloc {w : World} {e : TypeId} {size : Nat} {v : Value} {n : Nat} {xs : List Value} (h : RowC w e size v n xs) (o : Obj) : RowC (w.alloc o) e size v n xs := by
 rcases h with h | ⟨h1, g, h2, h3, h4⟩
 ·exact .inl (h.alloc o)
 ·exact .inr ⟨h1, g, h2, by simp; omega, fun j u hj => by
    rw [World.cell?_of_block (Below.heap_alloc w o g h3)]
    exact h4 j u hj⟩
def Clip (w : World) (size : Nat) (v : Value) (n : Nat) (xs : List Value) : Prop :=
 xs.length = n * size ∧ ((v = .slice none 0 0 ∧ n = 0) ∨ ∃ g, v = .slice (some ⟨g, 0, none⟩) n n ∧ g < w.heap.size ∧ ∀ j u, xs[j]? = some u → w.cell? ⟨g, j, none⟩ = some u)
theorem Clip.alloc {w : World} {size : Nat} {v : Value} {n : Nat} {xs : List Value} (h : Clip w size v n xs) (o : Obj) : Clip (w.alloc o) size v n xs := by
 obtain ⟨h1, h | ⟨g, h2, h3, h4⟩⟩ := h
 ·exact ⟨h1, .inl h⟩
 ·exact ⟨h1, .inr ⟨g, h2, by simp; omega, fun j u hj => by
    rw [World.cell?_of_block (Below.heap_alloc w o g h3)]
    exact h4 j u hj⟩⟩
theorem Clip.kept {w w' : World} {S : Nat → Prop} {size : Nat} {v : Value} {n : Nat} {xs : List Value} (h : Clip w size v n xs) (hk : Keeps S w w') (hS : ∀ k, v.ownBlock = some k → ¬ S k) : Clip w' size v n xs := by
 obtain ⟨h1, h | ⟨g, rfl, h3, h4⟩⟩ := h
 ·exact ⟨h1, .inl h⟩
 ·exact ⟨h1, .inr ⟨g, rfl, Nat.lt_of_lt_of_le h3 hk.size, fun j u hj => by
    rw [World.cell?_of_block (hk.block g h3 (hS g rfl))]
    exact h4 j u hj⟩⟩
theorem run_append_clip {P : Program} (w : World) (t ty : TypeId) (e : TypeId) (i : TypeInfo) (z : Value) (size bytes : Nat) (ht : P.underlying t = some (.slice e)) (hi : P.info? e = some i) (hz : i.zero = some z)
  (hsize : i.size = size) (hby : i.bytes = bytes) (hzs : z.cells.size = size) (hsz : 0 < size)
  (v : Value) (n : Nat) (xs : List Value) (hown : Clip w size v n xs)
  (ad : Addr) (m c : Nat) (news : List Value) (hl : news.length = m * size) (hnews : ∀ j u, news[j]? = some u → w.cell? (ad.add j) = some u) (h1 : ∀ u ∈ news, u.oneCell' = true)
  (hm : 0 < m) (h63 : n + m ≤ maxLen) (hbytes : (n + m) * bytes ≤ 140737488355328) (H : Nat) (hH : w.heap.size = H) :
  ∃ cap w', (Builtin.append_ #[t, t] ty #[v, .slice (some ad) m c]).run P w = .ok (.slice (some ⟨H, 0, none⟩) (n + m) cap) w' ∧
   w'.ownsRow 0 e size (.slice (some ⟨H, 0, none⟩) (n + m) cap) (n + m) (xs ++ news) ∧ w.grownBy w' none ∧ H < w'.heap.size := by
 subst hH
 obtain ⟨hx, ⟨rfl, rfl⟩ | ⟨g, rfl, hg, hc⟩⟩ := hown
 ·obtain rfl : xs = [] := List.eq_nil_of_length_eq_zero (by simpa using hx)
  obtain ⟨g, cap, w', hr, h2, h3, h4, h5⟩ := Go.run_append_lies (P := P) w t ty 0 e i z size bytes ht hi hz hsize hby hzs hsz _ 0 [] (World.ownsRow_nil _ _ _ _) ad m c news hl hnews h1 hm h63 hbytes (Nat.zero_le _) w.heap.size rfl
  obtain rfl : g = w.heap.size := by
   rcases h4 with h4 | h4
   ·cases h4
   ·exact h4
  exact ⟨cap, w', hr, h2, h3, h5⟩
 ·subst hsize
  subst hby
  have hsmall : n + m ≤ 9223372036854775807 := by simp only [maxLen] at h63; omega
  have holds : ∀ j u, xs[j]? = some u → w.cell? ((⟨g, 0, none⟩ : Addr).add j) = some u := fun j u hj => by
   have hadd : (⟨g, 0, none⟩ : Addr).add j = ⟨g, j, none⟩ := by unfold Addr.add; split <;> simp_all
   rw [hadd]; exact hc j u hj
  have hr := run_append_grow (P := P) w t ty e i z ht hi hz ⟨g, 0, none⟩ n n xs hx holds ad m c news hl hnews (by omega) (by omega) (growslice_fits (by omega) hbytes)
  have hge := grownCap_ge w (n + m) n e
  have hcm : grownCap w (n + m) n e ≤ maxLen := grownCap_le_maxLen w (n + m) n e h63
  have hlen : (xs ++ news).length = (n + m) * i.size := by rw [List.length_append, hx, hl, Nat.add_mul]
  refine ⟨_, _, hr, ⟨hlen, .inr ⟨w.heap.size, _, _, rfl, Nat.zero_le _, heap_alloc_new w.drew _, hge, hcm, ?_, ?_⟩⟩, ⟨rfl, rfl, rfl, by simp, fun k hk _ => Below.heap_alloc w.drew _ k hk⟩, by simp⟩
  ·simp only [Array.size_append, List.size_toArray, size_zeroCells, hzs, hx, hl, ← Nat.add_mul]
   congr 1
   omega
  ·simp only [Array.toList_append, List.append_assoc]
   rw [← List.append_assoc, ← hlen]
   exact List.take_left
theorem step_append_clip {P : Program} (w : World) {ops : Array Oper} {o : Oper} {a : Act} {K : Act → World → Prop} {Q : Exit → Act → World → Prop} {E : Prop} (hgd : o.guard = none) (s x : Operand) (t : TypeId)
  (ho : o.op = .call { callee := .builtin .append, args := #[s, x], argTypes := #[t, t] })
  (e : TypeId) (i : TypeInfo) (z : Value) (size bytes : Nat) (ht : P.underlying t = some (.slice e)) (hi : P.info? e = some i) (hz : i.zero = some z)
  (hsize : i.size = size) (hby : i.bytes = bytes) (hzs : z.cells.size = size) (hsz : 0 < size)
  (v : Value) (n : Nat) (xs : List Value) (hs : a.eval s = v) (hown : Clip w size v n xs)
  (ad : Addr) (m c : Nat) (news : List Value) (hx : a.eval x = .slice (some ad) m c) (hl : news.length = m * size) (hnews : ∀ j u, news[j]? = some u → w.cell? (ad.add j) = some u) (h1 : ∀ u ∈ news, u.oneCell' = true)
  (hm : 0 < m) (h63 : n + m ≤ maxLen) (hbytes : (n + m) * bytes ≤ 140737488355328) (H : Nat) (hH : w.heap.size = H)
  (h : ∀ cap w', w'.ownsRow 0 e size (.slice (some ⟨H, 0, none⟩) (n + m) cap) (n + m) (xs ++ news) → w.grownBy w' none → H < w'.heap.size → K (a.put o.dst (.slice (some ⟨H, 0, none⟩) (n + m) cap)) w') :
  if Region.wanted o (yielded ops a.tmps) = true then Oper.wp P o a w K Q else E := by
 have hw : Region.wanted o (yielded ops a.tmps) = true := by simp [Region.wanted, hgd]
 rw [if_pos hw]
 obtain ⟨cap, w', hr, h2, h3, h5⟩ := run_append_clip (P := P) w t o.type e i z size bytes ht hi hz hsize hby hzs hsz v n xs hown ad m c news hl hnews h1 hm h63 hbytes H hH
 unfold Oper.wp execOp
 simp only [ho, resolve, invoke, builtin, Sem.run_bind, Sem.run_pure, Result.andThen_ok, List.map_toArray, List.map_cons, List.map_nil, hs, hx, hr]
 exact h cap w' h2 h3 h5
end
section
open Go.RowKit
def RowD (w : World) (e : TypeId) (size : Nat) (v : Value) (n : Nat) (xs : List Value) (B : Option Nat) : Prop :=
 (Clip w size v n xs ∧ B = none) ∨ (w.ownsRow 0 e size v n xs ∧ B = v.ownBlock)
theorem RowD.alloc {w : World} {e : TypeId} {size : Nat} {v : Value} {n : Nat} {xs : List Value} {B : Option Nat} (h : RowD w e size v n xs B) (o : Obj) : RowD (w.alloc o) e size v n xs B := by
 rcases h with ⟨h, hB⟩ | ⟨h, hB⟩
 ·exact .inl ⟨h.alloc o, hB⟩
 ·exact .inr ⟨h.alloc o, hB⟩
theorem RowD.kept {w w' : World} {S : Nat → Prop} {e : TypeId} {size : Nat} {v : Value} {n : Nat} {xs : List Value} {B : Option Nat} (h : RowD w e size v n xs B) (hk : Keeps S w w') (hS : ∀ k, v.ownBlock = some k → ¬ S k) : RowD w' e size v n xs B := by
 rcases h with ⟨h, hB⟩ | ⟨h, hB⟩
 ·exact .inl ⟨h.kept hk hS, hB⟩
 ·exact .inr ⟨owns_kept h hk hS, hB⟩
theorem step_append_rowD {P : Program} (w : World) {ops : Array Oper} {o : Oper} {a : Act} {K : Act → World → Prop} {Q : Exit → Act → World → Prop} {E : Prop} (hgd : o.guard = none) (s x : Operand) (t : TypeId)
  (ho : o.op = .call { callee := .builtin .append, args := #[s, x], argTypes := #[t, t] })
  (e : TypeId) (i : TypeInfo) (z : Value) (size bytes : Nat) (ht : P.underlying t = some (.slice e)) (hi : P.info? e = some i) (hz : i.zero = some z)
  (hsize : i.size = size) (hby : i.bytes = bytes) (hzs : z.cells.size = size) (hsz : 0 < size)
  (v : Value) (n : Nat) (xs : List Value) (B : Option Nat) (hs : a.eval s = v) (hown : RowD w e size v n xs B)
  (ad : Addr) (m c : Nat) (news : List Value) (hx : a.eval x = .slice (some ad) m c) (hl : news.length = m * size) (hnews : ∀ j u, news[j]? = some u → w.cell? (ad.add j) = some u) (h1 : ∀ u ∈ news, u.oneCell' = true)
  (hm : 0 < m) (h63 : n + m ≤ maxLen) (hbytes : (n + m) * bytes ≤ 140737488355328) (H : Nat) (hH : w.heap.size = H)
  (h : ∀ g cap w', w'.ownsRow 0 e size (.slice (some ⟨g, 0, none⟩) (n + m) cap) (n + m) (xs ++ news) → w.grownBy w' B → (B = some g ∨ g = H) → g < w'.heap.size → K (a.put o.dst (.slice (some ⟨g, 0, none⟩) (n + m) cap)) w') :
  if Region.wanted o (yielded ops a.tmps) = true then Oper.wp P o a w K Q else E := by
 rcases hown with ⟨hown, rfl⟩ | ⟨hown, rfl⟩
 ·exact step_append_clip w hgd s x t ho e i z size bytes ht hi hz hsize hby hzs hsz v n xs hs hown ad m c news hx hl hnews h1 hm h63 hbytes H hH fun cap w' a1 a2 a3 => h H cap w' a1 a2 (.inr rfl) a3
 ·exact step_append_lies w hgd s x t ho 0 e i z size bytes ht hi hz hsize hby hzs hsz v n xs hs hown ad m c news hx hl hnews h1 hm h63 hbytes (Nat.zero_le _) H hH h
structure LogC (w : World) (t : Nat) (B : Option Nat) (ix tm : Int) (es : List Ent) : Prop where
 box : ∃ a cap, w.heap[t]? = some (.cells #[.int .u64 ix, .int .u64 tm, .slice a es.length cap] 99 (0, 0)) ∧ RowD w 47 4 (.slice a es.length cap) es.length (entCells es) B
 rt : B ≠ some t
 lt : ∀ k, B = some k → k < w.heap.size
 data : ∀ e ∈ es, Sl u8v w e.v e.d ∧ ∀ k, e.v.ownBlock = some k → k ≠ t ∧ B ≠ some k
theorem LogAt.toC {w : World} {t : Nat} {r : Option Nat} {ix tm : Int} {es : List Ent} (h : LogAt w t r ix tm es) : LogC w t r ix tm es := by
 obtain ⟨a, cap, hb⟩ := h.slice
 have ho := h.owns hb
 exact ⟨⟨a, cap, hb, .inr ⟨ho.1, ho.2.symm⟩⟩, h.rt, h.row_lt, h.data⟩
theorem LogC.below {w w' : World} {t : Nat} {B : Option Nat} {ix tm : Int} {es : List Ent} (h : LogC w t B ix tm es) (hb : Below w.heap.size w w') : LogC w' t B ix tm es := by
 obtain ⟨⟨a, cap, hx, hr⟩, h2, h3, h4⟩ := h
 exact ⟨⟨a, cap, bH hb hx (heap_lt hx), hr.kept (Keeps.of_belowS (S := fun _ => False) hb) fun _ _ h => h⟩, h2, fun k hk => Nat.lt_of_lt_of_le (h3 k hk) hb.size, fun e he => ⟨(h4 e he).1.below hb (h4 e he).1.row_lt, (h4 e he).2⟩⟩
theorem LogC.push {w w2 w3 : World} {t : Nat} {r : Option Nat} {ix tm : Int} {es : List Ent} (h : LogC w2 t r ix tm es) (hB : Below w.heap.size w w2) (ht : t < w.heap.size) (hrl : ∀ k, r = some k → k < w.heap.size) {a : Option Addr} {cap : Nat}
  (hbx : w2.heap[t]? = some (.cells #[.int .u64 ix, .int .u64 tm, .slice a es.length cap] 99 (0, 0))) {ob : Obj} {gg cp : Nat} {e : Ent} (hs : Sl u8v w2 e.v e.d) (hnew : ∀ k, e.v.ownBlock = some k → w.heap.size ≤ k)
  (hown : w3.ownsRow 0 47 4 (.slice (some ⟨gg, 0, none⟩) (es.length + 1) cp) (es.length + 1) (entCells es ++ e.cells)) (hg : (w2.alloc ob).grownBy w3 r) (hat : r = some gg ∨ gg = w2.heap.size + 1) :
  LogAt (w3.setCell ⟨t, 2, none⟩ (.slice (some ⟨gg, 0, none⟩) (es.length + 1) cp)) t (some gg) ix tm (es ++ [e]) ∧ Keeps (fun k => k = t ∨ r = some k) w (w3.setCell ⟨t, 2, none⟩ (.slice (some ⟨gg, 0, none⟩) (es.length + 1) cp)) := by
 have hk3 : Keeps (fun k => r = some k) w2 w3 := ((Keeps.refl (fun k => r = some k) w2).alloc ob).trans (gK hg fun k hk => hk.symm)
 have hsz := hB.size
 have hbx3 := hk3.heap h.rt hbx
 have hgt : gg ≠ t := by
  rintro rfl
  rcases hat with h1 | h1
  ·exact h.rt h1
  ·omega
 have hks : Keeps (fun k => k = t) w3 (w3.setCell ⟨t, 2, none⟩ (.slice (some ⟨gg, 0, none⟩) (es.length + 1) cp)) := (Keeps.refl (fun k => k = t) w3).setCell (.inl rfl) _
 refine ⟨⟨⟨_, blk_set hbx3 2 _, ?_, rfl⟩, fun e => hgt (Option.some.inj e), fun e' he => ?_⟩, ?_⟩
 ·rw [entCells_snoc, List.length_append]
  exact owns_kept hown hks fun k hk e => by simp [Value.ownBlock] at hk; omega
 ·rcases List.mem_append.1 he with he | he
  ·obtain ⟨h1, h2⟩ := h.data e' he
   refine ⟨(h1.kept hk3 fun k hk => (h2 k hk).2).kept hks fun k hk => (h2 k hk).1, fun k hk => ⟨(h2 k hk).1, fun e => ?_⟩⟩
   have hkk := h1.row_lt k hk
   rcases hat with h3 | h3
   ·exact (h2 k hk).2 (h3.trans e)
   ·have := Option.some.inj e; omega
  ·obtain rfl : e' = e := by simpa using he
   refine ⟨(hs.kept hk3 fun k hk e => ?_).kept hks fun k hk => ?_, fun k hk => ⟨?_, fun e => ?_⟩⟩
   ·have := hnew k hk; have := hrl k e; omega
   ·have := hnew k hk; omega
   ·have := hnew k hk; omega
   ·have h1 := hnew k hk
    have h2 := hs.row_lt k hk
    have h3 := Option.some.inj e
    rcases hat with h4 | h4
    ·have := hrl gg h4; omega
    ·omega
 ·exact (((Keeps.of_below hB).mono (T := fun k => k = t ∨ r = some k) fun k hk h => by omega).trans (hk3.mono fun k _ hk => .inr hk)).trans (hks.mono fun k _ hk => .inl hk)
theorem LogAt.clip {w : World} {t : Nat} {r : Option Nat} {ix tm : Int} {es : List Ent} (h : LogAt w t r ix tm es) {a : Option Addr} {cap kp : Nat}
  (hbx : w.heap[t]? = some (.cells #[.int .u64 ix, .int .u64 tm, .slice a es.length cap] 99 (0, 0))) (hk : kp ≤ es.length) : LogC (w.setCell ⟨t, 2, none⟩ (.slice a kp kp)) t none ix tm (es.take kp) := by
 have ho := (h.owns hbx).1
 have hr := (h.owns hbx).2
 have hl : (es.take kp).length = kp := by simp; omega
 have hks : Keeps (fun k => k = t) w (w.setCell ⟨t, 2, none⟩ (.slice a kp kp)) := (Keeps.refl (fun k => k = t) w).setCell (.inl rfl) _
 refine ⟨⟨a, kp, ?_, .inl ⟨?_, rfl⟩⟩, by simp, (fun k hk => by cases hk), fun e he => ?_⟩
 ·rw [hl]; exact blk_set hbx 2 _
 ·have hln : (entCells (es.take kp)).length = (es.take kp).length * 4 := entCells_len _
  rw [hl] at hln ⊢
  rcases ho.2 with ⟨h1, h2⟩ | ⟨g, c, cur, h1, _, h3, h4, _, h6, h7⟩
  ·injection h1 with h1 h8 h9
   subst h1
   obtain rfl : kp = 0 := by omega
   exact ⟨hln, .inl ⟨rfl, rfl⟩⟩
  ·injection h1 with h1 h8 h9
   subst h1
   refine ⟨hln, .inr ⟨g, rfl, ?_, fun j u hj => ?_⟩⟩
   ·simpa using heap_lt h3
   ·have hgt : g ≠ t := fun e => h.rt (by rw [← hr, ← e]; rfl)
    have hb2 := hks.heap (S := fun k => k = t) hgt h3
    refine bC hb2 j ?_
    have hj2 : (entCells es)[j]? = some u := by
     have e : entCells es = entCells (es.take kp) ++ entCells (es.drop kp) := by
      have h := congrArg entCells (List.take_append_drop kp es)
      simp only [entCells, List.flatMap_append] at h ⊢
      exact h.symm
     rw [e]
     exact (List.getElem?_append_left (List.getElem?_eq_some_iff.1 hj).1).trans hj
    rw [← h7, List.getElem?_take] at hj2
    split at hj2
    ·simpa using hj2
    ·cases hj2
 ·obtain ⟨h1, h2⟩ := h.data e (List.mem_of_mem_take he)
  exact ⟨h1.kept hks fun k hk => (h2 k hk).1, fun k hk => ⟨(h2 k hk).1, by simp⟩⟩
end
end Go.Proofs.YtdjooojpcepleaaGreat

/- The law's begin, its parts: a cluster that is being made. -/
import Derived.Test.YtdjooojpcepleaaGreatRsM35
import Derived.Deep.DeepCutAuto
import Derived.Deep.CutBlock
import Derived.ProofKit
import Derived.Deep.Slices
import Derived.Deep.MidRow
import Derived.Lib.SmallJoins
import Derived.Test.YtdjooojpcepleaaGreatRsM05
import Derived.Lib.SliceRun
import Derived.Laws.IdiomCopy
import Derived.Deep.RegionHeld3

namespace Go.Proofs.YtdjooojpcepleaaGreat
section
open Go.RowKit
def ptrsB (P : Nat → Nat) (k : Nat) : List Value := (List.range k).map fun i => .pointer (some ⟨P i, 0, none⟩)
def cfgC (ma : Option Addr) (s mcap i : Nat) : List Value := [.int .i64 ((i : Int) + 1), .slice ma s mcap, .int .i64 4, .int .i64 2]
def cfgsB (ma : Option Addr) (s mcap k : Nat) : List Value := (List.range k).flatMap (cfgC ma s mcap)
theorem ptrsB_succ (P : Nat → Nat) (k : Nat) : ptrsB P (k + 1) = ptrsB P k ++ [.pointer (some ⟨P k, 0, none⟩)] := by simp [ptrsB, List.range_succ]
theorem cfgsB_succ (ma : Option Addr) (s mcap k : Nat) : cfgsB ma s mcap (k + 1) = cfgsB ma s mcap k ++ cfgC ma s mcap k := by simp [cfgsB, List.range_succ]
theorem cfgsB_len (ma : Option Addr) (s mcap : Nat) : ∀ k, (cfgsB ma s mcap k).length = k * 4
 | 0 => rfl
 | k + 1 => by rw [cfgsB_succ, List.length_append, cfgsB_len ma s mcap k]; simp [cfgC]; omega
theorem ptrsB_get (P : Nat → Nat) {k i : Nat} (h : i < k) : (ptrsB P k)[i]? = some (.pointer (some ⟨P i, 0, none⟩)) := by simp [ptrsB, h]
theorem cfgsB_get (ma : Option Addr) (s mcap : Nat) : ∀ {k i : Nat}, i < k → ∀ {j : Nat} {v : Value}, (cfgC ma s mcap i)[j]? = some v → (cfgsB ma s mcap k)[i * 4 + j]? = some v
 | k + 1, i, h, j, v, hj => by
  have hl := cfgsB_len ma s mcap k
  have hj4 : j < 4 := by have := (List.getElem?_eq_some_iff.1 hj).1; simpa [cfgC] using this
  rw [cfgsB_succ]
  by_cases e : i = k
  ·subst e
   rw [List.getElem?_append_right (by omega), hl, Nat.add_sub_cancel_left]
   exact hj
  ·rw [List.getElem?_append_left (by omega)]
   exact cfgsB_get ma s mcap (by omega) hj
theorem ptrsB_congr {P Q : Nat → Nat} {k : Nat} (h : ∀ i, i < k → P i = Q i) : ptrsB P k = ptrsB Q k := by
 unfold ptrsB
 exact List.map_congr_left fun i hi => by rw [h i (List.mem_range.1 hi)]
def Cl.B (c : Cl) (nv cv : Value) (k : Nat) : Prop := k = c.wd ∨ k = c.lm ∨ k = c.am ∨ nv.ownBlock = some k ∨ cv.ownBlock = some k
structure BgAt (w0 w : World) (M : Nat → Prop) (k : Nat) (nv cv : Value) (c : Cl) : Prop where
 box : w.heap[c.wd]? = some (.cells #[nv, cv, .slice none 0 0, .map (some c.lm), .map (some c.am)] 36 (0, 0))
 nodes : w.ownsRow 0 44 1 nv k (ptrsB c.P k)
 cfg : w.ownsRow 0 64 4 cv k (cfgsB c.ma c.s c.mcap k)
 lmb : w.heap[c.lm]? = some (.map #[] 0)
 amb : w.heap[c.am]? = some (.map #[] 0)
 mem : Sl intv w (.slice c.ma c.s c.mcap) (memS c.s)
 imm : im M (.slice c.ma c.s c.mcap)
 node : ∀ i, i < k → NodeAt w M (c.F i) (c.P i) (c.x i)
 apart : ∀ i j q, i < k → j < k → c.F i q → c.F j q → i = j
 own : ∀ q, c.B nv cv q → M q
 fo : ∀ i q, i < k → c.F i q → ¬ c.B nv cv q
 d0 : c.lm ≠ c.wd ∧ c.am ≠ c.wd ∧ c.lm ≠ c.am
 dn : ∀ q, nv.ownBlock = some q → q ≠ c.wd ∧ q ≠ c.lm ∧ q ≠ c.am ∧ cv.ownBlock ≠ some q
 dc : ∀ q, cv.ownBlock = some q → q ≠ c.wd ∧ q ≠ c.lm ∧ q ≠ c.am
 lt : ∀ q, M q → q < w.heap.size
 new : ∀ q, M q → w0.heap.size ≤ q
 bel : Below w0.heap.size w0 w
 ids : ∀ i, i < k → (c.x i).id = (i : Int) + 1
 ok : ∀ i, i < k → OkN (memS c.s) Gh.none_ 0 (c.x i) [] ∧ (c.x i).out = []
section
variable {w0 w w' : World} {M : Nat → Prop} {k : Nat} {nv cv : Value} {c : Cl}
theorem BgAt.wd_lt (h : BgAt w0 w M k nv cv c) : c.wd < w.heap.size := heap_lt h.box
theorem BgAt.below (h : BgAt w0 w M k nv cv c) (hb : Below w.heap.size w w') : BgAt w0 w' M k nv cv c := by
 have hk : Keeps (fun _ => False) w w' := Keeps.of_belowS hb
 have hz := h.bel.size
 exact ⟨bH hb h.box (heap_lt h.box), owns_kept h.nodes hk fun _ _ e => e, owns_kept h.cfg hk fun _ _ e => e, bH hb h.lmb (heap_lt h.lmb), bH hb h.amb (heap_lt h.amb), h.mem.below hb h.mem.row_lt, h.imm, fun i hi => (h.node i hi).below hb, h.apart, h.own, h.fo, h.d0, h.dn, h.dc, fun q hq => Nat.lt_of_lt_of_le (h.lt q hq) hb.size, h.new, h.bel.trans (hb.mono hz), h.ids, h.ok⟩
structure PairR (w w9 : World) (nv cv nv' cv' : Value) (k : Nat) (P : Nat → Nat) (ma : Option Addr) (s mcap p : Nat) : Prop where
 keeps : Keeps (fun q => nv.ownBlock = some q ∨ cv.ownBlock = some q) w w9
 nodes : w9.ownsRow 0 44 1 nv' (k + 1) (ptrsB P k ++ [.pointer (some ⟨p, 0, none⟩)])
 cfg : w9.ownsRow 0 64 4 cv' (k + 1) (cfgsB ma s mcap (k + 1))
 nb : ∀ q, nv'.ownBlock = some q → nv.ownBlock = some q ∨ w.heap.size ≤ q
 cb : ∀ q, cv'.ownBlock = some q → cv.ownBlock = some q ∨ w.heap.size ≤ q
 ne : ∀ q, nv'.ownBlock = some q → cv'.ownBlock ≠ some q
theorem BgAt.more (h : BgAt w0 w M k nv cv c) {w9 : World} {nv' cv' : Value} {p : Nat} (hp : PairR w w9 nv cv nv' cv' k c.P c.ma c.s c.mcap p) {G : Nat → Prop} {y : NodeS} {M1 : Nat → Prop} (_ : ∀ q, M1 q → M q) (_ : ∀ q, M q → M1 q ∨ G q) (hy : NodeAt w M G p y) (hG : ∀ q, G q → ¬ c.B nv cv q) (hGF : ∀ i q, i < k → G q → ¬ c.F i q) (hid : y.id = (k : Int) + 1) (hok : OkN (memS c.s) Gh.none_ 0 y [] ∧ y.out = []) :
  BgAt w0 ((w9.setCell ⟨c.wd, 0, none⟩ nv').setCell ⟨c.wd, 1, none⟩ cv') (fun q => M q ∨ nv'.ownBlock = some q ∨ cv'.ownBlock = some q) (k + 1) nv' cv' (c.putNode k p G y) := by
 have hwd := h.wd_lt
 have hlt : ∀ q, c.B nv cv q → q < w.heap.size := fun q hq => h.lt q (h.own q hq)
 have hks : Keeps (fun q => q = c.wd) w9 ((w9.setCell ⟨c.wd, 0, none⟩ nv').setCell ⟨c.wd, 1, none⟩ cv') := ((Keeps.refl (fun q => q = c.wd) w9).setCell (.inl rfl) _).setCell (.inl rfl) _
 have hk : Keeps (fun q => (nv.ownBlock = some q ∨ cv.ownBlock = some q) ∨ q = c.wd) w ((w9.setCell ⟨c.wd, 0, none⟩ nv').setCell ⟨c.wd, 1, none⟩ cv') := (hp.keeps.mono fun q _ e => .inl e).trans (hks.mono fun q _ e => .inr e)
 have hTB : ∀ q, ((nv.ownBlock = some q ∨ cv.ownBlock = some q) ∨ q = c.wd) → c.B nv cv q := fun q e => by
  rcases e with (e | e) | e
  ·exact .inr (.inr (.inr (.inl e)))
  ·exact .inr (.inr (.inr (.inr e)))
  ·exact .inl e
 have hm : Mv w M ((w9.setCell ⟨c.wd, 0, none⟩ nv').setCell ⟨c.wd, 1, none⟩ cv') (fun q => M q ∨ nv'.ownBlock = some q ∨ cv'.ownBlock = some q) :=
  ⟨hk.mono fun q _ e => h.own q (hTB q e), fun q e => by
    rcases e with e | e | e
    · exact .inl e
    · exact (hp.nb q e).imp (fun e => h.own q (.inr (.inr (.inr (.inl e))))) id
    · exact (hp.cb q e).imp (fun e => h.own q (.inr (.inr (.inr (.inr e))))) id⟩
 have hnw : ∀ q, nv'.ownBlock = some q → q ≠ c.wd ∧ q ≠ c.lm ∧ q ≠ c.am := fun q e => by
  rcases hp.nb q e with e | e
  ·obtain ⟨a, b, d, _⟩ := h.dn q e; exact ⟨a, b, d⟩
  ·have a1 := hlt c.wd (.inl rfl); have a2 := hlt c.lm (.inr (.inl rfl)); have a3 := hlt c.am (.inr (.inr (.inl rfl))); omega
 have hcw : ∀ q, cv'.ownBlock = some q → q ≠ c.wd ∧ q ≠ c.lm ∧ q ≠ c.am := fun q e => by
  rcases hp.cb q e with e | e
  ·exact h.dc q e
  ·have a1 := hlt c.wd (.inl rfl); have a2 := hlt c.lm (.inr (.inl rfl)); have a3 := hlt c.am (.inr (.inr (.inl rfl))); omega
 have hz := h.bel.size
 have hB' : ∀ q, (c.putNode k p G y).B nv' cv' q → c.B nv cv q ∨ w.heap.size ≤ q := fun q e => by
  rcases e with e | e | e | e | e
  ·exact .inl (.inl e)
  ·exact .inl (.inr (.inl e))
  ·exact .inl (.inr (.inr (.inl e)))
  ·exact (hp.nb q e).imp (fun e => .inr (.inr (.inr (.inl e)))) id
  ·exact (hp.cb q e).imp (fun e => .inr (.inr (.inr (.inr e)))) id
 have hnode : ∀ i, i < k + 1 → NodeAt w M ((c.putNode k p G y).F i) ((c.putNode k p G y).P i) ((c.putNode k p G y).x i) := fun i hi => by
  show NodeAt w M (if i = k then G else c.F i) (if i = k then p else c.P i) (if i = k then y else c.x i)
  by_cases e : i = k
  ·rw [if_pos e, if_pos e, if_pos e]; exact hy
  ·rw [if_neg e, if_neg e, if_neg e]; exact h.node i (by omega)
 have hfo : ∀ i q, i < k + 1 → (c.putNode k p G y).F i q → ¬ c.B nv cv q := fun i q hi hq => by
  have hq' : (if i = k then G else c.F i) q := hq
  by_cases e : i = k
  ·rw [if_pos e] at hq'; exact hG q hq'
  ·rw [if_neg e] at hq'; exact h.fo i q (by omega) hq'
 refine ⟨?_, ?_, owns_kept hp.cfg hks fun q hq => (hcw q hq).1, hk.heap (fun e => ?_) h.lmb, hk.heap (fun e => ?_) h.amb, hm.sl h.mem h.imm, hm.im h.imm h.mem.row_lt, fun i hi => (hnode i hi).mv hm (fun _ e => .inl e) hk fun q hq e => hfo i q hi hq (hTB q e), fun i j q hi hj h1 h2 => ?_, fun q hq => ?_, fun i q hi hq hb => ?_, h.d0, fun q hq => ⟨(hnw q hq).1, (hnw q hq).2.1, (hnw q hq).2.2, hp.ne q hq⟩, hcw, fun q hq => ?_, fun q hq => ?_, ?_, fun i hi => ?_, fun i hi => ?_⟩
 ·have h1 := blk_set (blk_set (hp.keeps.heap (fun e => by rcases e with e | e; exact (h.dn _ e).1 rfl; exact (h.dc _ e).1 rfl) h.box) 0 nv') 1 cv'
  exact h1
 ·have e : ptrsB (c.putNode k p G y).P (k + 1) = ptrsB c.P k ++ [.pointer (some ⟨p, 0, none⟩)] := by
   rw [ptrsB_succ]
   congr 1
   ·exact ptrsB_congr fun i hi => by show (if i = k then p else c.P i) = c.P i; rw [if_neg (by omega)]
   ·show [Value.pointer (some ⟨if k = k then p else c.P k, 0, none⟩)] = _; rw [if_pos rfl]
  rw [e]
  exact owns_kept hp.nodes hks fun q hq => (hnw q hq).1
 ·rcases e with (e | e) | e
  ·exact (h.dn _ e).2.1 rfl
  ·exact (h.dc _ e).2.1 rfl
  ·exact h.d0.1 e
 ·rcases e with (e | e) | e
  ·exact (h.dn _ e).2.2.1 rfl
  ·exact (h.dc _ e).2.2 rfl
  ·exact h.d0.2.1 e
 ·have h1' : (if i = k then G else c.F i) q := h1
  have h2' : (if j = k then G else c.F j) q := h2
  by_cases ei : i = k <;> by_cases ej : j = k
  ·omega
  ·rw [if_pos ei] at h1'; rw [if_neg ej] at h2'; exact absurd h2' (hGF j q (by omega) h1')
  ·rw [if_neg ei] at h1'; rw [if_pos ej] at h2'; exact absurd h1' (hGF i q (by omega) h2')
  ·rw [if_neg ei] at h1'; rw [if_neg ej] at h2'; exact h.apart i j q (by omega) (by omega) h1' h2'
 ·rcases hq with e | e | e | e | e
  ·exact .inl (h.own q (.inl e))
  ·exact .inl (h.own q (.inr (.inl e)))
  ·exact .inl (h.own q (.inr (.inr (.inl e))))
  ·exact .inr (.inl e)
  ·exact .inr (.inr e)
 ·rcases hB' q hb with e | e
  ·exact hfo i q hi hq e
  ·obtain ⟨S, hn⟩ := hnode i hi
   have := hn.lt q hq
   omega
 ·rcases hq with e | e | e
  ·exact Nat.lt_of_lt_of_le (h.lt q e) hk.size
  ·have := (hp.nodes.lt q e).2; simpa using this
  ·have := (hp.cfg.lt q e).2; simpa using this
 ·rcases hq with e | e | e
  ·exact h.new q e
  ·rcases hp.nb q e with e | e
   ·exact h.new q (h.own q (.inr (.inr (.inr (.inl e)))))
   ·omega
  ·rcases hp.cb q e with e | e
   ·exact h.new q (h.own q (.inr (.inr (.inr (.inr e)))))
   ·omega
 ·exact h.bel.trans (hk.below hz fun q e => h.new q (h.own q (hTB q e)))
 ·show (if i = k then y else c.x i).id = _
  by_cases e : i = k
  ·rw [if_pos e, hid, e]
  ·rw [if_neg e]; exact h.ids i (by omega)
 ·show OkN (memS c.s) Gh.none_ 0 (if i = k then y else c.x i) [] ∧ (if i = k then y else c.x i).out = []
  by_cases e : i = k
  ·rw [if_pos e]; exact hok
  ·rw [if_neg e]; exact h.ok i (by omega)
end
end
section
open Go.RowKit
section
variable {w0 w w' : World} {M : Nat → Prop} {k : Nat} {nv cv : Value} {c : Cl}
theorem BgAt.wide (h : BgAt w0 w M k nv cv c) (hb : Below w.heap.size w w') {F : Nat → Prop} (hF : ∀ q, F q → w.heap.size ≤ q ∧ q < w'.heap.size) : BgAt w0 w' (fun q => M q ∨ F q) k nv cv c := by
 have hk : Keeps (fun _ => False) w w' := Keeps.of_belowS hb
 have hz := h.bel.size
 have hm : Mv w M w' (fun q => M q ∨ F q) := ⟨hk.mono fun _ _ e => e.elim, fun q e => e.imp id fun e => (hF q e).1⟩
 exact ⟨bH hb h.box (heap_lt h.box), owns_kept h.nodes hk fun _ _ e => e, owns_kept h.cfg hk fun _ _ e => e, bH hb h.lmb (heap_lt h.lmb), bH hb h.amb (heap_lt h.amb), h.mem.below hb h.mem.row_lt, hm.im h.imm h.mem.row_lt, fun i hi => (h.node i hi).mv hm (fun _ e => .inl e) hk fun _ _ e => e, h.apart, fun q hq => .inl (h.own q hq), h.fo, h.d0, h.dn, h.dc, fun q hq => hq.elim (fun hq => Nat.lt_of_lt_of_le (h.lt q hq) hb.size) fun hq => (hF q hq).2, fun q hq => hq.elim (h.new q) fun hq => Nat.le_trans hz (hF q hq).1, h.bel.trans (hb.mono hz), h.ids, h.ok⟩
theorem memS_succ (s : Nat) : memS (s + 1) = memS s ++ [(s : Int) + 1] := by simp [memS, List.range_succ]
def BeginR (s : Nat) (w : World) (e : Ending) (w' : World) : Prop :=
 ∃ M c, e = .returned (.pointer (some ⟨c.wd, 0, none⟩)) ∧ Below w.heap.size w w' ∧ ClAt w' M c ∧ (∀ q, M q → w.heap.size ≤ q) ∧ c.s = s ∧ c.net = [] ∧ ClOk (memS s) Gh.none_ 0 c ∧ (∀ i, i < s → (c.x i).out = []) ∧ w'.heap[c.lm]? = some (.map #[] 0) ∧ w'.heap[c.am]? = some (.map #[] 0)
theorem BgAt.done {s : Nat} (h : BgAt w0 w M s nv cv c) (hs : c.s = s) (h1 : 1 ≤ s) (h7 : s ≤ 7) : BeginR s w0 (.returned (.pointer (some ⟨c.wd, 0, none⟩))) w := by
 rcases h.nodes.2 with ⟨_, h0⟩ | ⟨nb, ncap, ncur, hnv, _, hn1, hn2, hn3, hn4, hn5⟩
 ·omega
 rcases h.cfg.2 with ⟨_, h0⟩ | ⟨cb, ccap, ccur, hcv, _, hc1, hc2, hc3, hc4, hc5⟩
 ·omega
 have hnO : nv.ownBlock = some nb := by rw [hnv]; rfl
 have hcO : cv.ownBlock = some cb := by rw [hcv]; rfl
 obtain ⟨a1, a2, a3, a4⟩ := h.dn nb hnO
 obtain ⟨b1, b2, b3⟩ := h.dc cb hcO
 have hne : nb ≠ cb := fun e => a4 (by rw [hcO, e])
 have hOB : ∀ q, ({ c with nb := nb, cb := cb, ncap := ncap, ccap := ccap, nv := .slice none 0 0, net := [] } : Cl).O q → c.B nv cv q := fun q e => by
  rcases e with e | e | e | e | e | e
  ·exact .inl e
  ·exact .inr (.inr (.inr (.inl (by rw [hnO]; exact congrArg some e.symm))))
  ·exact .inr (.inr (.inr (.inr (by rw [hcO]; exact congrArg some e.symm))))
  ·simp [Value.ownBlock] at e
  ·exact .inr (.inl e)
  ·exact .inr (.inr (.inl e))
 refine ⟨M, { c with nb := nb, cb := cb, ncap := ncap, ccap := ccap, nv := .slice none 0 0, net := [] }, rfl, h.bel, ⟨?_, ⟨ncur, hn1, fun i hi => ?_⟩, ⟨ccur, (0, 0), hc1, fun i hi => ?_⟩, h.mem, h.imm, fun i hi => h.node i (by rw [← hs]; exact hi), fun i j q hi hj => h.apart i j q (by rw [← hs]; exact hi) (by rw [← hs]; exact hj), RowO.nil _ _ _, (fun m hm => by cases hm), fun q hq => h.own q (hOB q hq), fun i q hi hq hb => h.fo i q (by rw [← hs]; exact hi) hq (hOB q hb), ⟨fun e => a1 e.symm, fun e => b1 e.symm, hne, h.d0.1, fun e => a2 e.symm, fun e => b2 e.symm, h.d0.2.1, fun e => a3 e.symm, fun e => b3 e.symm, h.d0.2.2⟩, (fun q hq => by simp [Value.ownBlock] at hq), h.lt, fun i hi => h.ids i (by rw [← hs]; exact hi), by show 1 ≤ c.s; omega, by show c.s ≤ 7; omega, by show c.s ≤ ncap ∧ ncap ≤ maxLen ∧ c.s ≤ ccap ∧ ccap ≤ maxLen; omega⟩, h.new, hs, rfl, ⟨⟨gi_none cfE_nodup (membersB_nodup (memS_ok h1 h7)), membersB_nodup (memS_ok h1 h7)⟩, fun i hi => ⟨[], by rw [← hs]; exact (h.ok i (by rw [← hs]; exact hi)).1⟩, (fun m hm => by cases hm), fun i hi m hm => ?_⟩, fun i hi => (h.ok i hi).2, h.lmb, h.amb⟩
 ·have := h.box
  rw [hnv, hcv] at this
  show w.heap[c.wd]? = some (.cells #[.slice (some ⟨nb, 0, none⟩) c.s ncap, .slice (some ⟨cb, 0, none⟩) c.s ccap, .slice none 0 0, .map (some c.lm), .map (some c.am)] 36 (0, 0))
  rw [hs]; exact this
 ·have hi' : i < s := by rw [← hs]; exact hi
  have := ptrsB_get c.P hi'
  rw [← hn5, List.getElem?_take] at this
  split at this
  ·simpa using this
  ·cases this
 ·have hi' : i < s := by rw [← hs]; exact hi
  have key : ∀ (j : Nat) (v : Value), (cfgC c.ma c.s c.mcap i)[j]? = some v → ccur[i * 4 + j]? = some v := fun j v hj => by
   have := cfgsB_get c.ma c.s c.mcap hi' hj
   rw [← hc5, List.getElem?_take] at this
   split at this
   ·simpa using this
   ·cases this
  exact ⟨key 0 _ rfl, key 1 _ rfl, key 2 _ rfl, key 3 _ rfl⟩
 ·have := (h.ok i (by rw [← hs]; exact hi)).2
  have hm' : m ∈ (c.x i).out := hm
  rw [this] at hm'
  cases hm'
end
end
section
open Go.RowKit Go.Maps Go.ChangeMaps
structure RunAt (s : Nat) (w0 : World) (b k : Nat) (w : World) (M : Nat → Prop) (c : Cl) (g : Gh En) (L : List (Int × Int)) (D : List (Int × Ent)) : Prop where
 wd : c.wd = b
 sz : c.s = s
 bel : Below w0.heap.size w0 w
 at_ : ClAt w M c
 fresh : ∀ q, M q → w0.heap.size ≤ q
 ok : ClOk (memS s) g k c
 net : c.net.length ≤ 200
 outs : ∀ i, i < c.s → (c.x i).out = []
 ag : AgAt w M c.lm c.am L D
 agok : AgOk (memS s) g L D
section
variable {s b k : Nat} {w0 w w' : World} {M M' : Nat → Prop} {c c' : Cl} {g g' : Gh En} {L : List (Int × Int)} {D : List (Int × Ent)}
theorem map_none {α β : Type} [DecidableEq α] {κ : α → Value} {φ : β → Value} {P : Program} {t : TypeId} {m : Nat} (h : w.heap[m]? = some (.map #[] 0)) : MapOf P t κ φ w m ([] : List (α × β)) :=
 ⟨#[], 0, h, rfl, List.nodup_nil, by simp, by simp [Born]⟩
theorem run_start {w1 : World} {e : Ending} (h0 : Below w0.heap.size w0 w1) (h : BeginR s w1 e w') : ∃ M c, e = .returned (.pointer (some ⟨c.wd, 0, none⟩)) ∧ RunAt s w0 c.wd 0 w' M c Gh.none_ [] [] := by
 obtain ⟨M, c, he, hb, hat, hM, hs, hnet, hok, hout, hl, ha⟩ := h
 refine ⟨M, c, he, rfl, hs, h0.trans (hb.mono h0.size), hat, fun q hq => Nat.le_trans h0.size (hM q hq), hok, by rw [hnet]; exact Nat.zero_le _, fun i hi => hout i (by omega), ⟨map_none hl, map_none ha, fun p hp => by cases hp⟩, AgOk.nil⟩
theorem ClAt.nlm (h : ClAt w M c) : ¬ c.W c.lm ∧ ¬ c.W c.am := by
 obtain ⟨d1, d2, d3, d4, d5, d6, d7, d8, d9, d10⟩ := h.d0
 refine ⟨fun e => ?_, fun e => ?_⟩
 ·rcases e with e | e | e | ⟨i, hi, e⟩
  ·exact d4 e
  ·exact d5 e
  ·exact (h.dn _ e).2.2.2.1 rfl
  ·exact h.fo i _ hi e (.inr (.inr (.inr (.inr (.inl rfl)))))
 ·rcases e with e | e | e | ⟨i, hi, e⟩
  ·exact d7 e
  ·exact d8 e
  ·exact (h.dn _ e).2.2.2.2 rfl
  ·exact h.fo i _ hi e (.inr (.inr (.inr (.inr (.inr rfl)))))
theorem RunAt.do_ (h : RunAt s w0 b k w M c g L D) {e : Ending} (hd : DoR (memS s) g (k + 1) w M c e w') :
  e = .returned (.tuple #[]) ∧ ∃ M' c' g', RunAt s w0 b (k + 1) w' M' c' g' L D ∧ (∃ v, Grow v g g') := by
 obtain ⟨he, M', c', g', hC, hok, ⟨v, hv⟩, hnet, hout⟩ := hd
 have hfr : ∀ q, M' q → w0.heap.size ≤ q := fun q hq => (hC.new q hq).elim (h.fresh q) fun e => Nat.le_trans h.bel.size e
 have hb : Below w0.heap.size w w' := hC.keeps.below h.bel.size fun q hq => h.fresh q (h.at_.wM q hq)
 have hag := h.ag.mv (hC.mv h.at_) hC.keeps h.at_.nlm.1 h.at_.nlm.2
 rw [← hC.same.lm, ← hC.same.am] at hag
 exact ⟨he, M', c', g', ⟨by rw [hC.same.wd, h.wd], by rw [hC.same.s, h.sz], h.bel.trans hb, hC.at_, hfr, hok, hnet, fun i hi => hout i (by rw [← hC.same.s]; exact hi), hag, h.agok.grow h.ok.gok hv⟩, v, hv⟩
theorem RunAt.below (h : RunAt s w0 b k w M c g L D) (hb : Below w.heap.size w w') : RunAt s w0 b k w' M c g L D :=
 ⟨h.wd, h.sz, h.bel.trans (hb.mono h.bel.size), h.at_.below hb, h.fresh, h.ok, h.net, h.outs, h.ag.below hb, h.agok⟩
theorem RunAt.safe_ (h : RunAt s w0 b k w M c g L D) {e : Ending} (hd : SafeR (memS s) g w M c e w') :
  e = .returned (.bool true) ∧ ∃ L' D', RunAt s w0 b k w' M c g L' D' := by
 obtain ⟨he, L', D', hC, hA, hO, hK⟩ := hd
 refine ⟨he, L', D', h.wd, h.sz, h.bel.trans (hK.below h.bel.size fun q hq => ?_), hC, h.fresh, h.ok, h.net, h.outs, hA, hO⟩
 refine h.fresh q (h.at_.own q ?_)
 rcases hq with e | e
 ·exact .inr (.inr (.inr (.inr (.inl e))))
 ·exact .inr (.inr (.inr (.inr (.inr e))))
end
end
section
open Go.RowKit Go.Maps Go.ChangeMaps
section
variable {C0 : List Int} {g g' : Gh En} {n : Nat} {x z : NodeS} {X Y : List En} {D : List (Int × Ent)}
end
end
section
open Go.RowKit Go.Maps Go.ChangeMaps
section
variable {s b k : Nat} {w0 w w' : World} {M M' : Nat → Prop} {c c' : Cl} {g g' : Gh En} {L : List (Int × Int)} {D : List (Int × Ent)}
end
end
section
open Go.RowKit Go.ChangeShapes Go.WideShapes Go.ChangeAt Go.Deep Go.Joins
structure StpV where
 kind : Int
 node : Int
 draw : Int
def StpAt (w : World) (b o : Nat) (x : StpV) : Prop :=
 w.cell? ⟨b, o, none⟩ = some (.int .i64 x.kind) ∧ w.cell? ⟨b, o + 1, none⟩ = some (.int .i64 x.node) ∧ w.cell? ⟨b, o + 2, none⟩ = some (.int .u64 x.draw)
def StpOk (x : StpV) : Prop := (Lit.int .i64 x.kind).wf = true ∧ (Lit.int .i64 x.node).wf = true ∧ (Lit.int .u64 x.draw).wf = true
def StpRow (w : World) (a : Option Addr) (len cap : Nat) (xs : Nat → StpV) : Prop :=
 len ≤ maxLen ∧ len ≤ cap ∧ (len = 0 ∨ ∃ b off, a = some ⟨b, off, none⟩ ∧ b < w.heap.size ∧ ∀ i, i < len → StpAt w b (off + i * 3) (xs i) ∧ StpOk (xs i))
section
variable {H : Type} {enc : TypeId × Value → H} {w : World} {base : Nat} {spare : Nat → Bool} {held : Bool}
set_option maxRecDepth 100000 in
theorem stp_open {n : Nat} {cs : List Value} {y : DataW H × List MemPlace} (h : DataW.trod enc Tryz.prog w base spare held n 28 cs = some y) :
  ∃ x : StpV, cs = [.int .i64 x.kind, .int .i64 x.node, .int .u64 x.draw] ∧ StpOk x := by
 obtain ⟨y0, y1, y2, m, _, hl, h0, h1, h2⟩ := trod_struct3 Tryz.underlying28 h
 have hc : Tryz.prog.cellsOf 28 = 3 := by kernel_rfl
 rw [hc] at hl
 match cs, hl with
 | [c0, c1, c2], _ =>
  obtain ⟨k, hk, _, wk⟩ := DataW.trod_int Tryz.underlying3 h0
  obtain ⟨d, hd, _, wd⟩ := DataW.trod_int Tryz.underlying3 h1
  obtain ⟨u, hu, _, wu⟩ := DataW.trod_int Tryz.underlying26 h2
  have k0 : Tryz.prog.cellsOf 3 = 1 := by kernel_rfl
  have k2 : Tryz.prog.cellsOf 26 = 1 := by kernel_rfl
  simp [k0, k2] at hk hd hu
  subst hk hd hu
  exact ⟨⟨k, d, u⟩, rfl, wk, wd, wu⟩
theorem open_stps {a : Option Addr} {len cap : Nat} {d : DataW H} {p : List MemPlace} (h : DataW.Trod enc Tryz.prog w base spare held 22 (.slice a len cap) d p) : ∃ xs, StpRow w a len cap xs := by
 obtain ⟨fuel, hf⟩ := h
 rcases open_slice Tryz.underlying22 hf with ⟨hcs, _⟩ | ⟨ad, l, c, m, n, D, Pl, hcs, _, hl, hm, hmm, _, hx⟩
 ·simp [Value.cells] at hcs
  obtain ⟨rfl, rfl, rfl⟩ := hcs
  exact ⟨fun _ => ⟨0, 0, 0⟩, by simp, by simp, .inl rfl⟩
 ·simp [Value.cells] at hcs
  obtain ⟨rfl, rfl, rfl⟩ := hcs
  have hlm : len ≤ m := by rw [hmm]; split <;> omega
  have hce : Tryz.prog.cellsOf 28 = 3 := by kernel_rfl
  rw [hce] at hx
  have each : ∀ i, i < len → ∃ x : StpV, (∀ j v, [Value.int .i64 x.kind, .int .i64 x.node, .int .u64 x.draw][j]? = some v → w.cell? (ad.add (i * 3 + j)) = some v) ∧ StpOk x := by
   intro i hi
   obtain ⟨cs', h1, h2⟩ := hx i (by omega)
   obtain ⟨x, rfl, hok⟩ := stp_open h2
   refine ⟨x, fun j v hv => ?_, hok⟩
   obtain ⟨_, hlen, hcell⟩ := World.cells?_some h1
   have hj : j < 3 := by
    have := (List.getElem?_eq_some_iff.1 hv).1
    simpa using this
   have := hcell j hj
   rw [add_add] at this
   rw [this]
   exact hv
  have hne : Nonempty StpV := ⟨⟨0, 0, 0⟩⟩
  obtain ⟨xs, hxs⟩ : ∃ xs : Nat → StpV, ∀ i, i < len → (∀ j v, [Value.int .i64 (xs i).kind, .int .i64 (xs i).node, .int .u64 (xs i).draw][j]? = some v → w.cell? (ad.add (i * 3 + j)) = some v) ∧ StpOk (xs i) := by
   refine ⟨fun i => if h : i < len then (each i h).choose else ⟨0, 0, 0⟩, fun i hi => ?_⟩
   simp only [dif_pos hi]
   exact (each i hi).choose_spec
  refine ⟨xs, by omega, hl, ?_⟩
  rcases Nat.eq_zero_or_pos len with h0 | h0
  ·exact .inl h0
  ·right
   obtain ⟨b, off, spot⟩ := ad
   have hs := (hxs 0 h0).1 0 _ rfl
   have hspot : spot = none := by simpa [Addr.add] using World.cell?_spot hs
   subst hspot
   have hadd : ∀ k, (⟨b, off, none⟩ : Addr).add k = ⟨b, off + k, none⟩ := fun k => Addr.add_mid b off k
   refine ⟨b, off, rfl, cell_lt hs, fun i hi => ⟨?_, (hxs i hi).2⟩⟩
   have hc := (hxs i hi).1
   have g : ∀ j v, [Value.int .i64 (xs i).kind, .int .i64 (xs i).node, .int .u64 (xs i).draw][j]? = some v → w.cell? ⟨b, off + i * 3 + j, none⟩ = some v := by
    intro j v hv
    have := hc j v hv
    rw [hadd] at this
    rw [Nat.add_assoc]; exact this
   exact ⟨g 0 _ rfl, g 1 _ rfl, g 2 _ rfl⟩
theorem StpRow.at {a : Option Addr} {len cap : Nat} {xs : Nat → StpV} (h : StpRow w a len cap xs) {i : Nat} (hi : i < len) :
  ∃ b off, a = some ⟨b, off, none⟩ ∧ b < w.heap.size ∧ StpAt w b (off + i * 3) (xs i) ∧ (0 ≤ (xs i).draw ∧ (xs i).draw ≤ 18446744073709551615) ∧ -9223372036854775808 ≤ (xs i).node ∧ (xs i).node ≤ 9223372036854775807 := by
 obtain ⟨b, off, rfl, hb, hx⟩ := h.2.2.resolve_left (by omega)
 obtain ⟨h1, _, h2, h3⟩ := hx i hi
 simp [Lit.wf, IntKind.min, IntKind.max, IntKind.signed, IntKind.bits] at h2 h3
 exact ⟨b, off, rfl, hb, h1, by omega, by omega, by omega⟩
end
end
end Go.Proofs.YtdjooojpcepleaaGreat

namespace Go.Proofs.YtdjooojpcepleaaGreat.L8
open Go.RowKit Go.Sort
structure NewI (w : World) (a : Option Addr) (cap : Nat) (l : List Int) (w' : World) : Prop where
 bel : Below w.heap.size w w'
 sl : Sl intv w' (.slice a l.length cap) l
 own : w'.ownsRow 0 3 1 (.slice a l.length cap) l.length (l.map intv)
 new : ∀ k, (Value.slice a l.length cap).ownBlock = some k → w.heap.size ≤ k
section
variable (w : World) (t : Nat) (r : Option Nat) (ix tm : Int) (es : List Ent) (h : LogAt w t r ix tm es) (ok : LogOk ix tm es) (hd : ∀ e ∈ es, e.d.length ≤ 900) (hc : ∀ e ∈ es, e.cf = false)
 (a : Option Addr) (cap : Nat) (base : List Int) (hb : Sl intv w (.slice a base.length cap) base) (hbl : base.length ≤ 1000)
include h ok hd hc hb hbl
set_option maxRecDepth 100000 in
set_option maxHeartbeats 2000000 in
theorem of_lone (last : Int) (hl : last ≤ ix + es.length) (hx : ix ≤ last) : Calls Tryz.prog 51 #[.pointer (some ⟨t, 0, none⟩), .slice a base.length cap, .int .u64 last] w
  fun e w' => ∃ a' cap', e = .returned (.tuple #[.slice a' base.length cap', .int .u64 0]) ∧ NewI w a' cap' base w' := by
 have hbs := base_any w t r ix tm es h
 have hls := fun W (hW : Below w.heap.size w W) => last_any W t r ix tm es (h.below hW) ok
 have HAT : Hid (∀ W, Below w.heap.size w W → ∀ (k : Nat) (e : Ent), es[k]? = some e → ∀ i, i = ix + (k : Int) + 1 → Calls Tryz.prog 79 #[.pointer (some ⟨t, 0, none⟩), .int .u64 i] W (AtR W e)) :=
  hI fun W hW k e he i hi => at_any W t r ix tm es (h.below hW) ok k e he i hi (by have := hd e (List.mem_of_getElem? he); omega)
 have HCF := hI hc
 have HCL : Hid (∀ W, Below w.heap.size w W → Calls Tryz.prog 47 #[.slice a base.length cap] W (ClonedI W base)) := hI fun W hW => clone_anyI W a _ cap base (hb.below hW hb.row_lt) hbl
 have hx0 := ok.lo
 have hx2 := ok.hi
 clear h ok hd hb hbl hc
 generalize lT tm es = lt at *
 obtain ⟨k0, hk0⟩ : ∃ k0 : Nat, (last - ix).toNat = k0 := ⟨_, rfl⟩
 have hmin : min last (ix + (es.length : Int)) = last := by omega
 have hkl : k0 ≤ es.length := by omega
 have hlk : last = ix + k0 := by omega
 have HLK := hI hlk
 clear hk0 hlk
 go_enter Tryz.func51, Tryz.ntmps51
 go_wp2_with fail
 refine hbs.mono ?_
 rintro e w1 ⟨rfl, n, rfl⟩
 have hb1 : Below w.heap.size w (w.drewN n) := belowDN bR n
 go_wp2_with fail
 refine (hls _ hb1).mono ?_
 rintro e w2 ⟨rfl, hb2⟩
 have hb12 := hb1.trans (hb2.mono hb1.size)
 have HB12 := hI hb12
 clear hb1 hb2 hls hbs hb12
 go_wp2_with fail
 go_loopw [12] (fun i wr => ∃ k : Nat, k ≤ es.length ∧ i = .int .u64 (ix + k) ∧ Below w.heap.size w wr) (fun i _ => (intOf i - ix).toNat)
 case atStart => exact ⟨k0, hkl, by rw [HLK.out], HB12.out⟩
 case round =>
  obtain ⟨k, hk, rfl, hbw⟩ := hrel
  have HB := hI hbw
  rcases k with _ | k
  ·clear hbw hmin
   go_wp2_with fail
   refine (HCL.out _ HB.out).mono ?_
   rintro e w3 ⟨v, rfl, hb3, hs3, ho3, hn3⟩
   obtain ⟨va, vc, rfl, _⟩ := id hs3
   go_wp2_with fail
   go_ret2
   exact ⟨va, vc, rfl, HB.out.trans (hb3.mono HB.out.size), hs3, ho3, fun k hk => Nat.le_trans HB.out.size (hn3 k hk)⟩
  ·obtain ⟨e, he⟩ : ∃ e, es[k]? = some e := ⟨es[k], List.getElem?_eq_getElem (by omega)⟩
   obtain ⟨i, hi⟩ : ∃ i, i = ix + ((k + 1 : Nat) : Int) := ⟨_, rfl⟩
   rw [← hi]
   have hat := HAT.out wr hbw k e he i (by omega)
   have hi1 : ix < i := by omega
   have hi2 : i ≤ 9223372036854775807 := by omega
   have HI := hI hi
   have hcf := HCF.out e (List.mem_of_getElem? he)
   clear hbw he hi hmin
   go_wp2_with fail
   refine hat.mono ?_
   rintro en w3 ⟨da, dc, rfl, hb3, hs3⟩
   clear hat
   have HB3 := hI (HB.out.trans (hb3.mono HB.out.size))
   clear hb3 hs3
   go_wp2_with fail
   go_roundw
   case rel => exact ⟨k, by omega, by rw [HI.out]; go_num, HB3.out.alloc HB3.out.size _⟩
   case measure => simp [intOf]; omega
end
end Go.Proofs.YtdjooojpcepleaaGreat.L8

namespace Go.Proofs.YtdjooojpcepleaaGreat.L8
open Go.RowKit Go.Sort
structure LoneS where
 id : Int
 mv : Value
 el : Int
 be : Int
 term : Int
 vote : Int
 role : Int
 lead : Int
 since : Int
 lg : Nat
 r : Option Nat
 es : List Ent
 imv : Value
 commit : Int
 poll : Value
 track : Value
 hard : Bool
def LoneS.cells (x : LoneS) : Array Value :=
 #[.int .i64 x.id, x.mv, .int .i64 x.el, .int .i64 x.be, .int .u64 x.term, .int .i64 x.vote, .int .i64 x.role, .int .i64 x.lead, .int .i64 x.since, .pointer (some ⟨x.lg, 0, none⟩),
   .int .u64 0, .int .u64 0, x.imv, .slice none 0 0, .int .u64 x.commit, x.poll, x.track, .slice none 0 0, .bool x.hard, .bool false, .int .u64 0]
structure Lone (w0 w : World) (p : Nat) (x : LoneS) : Prop where
 box : w.heap[p]? = some (.cells x.cells 74 (0, 0))
 log : LogAt w x.lg x.r 0 0 x.es
 ok : LogOk 0 0 x.es
 dl : ∀ e ∈ x.es, e.d.length ≤ 900
 cf : ∀ e ∈ x.es, e.cf = false
 img : ∃ a cap, x.imv = .slice a 1 cap ∧ Sl intv w (.slice a 1 cap) [x.id]
 i1 : 1 ≤ x.id
 i7 : x.id ≤ 7
 bel : Below w0.heap.size w0 w
 pb : w0.heap.size ≤ p
 lb : w0.heap.size ≤ x.lg
 rb : ∀ k, x.r = some k → w0.heap.size ≤ k
 pl : p ≠ x.lg
 pr : x.r ≠ some p
 pi : x.imv.ownBlock ≠ some p
 il : x.imv.ownBlock ≠ some x.lg
 ir : ∀ k, x.imv.ownBlock = some k → x.r ≠ some k
 pd : ∀ e ∈ x.es, e.v.ownBlock ≠ some p
 n0 : x.es.length ≤ 1000
section
variable {w0 w w' : World} {p : Nat} {x y : LoneS}
theorem Lone.lt (h : Lone w0 w p x) : p < w.heap.size := heap_lt h.box
theorem Lone.cell (h : Lone w0 w p x) (i : Nat) {v : Value} (hv : x.cells[i]? = some v) : w.cell? ⟨p, i, none⟩ = some v := bC h.box i hv
theorem Lone.free (h : Lone w0 w p x) (i : Nat) : w.frozen? ⟨p, i, none⟩ = false := bF h.box i
theorem Lone.below (h : Lone w0 w p x) (hb : Below w.heap.size w w') : Lone w0 w' p x := by
 obtain ⟨a, cap, e, hs⟩ := h.img
 exact ⟨bH hb h.box h.lt, h.log.below hb, h.ok, h.dl, h.cf, ⟨a, cap, e, hs.below hb hs.row_lt⟩, h.i1, h.i7, h.bel.trans (hb.mono h.bel.size), h.pb, h.lb, h.rb, h.pl, h.pr, h.pi, h.il, h.ir, h.pd, h.n0⟩
theorem Lone.drew (h : Lone w0 w p x) : Lone w0 w.drew p x := h.below (bD bR)
theorem Lone.drewN (h : Lone w0 w p x) (n : Nat) : Lone w0 (w.drewN n) p x := h.below (belowDN bR n)
theorem Lone.alloc (h : Lone w0 w p x) (o : Obj) : Lone w0 (w.alloc o) p x := h.below (bR.alloc nL o)
theorem Lone.set (h : Lone w0 w p x) (y : LoneS) (i : Nat) (v : Value) (hc : y.cells = x.cells.setIfInBounds i v) (h1 : y.lg = x.lg) (h2 : y.r = x.r) (h3 : y.es = x.es) (h4 : y.imv = x.imv) (h5 : y.id = x.id) :
  Lone w0 (w.setCell ⟨p, i, none⟩ v) p y := by
 have hk : Keeps (fun k => k = p) w (w.setCell ⟨p, i, none⟩ v) := (Keeps.refl (fun k => k = p) w).setCell (p := ⟨p, i, none⟩) (.inl rfl) v
 obtain ⟨a, cap, e, hs⟩ := h.img
 refine ⟨?_, ?_, ?_, ?_, ?_, ⟨a, cap, ?_, ?_⟩, ?_, ?_, ?_, h.pb, ?_, ?_, ?_, ?_, ?_, ?_, ?_, ?_, ?_⟩
 ·rw [hc]; exact blk_set h.box i v
 ·rw [h1, h2, h3]; exact h.log.kept hk (fun e => h.pl e.symm) (fun k hk e => h.pr (by rw [hk, e])) (fun q hq k hk e => h.pd q hq (by rw [hk, e]))
 ·rw [h3]; exact h.ok
 ·rw [h3]; exact h.dl
 ·rw [h3]; exact h.cf
 ·rw [h4]; exact e
 ·rw [h5]; exact hs.kept hk (fun k hk e2 => h.pi (by rw [e, ← e2]; exact hk))
 ·rw [h5]; exact h.i1
 ·rw [h5]; exact h.i7
 ·exact h.bel.trans (hk.below h.bel.size (fun k hk => hk ▸ h.pb))
 ·rw [h1]; exact h.lb
 ·rw [h2]; exact h.rb
 ·rw [h1]; exact h.pl
 ·rw [h2]; exact h.pr
 ·rw [h4]; exact h.pi
 ·rw [h4, h1]; exact h.il
 ·rw [h4, h2]; exact h.ir
 ·rw [h3]; exact h.pd
 ·rw [h3]; exact h.n0
end
section
variable {w0 w : World} {p : Nat} {x : LoneS} (h : Lone w0 w p x)
include h
theorem members_lone : Calls Tryz.prog 31 #[.pointer (some ⟨p, 0, none⟩)] w fun e w' => ∃ a cap, e = .returned (.slice a 1 cap) ∧ NewI w a cap [x.id] w' := by
 have hls := last_any w x.lg x.r 0 0 x.es h.log h.ok
 obtain ⟨a, cap, himv, hs⟩ := h.img
 have HIM := hI himv
 have HOF := hI (fun W (hW : Below w.heap.size w W) => of_lone W x.lg x.r 0 0 x.es (h.log.below hW) h.ok h.dl h.cf a cap [x.id] (hs.below hW hs.row_lt) (by simp) (0 + x.es.length) (Int.le_refl _) (by omega))
 have c9 := h.cell 9 rfl
 have c12 : w.cell? ⟨p, 12, none⟩ = some (.slice a 1 cap) := by rw [← himv]; exact h.cell 12 rfl
 have H := hI h
 have n0 := h.n0
 have e0 : (0 : Int) + (x.es.length : Int) = (x.es.length : Int) := by omega
 rw [e0] at HOF hls
 generalize lT 0 x.es = lt at *
 clear h hs himv
 go_enter Tryz.func31, Tryz.ntmps31
 go_wp2_with fail
 refine hls.mono ?_
 rintro e w1 ⟨rfl, hb1⟩
 have HB1 := hI hb1
 have H1 := hI (H.out.below hb1)
 have d9 : w1.cell? ⟨p, 9, none⟩ = some (.pointer (some ⟨x.lg, 0, none⟩)) := H1.out.cell 9 rfl
 have d12 : w1.cell? ⟨p, 12, none⟩ = some (.slice a 1 cap) := by rw [← HIM.out]; exact H1.out.cell 12 rfl
 clear hb1 c9 c12 hls e0
 go_wp2_with fail
 go_region_held3 (fun w' => w'.cell? ⟨p, 9, none⟩ = some (.pointer (some ⟨x.lg, 0, none⟩)) ∧ w'.cell? ⟨p, 12, none⟩ = some (.slice a 1 cap)) (first | exact ⟨d9, d12⟩ | exact ⟨f9, f12⟩)
  (first | (go_at_call 51; refine (HOF.out _ (bD HB1.out)).mono ?_; rintro e w2 ⟨a2, cap2, rfl, hn2⟩; have HN2 := hI hn2; have f9 : w2.cell? ⟨p, 9, none⟩ = some (.pointer (some ⟨x.lg, 0, none⟩)) := (H1.out.drew.below HN2.out.bel).cell 9 rfl; have f12 : w2.cell? ⟨p, 12, none⟩ = some (.slice a 1 cap) := by rw [← HIM.out]; exact (H1.out.drew.below HN2.out.bel).cell 12 rfl))
 go_wp2_with fail
 go_ret
 have b2 := HN2.out.bel
 have hz := HB1.out.size
 exact ⟨a2, cap2, rfl, (bD HB1.out).trans (b2.mono hz), HN2.out.sl, HN2.out.own, fun k hk => Nat.le_trans hz (HN2.out.new k hk)⟩
end
end Go.Proofs.YtdjooojpcepleaaGreat.L8

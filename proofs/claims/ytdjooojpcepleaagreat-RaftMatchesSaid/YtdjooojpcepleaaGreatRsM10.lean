/- Agreement, plainly: what a node does: entries and images come, what it has is told, what a majority has is committed; it is cut, and made anew. Package raft, any node: what lies in memory: what is written on (M), and what stays as it is; a ballot, a track, a row of entries. conf.Step. (of ConfS, for seats without layer 23's law) Members a step apart, as the program tests it; what a majority has. -/
import Derived.Test.YtdjooojpcepleaaGreatRsM09
import Derived.Test.YtdjooojpcepleaaGreatRsM04
import Derived.Test.YtdjooojpcepleaaGreatRsM05
import Derived.Test.YtdjooojpcepleaaGreatRsM06
import Derived.Test.YtdjooojpcepleaaGreatRsM07

namespace Go.Proofs.YtdjooojpcepleaaGreat
section
section
variable {ε : Type} {tm : ε → Nat} {cf : ε → Option (List Int)} {C0 : List Int} {g g' : Gh ε} {v : Int} {nd : NdS ε} {X : List ε}
theorem NI.relog (hg : GI tm cf C0 g) (h : NI tm cf C0 g v nd X) (hr2 : nd.role ≠ 2) (hr3 : nd.role ≠ 3) {T n : Nat} (hT : nd.term = T) (he : g.el T ≠ none) {Y : List ε} {base commit bterm : Nat} {mem : List Int} {ents : List ε}
  (hco : Coh tm g Y) (hs : SameTo Y (g.LL T) n) (h1 : base ≤ commit) (h2 : commit ≤ Y.length) (h3 : Y.drop base = ents) (h4 : tmAt tm Y base = bterm) (h5 : confTo cf C0 Y base = mem) (h6 : lastTX tm Y ≤ T) (h7 : Com g T Y commit)
  (hk : ∀ i, SameTo X (g.LL T) i → SameTo Y (g.LL T) i) (hkx : Y = X ∨ ∀ i, SameTo X (g.LL T) i → i ≤ Y.length → SameTo Y X i) :
  ∃ g', Grow v g g' ∧ GI tm cf C0 g' ∧ NI tm cf C0 g' v { nd with base := base, bterm := bterm, ents := ents, mem := mem, commit := commit } Y ∧ g'.A v T n := by
 subst hT
 have hg' := ack_ok (v := v) (n := n) hg he hs.2.1 fun t c e => (h.votes t c e).1
 have gr : Grow v g (g.ackG v nd.term n) := ack_grow
 refine ⟨_, gr, hg', ?_, .inr ⟨rfl, rfl, Nat.le_refl _⟩⟩
 exact
 { pos := h.pos, coh := gr.coh hco, le1 := h1, le2 := h2, ents := h3, bterm := h4, mem := h5, last := h6, com := h7.grow hg gr
   vote := h.vote, votes := h.votes, stood := h.stood, led := h.led
   acks := fun s i ha => by
     rcases ha with ha | ⟨_, rfl, hi⟩
     · obtain ⟨p, q⟩ := h.acks s i ha
       refine ⟨p, fun hu => ?_⟩
       have hx : g.Has s i X := q hu
       rcases Nat.lt_or_ge s nd.term with hl | hl
       · have ht : g.Has s i (g.L0 nd.term) := hu nd.term hl nL he
         have hl0 := ht.1
         rw [hg.l0len he] at hl0
         have ht2 : SameTo (g.LL nd.term) (g.LL s) i := ((hg.l0 he).mono hl0).symm.trans ht
         have hxT : SameTo X (g.LL nd.term) i := SameTo.trans hx ht2.symm
         exact (hk i hxT).trans ht2
       · obtain rfl : s = nd.term := Nat.le_antisymm p hl
         exact hk i hx
     · exact ⟨Nat.le_refl _, fun _ => hs.mono hi⟩
   cand := fun e => absurd e hr2, lead := fun e => absurd e hr3 }
theorem GI.cohTake (hg : GI tm cf C0 g) {T n : Nat} (he : g.el T ≠ none) (hn : n ≤ (g.LL T).length) : Coh tm g ((g.LL T).take n) ∧ SameTo ((g.LL T).take n) (g.LL T) n ∧ ((g.LL T).take n).length = n := by
 have hl : ((g.LL T).take n).length = n := by simp; omega
 have hs := SameTo.take (g.LL T) (Nat.le_refl n) hn
 exact ⟨(hg.coh T he).same (by rw [hl]; exact hs), hs, hl⟩
theorem take_drop_drop {l : List ε} {p k n : Nat} (hk : k ≤ n) : l.take (p + k) ++ ((l.drop p).take n).drop k = l.take (p + n) := by
 rw [List.drop_take, List.drop_drop, show p + n = (p + k) + (n - k) by omega, List.take_add (l := l) (i := p + k)]
theorem NI.put (hg : GI tm cf C0 g) (h : NI tm cf C0 g v nd X) (hr2 : nd.role ≠ 2) (hr3 : nd.role ≠ 3) {m : Ms ε} (hm : MI tm cf C0 g m) (hk4 : m.kind = 4) (hT : m.term = nd.term) (hi : nd.commit ≤ m.index) (hx : m.index ≤ X.length) (hlt : tmAt tm X m.index = m.logTerm)
  {k : Nat} (hk : k ≤ m.ents.length) (hkn : ∀ j, 1 ≤ j → j ≤ k → m.index + j ≤ X.length ∧ tmAt tm X (m.index + j) = tmAt tm (g.LL m.term) (m.index + j)) (hstop : k < m.ents.length → m.index + k + 1 ≤ X.length → tmAt tm X (m.index + k + 1) ≠ tmAt tm (g.LL m.term) (m.index + k + 1)) :
  ∃ g' Y, Grow v g g' ∧ GI tm cf C0 g' ∧ Y = (if k = m.ents.length then X else X.take (m.index + k) ++ m.ents.drop k) ∧
   NI tm cf C0 g' v { nd with ents := if k = m.ents.length then nd.ents else nd.ents.take (m.index + k - nd.base) ++ m.ents.drop k, commit := max nd.commit (min m.commit (m.index + m.ents.length)) } Y ∧ g'.A v m.term (m.index + m.ents.length) := by
 obtain ⟨a, b, c, d, e1, e2⟩ := hm.app hk4
 have hcoT := hg.coh _ a
 have hsk : SameTo X (g.LL m.term) (m.index + k) := by
  rcases Nat.eq_zero_or_pos k with rfl | hk0
  ·exact coh_same h.coh hcoT hx (by omega) (hlt.trans c.symm)
  ·obtain ⟨q1, q2⟩ := hkn k hk0 nL
   exact coh_same h.coh hcoT q1 (by omega) q2
 have hb : nd.base ≤ m.index := Nat.le_trans h.le1 hi
 by_cases hall : k = m.ents.length
 ·subst hall
  have hcm : Com g m.term X (max nd.commit (min m.commit (m.index + m.ents.length))) := by
   rcases Nat.le_total (min m.commit (m.index + m.ents.length)) nd.commit with hl | hl
   ·rw [Nat.max_eq_left hl, hT]; exact h.com
   ·rw [Nat.max_eq_right hl]
    exact (e2.mono nL (Nat.min_le_left _ _)).same (hsk.mono (Nat.min_le_right _ _))
  obtain ⟨g', w1, w2, w3, w4⟩ := h.relog hg hr2 hr3 hT.symm a h.coh hsk (Nat.le_trans h.le1 (Nat.le_max_left _ _)) (by have := h.le2; have := hsk.1; omega) h.ents h.bterm h.mem (by rw [hT]; exact h.last) hcm (fun i hi => hi) (.inl rfl)
  exact ⟨g', X, w1, w2, by rw [if_pos rfl], by rw [if_pos rfl]; exact w3, w4⟩
 ·have hklt : k < m.ents.length := by omega
  obtain ⟨Y, hY⟩ : ∃ Y, Y = (g.LL m.term).take (m.index + m.ents.length) := ⟨_, rfl⟩
  have hYe : X.take (m.index + k) ++ m.ents.drop k = Y := by
   rw [hY, hsk.2.2]
   have := take_drop_drop (l := g.LL m.term) (p := m.index) (k := k) (n := m.ents.length) hk
   rw [← d] at this
   exact this
  obtain ⟨y1, y2, y3⟩ := hg.cohTake a b
  rw [← hY] at y1 y2 y3
  have hXY : SameTo Y X (m.index + k) := (y2.mono (by omega)).trans hsk.symm
  have hxk : ∀ i, SameTo X (g.LL m.term) i → SameTo Y (g.LL m.term) i := fun i hi => by
   have : i ≤ m.index + k := Classical.byContradiction fun hn => by
    have h1 := hi.1
    exact hstop hklt (by omega) (hi.term (by omega))
   exact y2.mono (by omega)
  have hcm : Com g m.term Y (max nd.commit (min m.commit (m.index + m.ents.length))) := by
   rcases Nat.le_total (min m.commit (m.index + m.ents.length)) nd.commit with hl | hl
   ·rw [Nat.max_eq_left hl, hT]; exact h.com.same (hXY.mono (by omega))
   ·rw [Nat.max_eq_right hl]
    exact (e2.mono nL (Nat.min_le_left _ _)).same (y2.mono (Nat.min_le_right _ _))
  obtain ⟨g', w1, w2, w3, w4⟩ := h.relog (Y := Y) (n := m.index + m.ents.length) (base := nd.base) (bterm := nd.bterm) (mem := nd.mem) (ents := nd.ents.take (m.index + k - nd.base) ++ m.ents.drop k) (commit := max nd.commit (min m.commit (m.index + m.ents.length)))
   hg hr2 hr3 hT.symm a y1 y2 (Nat.le_trans h.le1 (Nat.le_max_left _ _)) (by omega)
   (by
     rw [← hYe, List.drop_append_of_le_length (by have := hsk.1; simp; omega), List.drop_take, h.ents])
   (by rw [hXY.term (by omega)]; exact h.bterm) (by rw [hXY.conf (by omega)]; exact h.mem)
   (by
     unfold lastTX
     rw [y3, y2.term nL]
     exact hg.tmle a _)
   hcm hxk (.inr fun i hi _ => (hxk i hi).trans hi.symm)
  exact ⟨g', Y, w1, w2, by rw [if_neg hall]; exact hYe.symm, by rw [if_neg hall]; exact w3, w4⟩
theorem NI.ackc (hg : GI tm cf C0 g) (h : NI tm cf C0 g v nd X) (hr2 : nd.role ≠ 2) (hr3 : nd.role ≠ 3) (he : g.el nd.term ≠ none) :
  ∃ g', Grow v g g' ∧ GI tm cf C0 g' ∧ NI tm cf C0 g' v nd X ∧ g'.A v nd.term nd.commit := by
 have hs := com_lead hg h.com nL he
 exact h.relog hg hr2 hr3 rfl he h.coh hs h.le1 h.le2 h.ents h.bterm h.mem h.last h.com (fun i hi => hi) (.inl rfl)
theorem NI.install (hg : GI tm cf C0 g) (h : NI tm cf C0 g v nd X) (hr2 : nd.role ≠ 2) (hr3 : nd.role ≠ 3) {m : Ms ε} (hm : MI tm cf C0 g m) (hk6 : m.kind = 6) (hT : m.term = nd.term) (hi : nd.commit < m.index) :
  ∃ g' Y, Grow v g g' ∧ GI tm cf C0 g' ∧ g'.A v m.term m.index ∧
   NI tm cf C0 g' v { nd with base := m.index, bterm := m.logTerm, ents := if m.index ≤ X.length ∧ tmAt tm X m.index = m.logTerm then nd.ents.drop (m.index - nd.base) else [], mem := m.mem, commit := m.index } Y := by
 obtain ⟨a, b, c, d, e⟩ := hm.inst hk6
 have hcoT := hg.coh _ a
 have hb : nd.base ≤ m.index := Nat.le_trans h.le1 (Nat.le_of_lt hi)
 by_cases hx : m.index ≤ X.length ∧ tmAt tm X m.index = m.logTerm
 ·have hs := coh_same h.coh hcoT hx.1 b (hx.2.trans c.symm)
  obtain ⟨g', w1, w2, w3, w4⟩ := h.relog hg hr2 hr3 hT.symm a h.coh hs nL hx.1 rfl hx.2 (hs.conf (C0 := C0) (cf := cf) nL) (by rw [hT]; exact h.last) (e.same hs) (fun i hi => hi) (.inl rfl)
  refine ⟨g', X, w1, w2, w4, ?_⟩
  rw [if_pos hx, ← h.ents, List.drop_drop, show nd.base + (m.index - nd.base) = m.index by omega, d]
  exact w3
 ·obtain ⟨y1, y2, y3⟩ := hg.cohTake a b
  have hxk : ∀ i, SameTo X (g.LL m.term) i → SameTo ((g.LL m.term).take m.index) (g.LL m.term) i := fun i hi' => by
   have : i ≤ m.index := Classical.byContradiction fun hn => by
    have h1 := hi'.1
    exact hx ⟨by omega, (hi'.term (by omega)).trans c⟩
   exact y2.mono this
  obtain ⟨g', w1, w2, w3, w4⟩ := h.relog (Y := (g.LL m.term).take m.index) (n := m.index) (base := m.index) (bterm := m.logTerm) (mem := m.mem) (ents := []) (commit := m.index) hg hr2 hr3 hT.symm a y1 y2 nL (by omega)
   (List.drop_of_length_le (by omega)) ((y2.term nL).trans c) ((y2.conf nL).trans d.symm)
   (by unfold lastTX; rw [y3, y2.term nL]; exact hg.tmle a _) (e.same y2) hxk (.inr fun i hi _ => (hxk i hi).trans hi.symm)
  refine ⟨g', (g.LL m.term).take m.index, w1, w2, w4, ?_⟩
  rw [if_neg hx]
  exact w3
theorem NI.told (h : NI tm cf C0 g v nd X) (tr : List (Int × Nat)) (ht : nd.role = 3 → ∀ x k, (x, k) ∈ tr → k = 0 ∨ (x, k) ∈ nd.trk ∨ g.A x nd.term k) : NI tm cf C0 g v { nd with trk := tr } X where
 pos := h.pos
 coh := h.coh
 le1 := h.le1
 le2 := h.le2
 ents := h.ents
 bterm := h.bterm
 mem := h.mem
 last := h.last
 com := h.com
 vote := h.vote
 votes := h.votes
 stood := h.stood
 led := h.led
 acks := h.acks
 cand := h.cand
 lead hr := by
  obtain ⟨a, b, c, d⟩ := h.lead hr
  exact ⟨a, b, c, fun x k hk => by
    rcases ht hr x k hk with h | h | h
    · exact .inl h
    · exact d x k h
    · exact .inr h⟩
theorem NI.agree (hg : GI tm cf C0 g) (h : NI tm cf C0 g v nd X) (hr : nd.role = 3) {i : Nat} (hi : nd.commit < i) (hx : i ≤ X.length) (ht : tmAt tm X i = nd.term) {Q : List Int} (hQ : Maj (confOf cf C0 X) Q) (hA : ∀ x ∈ Q, g.A x nd.term i) :
  ∃ g', Grow v g g' ∧ GI tm cf C0 g' ∧ NI tm cf C0 g' v { nd with commit := i } X := by
 obtain ⟨a, b, c, d⟩ := h.lead hr
 have hel : g.el nd.term ≠ none := by rw [a]; simp
 have he0 : g.e0 nd.term < i := Classical.byContradiction fun hn => by
  have := hg.old _ hel i (by omega)
  rw [← b] at this
  omega
 have hQ' : Maj (confTo cf C0 (g.LL nd.term) X.length) Q := by rw [← b]; exact hQ
 have hg' := com_ok hg hel he0 hx (by rw [← b]; exact Nat.le_refl _) hQ' hA
 have gr : Grow v g (g.comG nd.term i X.length) := com_grow
 refine ⟨_, gr, hg', ?_⟩
 exact
 { pos := h.pos, coh := gr.coh h.coh, le1 := by have := h.le1; simp only; omega, le2 := hx, ents := h.ents, bterm := h.bterm, mem := h.mem, last := h.last
   com := .inr ⟨nd.term, i, X.length, .inr ⟨rfl, rfl, rfl⟩, Nat.le_refl _, Nat.le_refl _, by
     show SameTo X (g.LL nd.term) i
     rw [← b]
     exact SameTo.refl hx⟩
   vote := h.vote, votes := h.votes, stood := h.stood, led := h.led, acks := h.acks, cand := h.cand, lead := h.lead }
theorem NI.compact (h : NI tm cf C0 g v nd X) {i : Nat} (h1 : nd.base ≤ i) (h2 : i ≤ nd.commit) : NI tm cf C0 g v { nd with base := i, bterm := tmAt tm X i, ents := nd.ents.drop (i - nd.base), mem := confTo cf C0 X i } X where
 pos := h.pos
 coh := h.coh
 le1 := h2
 le2 := h.le2
 ents := by
  simp only
  rw [← h.ents, List.drop_drop, show nd.base + (i - nd.base) = i by omega]
 bterm := rfl
 mem := rfl
 last := h.last
 com := h.com
 vote := h.vote
 votes := h.votes
 stood := h.stood
 led := h.led
 acks := h.acks
 cand := h.cand
 lead := h.lead
theorem NI.anew (h : NI tm cf C0 g v nd X) : NI tm cf C0 g v { nd with role := 0, poll := none, trk := [], commit := nd.base } X where
 pos := h.pos
 coh := h.coh
 le1 := Nat.le_refl _
 le2 := Nat.le_trans h.le1 h.le2
 ents := h.ents
 bterm := h.bterm
 mem := h.mem
 last := h.last
 com := h.com.mono nL h.le1
 vote := h.vote
 votes := h.votes
 stood := h.stood
 led := h.led
 acks := h.acks
 cand e := by simp at e
 lead e := by simp at e
theorem MI.plain {m : Ms ε} (h2 : m.kind ≠ 2) (h4 : m.kind ≠ 4) (h6 : m.kind ≠ 6) (h3 : m.kind = 3 → m.yes = true → g.vt m.from_ m.term m.to_) (h5 : m.kind = 5 ∨ m.kind = 7 → m.yes = true → g.A m.from_ m.term m.index) : MI tm cf C0 g m :=
 ⟨fun e => absurd e h2, h3, fun e => absurd e h4, h5, fun e => absurd e h6⟩
theorem MI.ask_ {m : Ms ε} (hk : m.kind = 2) {L : List ε} (h1 : g.cd m.from_ m.term = some L) (h2 : L.length = m.index) (h3 : lastTX tm L = m.logTerm) : MI tm cf C0 g m :=
 ⟨fun _ => ⟨L, h1, h2, h3⟩, fun e => by omega, fun e => by omega, fun e => by omega, fun e => by omega⟩
theorem NI.sends (h : NI tm cf C0 g v nd X) (hr : nd.role = 3) {m : Ms ε} (hk : m.kind = 4) (ht : m.term = nd.term) (hi : m.index ≤ X.length) (hl : tmAt tm X m.index = m.logTerm) (hc : m.commit = nd.commit) (hb : nd.base ≤ m.index) {n : Nat} (he : m.ents = (nd.ents.drop (m.index - nd.base)).take n) : MI tm cf C0 g m := by
 obtain ⟨a, b, _, _⟩ := h.lead hr
 have hd : nd.ents.drop (m.index - nd.base) = X.drop m.index := by rw [← h.ents, List.drop_drop, show nd.base + (m.index - nd.base) = m.index by omega]
 have hlen : m.ents.length ≤ X.length - m.index := by rw [he, hd]; simp; omega
 refine ⟨fun e => by omega, fun e => by omega, fun _ => ?_, fun e => by omega, fun e => by omega⟩
 rw [ht, ← b, hc]
 refine ⟨by rw [a]; simp, by omega, hl, ?_, h.le2, h.com⟩
 rw [he, hd, List.length_take, ← List.take_take]
 simp [List.take_take]
theorem NI.sendi (h : NI tm cf C0 g v nd X) (hr : nd.role = 3) {m : Ms ε} (hk : m.kind = 6) (ht : m.term = nd.term) (hi : m.index = nd.base) (hl : m.logTerm = nd.bterm) (hm : m.mem = nd.mem) : MI tm cf C0 g m := by
 obtain ⟨a, b, _, _⟩ := h.lead hr
 refine ⟨fun e => by omega, fun e => by omega, fun e => by omega, fun e => by omega, fun _ => ?_⟩
 rw [ht, ← b, hi, hl, hm]
 exact ⟨by rw [a]; simp, Nat.le_trans h.le1 h.le2, h.bterm, h.mem.symm, h.com.mono nL h.le1⟩
end
end
section
open Go.RowKit Go.Maps Go.ChangeMaps
def im (M : Nat → Prop) (v : Value) : Prop := ∀ k, v.ownBlock = some k → ¬ M k
structure Mv (w : World) (M : Nat → Prop) (w' : World) (M' : Nat → Prop) : Prop where
 keeps : Keeps M w w'
 new : ∀ k, M' k → M k ∨ w.heap.size ≤ k
theorem Mv.trans {w w1 w2 : World} {M M1 M2 : Nat → Prop} (h : Mv w M w1 M1) (k : Mv w1 M1 w2 M2) : Mv w M w2 M2 := by
 refine ⟨⟨k.keeps.os.trans h.keeps.os, k.keeps.tape.trans h.keeps.tape, k.keeps.output.trans h.keeps.output, Nat.le_trans h.keeps.size k.keeps.size, fun i hi hn => ?_⟩, fun i hi => ?_⟩
 ·exact (k.keeps.block i (Nat.lt_of_lt_of_le hi h.keeps.size) fun e => (h.new i e).elim hn fun e => by omega).trans (h.keeps.block i hi hn)
 ·rcases k.new i hi with hi | hi
  ·exact h.new i hi
  ·right; have := h.keeps.size; omega
theorem Mv.below {w w' : World} (M : Nat → Prop) (h : Below w.heap.size w w') : Mv w M w' M := ⟨Keeps.of_belowS h, fun _ h => .inl h⟩
theorem Mv.keep {w w' : World} {M T : Nat → Prop} (h : Keeps T w w') (hT : ∀ k, T k → M k) : Mv w M w' M := ⟨h.mono fun k _ hk => hT k hk, fun _ h => .inl h⟩
section
variable {w w' : World} {M M' : Nat → Prop} (hm : Mv w M w' M')
include hm
theorem Mv.sl {α : Type} {enc : α → Value} {v : Value} {l : List α} (h : Sl enc w v l) (hi : im M v) : Sl enc w' v l := h.kept hm.keeps hi
theorem Mv.im {v : Value} (hi : im M v) (hl : ∀ k, v.ownBlock = some k → k < w.heap.size) : im M' v := fun k hk e => (hm.new k e).elim (hi k hk) fun e => by have := hl k hk; omega
end
structure En where
 tm : Nat
 cf : Bool
 d : List UInt8
deriving DecidableEq
def Ent.en (e : Ent) : En := ⟨e.tm.toNat, e.cf, e.d⟩
def cfE (e : En) : Option (List Int) := if e.cf then membersOf e.d else none
theorem memFrom_nodup : ∀ {l : List Int} {a : Int}, memFrom a l = true → l.Nodup
 | [], _, _ => List.nodup_nil
 | b :: l, a, h => by
  rw [memFrom] at h
  simp only [Bool.and_eq_true, decide_eq_true_eq] at h
  refine List.nodup_cons.2 ⟨fun hb => ?_, memFrom_nodup h.2⟩
  have := memFrom_all h.2 b hb
  omega
theorem membersB_nodup {l : List Int} (h : mB l = true) : l.Nodup := by
 unfold mB at h
 simp only [Bool.and_eq_true] at h
 exact memFrom_nodup h.2
theorem cfE_members {e : En} {K : List Int} (h : cfE e = some K) : mB K = true := by
 unfold cfE at h
 split at h
 ·exact (membersOf_some h).1
 ·cases h
theorem cfE_nodup (e : En) (K : List Int) (h : cfE e = some K) : K.Nodup := membersB_nodup (cfE_members h)
def RowE (w : World) (M : Nat → Prop) (v : Value) (es : List Ent) : Prop :=
 im M v ∧ (∀ e ∈ es, Sl u8v w e.v e.d ∧ im M e.v) ∧
  ∃ a cap, v = .slice a es.length cap ∧ es.length ≤ cap ∧ cap ≤ maxLen ∧ ((a = none ∧ cap = 0) ∨ ∃ b o, a = some ⟨b, o, none⟩ ∧ b < w.heap.size ∧ ∀ i u, (entCells es)[i]? = some u → w.cell? ⟨b, o + i, none⟩ = some u)
theorem RowE.row_lt {w : World} {M : Nat → Prop} {v : Value} {es : List Ent} (h : RowE w M v es) : ∀ k, v.ownBlock = some k → k < w.heap.size := by
 obtain ⟨_, _, a, cap, rfl, _, _, h | ⟨b, o, rfl, hb, _⟩⟩ := h
 ·intro k hk; simp [h.1, Value.ownBlock] at hk
 ·intro k hk; simp [Value.ownBlock] at hk; omega
theorem RowE.mv {w w' : World} {M M' : Nat → Prop} {v : Value} {es : List Ent} (h : RowE w M v es) (hm : Mv w M w' M') : RowE w' M' v es := by
 have hl := h.row_lt
 obtain ⟨h1, h2, a, cap, rfl, h3, h4, h5⟩ := h
 refine ⟨hm.im h1 hl, fun e he => ⟨hm.sl (h2 e he).1 (h2 e he).2, hm.im (h2 e he).2 (h2 e he).1.row_lt⟩, a, cap, rfl, h3, h4, ?_⟩
 rcases h5 with h5 | ⟨b, o, rfl, hb, hc⟩
 ·exact .inl h5
 ·refine .inr ⟨b, o, rfl, Nat.lt_of_lt_of_le hb hm.keeps.size, fun i u hi => ?_⟩
  rw [World.cell?_of_block (hm.keeps.block b hb (h1 b rfl))]
  exact hc i u hi
theorem RowE.nil (w : World) (M : Nat → Prop) : RowE w M (.slice none 0 0) [] := ⟨fun k hk => by simp [Value.ownBlock] at hk, (fun e he => by cases he), none, 0, rfl, by simp, by unfold maxLen; omega, .inl ⟨rfl, rfl⟩⟩
def keyN (c : Int) : Value := .int .i64 c
def votV (b : Bool) : Value := .bool b
def marV (x : Int × Int) : Value := .agg #[.int .u64 x.1, .int .u64 x.2]
theorem keyN_inj : ∀ a b : Int, keyN a = keyN b → a = b := by intro a b h; simpa [keyN] using h
theorem nkeyed : Keyed Tryz.prog 3 := int_keyed Tryz.underlying3
theorem nkey {c : Int} (h : (Lit.int .i64 c).wf = true) : keyOf Tryz.prog 3 (keyN c) = some (.int .i64 c) := keyOf_int_mk Tryz.underlying3 h
theorem vzero (w : World) : (zeroValue 4).run Tryz.prog w = .ok (.bool false) w := by kernel_rfl
theorem mzero (w : World) : (zeroValue 137).run Tryz.prog w = .ok (.agg #[.int .u64 0, .int .u64 0]) w := by kernel_rfl
theorem id_wf {c : Int} (h1 : 1 ≤ c) (h7 : c ≤ 7) : (Lit.int .i64 c).wf = true := by
 simp [Lit.wf, IntKind.min, IntKind.max, IntKind.signed, IntKind.bits]; omega
abbrev NMap {β : Type} (φ : β → Value) (w : World) (m : Nat) (l : List (Int × β)) : Prop := MapOf Tryz.prog 3 keyN φ w m l
def BalP (w : World) (M S : Nat → Prop) (v : Value) : Option (List Int × List (Int × Bool)) → Prop
 | none => v = .pointer none
 | some (mem, l) => ∃ b m a cap, v = .pointer (some ⟨b, 0, none⟩) ∧ w.heap[b]? = some (.cells #[.slice a mem.length cap, .map (some m)] 130 (0, 0)) ∧ Sl intv w (.slice a mem.length cap) mem ∧ im M (.slice a mem.length cap) ∧ NMap votV w m l ∧ S b ∧ S m ∧ mB mem = true ∧ ∀ x ∈ keys l, x ∈ mem
theorem BalP.mv {w w' : World} {M M' S T : Nat → Prop} {v : Value} {o : Option (List Int × List (Int × Bool))} (h : BalP w M S v o) (hm : Mv w M w' M') (hk : Keeps T w w') (hS : ∀ k, S k → ¬ T k) : BalP w' M' S v o := by
 cases o with
 | none => exact h
 | some x =>
  obtain ⟨mem, l⟩ := x
  obtain ⟨b, m, a, cap, h1, h2, h3, h4, h5, h6, h7, h8⟩ := h
  exact ⟨b, m, a, cap, h1, hk.heap (hS b h6) h2, hm.sl h3 h4, hm.im h4 h3.row_lt, h5.kept hk (hS m h7), h6, h7, h8⟩
def TrkP (w : World) (S : Nat → Prop) (v : Value) : Option (List (Int × (Int × Int))) → Prop
 | none => v = .pointer none
 | some l => ∃ b m, v = .pointer (some ⟨b, 0, none⟩) ∧ w.heap[b]? = some (.cells #[.map (some m)] 140 (0, 0)) ∧ NMap marV w m l ∧ S b ∧ S m ∧ ∀ x ∈ l, (1 ≤ x.1 ∧ x.1 ≤ 7) ∧ (0 ≤ x.2.1 ∧ x.2.1 ≤ 18446744073709551615) ∧ 0 ≤ x.2.2 ∧ x.2.2 ≤ 18446744073709551615
theorem TrkP.kept {w w' : World} {S T : Nat → Prop} {v : Value} {o : Option (List (Int × (Int × Int)))} (h : TrkP w S v o) (hk : Keeps T w w') (hS : ∀ k, S k → ¬ T k) : TrkP w' S v o := by
 cases o with
 | none => exact h
 | some l =>
  obtain ⟨b, m, h1, h2, h3, h4, h5, h6⟩ := h
  exact ⟨b, m, h1, hk.heap (hS b h4) h2, h3.kept hk (hS m h5), h4, h5, h6⟩
end
section
open Go.RowKit
def stepCnt (a b : List Int) (k : Nat) : Nat := ((List.range k).filter fun n : Nat => decide ((n : Int) ∈ a) != decide ((n : Int) ∈ b)).length
def stepB (a b : List Int) : Bool := mB a && mB b && decide (stepCnt a b 8 = 1)
theorem stepCnt_succ (a b : List Int) (k : Nat) : stepCnt a b (k + 1) = stepCnt a b k + if (decide ((k : Int) ∈ a) != decide ((k : Int) ∈ b)) = true then 1 else 0 := by
 unfold stepCnt
 rw [List.range_succ, List.filter_append, List.length_append]
 congr 1
 by_cases h : (decide ((k : Int) ∈ a) != decide ((k : Int) ∈ b)) = true
 ·rw [if_pos h, List.filter_cons, if_pos h]; rfl
 ·rw [if_neg h, List.filter_cons, if_neg h]; rfl
theorem stepCnt_le (a b : List Int) (k : Nat) : stepCnt a b k ≤ k := by
 have := List.length_filter_le (fun n : Nat => decide ((n : Int) ∈ a) != decide ((n : Int) ∈ b)) (List.range k)
 rw [List.length_range] at this
 exact this
section
variable (w : World) (a : Option Addr) (n cap : Nat) (l : List Int) (h : Sl intv w (.slice a n cap) l) (b : Option Addr) (m dap : Nat) (r : List Int) (g : Sl intv w (.slice b m dap) r)
include h g
theorem step_any : Calls Tryz.prog 50 #[.slice a n cap, .slice b m dap] w (RetB (.bool (stepB l r)) w) := by
 have hlt := h.row_lt
 have glt := g.row_lt
 have H := hI (fun (W : World) (hW : Below w.heap.size w W) => h.below hW hlt)
 have G := hI (fun (W : World) (hW : Below w.heap.size w W) => g.below hW glt)
 have hr := right_any w a n cap l h
 unfold stepB
 clear h g hlt glt
 cases hm : mB l
 ·rw [hm] at hr
  clear hm
  go_enter Tryz.func50, Tryz.ntmps50
  go_wp2_with fail
  refine hr.mono ?_
  rintro e w1 ⟨rfl, hb1⟩
  go_wp2_with fail
  go_ret
  exact RetB.mk rfl hb1
 ·rw [hm] at hr
  clear hm
  cases hm2 : mB r
  ·go_enter Tryz.func50, Tryz.ntmps50
   go_wp2_with fail
   refine hr.mono ?_
   rintro e w1 ⟨rfl, hb1⟩
   have hr2 := right_any w1 b m dap r (G.out _ hb1)
   rw [hm2] at hr2
   clear hr hm2
   go_wp2_with fail
   refine hr2.mono ?_
   rintro e w2 ⟨rfl, hb2⟩
   go_wp2_with fail
   go_ret
   exact RetB.mk rfl (hb1.trans (hb2.mono hb1.size))
  ·go_enter Tryz.func50, Tryz.ntmps50
   go_wp2_with fail
   refine hr.mono ?_
   rintro e w1 ⟨rfl, hb1⟩
   have hr2 := right_any w1 b m dap r (G.out _ hb1)
   rw [hm2] at hr2
   clear hr hm2
   go_wp2_with fail
   refine hr2.mono ?_
   rintro e w2 ⟨rfl, hb2⟩
   have hb := hb1.trans (hb2.mono hb1.size)
   clear hb1 hb2 hr2
   have hha := fun x => has_any w2 a n cap l (H.out _ hb) x
   have hhb := fun x => has_any w2 b m dap r (G.out _ hb) x
   have HB := hI hb
   clear hb
   go_wp2_with fail
   go_loop [5, 15] (fun u i => ∃ k : Nat, k ≤ 8 ∧ i = .int .i64 k ∧ u = .int .i64 (stepCnt l r k)) (fun _ i => 8 - (intOf i).toNat)
   case atStart => exact ⟨0, by omega, rfl, rfl⟩
   case round =>
    obtain ⟨k, hk, rfl, rfl⟩ := hrel
    have hle := stepCnt_le l r k
    have HSU := hI (stepCnt_succ l r k)
    by_cases hlk : k < 8
    ·have hpa := hha k
     have hpb := hhb k
     generalize stepCnt l r k = c at *
     generalize decide ((k : Int) ∈ l) = p at *
     generalize decide ((k : Int) ∈ r) = q at *
     cases p <;> cases q
     all_goals
      clear hha hhb
      go_wp2_with fail
      refine hpa.mono ?_
      rintro e w' ⟨rfl, rfl⟩
      go_wp2_with fail
      refine hpb.mono ?_
      rintro e w' ⟨rfl, rfl⟩
      go_wp2_with fail
      go_round
      case rel => exact ⟨k + 1, by omega, by go_num, by rw [HSU.out]; simp⟩
      case measure => simp [intOf]; omega
    ·obtain rfl : k = 8 := by omega
     clear hha hhb
     go_wp2_with fail
     go_ret
     refine RetB.mk (bool_eq ?_) HB.out
     rw [Bool.eq_iff_iff, beq_iff_eq]
     simp only [decide_eq_true_eq]
     omega
end
end
section
open Go.RowKit Go.Sort
theorem cnt_near {a b : List Int} (ha : ∀ x ∈ a, 1 ≤ x ∧ x ≤ 7) (hb : ∀ x ∈ b, 1 ≤ x ∧ x ≤ 7) (h : stepCnt a b 8 = 1) : Near a b := by
 unfold stepCnt at h
 obtain ⟨n, hn⟩ := List.length_eq_one_iff.1 h
 have hmem : ∀ y : Nat, y < 8 → ((decide ((y : Int) ∈ a) != decide ((y : Int) ∈ b)) = true ↔ y = n) := fun y hy => by
  have : y ∈ (List.range 8).filter (fun n : Nat => decide ((n : Int) ∈ a) != decide ((n : Int) ∈ b)) ↔ y ∈ [n] := by rw [hn]
  rw [List.mem_filter, List.mem_range, List.mem_singleton] at this
  exact ⟨fun e => this.1 ⟨hy, e⟩, fun e => (this.2 e).2⟩
 have hn8 : n < 8 := by
  have : n ∈ (List.range 8).filter (fun n : Nat => decide ((n : Int) ∈ a) != decide ((n : Int) ∈ b)) := by rw [hn]; simp
  exact List.mem_range.1 (List.mem_filter.1 this).1
 have other : ∀ y : Int, y ≠ n → (y ∈ a ↔ y ∈ b) := fun y hy => by
  by_cases hr : 0 ≤ y ∧ y < 8
  ·obtain ⟨k, rfl⟩ : ∃ k : Nat, y = k := ⟨y.toNat, by omega⟩
   have hk := hmem k (by omega)
   have hkn : k ≠ n := fun e => hy (by rw [e])
   by_cases h1 : (k : Int) ∈ a <;> by_cases h2 : (k : Int) ∈ b <;> simp [h1, h2, hkn] at hk ⊢
  ·exact ⟨fun e => by have := ha y e; omega, fun e => by have := hb y e; omega⟩
 have hself := (hmem n hn8).2 rfl
 by_cases h1 : (n : Int) ∈ a
 ·have h2 : (n : Int) ∉ b := fun h2 => by simp [h1, h2] at hself
  exact .inr (.inr ⟨n, fun y => by
    by_cases e : y = n
    · subst e; simp [h1]
    · simp [e, other y e]⟩)
 ·have h2 : (n : Int) ∈ b := Classical.byContradiction fun h2 => by simp [h1, h2] at hself
  exact .inr (.inl ⟨n, fun y => by
    by_cases e : y = n
    · subst e; simp [h2]
    · simp [e, other y e]⟩)
theorem step_near {a b : List Int} (h : stepB a b = true) : Near a b ∧ mB b = true := by
 unfold stepB at h
 simp only [Bool.and_eq_true, decide_eq_true_eq] at h
 exact ⟨cnt_near (mL h.1.1).2.2 (mL h.1.2).2.2 h.2, h.1.2⟩
theorem agreed_law (l : List Int) (f : Int → Int) (h : 1 ≤ l.length) :
  ((l.map f).any fun x => x == agreedF l f) = true ∧ l.length / 2 + 1 ≤ (l.map f).countP (fun x => decide (agreedF l f ≤ x)) ∧ (l.map f).countP (fun x => decide (agreedF l f < x)) < l.length / 2 + 1 := by
 have hp := sortA_perm (l.map f)
 have hsz := sortA_size (l.map f)
 have hso := sortA_sorted (l.map f)
 unfold agreedF
 rw [List.length_map] at hsz hso
 generalize sortA (l.map f) = S at *
 have hl : S.toList.length = l.length := by simpa using hsz
 have hq : l.length - (l.length / 2 + 1) < l.length := by omega
 have hget : ∀ i (hi : i < S.toList.length), S.toList[i] = S[i]! := fun i hi => by rw [getElem!_pos S i (by simpa using hi)]; simp
 generalize hr : l.length - (l.length / 2 + 1) = r at *
 have hg : S[r]! = S.toList[r]'(by omega) := (hget r (by omega)).symm
 refine ⟨?_, ?_, ?_⟩
 ·rw [List.any_eq_true]
  refine ⟨S[r]!, (hp.mem_iff).1 ?_, by simp⟩
  rw [hg]
  exact List.getElem_mem _
 ·rw [← hp.countP_eq]
  have : S.toList.countP (fun x => decide (S[r]! ≤ x)) ≥ (S.toList.drop r).countP (fun x => decide (S[r]! ≤ x)) := (List.drop_sublist r _).countP_le
  have h2 : (S.toList.drop r).countP (fun x => decide (S[r]! ≤ x)) = (S.toList.drop r).length := by
   rw [List.countP_eq_length]
   intro x hx
   obtain ⟨i, hi, rfl⟩ := List.getElem_of_mem hx
   rw [List.getElem_drop, hget]
   rw [List.length_drop] at hi
   rcases Nat.eq_zero_or_pos i with rfl | h0
   ·simp
   ·have := hso r (r + i) (by omega) (by omega)
    simpa using this
  rw [h2, List.length_drop] at this
  omega
 ·rw [← hp.countP_eq]
  have h1 : S.toList.countP (fun x => decide (S[r]! < x)) = (S.toList.take (r + 1)).countP (fun x => decide (S[r]! < x)) + (S.toList.drop (r + 1)).countP (fun x => decide (S[r]! < x)) := by
   rw [← List.countP_append, List.take_append_drop]
  have h2 : (S.toList.take (r + 1)).countP (fun x => decide (S[r]! < x)) = 0 := by
   rw [List.countP_eq_zero]
   intro x hx
   obtain ⟨i, hi, rfl⟩ := List.getElem_of_mem hx
   rw [List.getElem_take, hget]
   rw [List.length_take] at hi
   rcases Nat.lt_or_ge i r with h0 | h0
   ·have := hso i r h0 (by omega)
    simp; omega
   ·obtain rfl : i = r := by omega
    simp
  have h3 := List.countP_le_length (p := fun x => decide (S[r]! < x)) (l := S.toList.drop (r + 1))
  rw [List.length_drop] at h3
  omega
theorem agreed_maj {l : List Int} (hn : l.Nodup) (f : Int → Int) (h : 1 ≤ l.length) : Maj l (l.filter fun x => decide (agreedF l f ≤ f x)) := by
 refine ⟨hn.filter _, fun v hv => (List.mem_filter.1 hv).1, ?_⟩
 have := (agreed_law l f h).2.1
 rw [List.countP_map, List.countP_eq_length_filter] at this
 have e : (l.filter ((fun x => decide (agreedF l f ≤ x)) ∘ f)) = l.filter fun x => decide (agreedF l f ≤ f x) := rfl
 rw [e] at this
 omega
end
end Go.Proofs.YtdjooojpcepleaaGreat

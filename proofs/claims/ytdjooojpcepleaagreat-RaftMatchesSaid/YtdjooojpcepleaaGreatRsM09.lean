/- Agreement, plainly: a node, a message: what holds of each, whatever another node does. Agreement, plainly: what a node does: it follows, stands, votes, counts, is elected. -/
import Derived.Test.YtdjooojpcepleaaGreatRsM08

namespace Go.Proofs.YtdjooojpcepleaaGreat
section
structure NdS (ε : Type) where
 term : Nat
 vote : Int
 role : Int
 base : Nat
 bterm : Nat
 ents : List ε
 mem : List Int
 commit : Nat
 poll : Option (List Int × List Int)
 trk : List (Int × Nat)
structure Ms (ε : Type) where
 kind : Int
 from_ : Int
 to_ : Int
 term : Nat
 index : Nat
 logTerm : Nat
 commit : Nat
 yes : Bool
 ents : List ε
 mem : List Int
section
variable {ε : Type} (tm : ε → Nat) (cf : ε → Option (List Int)) (C0 : List Int) (g : Gh ε)
def Com (t : Nat) (X : List ε) (k : Nat) : Prop := k = 0 ∨ ∃ s i m, g.Cm s i m ∧ s ≤ t ∧ k ≤ i ∧ g.Has s k X
structure NI (v : Int) (nd : NdS ε) (X : List ε) : Prop where
 pos : 1 ≤ v
 coh : Coh tm g X
 le1 : nd.base ≤ nd.commit
 le2 : nd.commit ≤ X.length
 ents : X.drop nd.base = nd.ents
 bterm : tmAt tm X nd.base = nd.bterm
 mem : confTo cf C0 X nd.base = nd.mem
 last : lastTX tm X ≤ nd.term
 com : Com g nd.term X nd.commit
 vote : nd.vote = 0 ∨ g.vt v nd.term nd.vote
 votes : ∀ t c, g.vt v t c → t ≤ nd.term ∧ c ≠ 0 ∧ (t = nd.term → c = nd.vote)
 stood : ∀ t, g.cd v t ≠ none → t ≤ nd.term
 led : ∀ t, g.el t = some v → t ≤ nd.term
 acks : ∀ s i, g.A v s i → s ≤ nd.term ∧ ((∀ u, s < u → u ≤ nd.term → g.el u ≠ none → g.Has s i (g.L0 u)) → g.Has s i X)
 cand : nd.role = 2 → g.cd v nd.term = some X ∧ g.vt v nd.term v ∧ g.el nd.term ≠ some v ∧ ∀ pm ys, nd.poll = some (pm, ys) → pm = confOf cf C0 X ∧ ys.Nodup ∧ ∀ x ∈ ys, x ∈ pm ∧ g.vt x nd.term v
 lead : nd.role = 3 → g.el nd.term = some v ∧ X = g.LL nd.term ∧ g.A v nd.term X.length ∧ ∀ x k, (x, k) ∈ nd.trk → k = 0 ∨ g.A x nd.term k
structure MI (m : Ms ε) : Prop where
 ask : m.kind = 2 → ∃ L, g.cd m.from_ m.term = some L ∧ L.length = m.index ∧ lastTX tm L = m.logTerm
 vote : m.kind = 3 → m.yes = true → g.vt m.from_ m.term m.to_
 app : m.kind = 4 → g.el m.term ≠ none ∧ m.index + m.ents.length ≤ (g.LL m.term).length ∧ tmAt tm (g.LL m.term) m.index = m.logTerm ∧ m.ents = ((g.LL m.term).drop m.index).take m.ents.length ∧ m.commit ≤ (g.LL m.term).length ∧ Com g m.term (g.LL m.term) m.commit
 tell : m.kind = 5 ∨ m.kind = 7 → m.yes = true → g.A m.from_ m.term m.index
 inst : m.kind = 6 → g.el m.term ≠ none ∧ m.index ≤ (g.LL m.term).length ∧ tmAt tm (g.LL m.term) m.index = m.logTerm ∧ m.mem = confTo cf C0 (g.LL m.term) m.index ∧ Com g m.term (g.LL m.term) m.index
end
section
variable {ε : Type} {tm : ε → Nat} {cf : ε → Option (List Int)} {C0 : List Int} {g g' : Gh ε} {v : Int}
theorem Com.mono {t t' : Nat} {X : List ε} {k j : Nat} (h : Com g t X k) (ht : t ≤ t') (hj : j ≤ k) : Com g t' X j := by
 rcases h with rfl | ⟨s, i, m, h1, h2, h3, h4⟩
 ·exact .inl (by omega)
 ·exact .inr ⟨s, i, m, h1, by omega, by omega, SameTo.mono h4 hj⟩
theorem Com.same {t : Nat} {X Y : List ε} {k : Nat} (h : Com g t X k) (hs : SameTo Y X k) : Com g t Y k := by
 rcases h with rfl | ⟨s, i, m, h1, h2, h3, h4⟩
 ·exact .inl rfl
 ·exact .inr ⟨s, i, m, h1, h2, h3, hs.trans h4⟩
theorem Com.grow (hg : GI tm cf C0 g) (hgr : Grow v g g') {t : Nat} {X : List ε} {k : Nat} (h : Com g t X k) : Com g' t X k := by
 rcases h with rfl | ⟨s, i, m, h1, h2, h3, h4⟩
 ·exact .inl rfl
 ·exact .inr ⟨s, i, m, hgr.Cm s i m h1, h2, h3, hgr.has (hg.cm s i m h1).1 h4⟩
theorem NI.other (hg : GI tm cf C0 g) (hgr : Grow v g g') {x : Int} (hx : x ≠ v) {nd : NdS ε} {X : List ε} (h : NI tm cf C0 g x nd X) : NI tm cf C0 g' x nd X where
 pos := h.pos
 coh := hgr.coh h.coh
 le1 := h.le1
 le2 := h.le2
 ents := h.ents
 bterm := h.bterm
 mem := h.mem
 last := h.last
 com := h.com.grow hg hgr
 vote := h.vote.imp id (hgr.vt _ _ _)
 votes t c e := h.votes t c ((hgr.vtv x t c e).resolve_right hx)
 stood t e := h.stood t ((hgr.cdv x t e).resolve_right hx)
 led t e := h.led t ((hgr.elv t x e).resolve_right hx)
 acks s i e := by
  have e0 := (hgr.Av x s i e).resolve_right hx
  obtain ⟨a, b⟩ := h.acks s i e0
  obtain ⟨q1, q2⟩ := hg.ack x s i e0
  refine ⟨a, fun hu => hgr.has q1 (b fun u h1 h2 h3 => hgr.unhas q1 q2 ?_)⟩
  have := hu u h1 h2 (hgr.elne h3)
  rwa [hgr.l0 hg h3] at this
 cand hr := by
  obtain ⟨a, b, c, d⟩ := h.cand hr
  exact ⟨hgr.cd _ _ _ a, hgr.vt _ _ _ b, fun e => c ((hgr.elv _ _ e).resolve_right hx), fun pm ys hp => ⟨(d pm ys hp).1, (d pm ys hp).2.1, fun y hy => ⟨((d pm ys hp).2.2 y hy).1, hgr.vt _ _ _ ((d pm ys hp).2.2 y hy).2⟩⟩⟩
 lead hr := by
  obtain ⟨a, b, c, d⟩ := h.lead hr
  exact ⟨hgr.el _ _ a, by rw [hgr.LLv _ _ a hx]; exact b, hgr.A _ _ _ c, fun y k hk => (d y k hk).imp id (hgr.A _ _ _)⟩
theorem MI.grow (hg : GI tm cf C0 g) (hgr : Grow v g g') {m : Ms ε} (h : MI tm cf C0 g m) : MI tm cf C0 g' m where
 ask e := by
  obtain ⟨L, a, b, c⟩ := h.ask e
  exact ⟨L, hgr.cd _ _ _ a, b, c⟩
 vote e y := hgr.vt _ _ _ (h.vote e y)
 app e := by
  obtain ⟨a, b, c, d, f, f2⟩ := h.app e
  obtain ⟨Y, hY⟩ := hgr.LL _ a
  have hs := SameTo.app (g.LL m.term) Y (Nat.le_refl _)
  refine ⟨hgr.elne a, by rw [hY, List.length_append]; omega, by rw [hY, ← hs.term (by omega)]; exact c, ?_, by rw [hY, List.length_append]; omega, ?_⟩
  ·rw [hY, List.drop_append_of_le_length (by omega), List.take_append_of_le_length (by simp; omega)]
   exact d
  ·rw [hY]
   exact (f2.grow hg hgr).same (SameTo.app _ _ f).symm
 tell e y := hgr.A _ _ _ (h.tell e y)
 inst e := by
  obtain ⟨a, b, c, d, f⟩ := h.inst e
  obtain ⟨Y, hY⟩ := hgr.LL _ a
  have hs := SameTo.app (g.LL m.term) Y (Nat.le_refl _)
  refine ⟨hgr.elne a, by rw [hY, List.length_append]; omega, by rw [hY, ← hs.term b]; exact c, by rw [hY, ← hs.conf b]; exact d, ?_⟩
  rw [hY]
  exact (f.grow hg hgr).same (SameTo.app _ _ b).symm
theorem coh_same {X Y : List ε} (hX : Coh tm g X) (hY : Coh tm g Y) {k : Nat} (h1 : k ≤ X.length) (h2 : k ≤ Y.length) (ht : tmAt tm X k = tmAt tm Y k) : SameTo X Y k := by
 rcases Nat.eq_zero_or_pos k with rfl | hk
 ·exact ⟨Nat.zero_le _, Nat.zero_le _, by simp⟩
 ·obtain ⟨_, a⟩ := hX.el k hk h1
  obtain ⟨_, b⟩ := hY.el k hk h2
  rw [ht] at a
  exact SameTo.trans a (SameTo.symm b)
theorem com_same (hg : GI tm cf C0 g) {t u : Nat} {X Y : List ε} {k j i : Nat} (h : Com g t X k) (h' : Com g u Y j) (h1 : i ≤ k) (h2 : i ≤ j) : SameTo X Y i := by
 rcases h with rfl | ⟨s, a, m, c1, c2, c3, c4⟩
 ·obtain rfl : i = 0 := by omega
  exact ⟨Nat.zero_le _, Nat.zero_le _, by simp⟩
 rcases h' with rfl | ⟨r, b, n, d1, d2, d3, d4⟩
 ·obtain rfl : i = 0 := by omega
  exact ⟨Nat.zero_le _, Nat.zero_le _, by simp⟩
 have e1 : SameTo X (g.LL s) i := SameTo.mono c4 h1
 have e2 : SameTo Y (g.LL r) i := SameTo.mono d4 h2
 have key : ∀ {s r a m}, g.Cm s a m → i ≤ a → s < r → g.el r ≠ none → SameTo (g.LL s) (g.LL r) i := fun {s r a m} hc ha hsr her => by
  have hh := hg.lc s a m hc r hsr her
  have hl := hg.l0len her
  have : a ≤ g.e0 r := by have := hh.1; omega
  exact (SameTo.mono (SameTo.symm hh) ha).trans ((hg.l0 her).mono (by omega))
 rcases Nat.lt_trichotomy s r with hl | hl | hl
 ·exact (e1.trans (key c1 (by omega) hl (hg.cm _ _ _ d1).1)).trans e2.symm
 ·subst hl
  exact e1.trans e2.symm
 ·exact e1.trans ((key d1 (by omega) hl (hg.cm _ _ _ c1).1).symm.trans e2.symm)
theorem com_lead (hg : GI tm cf C0 g) {t u : Nat} {X : List ε} {k : Nat} (h : Com g t X k) (htu : t ≤ u) (hu : g.el u ≠ none) : SameTo X (g.LL u) k := by
 rcases h with rfl | ⟨s, a, m, c1, c2, c3, c4⟩
 ·exact ⟨Nat.zero_le _, Nat.zero_le _, by simp⟩
 rcases Nat.lt_or_ge s u with hl | hl
 ·have hh := hg.lc s a m c1 u hl hu
  have h1 := hh.1
  rw [hg.l0len hu] at h1
  exact SameTo.trans c4 ((SameTo.mono (SameTo.symm hh) c3).trans ((hg.l0 hu).mono (by omega)))
 ·obtain rfl : s = u := by omega
  exact c4
theorem GI.tmle (hg : GI tm cf C0 g) {t : Nat} (ht : g.el t ≠ none) (k : Nat) : tmAt tm (g.LL t) k ≤ t := by
 rcases Nat.lt_or_ge (g.LL t).length k with h | h
 ·unfold tmAt
  rw [if_neg (by omega), List.getElem?_eq_none (by omega)]
  exact Nat.zero_le _
 ·rcases Nat.lt_or_ge (g.e0 t) k with h1 | h1
  ·rw [hg.own t ht k h1 h]; exact Nat.le_refl _
  ·have := hg.old t ht k h1; omega
theorem Com.own (hg : GI tm cf C0 g) {t : Nat} {X : List ε} {k : Nat} (h : Com g t X k) (hk : tmAt tm X k = t) (h0 : 1 ≤ t) : ∃ i m, g.Cm t i m ∧ k ≤ i := by
 rcases h with rfl | ⟨s, i, m, h1, h2, h3, h4⟩
 ·simp [tmAt] at hk; omega
 ·have h5 := hg.tmle (hg.cm s i m h1).1 k
  rw [← h4.term (Nat.le_refl _), hk] at h5
  obtain rfl : s = t := by omega
  exact ⟨i, m, h1, h3⟩
def Gh.none_ : Gh ε := { LL := fun _ => [], e0 := fun _ => 0, el := fun _ => none, R := fun _ => [], W := fun _ _ => [], vt := fun _ _ _ => False, cd := fun _ _ => none, Cm := fun _ _ _ => False, A := fun _ _ _ => False }
theorem coh_nil : Coh tm g ([] : List ε) := ⟨fun k h1 h2 => by simp at h2; omega, fun j k h1 h2 => by
  simp at h2
  have : j = 0 := by omega
  subst h2 this
  exact Nat.le_refl _⟩
theorem gi_none (_ : ∀ e K, cf e = some K → K.Nodup) (_ : C0.Nodup) : GI tm cf C0 (Gh.none_ : Gh ε) where
 e0le t h := absurd rfl h
 own t h := absurd rfl h
 old t h := absurd rfl h
 coh t h := absurd rfl h
 maj t h := absurd rfl h
 voted t c h := by cases h
 upto t h := absurd rfl h
 wcoh t h := absurd rfl h
 went t h := absurd rfl h
 step t h := absurd rfl h
 nodup t h := absurd rfl h
 once v t c d h := h.elim
 cm s i m h := h.elim
 ack v s i h := h.elim
 adn v s i j h := h.elim
 cdw c t L h := by cases h
 vtw v t c h := h.elim
 elcd t c h := by cases h
 lc s i m h := h.elim
def NdS.start (C0 : List Int) : NdS ε := { term := 0, vote := 0, role := 0, base := 0, bterm := 0, ents := [], mem := C0, commit := 0, poll := none, trk := [] }
theorem ni_none {v : Int} (hv : 1 ≤ v) : NI tm cf C0 (Gh.none_ : Gh ε) v (NdS.start C0) [] where
 pos := hv
 coh := coh_nil
 le1 := Nat.le_refl _
 le2 := Nat.le_refl _
 ents := rfl
 bterm := by simp [tmAt, NdS.start]
 mem := rfl
 last := by simp [lastTX, tmAt]
 com := .inl rfl
 vote := .inl rfl
 votes t c h := h.elim
 stood t h := absurd rfl h
 led t h := by cases h
 acks s i h := h.elim
 cand h := by simp [NdS.start] at h
 lead h := by simp [NdS.start] at h
end
end
section
section
variable {ε : Type} {tm : ε → Nat} {cf : ε → Option (List Int)} {C0 : List Int} {g g' : Gh ε} {v : Int} {nd : NdS ε} {X : List ε}
theorem NI.up (h : NI tm cf C0 g v nd X) {T : Nat} (hT : nd.term < T) (r : Int) (h2 : r ≠ 2) (h3 : r ≠ 3) (p : Option (List Int × List Int)) (tr : List (Int × Nat)) :
  NI tm cf C0 g v { nd with term := T, vote := 0, role := r, poll := p, trk := tr } X where
 pos := h.pos
 coh := h.coh
 le1 := h.le1
 le2 := h.le2
 ents := h.ents
 bterm := h.bterm
 mem := h.mem
 last := Nat.le_trans h.last (Nat.le_of_lt hT)
 com := h.com.mono (Nat.le_of_lt hT) (Nat.le_refl _)
 vote := .inl rfl
 votes t c e := by
  obtain ⟨a, b, _⟩ := h.votes t c e
  exact ⟨Nat.le_trans a (Nat.le_of_lt hT), b, fun e' => by simp only at e'; omega⟩
 stood t e := Nat.le_trans (h.stood t e) (Nat.le_of_lt hT)
 led t e := Nat.le_trans (h.led t e) (Nat.le_of_lt hT)
 acks s i e := by
  obtain ⟨a, b⟩ := h.acks s i e
  exact ⟨Nat.le_trans a (Nat.le_of_lt hT), fun hu => b fun u h1 h2 h3 => hu u h1 (Nat.le_trans h2 (Nat.le_of_lt hT)) h3⟩
 cand e := absurd e h2
 lead e := absurd e h3
theorem NI.calm (h : NI tm cf C0 g v nd X) (r : Int) (h2 : r ≠ 2) (h3 : r ≠ 3) (p : Option (List Int × List Int)) (tr : List (Int × Nat)) : NI tm cf C0 g v { nd with role := r, poll := p, trk := tr } X where
 pos := h.pos
 coh := h.coh
 le1 := h.le1
 le2 := h.le2
 ents := h.ents
 bterm := h.bterm
 mem := h.mem
 last := h.last
 com := h.com
 vote := h.vote
 votes := h.votes
 stood := h.stood
 led := h.led
 acks := h.acks
 cand e := absurd e h2
 lead e := absurd e h3
theorem UpTo.refl (X : List ε) : UpTo tm X X := .inr ⟨rfl, Nat.le_refl _⟩
theorem NI.stand (hg : GI tm cf C0 g) (h : NI tm cf C0 g v nd X) {ys : List Int} (hys : ys = [] ∨ ys = [v] ∧ v ∈ confOf cf C0 X) (tr : List (Int × Nat)) :
  ∃ g', Grow v g g' ∧ GI tm cf C0 g' ∧ NI tm cf C0 g' v { nd with term := nd.term + 1, vote := v, role := 2, poll := some (confOf cf C0 X, ys), trk := tr } X := by
 have hf : g.cd v (nd.term + 1) = none := Classical.byContradiction fun e => by have := h.stood _ e; omega
 have hv : ∀ d, ¬ g.vt v (nd.term + 1) d := fun d e => by have := (h.votes _ _ e).1; omega
 have hg1 := stand_ok (v := v) hg hf h.coh (Nat.lt_succ_of_le h.last)
 have gr1 : Grow v g (g.standG v (nd.term + 1) X) := stand_grow hf
 have hv1 : ∀ d, ¬ (g.standG v (nd.term + 1) X).vt v (nd.term + 1) d := hv
 have hw : ∀ s i, s < nd.term + 1 → g.A v s i → (∀ u, s < u → u ≤ nd.term + 1 → g.el u ≠ none → g.Has s i (g.L0 u)) → g.Has s i X := fun s i _ ha hu => (h.acks s i ha).2 fun u h1 h2 h3 => hu u h1 (by omega) h3
 have hg2 := vote_ok (v := v) (c := v) hg1 hv1 stand_self (UpTo.refl X) (gr1.coh h.coh) hw
 have gr2 : Grow v (g.standG v (nd.term + 1) X) ((g.standG v (nd.term + 1) X).voteG v (nd.term + 1) v X) := vote_grow hv1
 have gr := gr1.trans gr2
 have hself : ((g.standG v (nd.term + 1) X).voteG v (nd.term + 1) v X).vt v (nd.term + 1) v := .inr ⟨rfl, rfl, rfl⟩
 refine ⟨_, gr, hg2, ?_⟩
 exact
 { pos := h.pos, coh := gr.coh h.coh, le1 := h.le1, le2 := h.le2, ents := h.ents, bterm := h.bterm, mem := h.mem
   last := Nat.le_succ_of_le h.last
   com := (h.com.mono (Nat.le_succ _) (Nat.le_refl _)).grow hg gr
   vote := .inr hself
   votes := fun t c e => by
     rcases e with e | ⟨_, rfl, rfl⟩
     · obtain ⟨a, b, _⟩ := h.votes t c e
       exact ⟨Nat.le_succ_of_le a, b, fun e' => by simp only at e'; omega⟩
     · exact ⟨Nat.le_refl _, by have := h.pos; omega, fun _ => rfl⟩
   stood := fun t e => by
     by_cases e1 : g.cd v t = none
     · by_cases e2 : t = nd.term + 1
       · simp only; omega
       · exfalso
         have e' : (if v = v ∧ t = nd.term + 1 then some X else g.cd v t) ≠ none := e
         rw [if_neg (fun e => e2 e.2)] at e'
         exact e' e1
     · exact Nat.le_succ_of_le (h.stood t e1)
   led := fun t e => Nat.le_succ_of_le (h.led t e)
   acks := fun s i e => by
     obtain ⟨a, b⟩ := h.acks s i e
     exact ⟨Nat.le_succ_of_le a, fun hu => b fun u h1 h2 h3 => hu u h1 (Nat.le_succ_of_le h2) h3⟩
   cand := fun _ => by
     refine ⟨stand_self, hself, fun e => ?_, fun pm ys' hp => ?_⟩
     · have := h.led _ e; simp only at this; omega
     · simp only [Option.some.injEq, Prod.mk.injEq] at hp
       obtain ⟨rfl, rfl⟩ := hp
       refine ⟨rfl, ?_, fun x hx => ?_⟩
       · rcases hys with e | ⟨e, _⟩ <;> rw [e] <;> simp
       · rcases hys with e | ⟨e, hm⟩
         · rw [e] at hx; cases hx
         · rw [e] at hx; simp at hx; subst hx; exact ⟨hm, hself⟩
   lead := fun e => by simp at e }
theorem NI.grant (hg : GI tm cf C0 g) (h : NI tm cf C0 g v nd X) {c : Int} (hc0 : c ≠ 0) (hcv : c ≠ v) (hvo : nd.vote = 0 ∨ nd.vote = c) {L : List ε} (hcd : g.cd c nd.term = some L) (hu : UpTo tm L X) (h3 : nd.role ≠ 3) :
  ∃ g', Grow v g g' ∧ GI tm cf C0 g' ∧ NI tm cf C0 g' v { nd with vote := c } X ∧ g'.vt v nd.term c := by
 have hcand : nd.role ≠ 2 := fun e => by
  obtain ⟨_, b, _, _⟩ := h.cand e
  have := (h.votes _ _ b).2.2 rfl
  have := h.pos
  rcases hvo with e | e <;> omega
 by_cases hv : nd.vote = 0
 ·have hf : ∀ d, ¬ g.vt v nd.term d := fun d e => by
   obtain ⟨_, b, c'⟩ := h.votes _ _ e
   exact b ((c' rfl).trans hv)
  have hg' := vote_ok (v := v) (c := c) hg hf hcd hu h.coh fun s i _ ha hu => (h.acks s i ha).2 hu
  have gr : Grow v g (g.voteG v nd.term c X) := vote_grow hf
  have hself : (g.voteG v nd.term c X).vt v nd.term c := .inr ⟨rfl, rfl, rfl⟩
  refine ⟨_, gr, hg', ?_, hself⟩
  exact
  { pos := h.pos, coh := gr.coh h.coh, le1 := h.le1, le2 := h.le2, ents := h.ents, bterm := h.bterm, mem := h.mem, last := h.last, com := h.com
    vote := .inr hself
    votes := fun t d e => by
      rcases e with e | ⟨_, rfl, rfl⟩
      · obtain ⟨a, b, _⟩ := h.votes t d e
        exact ⟨a, b, fun e' => absurd e (e' ▸ hf d)⟩
      · exact ⟨Nat.le_refl _, hc0, fun _ => rfl⟩
    stood := h.stood, led := h.led, acks := h.acks
    cand := fun e => absurd e hcand, lead := fun e => absurd e h3 }
 ·have hvc : nd.vote = c := hvo.resolve_left hv
  refine ⟨g, Grow.refl v g, hg, ?_, hvc ▸ h.vote.resolve_left hv⟩
  rw [← hvc]
  exact h
theorem NI.count (h : NI tm cf C0 g v nd X) {pm ys : List Int} (hp : nd.poll = some (pm, ys)) {x : Int} {zs : List Int} (hz : zs = ys ∨ zs = ys ++ [x] ∧ x ∉ ys ∧ x ∈ pm ∧ (nd.role = 2 → g.vt x nd.term v)) : NI tm cf C0 g v { nd with poll := some (pm, zs) } X where
 pos := h.pos
 coh := h.coh
 le1 := h.le1
 le2 := h.le2
 ents := h.ents
 bterm := h.bterm
 mem := h.mem
 last := h.last
 com := h.com
 vote := h.vote
 votes := h.votes
 stood := h.stood
 led := h.led
 acks := h.acks
 cand e := by
  obtain ⟨a, b, c, d⟩ := h.cand e
  refine ⟨a, b, c, fun pm' ys' hp' => ?_⟩
  simp only [Option.some.injEq, Prod.mk.injEq] at hp'
  obtain ⟨rfl, rfl⟩ := hp'
  obtain ⟨q1, q2, q3⟩ := d _ _ hp
  refine ⟨q1, ?_, fun y hy => ?_⟩
  ·rcases hz with rfl | ⟨rfl, hx, _⟩
   ·exact q2
   ·exact List.nodup_append.2 ⟨q2, by simp, fun a ha b hb hab => by simp at hb; subst hb; subst hab; exact hx ha⟩
  ·rcases hz with rfl | ⟨rfl, hx, hm, hv⟩
   ·exact q3 y hy
   ·rcases List.mem_append.1 hy with hy | hy
    ·exact q3 y hy
    ·simp at hy; subst hy; exact ⟨hm, hv e⟩
 lead e := h.lead e
theorem NI.elect (hg : GI tm cf C0 g) (hcf : ∀ e K, cf e = some K → K.Nodup) (h0 : C0.Nodup) (h : NI tm cf C0 g v nd X) (hr : nd.role = 2) {pm ys : List Int} (hp : nd.poll = some (pm, ys)) (hm : pm.length < 2 * ys.length) (tr : List (Int × Nat)) (ht : ∀ x k, (x, k) ∈ tr → k = 0) :
  ∃ g', Grow v g g' ∧ GI tm cf C0 g' ∧ NI tm cf C0 g' v { nd with role := 3, poll := none, trk := tr } X := by
 obtain ⟨a, b, c, d⟩ := h.cand hr
 obtain ⟨q1, q2, q3⟩ := d _ _ hp
 have hmaj : Maj (confOf cf C0 X) ys := by rw [← q1]; exact ⟨q2, fun x hx => (q3 x hx).1, hm⟩
 have hn := elect_none hg hcf h0 a hmaj (fun x hx => (q3 x hx).2) c
 have hg1 := elect_ok hg hcf h0 hn a hmaj fun x hx => (q3 x hx).2
 have gr1 : Grow v g (g.electG v nd.term X ys) := elect_grow hn
 have he : (g.electG v nd.term X ys).el nd.term ≠ none := by rw [elect_el]; simp
 have hLL : (g.electG v nd.term X ys).LL nd.term = X := elect_LL
 have hg2 := ack_ok (v := v) (n := X.length) hg1 he (by rw [hLL]; exact Nat.le_refl _) fun t c e => (h.votes t c e).1
 have gr2 : Grow v (g.electG v nd.term X ys) ((g.electG v nd.term X ys).ackG v nd.term X.length) := ack_grow
 have gr := gr1.trans gr2
 have hne : ∀ {t}, g.el t ≠ none → t ≠ nd.term := fun h e => h (e ▸ hn)
 refine ⟨_, gr, hg2, ?_⟩
 exact
 { pos := h.pos, coh := gr.coh h.coh, le1 := h.le1, le2 := h.le2, ents := h.ents, bterm := h.bterm, mem := h.mem, last := h.last
   com := h.com.grow hg gr, vote := h.vote, votes := h.votes, stood := h.stood
   led := fun t e => by
     by_cases e' : t = nd.term
     · exact Nat.le_of_eq e'
     · have : (g.electG v nd.term X ys).el t = some v := e
       rw [elect_el' e'] at this
       exact h.led t this
   acks := fun s i e => by
     rcases e with e | ⟨_, rfl, hi⟩
     · obtain ⟨p, q⟩ := h.acks s i e
       obtain ⟨r1, r2⟩ := hg.ack v s i e
       refine ⟨p, fun hu => gr.has r1 (q fun u h1 h2 h3 => gr.unhas r1 r2 ?_)⟩
       have := hu u h1 h2 (gr.elne h3)
       rwa [gr.l0 hg h3] at this
     · exact ⟨Nat.le_refl _, fun _ => by
         show SameTo X ((g.electG v nd.term X ys).LL nd.term) i
         rw [hLL]
         exact SameTo.refl hi⟩
   cand := fun e => by simp at e
   lead := fun _ => ⟨elect_el (g := g) (v := v) (t := nd.term) (X := X) (Rv := ys), hLL.symm, .inr ⟨rfl, rfl, Nat.le_refl _⟩, fun x k hk => .inl (ht x k hk)⟩ }
theorem NI.add (hg : GI tm cf C0 g) (hcf : ∀ e K, cf e = some K → K.Nodup) (h0 : C0.Nodup) (h : NI tm cf C0 g v nd X) (hr : nd.role = 3) {e : ε} (he : tm e = nd.term)
  (hc : ∀ K, cf e = some K → tmAt tm X nd.commit = nd.term ∧ (∀ k, cfAt cf X k ≠ none → k ≤ nd.commit) ∧ Near (confOf cf C0 X) K) (tr : List (Int × Nat)) (ht : ∀ x k, (x, k) ∈ tr → k = 0 ∨ (x, k) ∈ nd.trk) :
  ∃ g', Grow v g g' ∧ GI tm cf C0 g' ∧ NI tm cf C0 g' v { nd with ents := nd.ents ++ [e], trk := tr } (X ++ [e]) := by
 obtain ⟨a, b, c, d⟩ := h.lead hr
 have hel : g.el nd.term ≠ none := by rw [a]; simp
 have hpos : 1 ≤ nd.term := by have := hg.old _ hel 0 (Nat.zero_le _); omega
 have hg1 := add_ok (e := e) hg hcf h0 a he fun K hK => by
  obtain ⟨q1, q2, q3⟩ := hc K hK
  obtain ⟨i, m, r1, r2⟩ := h.com.own hg q1 hpos
  rw [← b]
  exact ⟨i, m, r1, fun k hk => Nat.le_trans (q2 k hk) r2, q3⟩
 have gr1 : Grow v g (g.addG nd.term e) := add_grow fun x hx => by rw [a] at hx; exact (Option.some.inj hx).symm
 have hLL : (g.addG nd.term e).LL nd.term = X ++ [e] := by rw [add_LL, ← b]
 have hg2 := ack_ok (v := v) (n := (X ++ [e]).length) hg1 hel (by rw [hLL]; exact Nat.le_refl _) fun t c e => (h.votes t c e).1
 have gr2 : Grow v (g.addG nd.term e) ((g.addG nd.term e).ackG v nd.term (X ++ [e]).length) := ack_grow
 have gr := gr1.trans gr2
 have hap : ∀ {k}, k ≤ X.length → SameTo (X ++ [e]) X k := fun hk => (SameTo.app X [e] hk).symm
 have hb : nd.base ≤ X.length := Nat.le_trans h.le1 h.le2
 refine ⟨_, gr, hg2, ?_⟩
 exact
 { pos := h.pos
   coh := by
     have := hg2.coh _ hel
     rwa [show ((g.addG nd.term e).ackG v nd.term (X ++ [e]).length).LL nd.term = X ++ [e] from hLL] at this
   le1 := h.le1
   le2 := by have := h.le2; simp only [List.length_append]; omega
   ents := by rw [List.drop_append_of_le_length hb, h.ents]
   bterm := by rw [(hap hb).term (Nat.le_refl _)]; exact h.bterm
   mem := by rw [(hap hb).conf (Nat.le_refl _)]; exact h.mem
   last := by
     unfold lastTX
     rw [tmAt_app, if_neg (by simp), if_pos (by simp), he]
     exact Nat.le_refl _
   com := (h.com.grow hg gr).same (hap h.le2)
   vote := h.vote, votes := h.votes, stood := h.stood, led := h.led
   acks := fun s i ha => by
     rcases ha with ha | ⟨_, rfl, hi⟩
     · obtain ⟨p, q⟩ := h.acks s i ha
       obtain ⟨r1, r2⟩ := hg.ack v s i ha
       refine ⟨p, fun hu => ?_⟩
       have hh : g.Has s i X := q fun u h1 h2 h3 => gr.unhas r1 r2 (by
         have := hu u h1 h2 (gr.elne h3)
         rwa [gr.l0 hg h3] at this)
       exact SameTo.trans (hap hh.1) (gr.has r1 hh)
     · exact ⟨Nat.le_refl _, fun _ => by
         show SameTo (X ++ [e]) ((g.addG nd.term e).LL nd.term) i
         rw [hLL]
         exact SameTo.refl hi⟩
   cand := fun e => by rw [hr] at e; cases e
   lead := fun _ => ⟨a, hLL.symm, .inr ⟨rfl, rfl, Nat.le_refl _⟩, fun x k hk => (ht x k hk).elim .inl fun hk => (d x k hk).imp id .inl⟩ }
end
end
end Go.Proofs.YtdjooojpcepleaaGreat

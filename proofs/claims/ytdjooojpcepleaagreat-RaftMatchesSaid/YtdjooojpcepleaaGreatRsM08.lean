/- Agreement, plainly: what may come about: a vote, one that stands, one that is elected, an entry, an acknowledgement, a commit. Agreement, plainly: one is elected; an entry; an acknowledgement; a commit. -/
import Derived.Test.YtdjooojpcepleaaGreatRsM07

namespace Go.Proofs.YtdjooojpcepleaaGreat
section
section
variable {ε : Type} {tm : ε → Nat} {cf : ε → Option (List Int)} {C0 : List Int}
theorem conf_nodup (hcf : ∀ e K, cf e = some K → K.Nodup) (h0 : C0.Nodup) (X : List ε) : ∀ n, (confTo cf C0 X n).Nodup
 | 0 => h0
 | n + 1 => by
  rw [confTo]
  cases h : cfAt cf X (n + 1) with
  | none => exact conf_nodup hcf h0 X n
  | some K =>
   unfold cfAt at h
   rw [if_neg (by omega)] at h
   cases hx : X[n + 1 - 1]? with
   | none => rw [hx] at h; cases h
   | some e => rw [hx] at h; exact hcf e K h
structure Grow (v : Int) (g g' : Gh ε) : Prop where
 el : ∀ t c, g.el t = some c → g'.el t = some c
 elv : ∀ t c, g'.el t = some c → g.el t = some c ∨ c = v
 LL : ∀ t, g.el t ≠ none → ∃ Y, g'.LL t = g.LL t ++ Y
 LLv : ∀ t c, g.el t = some c → c ≠ v → g'.LL t = g.LL t
 e0 : ∀ t, g.el t ≠ none → g'.e0 t = g.e0 t
 R : ∀ t, g.el t ≠ none → g'.R t = g.R t
 vt : ∀ x t c, g.vt x t c → g'.vt x t c
 vtv : ∀ x t c, g'.vt x t c → g.vt x t c ∨ x = v
 W : ∀ x t c, g.vt x t c → g'.W x t = g.W x t
 Cm : ∀ s i m, g.Cm s i m → g'.Cm s i m
 A : ∀ x s i, g.A x s i → g'.A x s i
 Av : ∀ x s i, g'.A x s i → g.A x s i ∨ x = v
 cd : ∀ c t L, g.cd c t = some L → g'.cd c t = some L
 cdv : ∀ c t, g'.cd c t ≠ none → g.cd c t ≠ none ∨ c = v
variable {g g' : Gh ε} {v : Int}
theorem Grow.refl (v : Int) (g : Gh ε) : Grow v g g :=
 ⟨fun _ _ h => h, fun _ _ h => .inl h, fun _ _ => ⟨[], by simp⟩, fun _ _ _ _ => rfl, fun _ _ => rfl, fun _ _ => rfl, fun _ _ _ h => h, fun _ _ _ h => .inl h, fun _ _ _ _ => rfl, fun _ _ _ h => h, fun _ _ _ h => h, fun _ _ _ h => .inl h, fun _ _ _ h => h, fun _ _ h => .inl h⟩
theorem Grow.elne (h : Grow v g g') {t : Nat} (ht : g.el t ≠ none) : g'.el t ≠ none := by
 cases e : g.el t with
 | none => exact absurd e ht
 | some c => rw [h.el t c e]; simp
theorem Grow.trans {g'' : Gh ε} (h : Grow v g g') (k : Grow v g' g'') : Grow v g g'' where
 el t c e := k.el t c (h.el t c e)
 elv t c e := (k.elv t c e).elim (h.elv t c) .inr
 LL t ht := by
  obtain ⟨Y, hY⟩ := h.LL t ht
  obtain ⟨Z, hZ⟩ := k.LL t (h.elne ht)
  exact ⟨Y ++ Z, by rw [hZ, hY, List.append_assoc]⟩
 LLv t c ht hc := (k.LLv t c (h.el t c ht) hc).trans (h.LLv t c ht hc)
 e0 t ht := (k.e0 t (h.elne ht)).trans (h.e0 t ht)
 R t ht := (k.R t (h.elne ht)).trans (h.R t ht)
 vt x t c e := k.vt x t c (h.vt x t c e)
 vtv x t c e := (k.vtv x t c e).elim (h.vtv x t c) .inr
 W x t c e := (k.W x t c (h.vt x t c e)).trans (h.W x t c e)
 Cm s i m e := k.Cm s i m (h.Cm s i m e)
 A x s i e := k.A x s i (h.A x s i e)
 Av x s i e := (k.Av x s i e).elim (h.Av x s i) .inr
 cd c t L e := k.cd c t L (h.cd c t L e)
 cdv c t e := (k.cdv c t e).elim (h.cdv c t) .inr
theorem Grow.has (h : Grow v g g') {s i : Nat} (hs : g.el s ≠ none) {X : List ε} (hh : g.Has s i X) : g'.Has s i X := by
 obtain ⟨Y, hY⟩ := h.LL s hs
 refine SameTo.trans hh ?_
 rw [hY]
 exact SameTo.app _ _ hh.2.1
theorem Grow.unhas (h : Grow v g g') {s i : Nat} (hs : g.el s ≠ none) (hi : i ≤ (g.LL s).length) {X : List ε} (hh : g'.Has s i X) : g.Has s i X := by
 obtain ⟨Y, hY⟩ := h.LL s hs
 refine SameTo.trans hh (SameTo.symm ?_)
 rw [hY]
 exact SameTo.app _ _ hi
theorem Grow.coh (h : Grow v g g') {X : List ε} (hX : Coh tm g X) : Coh tm g' X :=
 ⟨fun k h1 h2 => ⟨h.elne (hX.el k h1 h2).1, h.has (hX.el k h1 h2).1 (hX.el k h1 h2).2⟩, hX.mono⟩
theorem Grow.l0 (hg : GI tm cf C0 g) (h : Grow v g g') {t : Nat} (ht : g.el t ≠ none) : g'.L0 t = g.L0 t := by
 obtain ⟨Y, hY⟩ := h.LL t ht
 unfold Gh.L0
 rw [h.e0 t ht, hY, List.take_append_of_le_length (hg.e0le t ht)]
theorem Grow.went (hg : GI tm cf C0 g) (h : Grow v g g') {t b : Nat} {x : Int} {X : List ε} (hA : ∀ s i, s < t → g'.A x s i → g.A x s i)
  (hw : ∀ s i, s < t → g.A x s i → (∀ u, s < u → u < b → g.el u ≠ none → g.Has s i (g.L0 u)) → g.Has s i X) : ∀ s i, s < t → g'.A x s i → (∀ u, s < u → u < b → g'.el u ≠ none → g'.Has s i (g'.L0 u)) → g'.Has s i X := fun s i hs ha hu => by
 have ha0 := hA s i hs ha
 obtain ⟨e1, e2⟩ := hg.ack x s i ha0
 refine h.has e1 (hw s i hs ha0 fun u h1 h2 h3 => h.unhas e1 e2 ?_)
 have := hu u h1 h2 (h.elne h3)
 rwa [h.l0 hg h3] at this
theorem Grow.wente (hg : GI tm cf C0 g) (h : Grow v g g') {t : Nat} {x : Int} {X : List ε} (hA : ∀ s i, s < t → g'.A x s i → g.A x s i)
  (hw : ∀ s i, s < t → g.A x s i → (∀ u, s < u → u ≤ t → g.el u ≠ none → g.Has s i (g.L0 u)) → g.Has s i X) : ∀ s i, s < t → g'.A x s i → (∀ u, s < u → u ≤ t → g'.el u ≠ none → g'.Has s i (g'.L0 u)) → g'.Has s i X := fun s i hs ha hu =>
 h.went hg (b := t + 1) hA (fun s i hs ha hu => hw s i hs ha fun u h1 h2 h3 => hu u h1 (by omega) h3) s i hs ha fun u h1 h2 h3 => hu u h1 (by omega) h3
open Classical in
noncomputable def Gh.voteG (g : Gh ε) (v : Int) (t : Nat) (c : Int) (X : List ε) : Gh ε :=
 { g with vt := fun x s d => g.vt x s d ∨ (x = v ∧ s = t ∧ d = c), W := fun x s => if x = v ∧ s = t then X else g.W x s }
theorem vote_grow {t : Nat} {c : Int} {X : List ε} (hf : ∀ d, ¬ g.vt v t d) : Grow v g (g.voteG v t c X) where
 el _ _ h := h
 elv _ _ h := .inl h
 LL _ _ := ⟨[], by simp [Gh.voteG]⟩
 LLv _ _ _ _ := rfl
 e0 _ _ := rfl
 R _ _ := rfl
 vt _ _ _ h := .inl h
 vtv x s d h := h.imp id And.left
 W x s d h := by
  show (if x = v ∧ s = t then X else g.W x s) = g.W x s
  rw [if_neg]
  rintro ⟨rfl, rfl⟩
  exact hf d h
 Cm _ _ _ h := h
 A _ _ _ h := h
 Av _ _ _ h := .inl h
 cd _ _ _ h := h
 cdv _ _ h := .inl h
theorem vote_ok (hg : GI tm cf C0 g) {t : Nat} {c : Int} {X L : List ε} (hf : ∀ d, ¬ g.vt v t d) (hc : g.cd c t = some L) (hu : UpTo tm L X) (hX : Coh tm g X)
  (hw : ∀ s i, s < t → g.A v s i → (∀ u, s < u → u ≤ t → g.el u ≠ none → g.Has s i (g.L0 u)) → g.Has s i X) : GI tm cf C0 (g.voteG v t c X) := by
 have hgr : Grow v g (g.voteG v t c X) := vote_grow hf
 have hW : ∀ s, g.el s ≠ none → ∀ x ∈ g.R s, (g.voteG v t c X).W x s = g.W x s := fun s hs x hx => by
  cases e : g.el s with
  | none => exact absurd e hs
  | some d => exact hgr.W x s d (hg.voted s d e x hx)
 exact
 { e0le := hg.e0le, own := hg.own, old := hg.old, coh := fun s hs => hgr.coh (hg.coh s hs), maj := hg.maj
   voted := fun s d e x hx => .inl (hg.voted s d e x hx)
   upto := fun s hs x hx => by rw [hW s hs x hx]; exact hg.upto s hs x hx
   wcoh := fun s hs x hx => by rw [hW s hs x hx]; exact hgr.coh (hg.wcoh s hs x hx)
   went := fun s hs x hx => by rw [hW s hs x hx]; exact hg.went s hs x hx
   step := hg.step, nodup := hg.nodup
   once := fun x s d e h1 h2 => by
     rcases h1 with h1 | ⟨rfl, rfl, rfl⟩ <;> rcases h2 with h2 | ⟨h2, h3, h4⟩
     · exact hg.once x s d e h1 h2
     · subst h2 h3; exact absurd h1 (hf d)
     · exact absurd h2 (hf e)
     · exact h4.symm
   cm := hg.cm, ack := hg.ack, adn := hg.adn
   cdw := fun d s L' h => ⟨hgr.coh (hg.cdw d s L' h).1, (hg.cdw d s L' h).2⟩
   vtw := fun x s d h => by
     rcases h with h | ⟨rfl, rfl, rfl⟩
     · rw [hgr.W x s d h]
       obtain ⟨L', a, b, c', d'⟩ := hg.vtw x s d h
       exact ⟨L', a, b, hgr.coh c', d'⟩
     · have e : (g.voteG x s d X).W x s = X := by
         show (if x = x ∧ s = s then X else g.W x s) = X
         rw [if_pos ⟨rfl, rfl⟩]
       rw [e]
       exact ⟨L, hc, hu, hgr.coh hX, hw⟩
   elcd := hg.elcd, lc := hg.lc }
open Classical in
noncomputable def Gh.standG (g : Gh ε) (v : Int) (t : Nat) (X : List ε) : Gh ε := { g with cd := fun c s => if c = v ∧ s = t then some X else g.cd c s }
theorem stand_cd {t : Nat} {X : List ε} (hf : g.cd v t = none) {c : Int} {s : Nat} {L : List ε} (h : g.cd c s = some L) : (g.standG v t X).cd c s = some L := by
 show (if c = v ∧ s = t then some X else g.cd c s) = some L
 rw [if_neg]
 ·exact h
 ·rintro ⟨rfl, rfl⟩
  rw [hf] at h
  cases h
theorem stand_self {t : Nat} {X : List ε} : (g.standG v t X).cd v t = some X := by
 show (if v = v ∧ t = t then some X else g.cd v t) = some X
 rw [if_pos ⟨rfl, rfl⟩]
theorem stand_grow {t : Nat} {X : List ε} (hf : g.cd v t = none) : Grow v g (g.standG v t X) where
 el _ _ h := h
 elv _ _ h := .inl h
 LL _ _ := ⟨[], by simp [Gh.standG]⟩
 LLv _ _ _ _ := rfl
 e0 _ _ := rfl
 R _ _ := rfl
 vt _ _ _ h := h
 vtv _ _ _ h := .inl h
 W _ _ _ _ := rfl
 Cm _ _ _ h := h
 A _ _ _ h := h
 Av _ _ _ h := .inl h
 cd _ _ _ h := stand_cd hf h
 cdv c s h := by
  by_cases e : c = v ∧ s = t
  ·exact .inr e.1
  ·left
   have : (if c = v ∧ s = t then some X else g.cd c s) ≠ none := h
   rwa [if_neg e] at this
theorem stand_ok (hg : GI tm cf C0 g) {t : Nat} {X : List ε} (hf : g.cd v t = none) (hX : Coh tm g X) (hl : lastTX tm X < t) : GI tm cf C0 (g.standG v t X) := by
 have hgr : Grow v g (g.standG v t X) := stand_grow hf
 exact
 { e0le := hg.e0le, own := hg.own, old := hg.old, coh := fun s hs => hgr.coh (hg.coh s hs), maj := hg.maj, voted := hg.voted, upto := hg.upto
   wcoh := fun s hs x hx => hgr.coh (hg.wcoh s hs x hx)
   went := hg.went, step := hg.step, nodup := hg.nodup, once := hg.once, cm := hg.cm, ack := hg.ack, adn := hg.adn
   cdw := fun d s L h => by
     by_cases e : d = v ∧ s = t
     · obtain ⟨rfl, rfl⟩ := e
       rw [stand_self] at h
       cases h
       exact ⟨hgr.coh hX, hl⟩
     · have h' : (if d = v ∧ s = t then some X else g.cd d s) = some L := h
       rw [if_neg e] at h'
       exact ⟨hgr.coh (hg.cdw d s L h').1, (hg.cdw d s L h').2⟩
   vtw := fun x s d h => by
     obtain ⟨L', a, b, c', d'⟩ := hg.vtw x s d h
     exact ⟨L', stand_cd hf a, b, hgr.coh c', d'⟩
   elcd := fun s c h => by
     cases e : g.cd c s with
     | none => exact absurd e (hg.elcd s c h)
     | some L => rw [stand_cd hf e]; simp
   lc := hg.lc }
end
end
section
section
variable {ε : Type} {tm : ε → Nat} {cf : ε → Option (List Int)} {C0 : List Int} {g g' : Gh ε} {v : Int}
open Classical in
noncomputable def Gh.electG (g : Gh ε) (v : Int) (t : Nat) (X : List ε) (Rv : List Int) : Gh ε :=
 { g with el := fun s => if s = t then some v else g.el s, LL := fun s => if s = t then X else g.LL s, e0 := fun s => if s = t then X.length else g.e0 s, R := fun s => if s = t then Rv else g.R s }
section
variable {t : Nat} {X : List ε} {Rv : List Int}
theorem elect_el : (g.electG v t X Rv).el t = some v := by
 show (if t = t then some v else g.el t) = _
 rw [if_pos rfl]
theorem elect_el' {s : Nat} (h : s ≠ t) : (g.electG v t X Rv).el s = g.el s := by
 show (if s = t then some v else g.el s) = _
 rw [if_neg h]
theorem elect_LL : (g.electG v t X Rv).LL t = X := by
 show (if t = t then X else g.LL t) = _
 rw [if_pos rfl]
theorem elect_LL' {s : Nat} (h : s ≠ t) : (g.electG v t X Rv).LL s = g.LL s := by
 show (if s = t then X else g.LL s) = _
 rw [if_neg h]
theorem elect_e0 : (g.electG v t X Rv).e0 t = X.length := by
 show (if t = t then X.length else g.e0 t) = _
 rw [if_pos rfl]
theorem elect_e0' {s : Nat} (h : s ≠ t) : (g.electG v t X Rv).e0 s = g.e0 s := by
 show (if s = t then X.length else g.e0 s) = _
 rw [if_neg h]
theorem elect_R : (g.electG v t X Rv).R t = Rv := by
 show (if t = t then Rv else g.R t) = _
 rw [if_pos rfl]
theorem elect_R' {s : Nat} (h : s ≠ t) : (g.electG v t X Rv).R s = g.R s := by
 show (if s = t then Rv else g.R s) = _
 rw [if_neg h]
theorem elect_L0 : (g.electG v t X Rv).L0 t = X := by
 unfold Gh.L0
 rw [elect_LL, elect_e0, List.take_length]
theorem elect_L0' {s : Nat} (h : s ≠ t) : (g.electG v t X Rv).L0 s = g.L0 s := by
 unfold Gh.L0
 rw [elect_LL' h, elect_e0' h]
theorem elect_grow (hn : g.el t = none) : Grow v g (g.electG v t X Rv) where
 el s c h := by
  have : s ≠ t := fun e => by rw [e, hn] at h; cases h
  rw [elect_el' this]; exact h
 elv s c h := by
  by_cases e : s = t
  ·subst e; rw [elect_el] at h; cases h; exact .inr rfl
  ·rw [elect_el' e] at h; exact .inl h
 LL s h := by
  have : s ≠ t := fun e => h (e ▸ hn)
  exact ⟨[], by rw [elect_LL' this]; simp⟩
 LLv s c h _ := elect_LL' fun e => by rw [e, hn] at h; cases h
 e0 s h := elect_e0' fun e => h (e ▸ hn)
 R s h := elect_R' fun e => h (e ▸ hn)
 vt _ _ _ h := h
 vtv _ _ _ h := .inl h
 W _ _ _ _ := rfl
 Cm _ _ _ h := h
 A _ _ _ h := h
 Av _ _ _ h := .inl h
 cd _ _ _ h := h
 cdv _ _ h := .inl h
theorem elect_ok (hg : GI tm cf C0 g) (hcf : ∀ e K, cf e = some K → K.Nodup) (h0 : C0.Nodup) (hn : g.el t = none) (hcd : g.cd v t = some X) (hm : Maj (confOf cf C0 X) Rv) (hv : ∀ x ∈ Rv, g.vt x t v) : GI tm cf C0 (g.electG v t X Rv) := by
 have hgr : Grow v g (g.electG v t X Rv) := elect_grow hn
 obtain ⟨hX, hl⟩ := hg.cdw v t X hcd
 -- what the voters had
 have hvw : ∀ x ∈ Rv, UpTo tm X (g.W x t) ∧ Coh tm g (g.W x t) ∧ ∀ s i, s < t → g.A x s i → (∀ u, s < u → u ≤ t → g.el u ≠ none → g.Has s i (g.L0 u)) → g.Has s i (g.W x t) := fun x hx => by
  obtain ⟨L, a, b, c, d⟩ := hg.vtw x t v (hv x hx)
  rw [hcd] at a
  cases a
  exact ⟨b, c, d⟩
 have hrun : Run tm cf C0 g t X Rv (fun x => g.W x t) := ⟨hX, hl, hm, conf_nodup hcf h0 X _, fun x hx => (hvw x hx).2.1, fun x hx => (hvw x hx).1, fun x hx => (hvw x hx).2.2⟩
 have hne : ∀ {s}, g.el s ≠ none → s ≠ t := fun h e => h (e ▸ hn)
 have old_ : ∀ {s}, (g.electG v t X Rv).el s ≠ none → s ≠ t → g.el s ≠ none := fun h e => by rwa [elect_el' e] at h
 have hAne : ∀ {x s i}, g.A x s i → s ≠ t := fun h => hne (hg.ack _ _ _ h).1
 have wen : ∀ {x : Int} {b : Nat} {Z : List ε} {c : Nat}, (∀ s i, s < c → g.A x s i → (∀ u, s < u → u < b → g.el u ≠ none → g.Has s i (g.L0 u)) → g.Has s i Z) → ∀ s i, s < c → g.A x s i → (∀ u, s < u → u < b → (g.electG v t X Rv).el u ≠ none → (g.electG v t X Rv).Has s i ((g.electG v t X Rv).L0 u)) → (g.electG v t X Rv).Has s i Z :=
  fun hw => hgr.went hg (fun _ _ _ h => h) hw
 exact
 { e0le := fun s hs => by
     by_cases e : s = t
     · subst e; rw [elect_e0, elect_LL]; exact Nat.le_refl _
     · rw [elect_e0' e, elect_LL' e]; exact hg.e0le s (old_ hs e)
   own := fun s hs k h1 h2 => by
     by_cases e : s = t
     · subst e; rw [elect_e0] at h1; rw [elect_LL] at h2; omega
     · rw [elect_e0' e] at h1; rw [elect_LL' e] at h2 ⊢; exact hg.own s (old_ hs e) k h1 h2
   old := fun s hs k h1 => by
     by_cases e : s = t
     · subst e
       rw [elect_e0] at h1
       rw [elect_LL]
       have := hX.mono k X.length h1 (Nat.le_refl _)
       unfold lastTX at hl
       omega
     · rw [elect_e0' e] at h1; rw [elect_LL' e]; exact hg.old s (old_ hs e) k h1
   coh := fun s hs => by
     by_cases e : s = t
     · subst e; rw [elect_LL]; exact hgr.coh hX
     · rw [elect_LL' e]; exact hgr.coh (hg.coh s (old_ hs e))
   maj := fun s hs => by
     by_cases e : s = t
     · subst e; rw [elect_LL, elect_e0, elect_R]; exact hm
     · rw [elect_LL' e, elect_e0' e, elect_R' e]; exact hg.maj s (old_ hs e)
   voted := fun s c h x hx => by
     by_cases e : s = t
     · subst e
       rw [elect_el] at h; cases h
       rw [elect_R] at hx
       exact hv x hx
     · rw [elect_el' e] at h; rw [elect_R' e] at hx; exact hg.voted s c h x hx
   upto := fun s hs x hx => by
     by_cases e : s = t
     · subst e; rw [elect_R] at hx; rw [elect_L0]; exact (hvw x hx).1
     · rw [elect_R' e] at hx; rw [elect_L0' e]; exact hg.upto s (old_ hs e) x hx
   wcoh := fun s hs x hx => by
     by_cases e : s = t
     · subst e; rw [elect_R] at hx; exact hgr.coh (hvw x hx).2.1
     · rw [elect_R' e] at hx; exact hgr.coh (hg.wcoh s (old_ hs e) x hx)
   went := fun s hs x hx => by
     by_cases e : s = t
     · subst e
       rw [elect_R] at hx
       refine wen fun r i h1 h2 h3 => (hvw x hx).2.2 r i h1 h2 fun u h4 h5 h6 => h3 u h4 ?_ h6
       rcases Nat.lt_or_ge u s with h | h
       · exact h
       · exact absurd (by rw [show u = s by omega]; exact hn) h6
     · rw [elect_R' e] at hx; exact wen (hg.went s (old_ hs e) x hx)
   step := fun s hs c K h1 h2 => by
     by_cases e : s = t
     · subst e
       rw [elect_e0] at h1
       rw [elect_LL] at h2
       rw [cfAt_none h1] at h2
       cases h2
     · rw [elect_e0' e] at h1; rw [elect_LL' e] at h2 ⊢; exact hg.step s (old_ hs e) c K h1 h2
   nodup := fun s _ k => conf_nodup hcf h0 _ k
   once := hg.once
   cm := fun s i m h => by
     obtain ⟨a, b, c, d, e⟩ := hg.cm s i m h
     have hs := hne a
     rw [elect_el' hs, elect_e0' hs, elect_LL' hs]
     exact ⟨a, b, c, d, e⟩
   ack := fun x s i h => by
     obtain ⟨a, b⟩ := hg.ack x s i h
     rw [elect_el' (hne a), elect_LL' (hne a)]
     exact ⟨a, b⟩
   adn := hg.adn
   cdw := fun d s L h => ⟨hgr.coh (hg.cdw d s L h).1, (hg.cdw d s L h).2⟩
   vtw := fun x s d h => by
     obtain ⟨L', a, b, c', d'⟩ := hg.vtw x s d h
     exact ⟨L', a, b, hgr.coh c', hgr.wente hg (fun _ _ _ h => h) d'⟩
   elcd := fun s c h => by
     by_cases e : s = t
     · subst e
       rw [elect_el] at h; cases h
       show g.cd v s ≠ none
       rw [hcd]; simp
     · rw [elect_el' e] at h; exact hg.elcd s c h
   lc := fun s i m h u hu he => by
     by_cases e : u = t
     · subst e
       rw [elect_L0]
       exact hgr.has (hg.cm s i m h).1 (run_has hg hrun s i m h hu)
     · rw [elect_L0' e]
       exact hgr.has (hg.cm s i m h).1 (hg.lc s i m h u hu (old_ he e)) }
theorem elect_none (hg : GI tm cf C0 g) (hcf : ∀ e K, cf e = some K → K.Nodup) (h0 : C0.Nodup) (hcd : g.cd v t = some X) (hm : Maj (confOf cf C0 X) Rv) (hv : ∀ x ∈ Rv, g.vt x t v) (hne : g.el t ≠ some v) : g.el t = none := by
 obtain ⟨hX, hl⟩ := hg.cdw v t X hcd
 have hvw : ∀ x ∈ Rv, UpTo tm X (g.W x t) ∧ Coh tm g (g.W x t) ∧ ∀ s i, s < t → g.A x s i → (∀ u, s < u → u ≤ t → g.el u ≠ none → g.Has s i (g.L0 u)) → g.Has s i (g.W x t) := fun x hx => by
  obtain ⟨L, a, b, c, d⟩ := hg.vtw x t v (hv x hx)
  rw [hcd] at a
  cases a
  exact ⟨b, c, d⟩
 have hrun : Run tm cf C0 g t X Rv (fun x => g.W x t) := ⟨hX, hl, hm, conf_nodup hcf h0 X _, fun x hx => (hvw x hx).2.1, fun x hx => (hvw x hx).1, fun x hx => (hvw x hx).2.2⟩
 cases e : g.el t with
 | none => rfl
 | some d =>
  have := run_one hg hrun hv e
  rw [e, this] at hne
  exact absurd rfl hne
end
open Classical in
noncomputable def Gh.addG (g : Gh ε) (t : Nat) (e : ε) : Gh ε := { g with LL := fun s => if s = t then g.LL t ++ [e] else g.LL s }
section
variable {t : Nat} {e : ε}
theorem add_LL : (g.addG t e).LL t = g.LL t ++ [e] := by
 show (if t = t then g.LL t ++ [e] else g.LL t) = _
 rw [if_pos rfl]
theorem add_LL' {s : Nat} (h : s ≠ t) : (g.addG t e).LL s = g.LL s := by
 show (if s = t then g.LL t ++ [e] else g.LL s) = _
 rw [if_neg h]
theorem add_grow (hv : ∀ c, g.el t = some c → c = v) : Grow v g (g.addG t e) where
 el _ _ h := h
 elv _ _ h := .inl h
 LL s _ := by
  by_cases h : s = t
  ·subst h; exact ⟨[e], add_LL⟩
  ·exact ⟨[], by rw [add_LL' h]; simp⟩
 LLv s c h hc := add_LL' fun e' => hc (hv c (e' ▸ h))
 e0 _ _ := rfl
 R _ _ := rfl
 vt _ _ _ h := h
 vtv _ _ _ h := .inl h
 W _ _ _ _ := rfl
 Cm _ _ _ h := h
 A _ _ _ h := h
 Av _ _ _ h := .inl h
 cd _ _ _ h := h
 cdv _ _ h := .inl h
theorem tmAt_app {X : List ε} {e : ε} {k : Nat} : tmAt tm (X ++ [e]) k = if k ≤ X.length then tmAt tm X k else if k = X.length + 1 then tm e else 0 := by
 split
 ·rename_i h
  exact (SameTo.app X [e] h).term (Nat.le_refl _) |>.symm
 ·rename_i h
  unfold tmAt
  rw [if_neg (by omega)]
  split
  ·rename_i h2
   subst h2
   simp
  ·rename_i h2
   rw [List.getElem?_eq_none (by simp; omega)]
   rfl
theorem cfAt_app {X : List ε} {e : ε} {k : Nat} (hk : X.length < k) {K : List Int} (h : cfAt cf (X ++ [e]) k = some K) : k = X.length + 1 ∧ cf e = some K := by
 unfold cfAt at h
 rw [if_neg (by omega)] at h
 by_cases h2 : k = X.length + 1
 ·subst h2
  simp at h
  exact ⟨rfl, h⟩
 ·rw [List.getElem?_eq_none (by simp; omega)] at h
  cases h
theorem add_ok (hg : GI tm cf C0 g) (hcf : ∀ e K, cf e = some K → K.Nodup) (h0 : C0.Nodup) {v : Int} (ht : g.el t = some v) (he : tm e = t)
  (hc : ∀ K, cf e = some K → ∃ j m, g.Cm t j m ∧ (∀ k, cfAt cf (g.LL t) k ≠ none → k ≤ j) ∧ Near (confOf cf C0 (g.LL t)) K) : GI tm cf C0 (g.addG t e) := by
 have hgr : Grow v g (g.addG t e) := add_grow fun c h => by rw [ht] at h; exact (Option.some.inj h).symm
 replace ht : g.el t ≠ none := by rw [ht]; simp
 have hL0 : ∀ {s}, g.el s ≠ none → (g.addG t e).L0 s = g.L0 s := fun h => hgr.l0 hg h
 have hlt : lastTX tm (g.LL t) ≤ t := by
  unfold lastTX
  rcases Nat.lt_or_ge (g.e0 t) (g.LL t).length with h | h
  ·rw [hg.own t ht _ h (Nat.le_refl _)]; exact Nat.le_refl _
  ·have := hg.old t ht _ h; omega
 have hsame : SameTo (g.LL t) (g.LL t ++ [e]) (g.LL t).length := SameTo.app _ _ (Nat.le_refl _)
 have conf_ : ∀ {s k}, g.el s ≠ none → k ≤ (g.LL s).length → confTo cf C0 ((g.addG t e).LL s) k = confTo cf C0 (g.LL s) k := fun {s k} hs hk => by
  obtain ⟨Y, hY⟩ := hgr.LL s hs
  rw [hY]
  exact ((SameTo.app (g.LL s) Y (Nat.le_refl _)).conf hk).symm
 have wen : ∀ {x : Int} {b : Nat} {Z : List ε} {c : Nat}, (∀ s i, s < c → g.A x s i → (∀ u, s < u → u < b → g.el u ≠ none → g.Has s i (g.L0 u)) → g.Has s i Z) → ∀ s i, s < c → g.A x s i → (∀ u, s < u → u < b → (g.addG t e).el u ≠ none → (g.addG t e).Has s i ((g.addG t e).L0 u)) → (g.addG t e).Has s i Z :=
  fun hw => hgr.went hg (fun _ _ _ h => h) hw
 exact
 { e0le := fun s hs => by
     have := hg.e0le s hs
     obtain ⟨Y, hY⟩ := hgr.LL s hs
     rw [hY, List.length_append]
     show g.e0 s ≤ _
     omega
   own := fun s hs k h1 h2 => by
     have h1' : g.e0 s < k := h1
     by_cases e' : s = t
     · subst e'
       rw [add_LL] at h2 ⊢
       rw [tmAt_app]
       simp only [List.length_append, List.length_singleton] at h2
       split
       · rename_i h3; exact hg.own s hs k h1' h3
       · rw [if_pos (by omega), he]
     · rw [add_LL' e'] at h2 ⊢; exact hg.own s hs k h1' h2
   old := fun s hs k h1 => by
     obtain ⟨Y, hY⟩ := hgr.LL s hs
     have h1' : k ≤ g.e0 s := h1
     have := hg.e0le s hs
     rw [hY, ← (SameTo.app (g.LL s) Y (i := k) (by omega)).term (Nat.le_refl _)]
     exact hg.old s hs k h1'
   coh := fun s hs => by
     by_cases e' : s = t
     · subst e'
       rw [add_LL]
       refine ⟨fun k h1 h2 => ?_, fun j k h1 h2 => ?_⟩
       · simp only [List.length_append, List.length_singleton] at h2
         rcases Nat.lt_or_ge (g.LL s).length k with h3 | h3
         · have hk : k = (g.LL s).length + 1 := by omega
           have et : tmAt tm (g.LL s ++ [e]) k = s := by rw [tmAt_app, if_neg (by omega), if_pos hk, he]
           rw [et]
           refine ⟨hs, ?_⟩
           unfold Gh.Has
           rw [add_LL]
           exact SameTo.refl (by simp; omega)
         · rw [← (SameTo.app (g.LL s) [e] h3).term (Nat.le_refl _)]
           obtain ⟨a, b⟩ := (hg.coh s hs).el k h1 h3
           exact ⟨a, (SameTo.app (g.LL s) [e] h3).symm.trans (hgr.has a b)⟩
       · simp only [List.length_append, List.length_singleton] at h2
         rw [tmAt_app, tmAt_app]
         rcases Nat.lt_or_ge (g.LL s).length k with h3 | h3
         · rw [if_neg (by omega : ¬ k ≤ _), if_pos (by omega : k = _)]
           split
           · rename_i h4
             have := (hg.coh s hs).mono j _ h4 (Nat.le_refl _)
             unfold lastTX at hlt
             omega
           · rw [if_pos (by omega)]; exact Nat.le_refl _
         · rw [if_pos (by omega), if_pos h3]
           exact (hg.coh s hs).mono j k h1 h3
     · rw [add_LL' e']; exact hgr.coh (hg.coh s hs)
   maj := fun s hs => by
     have := hg.maj s hs
     rw [show (g.addG t e).e0 s = g.e0 s from rfl, conf_ hs (hg.e0le s hs)]
     exact this
   voted := hg.voted
   upto := fun s hs x hx => by rw [hL0 hs]; exact hg.upto s hs x hx
   wcoh := fun s hs x hx => hgr.coh (hg.wcoh s hs x hx)
   went := fun s hs x hx => wen (hg.went s hs x hx)
   step := fun s hs c K h1 h2 => by
     have h1' : g.e0 s < c := h1
     rcases Nat.lt_or_ge (g.LL s).length c with h3 | h3
     · by_cases e' : s = t
       · subst e'
         rw [add_LL] at h2
         obtain ⟨hc1, hK⟩ := cfAt_app h3 h2
         obtain ⟨j, m, f1, f2, f3⟩ := hc K hK
         have hm := (hg.cm _ _ _ f1).2.2.2.1
         refine ⟨j, m, f1, by omega, fun k hk hne => f2 k ?_, ?_⟩
         · rw [add_LL, ← (SameTo.app (g.LL s) [e] (by omega)).cfg (Nat.le_refl k)] at hne
           exact hne
         · rw [hc1, Nat.add_sub_cancel, conf_ hs (Nat.le_refl _)]
           exact f3
       · rw [add_LL' e', cfAt_none h3] at h2; cases h2
     · obtain ⟨Y, hY⟩ := hgr.LL s hs
       rw [hY, ← (SameTo.app (g.LL s) Y h3).cfg (Nat.le_refl _)] at h2
       obtain ⟨j, m, f1, f2, f3, f4⟩ := hg.step s hs c K h1' h2
       refine ⟨j, m, f1, f2, fun k hk hne => f3 k hk ?_, ?_⟩
       · rw [hY, ← (SameTo.app (g.LL s) Y h3).cfg (by omega)] at hne
         exact hne
       · rw [conf_ hs (by omega)]; exact f4
   nodup := fun s _ k => conf_nodup hcf h0 _ k
   once := hg.once
   cm := fun s i m h => by
     obtain ⟨a, b, c, d, Q, hQ, hA⟩ := hg.cm s i m h
     obtain ⟨Y, hY⟩ := hgr.LL s a
     refine ⟨a, b, c, by rw [hY, List.length_append]; omega, Q, ?_, hA⟩
     rw [conf_ a d]
     exact hQ
   ack := fun x s i h => by
     obtain ⟨a, b⟩ := hg.ack x s i h
     obtain ⟨Y, hY⟩ := hgr.LL s a
     exact ⟨a, by rw [hY, List.length_append]; omega⟩
   adn := hg.adn
   cdw := fun d s L h => ⟨hgr.coh (hg.cdw d s L h).1, (hg.cdw d s L h).2⟩
   vtw := fun x s d h => by
     obtain ⟨L', a, b, c', d'⟩ := hg.vtw x s d h
     exact ⟨L', a, b, hgr.coh c', hgr.wente hg (fun _ _ _ h => h) d'⟩
   elcd := hg.elcd
   lc := fun s i m h u hu he => by
     rw [hL0 he]
     exact hgr.has (hg.cm s i m h).1 (hg.lc s i m h u hu he) }
end
def Gh.ackG (g : Gh ε) (v : Int) (s n : Nat) : Gh ε := { g with A := fun x r i => g.A x r i ∨ (x = v ∧ r = s ∧ i ≤ n) }
theorem ack_grow {s n : Nat} : Grow v g (g.ackG v s n) where
 el _ _ h := h
 elv _ _ h := .inl h
 LL _ _ := ⟨[], by simp [Gh.ackG]⟩
 LLv _ _ _ _ := rfl
 e0 _ _ := rfl
 R _ _ := rfl
 vt _ _ _ h := h
 vtv _ _ _ h := .inl h
 W _ _ _ _ := rfl
 Cm _ _ _ h := h
 A _ _ _ h := .inl h
 Av _ _ _ h := h.imp id And.left
 cd _ _ _ h := h
 cdv _ _ h := .inl h
theorem ack_ok (hg : GI tm cf C0 g) {s n : Nat} (hs : g.el s ≠ none) (hn : n ≤ (g.LL s).length) (hv : ∀ t c, g.vt v t c → t ≤ s) : GI tm cf C0 (g.ackG v s n) := by
 have hgr : Grow v g (g.ackG v s n) := ack_grow
 exact
 { e0le := hg.e0le, own := hg.own, old := hg.old, coh := fun s hs => hgr.coh (hg.coh s hs), maj := hg.maj, voted := hg.voted, upto := hg.upto
   wcoh := fun s hs x hx => hgr.coh (hg.wcoh s hs x hx)
   went := fun t ht x hx => by
     refine hgr.went hg (fun r i hr ha => ?_) (hg.went t ht x hx)
     rcases ha with ha | ⟨rfl, rfl, _⟩
     · exact ha
     · cases e : g.el t with
       | none => exact absurd e ht
       | some c =>
         have := hv t c (hg.voted t c e x hx)
         omega
   step := hg.step, nodup := hg.nodup, once := hg.once
   cm := fun s i m h => by
     obtain ⟨a, b, c, d, Q, hQ, hA⟩ := hg.cm s i m h
     exact ⟨a, b, c, d, Q, hQ, fun x hx => .inl (hA x hx)⟩
   ack := fun x r i h => by
     rcases h with h | ⟨_, rfl, hi⟩
     · exact hg.ack x r i h
     · exact ⟨hs, Nat.le_trans hi hn⟩
   adn := fun x r i j h hj => by
     rcases h with h | ⟨a, b, c⟩
     · exact .inl (hg.adn x r i j h hj)
     · exact .inr ⟨a, b, Nat.le_trans hj c⟩
   cdw := fun d s L h => ⟨hgr.coh (hg.cdw d s L h).1, (hg.cdw d s L h).2⟩
   vtw := fun x t d h => by
     obtain ⟨L', a, b, c', d'⟩ := hg.vtw x t d h
     refine ⟨L', a, b, hgr.coh c', hgr.wente hg (fun r i hr ha => ?_) d'⟩
     rcases ha with ha | ⟨rfl, rfl, _⟩
     · exact ha
     · have := hv t d h; omega
   elcd := hg.elcd, lc := hg.lc }
def Gh.comG (g : Gh ε) (s i m : Nat) : Gh ε := { g with Cm := fun r j b => g.Cm r j b ∨ (r = s ∧ j = i ∧ b = m) }
theorem com_grow {s i m : Nat} : Grow v g (g.comG s i m) where
 el _ _ h := h
 elv _ _ h := .inl h
 LL _ _ := ⟨[], by simp [Gh.comG]⟩
 LLv _ _ _ _ := rfl
 e0 _ _ := rfl
 R _ _ := rfl
 vt _ _ _ h := h
 vtv _ _ _ h := .inl h
 W _ _ _ _ := rfl
 Cm _ _ _ h := .inl h
 A _ _ _ h := h
 Av _ _ _ h := .inl h
 cd _ _ _ h := h
 cdv _ _ h := .inl h
theorem com_ok (hg : GI tm cf C0 g) {s i m : Nat} (hes : g.el s ≠ none) (hi0 : g.e0 s < i) (him : i ≤ m) (hml : m ≤ (g.LL s).length) {Q : List Int} (hQ : Maj (confTo cf C0 (g.LL s) m) Q) (hA : ∀ v ∈ Q, g.A v s i) : GI tm cf C0 (g.comG s i m) := by
 have hgr : Grow 0 g (g.comG s i m) := com_grow
 exact
 { e0le := hg.e0le, own := hg.own, old := hg.old, coh := fun s hs => hgr.coh (hg.coh s hs), maj := hg.maj, voted := hg.voted, upto := hg.upto
   wcoh := fun s hs x hx => hgr.coh (hg.wcoh s hs x hx)
   went := hg.went
   step := fun t ht c K h1 h2 => by
     obtain ⟨j, b, f1, f2⟩ := hg.step t ht c K h1 h2
     exact ⟨j, b, .inl f1, f2⟩
   nodup := hg.nodup, once := hg.once
   cm := fun r j b h => by
     rcases h with h | ⟨rfl, rfl, rfl⟩
     · exact hg.cm r j b h
     · exact ⟨hes, hi0, him, hml, Q, hQ, hA⟩
   ack := hg.ack, adn := hg.adn
   cdw := fun d s L h => ⟨hgr.coh (hg.cdw d s L h).1, (hg.cdw d s L h).2⟩
   vtw := fun x t d h => by
     obtain ⟨L', a, b, c', d'⟩ := hg.vtw x t d h
     exact ⟨L', a, b, hgr.coh c', d'⟩
   elcd := hg.elcd
   lc := fun r j b h t ht he => by
     rcases h with h | ⟨rfl, rfl, rfl⟩
     · exact hg.lc r j b h t ht he
     · exact commit_has hg hes hi0 him hml hQ hA t ht he }
end
end
end Go.Proofs.YtdjooojpcepleaaGreat

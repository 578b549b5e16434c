/- Agreement, plainly: logs, majorities, and what a new leader has. Of no program. Agreement, plainly: a new leader has all that was committed in earlier terms; no two lead in a term; what is committed later leaders have. -/


namespace Go.Proofs.YtdjooojpcepleaaGreat
section
theorem exists_min {P : Nat → Prop} (h : ∃ n, P n) : ∃ n, P n ∧ ∀ k, k < n → ¬ P k := by
 obtain ⟨n, hn⟩ := h
 induction n using Nat.strongRecOn with
 | ind n ih =>
  by_cases hk : ∃ k, k < n ∧ P k
  ·obtain ⟨k, hk1, hk2⟩ := hk
   exact ih k hk1 hk2
  ·exact ⟨n, hn, fun k h1 h2 => hk ⟨k, h1, h2⟩⟩
def Maj (C Q : List Int) : Prop := Q.Nodup ∧ (∀ v ∈ Q, v ∈ C) ∧ C.length < 2 * Q.length
def Near (C D : List Int) : Prop := (∀ y, y ∈ C ↔ y ∈ D) ∨ (∃ x, ∀ y, y ∈ D ↔ (y ∈ C ∨ y = x)) ∨ (∃ x, ∀ y, y ∈ C ↔ (y ∈ D ∨ y = x))
theorem Near.refl (C : List Int) : Near C C := .inl fun _ => Iff.rfl
theorem Near.symm {C D : List Int} (h : Near C D) : Near D C := by
 rcases h with h | h | h
 ·exact .inl fun y => (h y).symm
 ·exact .inr (.inr h)
 ·exact .inr (.inl h)
theorem near_meet_one {C D P Q : List Int} (hC : C.Nodup) (x : Int) (h : ∀ y, y ∈ D ↔ (y ∈ C ∨ y = x)) (hD : D.Nodup) (hP : Maj C P) (hQ : Maj D Q) : ∃ v, v ∈ P ∧ v ∈ Q := by
 obtain ⟨p1, p2, p3⟩ := hP
 obtain ⟨q1, q2, q3⟩ := hQ
 refine Classical.byContradiction fun hno => ?_
 have hno : ∀ v ∈ P, v ∉ Q := fun v h1 h2 => hno ⟨v, h1, h2⟩
 have hn : (P ++ Q).Nodup := List.nodup_append.2 ⟨p1, q1, fun a ha b hb e => hno a ha (e ▸ hb)⟩
 have h1 : (P ++ Q).length ≤ D.length := hn.length_le_of_subset fun v hv => by
  rcases List.mem_append.1 hv with hv | hv
  ·exact (h v).2 (.inl (p2 v hv))
  ·exact q2 v hv
 have h2 : D.length ≤ (C ++ [x]).length := hD.length_le_of_subset fun v hv => by
  rcases (h v).1 hv with hv | hv
  ·exact List.mem_append.2 (.inl hv)
  ·exact List.mem_append.2 (.inr (by simp [hv]))
 have h3 : C.length ≤ D.length := hC.length_le_of_subset fun v hv => (h v).2 (.inl hv)
 simp at h1 h2
 omega
theorem near_meet {C D P Q : List Int} (hC : C.Nodup) (hD : D.Nodup) (h : Near C D) (hP : Maj C P) (hQ : Maj D Q) : ∃ v, v ∈ P ∧ v ∈ Q := by
 rcases h with h | ⟨x, h⟩ | ⟨x, h⟩
 ·by_cases he : ∃ x, x ∈ C
  ·obtain ⟨x, hx⟩ := he
   exact near_meet_one hC x (fun y => by
     rw [← h y]
     exact ⟨.inl, fun e => e.elim id fun e => e ▸ hx⟩) hD hP hQ
  ·obtain ⟨_, p2, p3⟩ := hP
   cases P with
   | nil => simp at p3
   | cons v l => exact absurd ⟨v, p2 v (by simp)⟩ he
 ·exact near_meet_one hC x h hD hP hQ
 ·obtain ⟨v, h1, h2⟩ := near_meet_one hD x h hC hQ hP
  exact ⟨v, h2, h1⟩
section
variable {ε : Type} (tm : ε → Nat) (cf : ε → Option (List Int)) (C0 : List Int)
def tmAt (l : List ε) (k : Nat) : Nat := if k = 0 then 0 else ((l[k - 1]?).map tm).getD 0
def cfAt (l : List ε) (k : Nat) : Option (List Int) := if k = 0 then none else (l[k - 1]?).bind cf
def confTo (l : List ε) : Nat → List Int
 | 0 => C0
 | n + 1 => (cfAt cf l (n + 1)).getD (confTo l n)
def confOf (l : List ε) : List Int := confTo cf C0 l l.length
def lastTX (l : List ε) : Nat := tmAt tm l l.length
def SameTo (X Y : List ε) (i : Nat) : Prop := i ≤ X.length ∧ i ≤ Y.length ∧ X.take i = Y.take i
variable {tm cf C0}
theorem SameTo.get {X Y : List ε} {i : Nat} (h : SameTo X Y i) {k : Nat} (hk : k < i) : X[k]? = Y[k]? := by
 have := congrArg (fun l : List ε => l[k]?) h.2.2
 simpa [List.getElem?_take, hk] using this
theorem SameTo.term {X Y : List ε} {i : Nat} (h : SameTo X Y i) {k : Nat} (hk : k ≤ i) : tmAt tm X k = tmAt tm Y k := by
 unfold tmAt
 split
 ·rfl
 ·rw [h.get (by omega)]
theorem SameTo.cfg {X Y : List ε} {i : Nat} (h : SameTo X Y i) {k : Nat} (hk : k ≤ i) : cfAt cf X k = cfAt cf Y k := by
 unfold cfAt
 split
 ·rfl
 ·rw [h.get (by omega)]
theorem SameTo.symm {X Y : List ε} {i : Nat} (h : SameTo X Y i) : SameTo Y X i := ⟨h.2.1, h.1, h.2.2.symm⟩
theorem SameTo.trans {X Y Z : List ε} {i : Nat} (h : SameTo X Y i) (k : SameTo Y Z i) : SameTo X Z i := ⟨h.1, k.2.1, h.2.2.trans k.2.2⟩
theorem SameTo.mono {X Y : List ε} {i j : Nat} (h : SameTo X Y i) (hj : j ≤ i) : SameTo X Y j := ⟨by have := h.1; omega, by have := h.2.1; omega, by
  have := congrArg (List.take j) h.2.2
  simpa [List.take_take, Nat.min_eq_left hj] using this⟩
theorem SameTo.refl {X : List ε} {i : Nat} (h : i ≤ X.length) : SameTo X X i := ⟨h, h, rfl⟩
theorem SameTo.take (X : List ε) {i j : Nat} (hi : i ≤ j) (hj : j ≤ X.length) : SameTo (X.take j) X i := ⟨by simp; omega, by omega, by simp [List.take_take, Nat.min_eq_left hi]⟩
theorem SameTo.app (X Y : List ε) {i : Nat} (h : i ≤ X.length) : SameTo X (X ++ Y) i := ⟨h, by simp; omega, by rw [List.take_append_of_le_length h]⟩
theorem SameTo.conf {X Y : List ε} {i : Nat} (h : SameTo X Y i) : ∀ {k : Nat}, k ≤ i → confTo cf C0 X k = confTo cf C0 Y k
 | 0, _ => rfl
 | k + 1, hk => by rw [confTo, confTo, h.cfg hk, h.conf (k := k) (by omega)]
theorem conf_skip {X : List ε} {i : Nat} : ∀ {j : Nat}, i ≤ j → (∀ k, i < k → k ≤ j → cfAt cf X k = none) → confTo cf C0 X j = confTo cf C0 X i
 | 0, h, _ => by rw [Nat.le_zero.1 h]
 | j + 1, h, hn => by
  rcases Nat.lt_or_ge i (j + 1) with h1 | h1
  ·rw [confTo, hn (j + 1) h1 (Nat.le_refl _), Option.getD_none, conf_skip (by omega) fun k hk hk' => hn k hk (by omega)]
  ·rw [show i = j + 1 by omega]
theorem conf_last (X : List ε) : ∀ n : Nat, (∀ k, k ≤ n → cfAt cf X k = none) ∨ ∃ c K, 1 ≤ c ∧ c ≤ n ∧ cfAt cf X c = some K ∧ (∀ k, c < k → k ≤ n → cfAt cf X k = none) ∧ confTo cf C0 X n = K
 | 0 => .inl fun k hk => by simp [cfAt, Nat.le_zero.1 hk]
 | n + 1 => by
  cases h : cfAt cf X (n + 1) with
  | some K => exact .inr ⟨n + 1, K, by omega, Nat.le_refl _, h, fun k h1 h2 => by omega, by rw [confTo, h]; rfl⟩
  | none =>
   rcases conf_last X n with h1 | ⟨c, K, h1, h2, h3, h4, h5⟩
   ·exact .inl fun k hk => by
     rcases Nat.lt_or_ge k (n + 1) with h2 | h2
     ·exact h1 k (by omega)
     ·rw [show k = n + 1 by omega]; exact h
   ·exact .inr ⟨c, K, h1, by omega, h3, fun k hk hk' => by
      rcases Nat.lt_or_ge k (n + 1) with h6 | h6
      · exact h4 k hk (by omega)
      · rw [show k = n + 1 by omega]; exact h, by rw [confTo, h, Option.getD_none, h5]⟩
theorem cfAt_none {X : List ε} {k : Nat} (h : X.length < k) : cfAt cf X k = none := by
 unfold cfAt
 rw [if_neg (by omega), List.getElem?_eq_none (by omega)]
 rfl
end
structure Gh (ε : Type) where
 LL : Nat → List ε          -- a leader's log
 e0 : Nat → Nat             -- how long it was when it was elected
 el : Nat → Option Int      -- who leads
 R : Nat → List Int         -- who voted for it, as counted
 W : Int → Nat → List ε     -- a voter's log when it voted
 vt : Int → Nat → Int → Prop
 cd : Int → Nat → Option (List ε)  -- the log of one that stands
 Cm : Nat → Nat → Nat → Prop  -- of a term: up to where, and how long its log was
 A : Int → Nat → Nat → Prop   -- a node has the term's log up to an index
section
variable {ε : Type} (tm : ε → Nat) (cf : ε → Option (List Int)) (C0 : List Int) (g : Gh ε)
def Gh.L0 (t : Nat) : List ε := (g.LL t).take (g.e0 t)
def Gh.Has (s i : Nat) (X : List ε) : Prop := SameTo X (g.LL s) i
structure Coh (X : List ε) : Prop where
 el : ∀ k, 1 ≤ k → k ≤ X.length → g.el (tmAt tm X k) ≠ none ∧ g.Has (tmAt tm X k) k X
 mono : ∀ j k, j ≤ k → k ≤ X.length → tmAt tm X j ≤ tmAt tm X k
def UpTo (L W : List ε) : Prop := lastTX tm W < lastTX tm L ∨ (lastTX tm W = lastTX tm L ∧ W.length ≤ L.length)
structure GI : Prop where
 e0le : ∀ t, g.el t ≠ none → g.e0 t ≤ (g.LL t).length
 own : ∀ t, g.el t ≠ none → ∀ k, g.e0 t < k → k ≤ (g.LL t).length → tmAt tm (g.LL t) k = t
 old : ∀ t, g.el t ≠ none → ∀ k, k ≤ g.e0 t → tmAt tm (g.LL t) k < t
 coh : ∀ t, g.el t ≠ none → Coh tm g (g.LL t)
 maj : ∀ t, g.el t ≠ none → Maj (confTo cf C0 (g.LL t) (g.e0 t)) (g.R t)
 voted : ∀ t c, g.el t = some c → ∀ v ∈ g.R t, g.vt v t c
 upto : ∀ t, g.el t ≠ none → ∀ v ∈ g.R t, UpTo tm (g.L0 t) (g.W v t)
 wcoh : ∀ t, g.el t ≠ none → ∀ v ∈ g.R t, Coh tm g (g.W v t)
 went : ∀ t, g.el t ≠ none → ∀ v ∈ g.R t, ∀ s i, s < t → g.A v s i → (∀ u, s < u → u < t → g.el u ≠ none → g.Has s i (g.L0 u)) → g.Has s i (g.W v t)
 step : ∀ t, g.el t ≠ none → ∀ c K, g.e0 t < c → cfAt cf (g.LL t) c = some K → ∃ j m, g.Cm t j m ∧ m < c ∧ (∀ k, k < c → cfAt cf (g.LL t) k ≠ none → k ≤ j) ∧ Near (confTo cf C0 (g.LL t) (c - 1)) K
 nodup : ∀ t, g.el t ≠ none → ∀ k, (confTo cf C0 (g.LL t) k).Nodup
 once : ∀ v t c d, g.vt v t c → g.vt v t d → c = d
 cm : ∀ s i m, g.Cm s i m → g.el s ≠ none ∧ g.e0 s < i ∧ i ≤ m ∧ m ≤ (g.LL s).length ∧ ∃ Q, Maj (confTo cf C0 (g.LL s) m) Q ∧ ∀ v ∈ Q, g.A v s i
 ack : ∀ v s i, g.A v s i → g.el s ≠ none ∧ i ≤ (g.LL s).length
 adn : ∀ v s i j, g.A v s i → j ≤ i → g.A v s j
 cdw : ∀ c t L, g.cd c t = some L → Coh tm g L ∧ lastTX tm L < t
 vtw : ∀ v t c, g.vt v t c → ∃ L, g.cd c t = some L ∧ UpTo tm L (g.W v t) ∧ Coh tm g (g.W v t) ∧ ∀ s i, s < t → g.A v s i → (∀ u, s < u → u ≤ t → g.el u ≠ none → g.Has s i (g.L0 u)) → g.Has s i (g.W v t)
 elcd : ∀ t c, g.el t = some c → g.cd c t ≠ none
 lc : ∀ s i m, g.Cm s i m → ∀ t, s < t → g.el t ≠ none → g.Has s i (g.L0 t)
end
section
variable {ε : Type} {tm : ε → Nat} {cf : ε → Option (List Int)} {C0 : List Int} {g : Gh ε}
theorem GI.l0 (h : GI tm cf C0 g) {t : Nat} (ht : g.el t ≠ none) : SameTo (g.L0 t) (g.LL t) (g.e0 t) := SameTo.take _ (Nat.le_refl _) (h.e0le t ht)
theorem GI.l0len (h : GI tm cf C0 g) {t : Nat} (ht : g.el t ≠ none) : (g.L0 t).length = g.e0 t := by
 have := h.e0le t ht
 simp [Gh.L0]; omega
theorem Coh.same {X Y : List ε} (h : Coh tm g X) (hs : SameTo Y X Y.length) : Coh tm g Y := by
 refine ⟨fun k h1 h2 => ?_, fun j k h1 h2 => ?_⟩
 ·have := hs.2.1
  rw [hs.term h2]
  obtain ⟨a, b⟩ := h.el k h1 (by omega)
  exact ⟨a, (hs.mono h2).trans b⟩
 ·have := hs.2.1
  rw [hs.term (Nat.le_trans h1 h2), hs.term h2]
  exact h.mono j k h1 (by omega)
theorem GI.l0coh (h : GI tm cf C0 g) {t : Nat} (ht : g.el t ≠ none) : Coh tm g (g.L0 t) := (h.coh t ht).same (by rw [h.l0len ht]; exact h.l0 ht)
theorem GI.l0last (h : GI tm cf C0 g) {t : Nat} (ht : g.el t ≠ none) : lastTX tm (g.L0 t) < t := by
 unfold lastTX
 rw [h.l0len ht, (h.l0 ht).term (Nat.le_refl _)]
 exact h.old t ht _ (Nat.le_refl _)
theorem GI.lastOf (h : GI tm cf C0 g) {X : List ε} (hX : Coh tm g X) {k : Nat} (hk1 : 1 ≤ k) (hk : k ≤ X.length) : g.el (tmAt tm X k) ≠ none ∧ g.e0 (tmAt tm X k) < k ∧ SameTo X (g.LL (tmAt tm X k)) k := by
 obtain ⟨a, b⟩ := hX.el k hk1 hk
 refine ⟨a, ?_, b⟩
 rcases Nat.lt_or_ge (g.e0 (tmAt tm X k)) k with h1 | h1
 ·exact h1
 ·have := h.old _ a k h1
  rw [← b.term (Nat.le_refl _)] at this
  omega
theorem has_term (h : GI tm cf C0 g) {s i m : Nat} (hc : g.Cm s i m) {X : List ε} (hh : g.Has s i X) : tmAt tm X i = s := by
 obtain ⟨a, b, c, d, _⟩ := h.cm s i m hc
 rw [hh.term (Nat.le_refl _)]
 exact h.own s a i b (by omega)
theorem has_last (h : GI tm cf C0 g) {s i m : Nat} (hc : g.Cm s i m) {X : List ε} (hX : Coh tm g X) (hh : g.Has s i X) : s ≤ lastTX tm X ∧ i ≤ X.length := by
 have e := has_term h hc hh
 refine ⟨?_, hh.1⟩
 have := hX.mono i X.length hh.1 (Nat.le_refl _)
 unfold lastTX
 omega
end
section
variable {ε : Type} {tm : ε → Nat} {cf : ε → Option (List Int)} {C0 : List Int} {g : Gh ε}
theorem adj_end {X Y : List ε} {n p c J j : Nat} {K : List Int} (hs : SameTo X Y J) (hn : J ≤ n) (hX : ∀ k, J < k → k ≤ n → cfAt cf X k = none)
  (hc : J < c) (hj : j ≤ J) (hY : ∀ k, k < c → cfAt cf Y k ≠ none → k ≤ j) (hp : p = c - 1) (hk : Near (confTo cf C0 Y p) K) : Near (confTo cf C0 X n) K := by
 have e1 : confTo cf C0 X n = confTo cf C0 X J := conf_skip hn hX
 have e2 : confTo cf C0 Y p = confTo cf C0 Y J := conf_skip (by omega) fun k h1 h2 => Classical.byContradiction fun h => by have := hY k (by omega) h; omega
 rw [e1, hs.conf (Nat.le_refl _), ← e2]
 exact hk
theorem one_conf (h : GI tm cf C0 g) {Z : List ε} {q c : Nat} {K : List Int} (hZ : Coh tm g Z) (hq : q ≤ Z.length) (h1 : 1 ≤ c) (h2 : c ≤ q) (h3 : cfAt cf Z c = some K) :
  ∃ j m, g.Cm (tmAt tm Z c) j m ∧ m < c ∧ j ≤ m ∧ (∀ k, k < c → cfAt cf Z k ≠ none → k ≤ j) ∧ Near (confTo cf C0 Z (c - 1)) K ∧ SameTo Z (g.LL (tmAt tm Z c)) c ∧ tmAt tm Z c ≤ tmAt tm Z q := by
 obtain ⟨a, b, d⟩ := h.lastOf hZ h1 (by omega)
 rw [d.cfg (Nat.le_refl _)] at h3
 obtain ⟨j, m, f1, f2, f3, f4⟩ := h.step _ a c K b h3
 refine ⟨j, m, f1, f2, (h.cm _ _ _ f1).2.2.1, fun k hk hne => f3 k hk (by rwa [← d.cfg (by omega)]), ?_, d, hZ.mono c q h2 hq⟩
 rw [d.conf (by omega)]
 exact f4
theorem adj (h : GI tm cf C0 g) {X Y : List ε} {n p : Nat} (hX : Coh tm g X) (hY : Coh tm g Y) (hn : n ≤ X.length) (hp : p ≤ Y.length)
  (hXY : ∀ s j m, s ≤ tmAt tm X n → g.Cm s j m → m < n → g.Has s j Y ∧ j ≤ p) (hYX : ∀ s j m, s ≤ tmAt tm Y p → g.Cm s j m → m < p → g.Has s j X ∧ j ≤ n) : Near (confTo cf C0 X n) (confTo cf C0 Y p) := by
 rcases conf_last (cf := cf) (C0 := C0) X n with hx | ⟨c, K, c1, c2, c3, c4, c5⟩ <;> rcases conf_last (cf := cf) (C0 := C0) Y p with hy | ⟨d, L, d1, d2, d3, d4, d5⟩
 ·have e1 : confTo cf C0 X n = C0 := (conf_skip (Nat.zero_le n) fun k _ hk => hx k hk)
  have e2 : confTo cf C0 Y p = C0 := (conf_skip (Nat.zero_le p) fun k _ hk => hy k hk)
  rw [e1, e2]
  exact Near.refl _
 ·obtain ⟨j, m, f1, f2, f0, f3, f4, f5, f6⟩ := one_conf h hY hp d1 d2 d3
  obtain ⟨hh, hjn⟩ := hYX _ j m f6 f1 (by omega)
  have hs : SameTo X Y j := SameTo.trans hh (f5.mono (by omega)).symm
  rw [d5]
  exact adj_end hs hjn (fun k _ hk => hx k hk) (c := d) (j := j) (by omega) (Nat.le_refl _) f3 rfl f4
 ·obtain ⟨j, m, f1, f2, f0, f3, f4, f5, f6⟩ := one_conf h hX hn c1 c2 c3
  obtain ⟨hh, hjp⟩ := hXY _ j m f6 f1 (by omega)
  have hs : SameTo Y X j := SameTo.trans hh (f5.mono (by omega)).symm
  rw [c5]
  exact (adj_end hs hjp (fun k _ hk => hy k hk) (c := c) (j := j) (by omega) (Nat.le_refl _) f3 rfl f4).symm
 ·obtain ⟨j, m, f1, f2, f0, f3, f4, f5, f6⟩ := one_conf h hX hn c1 c2 c3
  obtain ⟨i, b, g1, g2, g0, g3, g4, g5, g6⟩ := one_conf h hY hp d1 d2 d3
  obtain ⟨hh, hjp⟩ := hXY _ j m f6 f1 (by omega)
  obtain ⟨hk, hin⟩ := hYX _ i b g6 g1 (by omega)
  have hs1 : SameTo X Y j := (f5.mono (by omega)).trans (SameTo.symm hh)
  have hs2 : SameTo X Y i := SameTo.trans hk (g5.mono (by omega)).symm
  have hJ : ∃ J, SameTo X Y J ∧ j ≤ J ∧ i ≤ J ∧ J ≤ n ∧ J ≤ p := by
   rcases Nat.le_total j i with hl | hl
   ·exact ⟨i, hs2, hl, Nat.le_refl _, hin, by omega⟩
   ·exact ⟨j, hs1, Nat.le_refl _, hl, by omega, hjp⟩
  obtain ⟨J, hs, q1, q2, q3, q4⟩ := hJ
  rcases Nat.lt_or_ge J c with r1 | r1 <;> rcases Nat.lt_or_ge J d with r2 | r2
  ·-- both behind what is shared: they are one
   have e1 := has_term h f1 hh
   have e2 := has_term h g1 hk
   have m1 := hY.mono j d (by omega) (by omega)
   have m2 := hX.mono i c (by omega) (by omega)
   have et : tmAt tm X c = tmAt tm Y d := by omega
   have hcd : c = d := by
    rcases Nat.lt_trichotomy c d with hl | hl | hl
    ·have hne : cfAt cf Y c ≠ none := by
      rw [g5.cfg (by omega), ← et, ← f5.cfg (Nat.le_refl _), c3]
      simp
     have := g3 c hl hne
     omega
    ·exact hl
    ·have hne : cfAt cf X d ≠ none := by
      rw [f5.cfg (by omega), et, ← g5.cfg (Nat.le_refl _), d3]
      simp
     have := f3 d hl hne
     omega
   subst hcd
   have : cfAt cf X c = cfAt cf Y c := by rw [f5.cfg (Nat.le_refl _), g5.cfg (Nat.le_refl _), et]
   rw [c3, d3] at this
   rw [c5, d5, Option.some.inj this]
   exact Near.refl _
  ·rw [c5]
   exact (adj_end hs.symm q4 (fun k h1 h2 => d4 k (by omega) h2) (c := c) (j := j) r1 q1 f3 rfl f4).symm
  ·rw [d5]
   exact adj_end hs q3 (fun k h1 h2 => c4 k (by omega) h2) (c := d) (j := i) r2 q2 g3 rfl g4
  ·rw [conf_skip (C0 := C0) q3 fun k h1 h2 => c4 k (by omega) h2, conf_skip (C0 := C0) q4 fun k h1 h2 => d4 k (by omega) h2, hs.conf (Nat.le_refl _)]
   exact Near.refl _
end
end
section
section
variable {ε : Type} {tm : ε → Nat} {cf : ε → Option (List Int)} {C0 : List Int} {g : Gh ε}
structure Run (tm : ε → Nat) (cf : ε → Option (List Int)) (C0 : List Int) (g : Gh ε) (t : Nat) (L : List ε) (Rv : List Int) (W : Int → List ε) : Prop where
 coh : Coh tm g L
 last : lastTX tm L < t
 maj : Maj (confOf cf C0 L) Rv
 nodup : (confOf cf C0 L).Nodup
 wcoh : ∀ v ∈ Rv, Coh tm g (W v)
 upto : ∀ v ∈ Rv, UpTo tm L (W v)
 went : ∀ v ∈ Rv, ∀ s i, s < t → g.A v s i → (∀ u, s < u → u ≤ t → g.el u ≠ none → g.Has s i (g.L0 u)) → g.Has s i (W v)
theorem run_has (h : GI tm cf C0 g) {t : Nat} {L : List ε} {Rv : List Int} {W : Int → List ε} (hr : Run tm cf C0 g t L Rv W) : ∀ s i m, g.Cm s i m → s < t → g.Has s i L := by
 intro s
 induction s using Nat.strongRecOn with
 | ind s ih =>
  intro i m hc hst
  obtain ⟨hes, hi0, him, hml, _⟩ := h.cm s i m hc
  have hpos : 0 < s := by have := h.old s hes 0 (Nat.zero_le _); omega
  rcases Nat.lt_trichotomy s (lastTX tm L) with hu | hu | hu
  ·-- the last entry's leader has it
   have hl1 : 1 ≤ L.length := by
    rcases Nat.eq_zero_or_pos L.length with h0 | h0
    ·simp [lastTX, tmAt, h0] at hu
    ·exact h0
   obtain ⟨a, b, c⟩ := h.lastOf hr.coh hl1 (Nat.le_refl _)
   rw [show tmAt tm L L.length = lastTX tm L from rfl] at a b c
   have hh := h.lc s i m hc _ hu a
   have h1 : i ≤ g.e0 (lastTX tm L) := by have := hh.1; rwa [h.l0len a] at this
   exact ((c.mono (by omega)).trans ((h.l0 a).mono h1).symm).trans hh
  ·-- of its own term
   have hl1 : 1 ≤ L.length := by
    rcases Nat.eq_zero_or_pos L.length with h0 | h0
    ·simp [lastTX, tmAt, h0] at hu; omega
    ·exact h0
   obtain ⟨a, b, c⟩ := h.lastOf hr.coh hl1 (Nat.le_refl _)
   have e : tmAt tm L L.length = s := hu.symm
   rw [e] at b c
   rcases Nat.lt_or_ge L.length i with hli | hli
   rotate_left
   ·exact c.mono hli
   exfalso
   obtain ⟨m', ⟨i', hc', hi'⟩, hmin⟩ := exists_min (P := fun m => ∃ i, g.Cm s i m ∧ L.length < i) ⟨m, i, hc, hli⟩
   obtain ⟨_, q1, q2, q3, Q, hQ, hA⟩ := h.cm s i' m' hc'
   have hnear : Near (confOf cf C0 L) (confTo cf C0 (g.LL s) m') := by
    have e1 : confOf cf C0 L = confTo cf C0 (g.LL s) L.length := c.conf (Nat.le_refl _)
    rw [e1]
    rcases conf_last (cf := cf) (C0 := C0) (g.LL s) m' with hn | ⟨d, K, d1, d2, d3, d4, d5⟩
    ·rw [conf_skip (C0 := C0) (i := L.length) (by omega) fun k _ hk => hn k hk]
     exact Near.refl _
    ·rcases Nat.lt_or_ge L.length d with hd | hd
     ·obtain ⟨j, b2, f1, f2, f3, f4⟩ := h.step s hes d K (by omega) d3
      have hj : j ≤ L.length := Classical.byContradiction fun hj => hmin b2 (by omega) ⟨j, f1, by omega⟩
      rw [d5]
      rw [conf_skip (C0 := C0) (i := L.length) (j := d - 1) (by omega) fun k h1 h2 => Classical.byContradiction fun hk => by have := f3 k (by omega) hk; omega] at f4
      exact f4
     ·rw [conf_skip (C0 := C0) (i := L.length) (by omega) fun k h1 h2 => d4 k (by omega) h2]
      exact Near.refl _
   obtain ⟨v, v1, v2⟩ := near_meet hr.nodup (h.nodup s hes m') hnear hr.maj hQ
   have hw := hr.went v v1 s i' hst (hA v v2) fun u h1 h2 h3 => h.lc s i' m' hc' u h1 h3
   obtain ⟨w1, w2⟩ := has_last h hc' (hr.wcoh v v1) hw
   rcases hr.upto v v1 with hup | ⟨_, hup⟩
   ·omega
   ·omega
  ·-- of an earlier one: it can't be
   exfalso
   obtain ⟨m', ⟨i', hc'⟩, hmin⟩ := exists_min (P := fun m => ∃ i, g.Cm s i m) ⟨m, i, hc⟩
   obtain ⟨_, q1, q2, q3, Q, hQ, hA⟩ := h.cm s i' m' hc'
   have e1 : confTo cf C0 (g.LL s) m' = confTo cf C0 (g.L0 s) (g.e0 s) := by
    rw [(h.l0 hes).conf (Nat.le_refl _)]
    refine conf_skip (by omega) fun k h1 h2 => Classical.byContradiction fun hk => ?_
    cases hK : cfAt cf (g.LL s) k with
    | none => exact hk hK
    | some K =>
     obtain ⟨j, b2, f1, f2, _⟩ := h.step s hes k K h1 hK
     exact hmin b2 (by omega) ⟨j, f1⟩
   have hl0 := h.l0last hes
   have hnear : Near (confOf cf C0 L) (confTo cf C0 (g.LL s) m') := by
    rw [e1]
    refine adj h hr.coh (h.l0coh hes) (Nat.le_refl _) (by rw [h.l0len hes]; exact Nat.le_refl _) (fun r j b2 hr1 hc2 _ => ?_) fun r j b2 hr1 hc2 _ => ?_
    ·have : r < s := by unfold lastTX at hu; omega
     have hh := h.lc r j b2 hc2 s this hes
     exact ⟨hh, by have := hh.1; rwa [h.l0len hes] at this⟩
    ·have : r < s := by rw [← h.l0len hes] at hr1; unfold lastTX at hl0; omega
     have hh := ih r this j b2 hc2 (by omega)
     exact ⟨hh, hh.1⟩
   obtain ⟨v, v1, v2⟩ := near_meet hr.nodup (h.nodup s hes m') hnear hr.maj hQ
   have hw := hr.went v v1 s i' hst (hA v v2) fun u h1 h2 h3 => h.lc s i' m' hc' u h1 h3
   obtain ⟨w1, w2⟩ := has_last h hc' (hr.wcoh v v1) hw
   rcases hr.upto v v1 with hup | ⟨hup, _⟩ <;> omega
theorem run_one (h : GI tm cf C0 g) {t : Nat} {L : List ε} {Rv : List Int} {W : Int → List ε} (hr : Run tm cf C0 g t L Rv W) {c d : Int} (hv : ∀ v ∈ Rv, g.vt v t c) (he : g.el t = some d) : c = d := by
 have het : g.el t ≠ none := by rw [he]; simp
 have hl := h.l0last het
 have hnear : Near (confOf cf C0 L) (confTo cf C0 (g.LL t) (g.e0 t)) := by
  rw [← (h.l0 het).conf (Nat.le_refl _)]
  refine adj h hr.coh (h.l0coh het) (Nat.le_refl _) (by rw [h.l0len het]; exact Nat.le_refl _) (fun r j b2 hr1 hc2 _ => ?_) fun r j b2 hr1 hc2 _ => ?_
  ·have : r < t := by have := hr.last; unfold lastTX at this; omega
   have hh := h.lc r j b2 hc2 t this het
   exact ⟨hh, by have := hh.1; rwa [h.l0len het] at this⟩
  ·have : r < t := by rw [← h.l0len het] at hr1; unfold lastTX at hl; omega
   have hh := run_has h hr r j b2 hc2 this
   exact ⟨hh, hh.1⟩
 obtain ⟨v, v1, v2⟩ := near_meet hr.nodup (h.nodup t het _) hnear hr.maj (h.maj t het)
 exact h.once v t c d (hv v v1) (h.voted t d he v v2)
theorem commit_has (h : GI tm cf C0 g) {s i m : Nat} (hes : g.el s ≠ none) (hi0 : g.e0 s < i) (him : i ≤ m) (hml : m ≤ (g.LL s).length) {Q : List Int} (hQ : Maj (confTo cf C0 (g.LL s) m) Q) (hA : ∀ v ∈ Q, g.A v s i) :
  ∀ t, s < t → g.el t ≠ none → g.Has s i (g.L0 t) := by
 intro t
 induction t using Nat.strongRecOn with
 | ind t ih =>
  intro hst het
  have hpos : 0 < s := by have := h.old s hes 0 (Nat.zero_le _); omega
  have hlen := h.l0len het
  have hco := h.l0coh het
  have hown : ∀ {X : List ε}, g.Has s i X → tmAt tm X i = s := fun hh => by
   rw [hh.term (Nat.le_refl _)]
   exact h.own s hes i hi0 (by omega)
  -- a voter that has it
  have meet : Near (confTo cf C0 (g.LL s) m) (confTo cf C0 (g.LL t) (g.e0 t)) → ∃ v ∈ g.R t, s ≤ lastTX tm (g.W v t) ∧ (lastTX tm (g.W v t) = s → i ≤ (g.W v t).length) := fun hn => by
   obtain ⟨v, v1, v2⟩ := near_meet (h.nodup s hes m) (h.nodup t het _) hn hQ (h.maj t het)
   have hw := h.went t het v v2 s i hst (hA v v1) fun u h1 h2 h3 => ih u h2 h1 h3
   refine ⟨v, v2, ?_, fun _ => hw.1⟩
   have := (h.wcoh t het v v2).mono i _ hw.1 (Nat.le_refl _)
   have e := hown hw
   unfold lastTX
   omega
  rcases Nat.lt_trichotomy s (lastTX tm (g.L0 t)) with hu | hu | hu
  ·have hl1 : 1 ≤ (g.L0 t).length := by
    rcases Nat.eq_zero_or_pos (g.L0 t).length with h0 | h0
    ·simp [lastTX, tmAt, h0] at hu
    ·exact h0
   obtain ⟨a, b, c⟩ := h.lastOf hco hl1 (Nat.le_refl _)
   rw [show tmAt tm (g.L0 t) (g.L0 t).length = lastTX tm (g.L0 t) from rfl] at a b c
   have hlt := h.l0last het
   have hh := ih _ hlt hu a
   have h1 : i ≤ g.e0 (lastTX tm (g.L0 t)) := by have := hh.1; rwa [h.l0len a] at this
   exact ((c.mono (by omega)).trans ((h.l0 a).mono h1).symm).trans hh
  ·have hl1 : 1 ≤ (g.L0 t).length := by
    rcases Nat.eq_zero_or_pos (g.L0 t).length with h0 | h0
    ·simp [lastTX, tmAt, h0] at hu; omega
    ·exact h0
   obtain ⟨a, b, c⟩ := h.lastOf hco hl1 (Nat.le_refl _)
   have e : tmAt tm (g.L0 t) (g.L0 t).length = s := hu.symm
   rw [e] at b c
   rcases Nat.lt_or_ge (g.L0 t).length i with hli | hli
   rotate_left
   ·exact c.mono hli
   exfalso
   have hnear : Near (confTo cf C0 (g.LL s) m) (confTo cf C0 (g.LL t) (g.e0 t)) := by
    have e1 : confTo cf C0 (g.LL t) (g.e0 t) = confTo cf C0 (g.LL s) (g.L0 t).length := by
     rw [← (h.l0 het).conf (Nat.le_refl _), ← hlen]
     exact c.conf (Nat.le_refl _)
    rw [e1]
    rcases conf_last (cf := cf) (C0 := C0) (g.LL s) m with hn | ⟨d, K, d1, d2, d3, d4, d5⟩
    ·rw [conf_skip (C0 := C0) (i := (g.L0 t).length) (j := m) (by omega) fun k _ hk => hn k hk]
     exact Near.refl _
    ·rcases Nat.lt_or_ge (g.L0 t).length d with hd | hd
     ·obtain ⟨j, b2, f1, f2, f3, f4⟩ := h.step s hes d K (by omega) d3
      have hj : j ≤ (g.L0 t).length := (h.lc s j b2 f1 t hst het).1
      rw [d5]
      rw [conf_skip (C0 := C0) (i := (g.L0 t).length) (j := d - 1) (by omega) fun k h1 h2 => Classical.byContradiction fun hk => by have := f3 k (by omega) hk; omega] at f4
      exact f4.symm
     ·rw [conf_skip (C0 := C0) (i := (g.L0 t).length) (j := m) (by omega) fun k h1 h2 => d4 k (by omega) h2]
      exact Near.refl _
   obtain ⟨v, v2, w1, w2⟩ := meet hnear
   rcases h.upto t het v v2 with hup | ⟨hup, hup2⟩
   ·omega
   ·have := w2 (by omega)
    omega
  ·exfalso
   have none_ : ∀ j b2, ¬ g.Cm s j b2 := fun j b2 hc => by
    have := (has_last h hc hco (h.lc s j b2 hc t hst het)).1
    omega
   have e1 : confTo cf C0 (g.LL s) m = confTo cf C0 (g.L0 s) (g.e0 s) := by
    rw [(h.l0 hes).conf (Nat.le_refl _)]
    refine conf_skip (by omega) fun k h1 h2 => Classical.byContradiction fun hk => ?_
    cases hK : cfAt cf (g.LL s) k with
    | none => exact hk hK
    | some K =>
     obtain ⟨j, b2, f1, _⟩ := h.step s hes k K h1 hK
     exact none_ j b2 f1
   have hl0 := h.l0last hes
   have hnear : Near (confTo cf C0 (g.LL s) m) (confTo cf C0 (g.LL t) (g.e0 t)) := by
    rw [e1, ← (h.l0 het).conf (Nat.le_refl _)]
    refine adj h (h.l0coh hes) hco (by rw [h.l0len hes]; exact Nat.le_refl _) (by omega) (fun r j b2 hr1 hc2 _ => ?_) fun r j b2 hr1 hc2 _ => ?_
    ·have : r < s := by rw [← h.l0len hes] at hr1; unfold lastTX at hl0; omega
     have hh := h.lc r j b2 hc2 t (by omega) het
     exact ⟨hh, by have := hh.1; omega⟩
    ·have : r < s := by rw [← hlen] at hr1; unfold lastTX at hu; omega
     have hh := h.lc r j b2 hc2 s this hes
     exact ⟨hh, by have := hh.1; rwa [h.l0len hes] at this⟩
   obtain ⟨v, v2, w1, _⟩ := meet hnear
   rcases h.upto t het v v2 with hup | ⟨hup, _⟩ <;> omega
end
end
end Go.Proofs.YtdjooojpcepleaaGreat

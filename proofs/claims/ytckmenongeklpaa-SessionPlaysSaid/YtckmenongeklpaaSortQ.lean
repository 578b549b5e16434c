/- Rows that are sorted but for holes: plain lemmas for slices.Sort at []uint64. -/
import Derived.Sort.LotA
namespace Go.Proofs.Ytckmenongeklpaa
open Go.Sort

/-- All pairs but those of H are in order. -/
def InO (H : Nat → Nat → Prop) (d : Array Int) : Prop := ∀ s t, s < t → t < d.size → H s t ∨ d[s]! ≤ d[t]!

/-- Both places lie in a part. -/
def Both (a b : Nat) (s t : Nat) : Prop := a ≤ s ∧ s < b ∧ a ≤ t ∧ t < b

theorem InO.mono {H K : Nat → Nat → Prop} {d : Array Int} (h : InO H d) (hk : ∀ s t, H s t → K s t) : InO K d :=
  fun s t hst ht => (h s t hst ht).imp (hk s t) id

theorem InO.perm {H : Nat → Nat → Prop} {d d' : Array Int} {x y : Nat} (h : InO H d) (hy : y ≤ d.size) (hp : PermIn x y d d')
    (h0 : ∀ s t, Both x y s t → H s t) (h1 : ∀ s t t', ¬ (x ≤ s ∧ s < y) → (x ≤ t ∧ t < y) → (x ≤ t' ∧ t' < y) → H s t → H s t')
    (h2 : ∀ s s' t, ¬ (x ≤ t ∧ t < y) → (x ≤ s ∧ s < y) → (x ≤ s' ∧ s' < y) → H s t → H s' t) : InO H d' := by
  obtain ⟨hs, ho, hpp⟩ := id hp
  intro s t hst ht
  rw [hs] at ht
  by_cases is : x ≤ s ∧ s < y
  · by_cases it : x ≤ t ∧ t < y
    · exact .inl (h0 s t ⟨is.1, is.2, it.1, it.2⟩)
    · by_cases hH : H s t
      · exact .inl hH
      right
      rw [ho t (by omega)]
      exact permIn_all d d' x y (fun v => v ≤ d[t]!) hy hp (fun i hi1 hi2 => by
        rcases h i t (by omega) ht with h' | h'
        · exact absurd (h2 i s t it ⟨hi1, hi2⟩ is h') hH
        · exact h') s is.1 is.2
  · by_cases it : x ≤ t ∧ t < y
    · by_cases hH : H s t
      · exact .inl hH
      right
      rw [ho s (by omega)]
      exact permIn_all d d' x y (fun v => d[s]! ≤ v) hy hp (fun i hi1 hi2 => by
        rcases h s i (by omega) (by omega) with h' | h'
        · exact absurd (h1 s i t is ⟨hi1, hi2⟩ it h') hH
        · exact h') t it.1 it.2
    · rw [ho s (by omega), ho t (by omega)]
      exact h s t hst ht

theorem InO.fill {H K : Nat → Nat → Prop} {d : Array Int} {x y : Nat} (h : InO H d) (hs : SortedIn ltInt x y d) (hk : ∀ s t, H s t → K s t ∨ Both x y s t) : InO K d := by
  intro s t hst ht
  rcases h s t hst ht with h' | h'
  · rcases hk s t h' with h'' | ⟨h1, h2, h3, h4⟩
    · exact .inl h''
    · right
      have := hs s t h1 hst h4
      simp [ltInt] at this
      omega
  · exact .inr h'

/-- The partition leaves two holes. -/
theorem InO.part {d d' : Array Int} {a b mid : Nat} (h : InO (Both a b) d) (hb : b ≤ d.size) (hp : PermIn a b d d') (h1 : a ≤ mid) (h2 : mid < b)
    (hl : ∀ i, a ≤ i → i < mid → d'[i]! < d'[mid]!) (hr : ∀ i, mid < i → i < b → d'[mid]! ≤ d'[i]!) : InO (fun s t => Both a mid s t ∨ Both (mid + 1) b s t) d' := by
  have h' := h.perm hb hp (fun _ _ h => h) (fun s t t' hs ht ht' hh => absurd ⟨hh.1, hh.2.1⟩ hs) (fun s s' t ht hs hs' hh => absurd ⟨hh.2.2.1, hh.2.2.2⟩ ht)
  intro s t hst ht
  rcases h' s t hst ht with ⟨g1, g2, g3, g4⟩ | g
  · rcases Nat.lt_trichotomy s mid with c | c | c
    · rcases Nat.lt_trichotomy t mid with e | e | e
      · exact .inl (.inl ⟨g1, c, g3, e⟩)
      · right; subst e; have := hl s g1 c; omega
      · right; have := hl s g1 c; have := hr t e g4; omega
    · right; subst c; exact hr t (by omega) g4
    · exact .inl (.inr ⟨c, g2, by omega, g4⟩)
  · exact .inr g

theorem InO.all {a b : Nat} {d : Array Int} (h : InO (Both a b) d) (hs : SortedIn ltInt a b d) : SortedIn ltInt 0 d.size d := by
  have h' : InO (fun _ _ => False) d := h.fill hs (fun s t g => .inr g)
  intro i j _ hij hj
  rcases h' i j hij hj with g | g
  · exact g.elim
  · simp [ltInt]; omega

theorem InO.start (d : Array Int) : InO (Both 0 d.size) d := fun s t hst ht => .inl ⟨by omega, by omega, by omega, ht⟩

/-- No two alike. -/
def Nd (d : Array Int) : Prop := d.toList.Nodup

theorem Nd.ne {d : Array Int} (h : Nd d) {i j : Nat} (hi : i < d.size) (hj : j < d.size) (hne : i ≠ j) : d[i]! ≠ d[j]! := by
  intro e
  rw [getElem!_pos d i hi, getElem!_pos d j hj] at e
  exact hne ((List.getElem_inj (h₀ := by simpa using hi) (h₁ := by simpa using hj) h).1 (by simpa using e))

theorem Nd.perm {d d' : Array Int} (h : Nd d) (hp : PermIn 0 d.size d d') : Nd d' := by
  obtain ⟨hs, _, hpp⟩ := hp
  have e1 : (d'.extract 0 d.size).toList = d'.toList := by rw [← hs]; simp
  have e2 : (d.extract 0 d.size).toList = d.toList := by simp
  rw [e1, e2] at hpp
  exact hpp.nodup_iff.2 h

end Go.Proofs.Ytckmenongeklpaa

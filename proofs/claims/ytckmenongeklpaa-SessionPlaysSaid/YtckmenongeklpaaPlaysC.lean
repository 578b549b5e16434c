/- A table's bytes by definition (package session's law): plain laws. -/
import Derived.Test.YtckmenongeklpaaPlaysB
namespace Go.Proofs.Ytckmenongeklpaa
open Go.RowKit Go.Maps Go.ChangeMaps

/-- The greatest client so far. -/
def lastK (ys : List Int) (k : Nat) : Int := if k = 0 then 0 else ys.getD (k - 1) 0

theorem lastK_lt {ys : List Int} (hr : ys.Pairwise (· < ·)) (hp : ∀ y ∈ ys, 0 < y) {k q : Nat} (hkq : k ≤ q) {y : Int} (hy : ys[q]? = some y) : lastK ys k < y := by
  have hq := (List.getElem?_eq_some_iff.1 hy).1
  have e : ys[q] = y := (List.getElem?_eq_some_iff.1 hy).2
  unfold lastK
  split
  · rw [← e]; exact hp _ (List.getElem_mem hq)
  · have h := List.pairwise_iff_getElem.1 hr (k - 1) q (by omega) hq (by omega)
    rw [List.getD_eq_getElem?_getD, List.getElem?_eq_getElem (by omega)]
    simp only [Option.getD_some]
    omega

theorem lastK_ge {ys : List Int} (hr : ys.Pairwise (· < ·)) {k q : Nat} (hkq : q < k) (hk : k ≤ ys.length) {y : Int} (hy : ys[q]? = some y) : y ≤ lastK ys k := by
  have hq := (List.getElem?_eq_some_iff.1 hy).1
  have e : ys[q] = y := (List.getElem?_eq_some_iff.1 hy).2
  unfold lastK
  rw [if_neg (by omega), List.getD_eq_getElem?_getD, List.getElem?_eq_getElem (by omega)]
  simp only [Option.getD_some]
  rcases Nat.lt_or_ge q (k - 1) with h | h
  · have := List.pairwise_iff_getElem.1 hr q (k - 1) hq (by omega) h
    omega
  · have : q = k - 1 := by omega
    subst this
    omega

/-- The least client above a number, of the first ones. -/
def BestP (L : List (Int × (Int × Ans))) (last : Int) (j : Nat) (b : Int) : Prop :=
  (b = -1 ∧ ∀ i p, i < j → L[i]? = some p → p.1 ≤ last) ∨
  ∃ (i : Nat) (p : Int × (Int × Ans)), b = i ∧ i < j ∧ L[i]? = some p ∧ last < p.1 ∧ ∀ i' p', i' < j → L[i']? = some p' → last < p'.1 → p.1 ≤ p'.1

theorem best_none {L : List (Int × (Int × Ans))} {ys : List Int} (hp : ys.Perm (keys L)) (hr : ys.Pairwise (· < ·)) (h0 : ∀ y ∈ ys, 0 < y) {k : Nat} (hk : k ≤ ys.length)
    (h : ∀ i p, i < L.length → L[i]? = some p → p.1 ≤ lastK ys k) : k = ys.length := by
  rcases Nat.lt_or_ge k ys.length with hlt | hge
  · have hy : ys[k]? = some ys[k] := by simp [hlt]
    have h1 := lastK_lt hr h0 (Nat.le_refl k) hy
    have hm : ys[k] ∈ keys L := hp.mem_iff.1 (List.getElem_mem hlt)
    obtain ⟨p, hpm, e⟩ := List.mem_map.1 hm
    obtain ⟨i, hi, hip⟩ := List.getElem_of_mem hpm
    have := h i p hi (by rw [List.getElem?_eq_getElem hi, hip])
    omega
  · omega

theorem best_some {L : List (Int × (Int × Ans))} {ys : List Int} (hp : ys.Perm (keys L)) (hr : ys.Pairwise (· < ·)) (h0 : ∀ y ∈ ys, 0 < y) {k : Nat} (hk : k ≤ ys.length) {i : Nat} {p : Int × (Int × Ans)} (hi : L[i]? = some p) (hlt : lastK ys k < p.1)
    (h : ∀ i' p', i' < L.length → L[i']? = some p' → lastK ys k < p'.1 → p.1 ≤ p'.1) : ys[k]? = some p.1 := by
  have hm : p.1 ∈ ys := hp.mem_iff.2 (List.mem_map.2 ⟨p, List.mem_of_getElem? hi, rfl⟩)
  obtain ⟨q, hq, e⟩ := List.getElem_of_mem hm
  have hqy : ys[q]? = some p.1 := by rw [List.getElem?_eq_getElem hq, e]
  have hkq : k ≤ q := by
    rcases Nat.lt_or_ge q k with h' | h'
    · have := lastK_ge hr h' hk hqy; omega
    · exact h'
  have hy : ys[k]? = some ys[k] := by simp [Nat.lt_of_le_of_lt hkq hq]
  have h1 := lastK_lt hr h0 (Nat.le_refl k) hy
  have hm2 : ys[k] ∈ keys L := hp.mem_iff.1 (List.getElem_mem (Nat.lt_of_le_of_lt hkq hq))
  obtain ⟨p', hpm, e'⟩ := List.mem_map.1 hm2
  obtain ⟨i', hi', hip'⟩ := List.getElem_of_mem hpm
  have h2 := h i' p' hi' (by rw [List.getElem?_eq_getElem hi', hip']) (by omega)
  rcases Nat.lt_or_ge k q with h3 | h3
  · have := List.pairwise_iff_getElem.1 hr k q (by omega) hq h3
    omega
  · obtain rfl : k = q := by omega
    exact hqy

theorem lastK_succ {ys : List Int} {k : Nat} {y : Int} (hy : ys[k]? = some y) : lastK ys (k + 1) = y := by
  unfold lastK
  rw [if_neg (by omega), Nat.add_sub_cancel, List.getD_eq_getElem?_getD, hy]
  rfl

/-- How many are above. -/
def cntAbove (ys : List Int) (x : Int) : Nat := (ys.filter fun y => decide (x < y)).length

theorem cnt_lt : ∀ {ys : List Int} {x y : Int}, x < y → y ∈ ys → cntAbove ys y < cntAbove ys x
  | z :: zs, x, y, h, hm => by
    have mono : ∀ l : List Int, cntAbove l y ≤ cntAbove l x := fun l => by
      unfold cntAbove
      induction l with
      | nil => simp
      | cons a l ih =>
        simp only [List.filter_cons]
        by_cases h1 : y < a
        · have h2 : x < a := by omega
          simp [h1, h2]; omega
        · by_cases h2 : x < a
          · simp [h1, h2]; omega
          · simp [h1, h2]; omega
    rcases List.mem_cons.1 hm with rfl | hm
    · have := mono zs
      unfold cntAbove at this ⊢
      simp [List.filter_cons, h]
      omega
    · have ih := cnt_lt h hm
      unfold cntAbove at ih ⊢
      simp only [List.filter_cons]
      by_cases h1 : y < z
      · have h2 : x < z := by omega
        simp [h1, h2]; omega
      · by_cases h2 : x < z
        · simp [h1, h2]; omega
        · simp [h1, h2]; omega

theorem BestP.start (L : List (Int × (Int × Ans))) (last : Int) : BestP L last 0 (-1) := .inl ⟨rfl, fun i p hi => by omega⟩

theorem BestP.take {L : List (Int × (Int × Ans))} {last : Int} {j : Nat} {b : Int} (h : BestP L last j b) {p : Int × (Int × Ans)} (hp : L[j]? = some p) (h1 : last < p.1) (h2 : b < 0 ∨ ∃ q, L[b.toNat]? = some q ∧ p.1 < q.1) : BestP L last (j + 1) j := by
  refine .inr ⟨j, p, rfl, by omega, hp, h1, fun i' p' hi hp' hl => ?_⟩
  rcases Nat.lt_or_ge i' j with h3 | h3
  · rcases h with ⟨hb, hn⟩ | ⟨i, q, hb, hi2, hq, hlq, hmin⟩
    · have := hn i' p' h3 hp'; omega
    · have h4 := hmin i' p' h3 hp' hl
      rcases h2 with h2 | ⟨q', hq', hlt⟩
      · omega
      · have e : b.toNat = i := by omega
        rw [e, hq] at hq'
        cases hq'
        omega
  · obtain rfl : i' = j := by omega
    rw [hp] at hp'
    cases hp'
    exact Int.le_refl _

theorem BestP.skip {L : List (Int × (Int × Ans))} {last : Int} {j : Nat} {b : Int} (h : BestP L last j b) {p : Int × (Int × Ans)} (hp : L[j]? = some p) (h1 : p.1 ≤ last ∨ (0 ≤ b ∧ ∃ q, L[b.toNat]? = some q ∧ q.1 ≤ p.1)) : BestP L last (j + 1) b := by
  rcases h with ⟨hb, hn⟩ | ⟨i, q, hb, hi2, hq, hlq, hmin⟩
  · refine .inl ⟨hb, fun i' p' hi hp' => ?_⟩
    rcases Nat.lt_or_ge i' j with h3 | h3
    · exact hn i' p' h3 hp'
    · obtain rfl : i' = j := by omega
      rw [hp] at hp'
      cases hp'
      rcases h1 with h1 | ⟨h1, _⟩
      · exact h1
      · omega
  · refine .inr ⟨i, q, hb, by omega, hq, hlq, fun i' p' hi hp' hl => ?_⟩
    rcases Nat.lt_or_ge i' j with h3 | h3
    · exact hmin i' p' h3 hp' hl
    · obtain rfl : i' = j := by omega
      rw [hp] at hp'
      cases hp'
      rcases h1 with h1 | ⟨h1, q', hq', hle⟩
      · omega
      · have e : b.toNat = i := by omega
        rw [e, hq] at hq'
        cases hq'
        exact hle

theorem BestP.lt {L : List (Int × (Int × Ans))} {last : Int} {j : Nat} {b : Int} (h : BestP L last j b) : b = -1 ∨ ∃ (i : Nat) (q : Int × (Int × Ans)), b = i ∧ i < j ∧ L[i]? = some q ∧ last < q.1 := by
  rcases h with ⟨hb, _⟩ | ⟨i, q, hb, hi2, hq, hl, _⟩
  · exact .inl hb
  · exact .inr ⟨i, q, hb, hi2, hq, hl⟩

end Go.Proofs.Ytckmenongeklpaa

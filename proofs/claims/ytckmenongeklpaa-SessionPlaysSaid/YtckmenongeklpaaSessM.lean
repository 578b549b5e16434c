/- The table of bytes has these bytes: plain laws. -/
import Derived.Test.YtckmenongeklpaaSessH
import Derived.Test.YtckmenongeklpaaSessK
namespace Go.Proofs.Ytckmenongeklpaa
open Go.RowKit Go.Maps Go.ChangeMaps

/-- A client's bytes, as it is read. -/
def oneB (x : One) : List UInt8 := entB x.c (x.n, x.a)

theorem oneF_back {s : RS} (h : (oneF s).2.e = 0) : (∃ t, s = ⟨numB (oneF s).1.c.toNat ++ (numB (oneF s).1.n.toNat ++ (textB t ++ (oneF s).2.b)), 0⟩ ∧ ansF t = ((oneF s).1.a, (oneF s).1.e)) := by
  obtain ⟨n1, hn1⟩ : ∃ n1, numR s = n1 := ⟨_, rfl⟩
  obtain ⟨n2, hn2⟩ : ∃ n2, numR n1.2 = n2 := ⟨_, rfl⟩
  obtain ⟨t, ht⟩ : ∃ t, textR 300 n2.2 = t := ⟨_, rfl⟩
  have hO : oneF s = (⟨(n1.1 : Nat), (n2.1 : Nat), (ansF t.1).1, (ansF t.1).2⟩, t.2) := by unfold oneF; rw [hn1, hn2, ht]
  rw [hO] at h ⊢
  simp only at h ⊢
  refine ⟨t.1, ?_, rfl⟩
  have b3 := textR_back (m := 300) (s := n2.2) (by rw [ht]; exact h)
  rw [ht] at b3
  have b2 := numR_back (s := n1.2) (by rw [hn2, b3.1])
  rw [hn2, b3.1] at b2
  have b1 := numR_back (s := s) (by rw [hn1, b2])
  rw [hn1, b2] at b1
  rw [b1]
  simp

theorem rdO_back : ∀ (n : Nat) (s : RS) (acc : List One), (rdO n s acc).2.e = 0 → ∃ ys, ys.length = n ∧ (rdO n s acc).1 = acc ++ ys ∧ ((∀ y ∈ ys, y.e = 0) → s = ⟨(ys.map oneB).flatten ++ (rdO n s acc).2.b, 0⟩ ∧ ∀ y ∈ ys, y.a.wf)
  | 0, s, acc, h => ⟨[], rfl, by simp [rdO], fun _ => ⟨by simp [rdO] at h ⊢; cases s; simp_all, by simp⟩⟩
  | n + 1, s, acc, h => by
    by_cases h0 : (oneF s).2.e = 0
    · have e : rdO (n + 1) s acc = rdO n (oneF s).2 (acc ++ [(oneF s).1]) := by rw [rdO, if_pos h0]
      rw [e] at h ⊢
      obtain ⟨ys, h1, h2, h3⟩ := rdO_back n _ _ h
      refine ⟨(oneF s).1 :: ys, by simp [h1], by rw [h2]; simp, fun hall => ?_⟩
      obtain ⟨t, ht, ha⟩ := oneF_back h0
      obtain ⟨g1, g2⟩ := h3 (fun y hy => hall y (by simp [hy]))
      have he := hall (oneF s).1 (by simp)
      have hok := ansF_ok (b := t) (by rw [ha]; exact he)
      rw [ha] at hok
      refine ⟨?_, fun y hy => ?_⟩
      · have hb := congrArg RS.b g1
        simp only at hb
        refine ht.trans ?_
        rw [hok.1, hb]
        simp [oneB, entB]
      · rcases List.mem_cons.1 hy with rfl | hy
        · exact hok.2
        · exact g2 y hy
    · have e : rdO (n + 1) s acc = ([], (oneF s).2) := by rw [rdO, if_neg h0]
      rw [e] at h
      exact absurd h h0

/-- Bytes that are read as clients, to the end, without a fault, are these clients'. -/
theorem getO_back {b : List UInt8} (h : endR (getO ⟨b, 0⟩).2 = 0) (hall : ∀ y ∈ (getO ⟨b, 0⟩).1, y.e = 0) : b = numB (getO ⟨b, 0⟩).1.length ++ ((getO ⟨b, 0⟩).1.map oneB).flatten ∧ ∀ y ∈ (getO ⟨b, 0⟩).1, y.a.wf := by
  obtain ⟨h1, h2⟩ := endR_zero h
  obtain ⟨ys, g1, g2, g3⟩ := rdO_back _ _ _ (show (rdO (countR 16 ⟨b, 0⟩).1 (countR 16 ⟨b, 0⟩).2 []).2.e = 0 from h1)
  rw [List.nil_append] at g2
  have e : (getO ⟨b, 0⟩).1 = ys := g2
  rw [e] at hall ⊢
  obtain ⟨k1, k2⟩ := g3 hall
  have h2' : (rdO (countR 16 ⟨b, 0⟩).1 (countR 16 ⟨b, 0⟩).2 []).2.b = [] := h2
  rw [h2', List.append_nil] at k1
  have hc := countR_back (m := 16) (s := ⟨b, 0⟩) (by rw [k1])
  rw [k1] at hc
  have hb := congrArg RS.b hc.1
  simp only at hb
  refine ⟨?_, k2⟩
  rw [g1]
  exact hb

theorem aget_tabO {xs : List One} (h : (xs.map (·.c)).Pairwise (· < ·)) {x : One} (hx : x ∈ xs) : aget x.c (tabO xs) = some (x.n, x.a) := by
  refine aget_of_mem ?_ (List.mem_map.2 ⟨x, hx, rfl⟩)
  have e : keys (tabO xs) = xs.map (·.c) := by simp [keys, tabO]
  rw [e]
  exact h.imp (fun h => by omega)

theorem keys_tabO (xs : List One) : keys (tabO xs) = xs.map (·.c) := by simp [keys, tabO]

theorem entsB_tabO {xs : List One} (h : (xs.map (·.c)).Pairwise (· < ·)) : ∀ zs : List One, (∀ z ∈ zs, z ∈ xs) → entsB (tabO xs) (zs.map (·.c)) = (zs.map oneB).flatten
  | [], _ => rfl
  | z :: zs, hz => by
    have ih := entsB_tabO h zs (fun y hy => hz y (by simp [hy]))
    have hq := aget_tabO h (hz z (by simp))
    have e : entsB (tabO xs) ((z :: zs).map (·.c)) = entB z.c (z.n, z.a) ++ entsB (tabO xs) (zs.map (·.c)) := by simp [entsB, hq]
    rw [e, ih]
    simp [oneB]

theorem rise_unique {a b : List Int} (hp : a.Perm b) (ha : a.Pairwise (· < ·)) (hb : b.Pairwise (· < ·)) : a = b :=
  List.Perm.eq_of_pairwise (le := fun x y => x < y) (fun x y _ _ h1 h2 => by omega) ha hb hp

theorem wf_fit {a : Ans} (h : a.wf) : a.fit := ⟨h.e0, by have := h.e1; omega, by have := h.n; omega, h.t0, h.t1, h.v0, h.v1⟩

/-- A table of bytes is one, and has these bytes. -/
theorem of_bytes {b : List UInt8} (h : endR (getO ⟨b, 0⟩).2 = 0) (hg : goodO (getO ⟨b, 0⟩).1) :
    TabOk (tabO (getO ⟨b, 0⟩).1) ∧ ∀ ys : List Int, ys.Perm (keys (tabO (getO ⟨b, 0⟩).1)) → ys.Pairwise (· < ·) → numB ys.length ++ entsB (tabO (getO ⟨b, 0⟩).1) ys = b := by
  obtain ⟨h1, h2⟩ := getO_back h (fun y hy => (hg.1 y hy).1)
  have hw := getO_wf ⟨b, 0⟩
  have hl := getO_len ⟨b, 0⟩
  generalize (getO ⟨b, 0⟩).1 = xs at *
  refine ⟨⟨?_, by simpa [tabO] using hl, fun c x hx => ?_⟩, fun ys hp hr => ?_⟩
  · rw [keys_tabO]
    exact hg.2.imp (fun h => by omega)
  · obtain ⟨y, hy, e⟩ := List.mem_map.1 (aget_some_mem hx)
    cases e
    have := hw y hy
    exact ⟨by omega, by omega, by simp only; omega, by simp only; omega, wf_fit (h2 y hy)⟩
  · rw [keys_tabO] at hp
    have e := rise_unique hp hr hg.2
    subst e
    rw [entsB_tabO hg.2 xs (fun z hz => hz), List.length_map]
    exact h1.symm

end Go.Proofs.Ytckmenongeklpaa

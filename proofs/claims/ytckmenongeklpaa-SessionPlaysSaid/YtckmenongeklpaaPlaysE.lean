/- SessionPlays: plain laws: the table's bytes are read back; lists of clients. -/
import Derived.Test.YtckmenongeklpaaPlaysB
import Derived.Test.YtckmenongeklpaaSessM
namespace Go.Proofs.Ytckmenongeklpaa
open Go.RowKit Go.Maps Go.ChangeMaps

/-- May this client be in a table? -/
structure EntOk (p : Int × (Int × Ans)) : Prop where
  c0 : 0 < p.1
  c1 : p.1 ≤ 18446744073709551615
  n0 : 0 < p.2.1
  n1 : p.2.1 ≤ 18446744073709551615
  a : p.2.2.wf

/-- May these be a table's clients? -/
structure LOk (L : List (Int × (Int × Ans))) : Prop where
  nodup : (keys L).Nodup
  len : L.length ≤ 16
  ent : ∀ p ∈ L, EntOk p

theorem LOk.nil : LOk [] := ⟨List.nodup_nil, by simp, by simp⟩

theorem LOk.tab {L : List (Int × (Int × Ans))} (h : LOk L) : TabOk L := ⟨h.nodup, h.len, fun c x hx => by
  have := h.ent _ (aget_some_mem hx)
  have h1 := this.c0
  have h2 := this.c1
  have h3 : 0 < x.1 := this.n0
  have h4 : x.1 ≤ 18446744073709551615 := this.n1
  have h1 : 0 < c := h1
  exact ⟨by omega, h2, by omega, h4, wf_fit this.a⟩⟩

theorem aset_new {c : Int} {x : Int × Ans} : ∀ {L : List (Int × (Int × Ans))}, c ∉ keys L → aset c x L = L ++ [(c, x)]
  | [], _ => rfl
  | (y, z) :: r, h => by
    simp only [keys, List.map_cons, List.mem_cons, not_or] at h
    rw [aset, if_neg (fun e => h.1 e.symm), aset_new (L := r) h.2]
    rfl

theorem aset_at {c : Int} {x : Int × Ans} : ∀ {L : List (Int × (Int × Ans))} {i : Nat} {y : Int × Ans}, (keys L).Nodup → L[i]? = some (c, y) → aset c x L = L.set i (c, x)
  | [], i, y, _, h => by simp at h
  | (z, u) :: r, i, y, hn, h => by
    simp only [keys, List.map_cons, List.nodup_cons] at hn
    cases i with
    | zero =>
      simp at h
      rw [aset, if_pos h.1, List.set_cons_zero, h.1]
    | succ i =>
      simp at h
      have hm : c ∈ keys r := List.mem_map.2 ⟨_, List.mem_of_getElem? h, rfl⟩
      rw [aset, if_neg (fun e => hn.1 (by rw [e]; exact hm)), List.set_cons_succ, aset_at hn.2 h]

theorem find_aget {L : List (Int × (Int × Ans))} (hn : (keys L).Nodup) {i : Nat} {c : Int} {y : Int × Ans} (h : L[i]? = some (c, y)) : aget c L = some y := aget_of_mem hn (List.mem_of_getElem? h)
theorem none_aget {L : List (Int × (Int × Ans))} {c : Int} (h : ∀ p ∈ L, p.1 ≠ c) : aget c L = none := aget_none.2 (fun hm => by
  obtain ⟨p, hp, e⟩ := List.mem_map.1 hm
  exact h p hp e)

theorem LOk.put {L : List (Int × (Int × Ans))} (h : LOk L) {c : Int} {x : Int × Ans} (hx : EntOk (c, x)) (hl : c ∈ keys L ∨ L.length < 16) : LOk (aset c x L) := by
  have hk := keys_aset c x L
  refine ⟨?_, ?_, fun p hp => ?_⟩
  · rw [hk]
    split
    · exact h.nodup
    · rename_i hm
      exact List.nodup_append.2 ⟨h.nodup, by simp, by simp; intro a ha e; subst e; exact hm ha⟩
  · have e : (aset c x L).length = (keys (aset c x L)).length := by simp [keys]
    have e2 : L.length = (keys L).length := by simp [keys]
    have := h.len
    rw [e, hk]
    split
    · omega
    · rw [List.length_append]
      rcases hl with h1 | h1
      · contradiction
      · simp; omega
  · rcases aset_mem hp with h1 | h1
    · exact h.ent p h1
    · rw [h1]; exact hx

/-- A client, in bytes and of bytes. -/
theorem oneF_ent {p : Int × (Int × Ans)} (h : EntOk p) (r : List UInt8) : oneF ⟨entB p.1 p.2 ++ r, 0⟩ = (⟨p.1, p.2.1, p.2.2, 0⟩, ⟨r, 0⟩) := by
  obtain ⟨c, n, a⟩ := p
  have c0 := h.c0
  have c1 := h.c1
  have n0 := h.n0
  have n1 := h.n1
  have ha := h.a
  simp only at c0 c1 n0 n1 ha
  have hl : (ansB a).length ≤ 300 := by
    have q1 := numB_len 4 a.err.toNat (by have := ha.e1; omega)
    have q2 := numB_len 1 a.name.data.toList.length (by have := ha.n; rw [Array.length_toList]; show a.name.size < _; omega)
    have q3 := numB_len10 (x := a.tok.toNat) (by have := ha.t1; omega)
    have q4 : (intB a.val).length ≤ 10 := numB_len10 (zig_lt ha.v0 ha.v1)
    have q5 : a.name.data.toList.length ≤ 255 := by rw [Array.length_toList]; exact ha.n
    unfold ansB textB
    simp only [List.length_append]
    omega
  have h1 : numR ⟨entB c (n, a) ++ r, 0⟩ = (c.toNat, ⟨numB n.toNat ++ (textB (ansB a) ++ r), 0⟩) := by
    have := numR_num (x := c.toNat) (by omega) (numB n.toNat ++ (textB (ansB a) ++ r))
    simpa [entB] using this
  have h2 : numR ⟨numB n.toNat ++ (textB (ansB a) ++ r), 0⟩ = (n.toNat, ⟨textB (ansB a) ++ r, 0⟩) := numR_num (by omega) _
  have h3 : textR 300 ⟨textB (ansB a) ++ r, 0⟩ = (ansB a, ⟨r, 0⟩) := textR_text hl (by omega) _
  unfold oneF
  rw [h1, h2, h3, ansF_ansB ha]
  simp only [Prod.mk.injEq, One.mk.injEq, and_true]
  omega

/-- A client, as it was read. -/
def oneOf (p : Int × (Int × Ans)) : One := ⟨p.1, p.2.1, p.2.2, 0⟩

theorem rdO_ents : ∀ (ps : List (Int × (Int × Ans))) (acc : List One) (r : List UInt8), (∀ p ∈ ps, EntOk p) → rdO ps.length ⟨(ps.map fun p => entB p.1 p.2).flatten ++ r, 0⟩ acc = (acc ++ ps.map oneOf, ⟨r, 0⟩)
  | [], acc, r, _ => by simp [rdO]
  | p :: ps, acc, r, h => by
    have e := oneF_ent (h p (by simp)) ((ps.map fun p => entB p.1 p.2).flatten ++ r)
    have e2 : ((p :: ps).map fun p => entB p.1 p.2).flatten ++ r = entB p.1 p.2 ++ ((ps.map fun p => entB p.1 p.2).flatten ++ r) := by simp
    rw [e2, List.length_cons, rdO, e, if_pos rfl, rdO_ents ps _ r (fun q hq => h q (by simp [hq]))]
    simp [oneOf]

theorem ents_of {L : List (Int × (Int × Ans))} : ∀ ys : List Int, (∀ y ∈ ys, y ∈ keys L) → ∃ ps : List (Int × (Int × Ans)), ps.map (·.1) = ys ∧ (∀ p ∈ ps, p ∈ L) ∧ entsB L ys = (ps.map fun p => entB p.1 p.2).flatten
  | [], _ => ⟨[], rfl, by simp, rfl⟩
  | y :: ys, h => by
    obtain ⟨ps, h1, h2, h3⟩ := ents_of ys (fun z hz => h z (by simp [hz]))
    have hy := h y (by simp)
    cases hg : aget y L with
    | none => exact absurd hy (aget_none.1 hg)
    | some x =>
      refine ⟨(y, x) :: ps, by simp [h1], fun p hp => ?_, ?_⟩
      · rcases List.mem_cons.1 hp with rfl | hp
        · exact aget_some_mem hg
        · exact h2 p hp
      · have e : entsB L (y :: ys) = entB y x ++ entsB L ys := by simp [entsB, hg]
        rw [e, h3]
        simp

/-- A table's bytes are read as a table. -/
theorem of_table {L : List (Int × (Int × Ans))} (h : LOk L) {ys : List Int} (hp : ys.Perm (keys L)) (hr : ys.Pairwise (· < ·)) :
    endR (getO ⟨numB ys.length ++ entsB L ys, 0⟩).2 = 0 ∧ goodO (getO ⟨numB ys.length ++ entsB L ys, 0⟩).1 := by
  obtain ⟨ps, h1, h2, h3⟩ := ents_of ys (fun y hy => hp.mem_iff.1 hy)
  have hlen : ps.length = ys.length := by rw [← h1, List.length_map]
  have hl : ys.length ≤ 16 := by have := h.len; rw [hp.length_eq]; simpa [keys] using this
  have hn : numR ⟨numB ys.length ++ entsB L ys, 0⟩ = (ys.length, ⟨entsB L ys, 0⟩) := numR_num (by omega) _
  have hc : countR 16 ⟨numB ys.length ++ entsB L ys, 0⟩ = (ys.length, ⟨entsB L ys, 0⟩) := by
    unfold countR
    rw [hn, if_neg (by simp; omega)]
  have hg : getO ⟨numB ys.length ++ entsB L ys, 0⟩ = (ps.map oneOf, ⟨[], 0⟩) := by
    unfold getO
    rw [hc]
    have := rdO_ents ps [] [] (fun p hp => h.ent p (h2 p hp))
    rw [List.append_nil, ← h3, hlen, List.nil_append] at this
    exact this
  rw [hg]
  refine ⟨rfl, fun x hx => ?_, ?_⟩
  · obtain ⟨p, hpm, rfl⟩ := List.mem_map.1 hx
    have := h.ent p (h2 p hpm)
    have q1 := this.c0
    have q2 := this.n0
    exact ⟨rfl, by show p.1 ≠ 0; omega, by show p.2.1 ≠ 0; omega⟩
  · rw [List.map_map, show (fun x : One => x.c) ∘ oneOf = (fun p => p.1) from rfl, h1]
    exact hr

theorem table_len {L : List (Int × (Int × Ans))} (h : LOk L) (ys : List Int) (hl : ys.length ≤ 16) : (numB ys.length ++ entsB L ys).length ≤ 1000000 := by
  have q : ∀ zs : List Int, (entsB L zs).length ≤ zs.length * 400 := fun zs => by
    induction zs with
    | nil => simp [entsB]
    | cons z zs ih =>
      rw [List.length_cons]
      cases hg : aget z L with
      | none =>
        have e : entsB L (z :: zs) = entsB L zs := by simp [entsB, hg]
        have hq := congrArg List.length e
        omega
      | some x =>
        have e : entsB L (z :: zs) = entB z x ++ entsB L zs := by simp [entsB, hg]
        have hq := congrArg List.length e
        rw [List.length_append] at hq
        have hx := h.ent _ (aget_some_mem hg)
        have ha := hx.a
        have c1 := hx.c1
        have n1 := hx.n1
        simp only at c1 n1 ha
        have q1 := numB_len 4 x.2.err.toNat (by have := ha.e1; omega)
        have q2 := numB_len 1 x.2.name.data.toList.length (by have := ha.n; rw [Array.length_toList]; show x.2.name.size < _; omega)
        have q3 := numB_len10 (x := x.2.tok.toNat) (by have := ha.t1; omega)
        have q4 : (intB x.2.val).length ≤ 10 := numB_len10 (zig_lt ha.v0 ha.v1)
        have q5 : x.2.name.data.toList.length ≤ 255 := by rw [Array.length_toList]; exact ha.n
        have q6 := numB_len10 (x := z.toNat) (by omega)
        have q7 := numB_len10 (x := x.1.toNat) (by omega)
        have q8 : (ansB x.2).length ≤ 300 := by unfold ansB textB; simp only [List.length_append]; omega
        have q9 := numB_len 2 (ansB x.2).length (by omega)
        have : (entB z x).length ≤ 400 := by unfold entB; unfold textB; simp only [List.length_append]; omega
        omega
  have q1 := numB_len10 (x := ys.length) (by omega)
  have q2 := q ys
  rw [List.length_append]
  omega

theorem ansB_len300 {a : Ans} (ha : a.wf) : (ansB a).length ≤ 300 := by
  have q1 := numB_len 4 a.err.toNat (by have := ha.e1; omega)
  have q2 := numB_len 1 a.name.data.toList.length (by have := ha.n; rw [Array.length_toList]; show a.name.size < _; omega)
  have q3 := numB_len10 (x := a.tok.toNat) (by have := ha.t1; omega)
  have q4 : (intB a.val).length ≤ 10 := numB_len10 (zig_lt ha.v0 ha.v1)
  have q5 : a.name.data.toList.length ≤ 255 := by rw [Array.length_toList]; exact ha.n
  unfold ansB textB
  simp only [List.length_append]
  omega

/-- A client put anew. -/
theorem flatT_set (L : List (Int × (Int × Ans))) (i : Nat) (c n : Int) (a : Ans) (y : Int × Ans) (h : L[i]? = some (c, y)) :
    flatT (L.set i (c, (n, a))) = (((((flatT L).set (i * 6 + 1) (.int .u64 n)).set (i * 6 + 2) (.int .i64 a.err)).set (i * 6 + 3) (.string a.name)).set (i * 6 + 4) (.int .u64 a.tok)).set (i * 6 + 5) (.int .i64 a.val) := by
  induction L generalizing i with
  | nil => simp at h
  | cons z L ih =>
    have e : ∀ q M, flatT (q :: M) = (entC q).toList ++ flatT M := fun q M => by simp [flatT]
    cases i with
    | zero =>
      simp at h
      subst h
      rw [List.set_cons_zero, e, e]
      rfl
    | succ i =>
      simp at h
      rw [List.set_cons_succ, e, e, ih i h]
      have hz : ∀ (v : Value) (k : Nat) (M : List Value), ((entC z).toList ++ M).set ((i + 1) * 6 + k) v = (entC z).toList ++ M.set (i * 6 + k) v := fun v k M => by
        rw [List.set_append_right _ _ (by show 6 ≤ _; omega)]
        congr 2
        show (i + 1) * 6 + k - 6 = _
        omega
      rw [hz, hz, hz, hz, hz]

end Go.Proofs.Ytckmenongeklpaa

/- An answer as bytes, and of bytes (package command); a client as it is read (package session). -/
import Derived.Test.YtckmenongeklpaaSession
import Derived.Test.YtckmenongeklpaaOctZ
import Derived.Test.YtckmenongeklpaaRule
namespace Go.Proofs.Ytckmenongeklpaa
open Go.RowKit Go.Maps Go.ChangeMaps

/-- An answer's bytes. -/
def ansB (a : Ans) : List UInt8 := numB a.err.toNat ++ (textB a.name.data.toList ++ (numB a.tok.toNat ++ intB a.val))

/-- May an answer be in memory? -/
structure Ans.wf (a : Ans) : Prop where
  e0 : 0 ≤ a.err
  e1 : a.err ≤ 2147483647
  n : a.name.size ≤ 255
  t0 : 0 ≤ a.tok
  t1 : a.tok ≤ 18446744073709551615
  v0 : -9223372036854775808 ≤ a.val
  v1 : a.val ≤ 9223372036854775807

/-- What is read of an answer's bytes. -/
def ansF (b : List UInt8) : Ans × Int :=
  if endR (intR (numR (textR 255 (numR ⟨b, 0⟩).2).2).2).2 ≠ 0 then (Ans.zero, endR (intR (numR (textR 255 (numR ⟨b, 0⟩).2).2).2).2) else
  if 2147483647 < (numR ⟨b, 0⟩).1 then (Ans.zero, 2) else
  (⟨((numR ⟨b, 0⟩).1 : Nat), ⟨(textR 255 (numR ⟨b, 0⟩).2).1.toArray⟩, ((numR (textR 255 (numR ⟨b, 0⟩).2).2).1 : Nat), (intR (numR (textR 255 (numR ⟨b, 0⟩).2).2).2).1⟩, 0)

theorem endR_zero {s : RS} (h : endR s = 0) : s.e = 0 ∧ s.b = [] := by
  unfold endR at h
  split at h
  · rename_i h0
    split at h
    · exact ⟨h0, List.eq_nil_of_length_eq_zero (by assumption)⟩
    · cases h
  · rename_i h0; exact absurd h h0

/-- Bytes that are read are those of what is read. -/
theorem ansF_ok {b : List UInt8} (h : (ansF b).2 = 0) : b = ansB (ansF b).1 ∧ (ansF b).1.wf := by
  unfold ansF at h ⊢
  generalize hn1 : numR ⟨b, 0⟩ = n1 at *
  generalize ht : textR 255 n1.2 = t at *
  generalize hk : numR t.2 = k at *
  generalize hv : intR k.2 = v at *
  by_cases he : endR v.2 ≠ 0
  · rw [if_pos he] at h
    exact absurd h he
  · rw [if_neg he] at h ⊢
    by_cases hb : 2147483647 < n1.1
    · rw [if_pos hb] at h
      cases h
    · rw [if_neg hb] at h ⊢
      obtain ⟨e1, e2⟩ := endR_zero (by simpa using he)
      have bv := intR_back (s := k.2) (by rw [hv]; exact e1)
      rw [hv, e2] at bv
      have bk := numR_back (s := t.2) (by rw [hk, bv])
      rw [hk, bv] at bk
      have bt := textR_back (m := 255) (s := n1.2) (by rw [ht, bk])
      rw [ht, bk] at bt
      have bn := numR_back (s := ⟨b, 0⟩) (by rw [hn1, bt.1])
      rw [hn1, bt.1] at bn
      have bn' : b = _ := congrArg RS.b bn
      have lk := numR_lt t.2
      rw [hk] at lk
      have lv := zag_bd (numR_lt k.2)
      have hv1 : v.1 = zag (numR k.2).1 := by rw [← hv]; rfl
      refine ⟨?_, ?_⟩
      · rw [bn']
        unfold ansB
        simp
      · exact ⟨by simp, by simp; omega, by have h3 := bt.2; show t.1.toArray.size ≤ 255; rw [List.size_toArray]; exact h3, by simp, by simp; omega, by show _ ≤ v.1; rw [hv1]; exact lv.1, by show v.1 ≤ _; rw [hv1]; exact lv.2⟩

/-- Bytes of an answer are read as it. -/
theorem ansF_ansB {a : Ans} (h : a.wf) : ansF (ansB a) = (a, 0) := by
  have h1 : numR ⟨ansB a, 0⟩ = (a.err.toNat, ⟨textB a.name.data.toList ++ (numB a.tok.toNat ++ intB a.val), 0⟩) := numR_num (by have := h.e1; omega) _
  have hl : a.name.data.toList.length ≤ 255 := by rw [Array.length_toList]; exact h.n
  have h2 : textR 255 ⟨textB a.name.data.toList ++ (numB a.tok.toNat ++ intB a.val), 0⟩ = (a.name.data.toList, ⟨numB a.tok.toNat ++ intB a.val, 0⟩) := textR_text hl (by omega) _
  have h3 : numR ⟨numB a.tok.toNat ++ intB a.val, 0⟩ = (a.tok.toNat, ⟨intB a.val, 0⟩) := numR_num (by have := h.t1; omega) _
  have h4 : intR ⟨intB a.val, 0⟩ = (a.val, ⟨[], 0⟩) := by have := intR_int h.v0 h.v1 []; rwa [List.append_nil] at this
  unfold ansF
  rw [h1, h2, h3, h4]
  have e0 := h.e0
  have e1 := h.e1
  have t0 := h.t0
  have : endR (⟨[], 0⟩ : RS) = 0 := rfl
  rw [if_neg (by simp [this]), if_neg (by simp; omega)]
  obtain ⟨ae, ⟨an⟩, at', av⟩ := a
  simp only [Prod.mk.injEq, and_true] at *
  congr 1
  · omega
  · omega

end Go.Proofs.Ytckmenongeklpaa

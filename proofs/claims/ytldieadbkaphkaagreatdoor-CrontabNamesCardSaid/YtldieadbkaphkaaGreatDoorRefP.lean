/- The reference for package cron: Part. -/
import Derived.Test.YtldieadbkaphkaaGreatDoorRefN
import Derived.Lib.QuietBelow
import Derived.Deep.DeepCutAuto
import Derived.Deep.CutBlock
namespace Go.Proofs.YtldieadbkaphkaaGreatDoor
open Go.RowKit Go.ChangeMaps Go.Sort

theorem cut_ix (c : UInt8) (s : Bs) : (cutL c s = (s, [], false) ∧ Lib.index s [c] = -1) ∨ ∃ k : Nat, cutL c s = (s.take k, s.drop (k + 1), true) ∧ Lib.index s [c] = k ∧ k < s.length := by
  have hg := Lib.index_ge s [c]
  have e := cut_eq c s
  unfold Lib.cut at e
  by_cases h : 0 ≤ Lib.index s [c]
  · right
    have hr := Lib.index_room s [c] h
    simp only [List.length_cons, List.length_nil] at hr
    rw [if_pos h] at e
    exact ⟨(Lib.index s [c]).toNat, e.symm, by omega, by omega⟩
  · left
    rw [if_neg h] at e
    exact ⟨e.symm, by omega⟩

theorem numF_none (s : Bs) : numF Fld.none s = numF (fld 0) s := by
  unfold numF Fld.none fld
  simp

/-- What the reference's Part goes on with: from where, tt where, and whether it has the form. -/
def refSpan (i : Nat) (body : Bs) (st : Bool) (b : Int) : Int × Int × Bool :=
  if body = [42] then ((fld i).low, (fld i).high, decide (0 ≤ b))
  else if (cutL 45 body).2.2 = true then (refNumF i (cutL 45 body).1, refNumF i (cutL 45 body).2.1, decide (0 ≤ b))
  else (refNumF i body, refNumF i body, decide (0 ≤ b) && !st)

theorem part_ref (i : Nat) (s : Bs) (body arg : Bs) (st : Bool) (hq : cutL 47 s = (body, arg, st)) (b : Int) (hb : b = if st = true then refNumF 0 arg else 1) (fr tt : Int) (ok : Bool) (hr : refSpan i body st b = (fr, tt, ok)) :
    partF (fld i) s = if ok = false ∨ fr < 0 ∨ tt < 0 then ([], 2) else if fr < (fld i).low ∨ (fld i).high < tt ∨ tt < fr ∨ b < 1 ∨ 60 < b then ([], 3) else (rangeL 64 fr tt b, 0) := by
  have hlow := fld_low i
  have hhigh := fld_high i
  have hnum := fun t => numF_range (fld i) t hlow (fld_names i)
  unfold partF
  rw [hq]
  simp only
  -- the step
  have hst : (stepF arg st).2 = (if b < 0 then 2 else if b < 1 ∨ 60 < b then 3 else 0) ∧ ((stepF arg st).2 = 0 → (stepF arg st).1 = b) := by
    cases st
    · simp only [Bool.false_eq_true, if_false] at hb
      subst hb
      exact ⟨rfl, fun _ => rfl⟩
    · simp only [if_true] at hb
      have h0 := numF_range (fld 0) arg (fld_low 0) (fld_names 0)
      unfold stepF
      rw [numF_none]
      unfold refNumF at hb
      cases h2 : (numF (fld 0) arg).2
      · rw [h2] at hb; simp at hb; subst hb; simp
      · rw [h2] at hb; simp only [if_true] at hb; rw [← hb] at h0 ⊢
        rw [if_neg (by decide), if_neg (by decide)]
        by_cases hc : b < 1 ∨ 60 < b
        · rw [if_pos hc, if_neg (by omega), if_pos hc]; exact ⟨rfl, fun h => absurd h (by decide)⟩
        · rw [if_neg hc, if_neg (by omega), if_neg hc]; exact ⟨rfl, fun _ => rfl⟩
  obtain ⟨h1, h2⟩ := hst
  generalize stepF arg st = S at *
  obtain ⟨n, g⟩ := S
  simp only at *
  have hspan : spanF (fld i) body st = if (body ≠ [42] ∧ st = true ∧ (cutL 45 body).2.2 = false) ∨ fr < 0 ∨ tt < 0 then none else some (fr, tt, if fr < (fld i).low ∨ (fld i).high < tt ∨ tt < fr then 3 else 0) := by
    unfold refSpan at hr
    unfold spanF
    by_cases hbody : body = [42]
    · rw [if_pos hbody] at hr ⊢
      simp only [Prod.mk.injEq] at hr
      obtain ⟨rfl, rfl, _⟩ := hr
      rw [if_neg (by rintro (h | h | h); exact h.1 hbody; omega; omega), if_neg (by omega)]
    · rw [if_neg hbody] at hr ⊢
      have n0 := hnum body
      have n1 := hnum (cutL 45 body).1
      have n2 := hnum (cutL 45 body).2.1
      unfold refNumF at hr
      clear hnum hq
      generalize numF (fld i) (cutL 45 body).1 = r1 at *
      generalize numF (fld i) (cutL 45 body).2.1 = r2 at *
      generalize numF (fld i) body = r0 at *
      generalize (cutL 45 body).2.2 = rg at *
      obtain ⟨x0, k0⟩ := r0
      obtain ⟨x1, k1⟩ := r1
      obtain ⟨x2, k2⟩ := r2
      simp only at *
      have hin : ∀ x y : Int, (inF (fld i) x = false ∨ inF (fld i) y = false ∨ y < x) ↔ (x < (fld i).low ∨ (fld i).high < y ∨ y < x) := fun x y => by unfold inF; simp; omega
      have hin0 : ∀ x : Int, (inF (fld i) x = false) ↔ (x < (fld i).low ∨ (fld i).high < x ∨ x < x) := fun x => by unfold inF; simp; omega
      cases rg
      · simp only [Bool.false_eq_true, if_false, Prod.mk.injEq] at hr ⊢
        obtain ⟨e1, e2, _⟩ := hr
        cases k0
        · simp at e1 e2
          rw [if_pos (.inl rfl), if_pos (.inr (.inl (by omega)))]
        · simp only [if_true] at e1 e2
          subst e1 e2
          cases st
          · have hx : ¬ x0 < 0 := by omega
            simp [hbody, hin0, hx]
          · simp [hbody]
      · simp only [if_true, Prod.mk.injEq] at hr ⊢
        obtain ⟨e1, e2, _⟩ := hr
        cases k1
        · simp at e1
          rw [if_pos (.inl rfl), if_pos (.inr (.inl (by omega)))]
        · simp only [if_true] at e1
          cases k2
          · simp at e2
            rw [if_pos (.inr rfl), if_pos (.inr (.inr (by omega)))]
          · simp only [if_true] at e2
            subst e1 e2
            have hx : ¬ x1 < 0 := by omega
            have hy : ¬ x2 < 0 := by omega
            simp [hin, hx, hy]
  have hok : ok = (decide (0 ≤ b) && !(decide (body ≠ [42]) && st && !(cutL 45 body).2.2)) := by
    unfold refSpan at hr
    by_cases hbody : body = [42]
    · rw [if_pos hbody] at hr
      simp only [Prod.mk.injEq] at hr
      rw [← hr.2.2]; simp [hbody]
    · rw [if_neg hbody] at hr
      cases hc : (cutL 45 body).2.2
      · rw [hc] at hr
        simp only [Bool.false_eq_true, if_false, Prod.mk.injEq] at hr
        rw [← hr.2.2]; simp [hbody]
      · rw [hc] at hr
        simp only [if_true, Prod.mk.injEq] at hr
        rw [← hr.2.2]; simp
  rw [hspan]
  generalize (cutL 45 body).2.2 = rg at *
  obtain ⟨R, hR⟩ : ∃ R : List Int × Int, R = if ok = false ∨ fr < 0 ∨ tt < 0 then ([], 2) else if fr < (fld i).low ∨ (fld i).high < tt ∨ tt < fr ∨ b < 1 ∨ 60 < b then ([], 3) else (rangeL 64 fr tt b, 0) := ⟨_, rfl⟩
  rw [← hR]
  by_cases hB : b < 0
  · rw [if_pos hB] at h1
    have hokf : ok = false := by rw [hok]; simp; omega
    have hR2 : R = ([], 2) := by rw [hR, if_pos (.inl hokf)]
    rw [hR2]
    by_cases hc : (body ≠ [42] ∧ st = true ∧ rg = false) ∨ fr < 0 ∨ tt < 0
    · rw [if_pos hc]
    · rw [if_neg hc]; simp only; rw [if_pos h1]
  · rw [if_neg hB] at h1
    by_cases hbad : (body ≠ [42] ∧ st = true ∧ rg = false)
    · have hokf : ok = false := by rw [hok]; obtain ⟨x, y, z⟩ := hbad; simp [x, y, z]
      have hR2 : R = ([], 2) := by rw [hR, if_pos (.inl hokf)]
      rw [if_pos (.inl hbad), hR2]
    · have hokt : ok = true := by
        rw [hok]
        have : (decide (body ≠ [42]) && st && !rg) = false := by
          cases st <;> cases rg <;> simp at hbad ⊢ <;> exact hbad
        rw [this]; simp; omega
      by_cases hf : fr < 0 ∨ tt < 0
      · have hR2 : R = ([], 2) := by rw [hR, if_pos (.inr hf)]
        rw [if_pos (.inr hf), hR2]
      · rw [if_neg (by rintro (h | h); exact hbad h; exact hf h)]
        have hR2 : R = if fr < (fld i).low ∨ (fld i).high < tt ∨ tt < fr ∨ b < 1 ∨ 60 < b then ([], 3) else (rangeL 64 fr tt b, 0) := by
          rw [hR, if_neg (by rintro (h | h); rw [hokt] at h; exact absurd h (by decide); exact hf h)]
        simp only
        have hg2 : g ≠ 2 := by rw [h1]; split <;> decide
        rw [if_neg hg2]
        by_cases hr3 : fr < (fld i).low ∨ (fld i).high < tt ∨ tt < fr
        · rw [if_pos hr3, if_pos (by decide), hR2, if_pos (by omega)]
        · rw [if_neg hr3, if_neg (by simp)]
          by_cases hb3 : b < 1 ∨ 60 < b
          · rw [if_pos hb3] at h1
            rw [h1, if_pos (by decide), hR2, if_pos (by omega)]
          · rw [if_neg hb3] at h1
            rw [h2 h1, h1, if_neg (by simp), hR2, if_neg (by omega)]

def intE (x : Int) : Value := .int .i64 x
def PartPost (w : World) (r : List Int × Int) (e : Ending) (w' : World) : Prop := ∃ v, e = .returned (.tuple #[v, .int .i64 r.2]) ∧ Sl intE w' v r.1 ∧ Below w.heap.size w w' ∧ ∀ k, v.ownBlock = some k → w.heap.size ≤ k
theorem PartPost.none {w W : World} (e : Int) (h : Below w.heap.size w W) : PartPost w ([], e) (.returned (.tuple #[.slice none 0 0, .int .i64 e])) W :=
  ⟨_, rfl, Sl.nil _ _, h, fun k hk => by simp [Value.ownBlock] at hk⟩
theorem ext_take (s : Bs) (k : Nat) : (⟨s.toArray⟩ : ByteArray).extract 0 k = ⟨(s.take k).toArray⟩ := by
  apply ByteArray.ext; simp
theorem ext_drop (s : Bs) (k : Nat) : (⟨s.toArray⟩ : ByteArray).extract k s.length = ⟨(s.drop k).toArray⟩ := by
  apply ByteArray.ext; simp [List.extract_eq_take_drop]
  exact List.take_of_length_le (by simp)
theorem info_int : (Tryz.prog.info? 3).map (fun i => (i.zero, i.size, i.bytes)) = some (some (.int .i64 0), 1, 8) := by kernel_rfl
theorem refNumF_range (i : Nat) (s : Bs) : -1 ≤ refNumF i s ∧ refNumF i s ≤ 99 := by
  have h := numF_range (fld i) s (fld_low i) (fld_names i)
  unfold refNumF; split <;> omega

end Go.Proofs.YtldieadbkaphkaaGreatDoor

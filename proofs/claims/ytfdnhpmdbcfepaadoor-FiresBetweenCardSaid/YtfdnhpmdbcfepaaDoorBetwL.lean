/- The statement FiresBetween in plain words; Count of none. -/
import Derived.Test.YtfdnhpmdbcfepaaDoorPartsL
namespace Go.Proofs.YtfdnhpmdbcfepaaDoor
open Go.RowKit Go.Shelf

attribute [local go_sem] Oper.semAt_some

theorem step_at {e : Ex} {to_ a x : Int} (h : StepB e to_ a x) : atB e x = true := by
  obtain ⟨h1, h2⟩ := h
  unfold nextF at h1
  split at h1
  · simp at h1
  · rcases nxt_cases e (min (max a (-1) + 1 + perEra) 1099511627776 + 1 - (max a (-1) + 1)).toNat (max a (-1) + 1) with ⟨t, e1, g1, g2, g3, _⟩ | ⟨e1, _⟩
    · rw [e1] at h1
      simp at h1
      subst h1
      exact g3
    · rw [e1] at h1; simp at h1

theorem cnt_min (e : Ex) (to_ : Int) : ∀ (k m : Nat) (a : Int), k ≤ m → cntF e to_ k a = min (k : Int) (cntF e to_ m a)
  | 0, m, a, _ => by
    have := cnt_range e to_ m a
    simp only [cntF]
    omega
  | k + 1, 0, a, h => by omega
  | k + 1, m + 1, a, h => by
    have ih := cnt_min e to_ k m (nextF e a).1 (by omega)
    unfold cntF
    split <;> omega

/-- What FiresBetween asks at its end. -/
theorem between_law (e : Ex) (to_ a : Int) (most n : Int) (hn : cntF e to_ 60 a = n) : cntF e to_ (min most 60).toNat a = max 0 (min n (min most 60)) := by
  have h := cnt_min e to_ (min most 60).toNat 60 a (by omega)
  have h2 := cnt_range e to_ 60 a
  rw [h, hn]
  rw [hn] at h2
  omega

set_option maxRecDepth 100000 in
set_option maxHeartbeats 4000000 in
theorem count_none (w : World) (e : Ex) (a to_ most : Int) (m1 : most ≤ 0) :
    Calls Tryd.prog 21 #[e.v, .int .i64 a, .int .i64 to_, .int .i64 most] w (RetB (.int .i64 0) w) := by
  refine (callsIn_wide (n := 5)).1 (callsIn_of_wp_marks Tryd.func21 rfl trivial ?_ rfl)
  have hcs : e.v = .agg #[.int .u64 e.mi, .int .u64 e.ho, .int .u64 e.da, .int .u64 e.mo, .int .u64 e.we, .bool e.ad, .bool e.aw] := rfl
  rw [hcs]
  simp only [Tryd.ntmps21, List.size_toArray, List.length_cons, List.length_nil, Nat.reduceAdd, Nat.reduceSub, Array.replicate_succ, Array.replicate_zero, List.push_toArray, List.append_toArray, List.nil_append, List.cons_append]
  gi_wp2
  exact ⟨_, results_tmp rfl _ _ _, rfl, (((Below.refl _ _).alloc (Nat.le_refl _) _).alloc (by simp) _).alloc (by simp; omega) _⟩

theorem count_all (w : World) (e : Ex) (ok : e.Ok) (a to_ most : Int) (r1 : -9223372036854775808 ≤ a) (r2 : a ≤ 9223372036854775807) (m2 : most ≤ 9223372036854775807) :
    Calls Tryd.prog 21 #[e.v, .int .i64 a, .int .i64 to_, .int .i64 most] w (RetB (.int .i64 (cntF e to_ most.toNat a)) w) := by
  by_cases h : 1 ≤ most
  · exact count_any w e ok a to_ most r1 r2 h m2
  · have h0 := count_none w e a to_ most (by omega)
    rw [show most.toNat = 0 by omega]
    exact h0

end Go.Proofs.YtfdnhpmdbcfepaaDoor

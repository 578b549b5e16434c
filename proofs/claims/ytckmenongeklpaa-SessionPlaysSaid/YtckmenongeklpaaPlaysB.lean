/- A client among clients (package session's law): find. -/
import Derived.Test.YtckmenongeklpaaSessJ
namespace Go.Proofs.Ytckmenongeklpaa
open Go.RowKit Go.Maps Go.ChangeMaps

/-- The cells of a client of the law's. -/
def entC (p : Int × (Int × Ans)) : Array Value := #[.int .u64 p.1, .int .u64 p.2.1, .int .i64 p.2.2.err, .string p.2.2.name, .int .u64 p.2.2.tok, .int .i64 p.2.2.val]

/-- Clients' cells. -/
def flatT (l : List (Int × (Int × Ans))) : List Value := (l.map fun p => (entC p).toList).flatten

theorem flatT_len (xs : List (Int × (Int × Ans))) : (flatT xs).length = xs.length * 6 := by
  induction xs with
  | nil => rfl
  | cons x xs ih =>
    have e : (flatT (x :: xs)).length = 6 + (flatT xs).length := by simp [flatT, entC]; omega
    rw [e, ih, List.length_cons]; omega
theorem flatT_snoc (xs : List (Int × (Int × Ans))) (x : Int × (Int × Ans)) : flatT (xs ++ [x]) = flatT xs ++ (entC x).toList := by simp [flatT]

theorem flatT_at (xs : List (Int × (Int × Ans))) (k : Nat) (x : Int × (Int × Ans)) (h : xs[k]? = some x) : ((flatT xs).drop (k * 6)).take 6 = (entC x).toList := by
  induction xs generalizing k with
  | nil => simp at h
  | cons y ys ih =>
    have e : flatT (y :: ys) = (entC y).toList ++ flatT ys := by simp [flatT]
    have hl : (entC y).toList.length = 6 := rfl
    cases k with
    | zero =>
      simp at h
      subst h
      rw [e, Nat.zero_mul, List.drop_zero, List.take_append_of_le_length (by omega), List.take_of_length_le (by omega)]
    | succ k =>
      simp at h
      rw [e, show (k + 1) * 6 = 6 + k * 6 by omega, ← List.drop_drop, List.drop_append_of_le_length (by omega), show (entC y).toList.drop 6 = [] from List.drop_of_length_le (by omega), List.nil_append]
      exact ih k h

/-- The slice v is these clients. -/
abbrev OnesAt (w : World) (v : Value) (l : List (Int × (Int × Ans))) : Prop := w.ownsRow 0 43 6 v l.length (flatT l)

/-- An element of a slice of clients. -/
theorem ent_at {w : World} {v : Value} {xs : List (Int × (Int × Ans))} (h : OnesAt w v xs) {k : Nat} {x : Int × (Int × Ans)} (hx : xs[k]? = some x) :
    ∃ g cap C, v = .slice (some ⟨g, 0, none⟩) xs.length cap ∧ w.heap[g]? = some (.cells C 43 (0, 0)) ∧ (C.toList.drop (k * 6)).take (entC x).size = (entC x).toList ∧ xs.length ≤ cap ∧ cap ≤ 9223372036854775807 ∧ C.size = cap * 6 := by
  have hk := (List.getElem?_eq_some_iff.1 hx).1
  rcases h.2 with ⟨_, h0⟩ | ⟨g, cap, cur, rfl, _, hg, hn, hm, hc, ht⟩
  · omega
  · refine ⟨g, cap, cur, rfl, hg, ?_, hn, by unfold maxLen at hm; exact hm, hc⟩
    rw [show (entC x).size = 6 from rfl, ← flatT_at xs k x hx, ← ht, List.drop_take, List.take_take, Nat.min_eq_left (by omega)]

theorem ent_cell {C : Array Value} {x : Int × (Int × Ans)} {k : Nat} (h : (C.toList.drop (k * 6)).take (entC x).size = (entC x).toList) {i : Nat} (hi : i < 6) : C[k * 6 + i]? = (entC x)[i]? := by
  have h2 : ((C.toList.drop (k * 6)).take 6)[i]? = (entC x).toList[i]? := by rw [← h]; rfl
  rw [List.getElem?_take_of_lt hi, List.getElem?_drop] at h2
  simpa using h2

/-- What find tells: a client's place, or -1. -/
def FindP (l : List (Int × (Int × Ans))) (c : Int) (w : World) (e : Ending) (w' : World) : Prop :=
  w = w' ∧ ((e = .returned (.int .i64 (-1)) ∧ ∀ p ∈ l, p.1 ≠ c) ∨ ∃ (i : Nat) (x : Int × Ans), e = .returned (.int .i64 i) ∧ l[i]? = some (c, x))

set_option maxRecDepth 100000 in
theorem find_any (w : World) (v : Value) (l : List (Int × (Int × Ans))) (h : OnesAt w v l) (c : Int) (hl : l.length ≤ 100000) :
    Calls Try.prog 10 #[v, .int .u64 c] w (FindP l c w) := by
  obtain ⟨va, vc, rfl⟩ : ∃ va vc, v = .slice va l.length vc := by
    rcases h.2 with ⟨e1, e2⟩ | ⟨g, c, cur, e1, _⟩
    · exact ⟨none, 0, by rw [e1, e2]⟩
    · exact ⟨_, _, e1⟩
  have H := Lib.hid h
  clear h
  go_enter Try.func10, Try.ntmps10
  go_wp2
  go_loop [8] (fun iv => ∃ k : Nat, iv = .int .i64 k ∧ k ≤ l.length ∧ Hid (∀ j p, j < k → l[j]? = some p → p.1 ≠ c)) (fun iv => l.length - (intOf iv).toNat)
  case atStart => exact ⟨0, rfl, Nat.zero_le _, Lib.hid (fun j p hj => by omega)⟩
  case round =>
    obtain ⟨k, rfl, hk, HN⟩ := hrel
    by_cases hlt : k < l.length
    · obtain ⟨p, hp⟩ : ∃ p, l[k]? = some p := ⟨l[k], by simp [hlt]⟩
      obtain ⟨g, cap, C, hv, hg, hC, hcap, hcm, _⟩ := ent_at H.out hp
      injection hv with e1 e2 e3
      subst e1 e3
      have hcell := blk_cell hg (k * 6 + 0) (ent_cell hC (i := 0) (by omega))
      rw [Nat.add_zero] at hcell
      have HP := Lib.hid hp
      obtain ⟨pc, px⟩ := p
      have hcell' : w.cell? ⟨g, k * 6, none⟩ = some (.int .u64 pc) := hcell
      clear hg hC hp hcell
      by_cases hpc : pc = c
      · have d1 : (pc == c) = true := by simpa using hpc
        have HE := Lib.hid hpc
        clear hpc
        go_wp2
        go_ret
        exact ⟨rfl, .inr ⟨k, px, rfl, by rw [HP.out, HE.out]⟩⟩
      · have d1 : (pc == c) = false := by simpa using hpc
        have HE := Lib.hid hpc
        clear hpc
        go_wp2
        go_round
        case rel => exact ⟨k + 1, by go_num, by omega, Lib.hid (fun j q hj hq => by
          rcases Nat.lt_or_ge j k with h | h
          · exact HN.out j q h hq
          · obtain rfl : j = k := by omega
            rw [HP.out] at hq
            cases hq
            exact HE.out)⟩
        case measure => simp [intOf]; omega
    · have HA : Hid (∀ p ∈ l, p.1 ≠ c) := Lib.hid (fun p hp => by
        obtain ⟨j, hj, rfl⟩ := List.getElem_of_mem hp
        exact HN.out j _ (by omega) (by simp [hj]))
      clear HN
      go_wp2
      go_ret
      exact ⟨rfl, .inl ⟨rfl, HA.out⟩⟩

end Go.Proofs.Ytckmenongeklpaa

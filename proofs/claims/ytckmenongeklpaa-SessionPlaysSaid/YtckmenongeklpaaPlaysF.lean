/- SessionPlays: contracts that the walk takes: Keep, whatever comes; a client put anew in the slice. -/
import Derived.Test.YtckmenongeklpaaPlaysE
import Derived.Test.YtckmenongeklpaaPlaysD
import Derived.Test.YtckmenongeklpaaPlaysA
import Derived.Test.YtckmenongeklpaaSessR
import Derived.Test.YtckmenongeklpaaActs20
namespace Go.Proofs.Ytckmenongeklpaa
open Go.RowKit Go.Maps Go.ChangeMaps

/-- Keep answers something, and changes its map alone. -/
theorem keep_any (w : World) (t m : Nat) (L : List (Int × (Int × Ans))) (c : Int) (hc : (Lit.int .u64 c).wf = true) (h : TableAt w t m L) (n : Int) (a : Ans) (hl : L.length ≤ 1000) :
    Calls Try.prog 12 #[.pointer (some ⟨t, 0, none⟩), .int .u64 c, .int .u64 n, a.v] w
      fun e w' => (∃ x : Int, e = .returned (.int .i64 x)) ∧ Keeps (fun k => k = m) w w' := by
  have keep : ∀ {w' : World}, Below w.heap.size w w' → Keeps (fun k => k = m) w w' := fun hb => ⟨hb.os, hb.tape, hb.output, hb.size, fun k hk _ => hb.block k hk⟩
  by_cases h0 : c = 0
  · refine (keep_arg w t m L c h n a (.inl (by simpa using h0))).mono ?_
    rintro e w' ⟨rfl, hb⟩
    exact ⟨⟨_, rfl⟩, keep hb⟩
  by_cases h1 : n = 0
  · refine (keep_arg w t m L c h n a (.inr ⟨by simpa using h0, by simpa using h1⟩)).mono ?_
    rintro e w' ⟨rfl, hb⟩
    exact ⟨⟨_, rfl⟩, keep hb⟩
  have h0' : (c == 0) = false := by simpa using h0
  have h1' : (n == 0) = false := by simpa using h1
  by_cases h2 : n ≤ lastN L c
  · refine (keep_no w t m L c hc h n a h0' h1' hl 21 (.inl ⟨h2, rfl⟩)).mono ?_
    rintro e w' ⟨rfl, hb⟩
    exact ⟨⟨_, rfl⟩, keep hb⟩
  cases h3 : (!(aget c L).isSome && decide (16 ≤ L.length))
  · by_cases h4 : a.name.size ≤ 255
    · refine (keep_yes w t m L c hc h n a h0' h1' hl (by omega) h3 h4).mono ?_
      rintro e w' ⟨rfl, _, hk⟩
      exact ⟨⟨_, rfl⟩, hk⟩
    · refine (keep_no w t m L c hc h n a h0' h1' hl 15 (.inr (.inr ⟨by omega, h3, by omega, rfl⟩))).mono ?_
      rintro e w' ⟨rfl, hb⟩
      exact ⟨⟨_, rfl⟩, keep hb⟩
  · refine (keep_no w t m L c hc h n a h0' h1' hl 6 (.inr (.inl ⟨by omega, h3, rfl⟩))).mono ?_
    rintro e w' ⟨rfl, hb⟩
    exact ⟨⟨_, rfl⟩, keep hb⟩

/-- The slice v, in a block from N on, is these clients. -/
abbrev OnesFrom (w : World) (N : Nat) (v : Value) (l : List (Int × (Int × Ans))) : Prop := w.ownsRow N 43 6 v l.length (flatT l)

theorem OnesFrom.at {w : World} {N : Nat} {v : Value} {l : List (Int × (Int × Ans))} (h : OnesFrom w N v l) : OnesAt w v l := by
  refine ⟨h.1, ?_⟩
  rcases h.2 with h1 | ⟨g, cap, cur, e, _, h2⟩
  · exact .inl h1
  · exact .inr ⟨g, cap, cur, e, Nat.zero_le _, h2⟩

theorem OnesFrom.keeps {w w' : World} {N : Nat} {v : Value} {l : List (Int × (Int × Ans))} {S : Nat → Prop} (h : OnesFrom w N v l) (hk : Keeps S w w') (hS : ∀ k, N ≤ k → ¬ S k) : OnesFrom w' N v l := by
  refine ⟨h.1, ?_⟩
  rcases h.2 with h1 | ⟨g, cap, cur, e, hN, hg, h2⟩
  · exact .inl h1
  · exact .inr ⟨g, cap, cur, e, hN, (hk.block g (heap_lt hg) (hS g hN)).trans hg, h2⟩

theorem OnesFrom.below {w w' : World} {N : Nat} {v : Value} {l : List (Int × (Int × Ans))} (h : OnesFrom w N v l) (hk : Below w.heap.size w w') : OnesFrom w' N v l := by
  refine ⟨h.1, ?_⟩
  rcases h.2 with h1 | ⟨g, cap, cur, e, hN, hg, h2⟩
  · exact .inl h1
  · exact .inr ⟨g, cap, cur, e, hN, (hk.block g (heap_lt hg)).trans hg, h2⟩

theorem OnesFrom.drew {w : World} {N : Nat} {v : Value} {l : List (Int × (Int × Ans))} (h : OnesFrom w N v l) : OnesFrom w.drew N v l := h

/-- A block's cells, after a client's number and answer were stored: the slice's clients. -/
theorem OnesFrom.put {w w' : World} {N g cap len : Nat} {l : List (Int × (Int × Ans))} {C C' : Array Value} {i : Nat} {c n : Int} {a : Ans} {y : Int × Ans}
    (h : OnesFrom w N (.slice (some ⟨g, 0, none⟩) len cap) l) (hi : l[i]? = some (c, y)) (hg : w.heap[g]? = some (.cells C 43 (0, 0)))
    (hC : C' = ((((C.setIfInBounds (i * 6 + 1) (.int .u64 n)).setIfInBounds (i * 6 + 2) (.int .i64 a.err)).setIfInBounds (i * 6 + 3) (.string a.name)).setIfInBounds (i * 6 + 4) (.int .u64 a.tok)).setIfInBounds (i * 6 + 5) (.int .i64 a.val))
    (hg' : w'.heap[g]? = some (.cells C' 43 (0, 0))) : OnesFrom w' N (.slice (some ⟨g, 0, none⟩) len cap) (l.set i (c, (n, a))) := by
  subst hC
  refine ⟨by rw [flatT_len, List.length_set], ?_⟩
  rw [List.length_set]
  rcases h.2 with ⟨h1, _⟩ | ⟨g2, cap2, cur, e, hN, hg2, h3, h4, h5, h6⟩
  · cases h1
  · injection e with e1 e2 e3
    injection e1 with e1
    injection e1 with e1
    subst e1 e3
    rw [hg] at hg2
    cases hg2
    refine .inr ⟨g, cap, _, by rw [e2], hN, hg', h3, h4, by simpa using h5, ?_⟩
    rw [flatT_set l i c n a y hi]
    simp only [Array.toList_setIfInBounds, List.take_set, h6]

end Go.Proofs.Ytckmenongeklpaa

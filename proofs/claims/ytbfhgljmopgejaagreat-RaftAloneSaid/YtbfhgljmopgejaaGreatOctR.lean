/- Package octet: what its Reader reads. -/
import Derived.Test.YtbfhgljmopgejaaGreatOctW
import Derived.Test.YtbfhgljmopgejaaGreatBlk
import Derived.Laws.IdiomStrings
namespace Go.Proofs.YtbfhgljmopgejaaGreat
open Go.RowKit

/-- Block p is a Reader in this state. -/
def RdAt (w : World) (p : Nat) (s : RS) : Prop :=
  ∃ v, w.heap[p]? = some (.cells #[v, .int .i64 s.e] 129 (0, 0)) ∧ (∀ k, v.ownBlock = some k → k < p) ∧ Sl u8v w v s.b ∧ s.ok

theorem RdAt.lt {w : World} {p : Nat} {s : RS} (h : RdAt w p s) : p < w.heap.size := by
  obtain ⟨v, h, _⟩ := h
  exact heap_lt h

theorem RdAt.alloc {w : World} {p : Nat} {s : RS} (h : RdAt w p s) (o : Obj) : RdAt (w.alloc o) p s := by
  obtain ⟨v, h1, h2, h3, h4⟩ := h
  exact ⟨v, aheap h1 _, h2, h3.alloc _, h4⟩

theorem RdAt.kept {S : Nat → Prop} {w w' : World} {p : Nat} {s : RS} (h : RdAt w p s) (hk : Keeps S w w') (hS : ∀ k, k ≤ p → ¬ S k) : RdAt w' p s := by
  obtain ⟨v, h1, h2, h3, h4⟩ := h
  exact ⟨v, hk.heap (hS p (Nat.le_refl _)) h1, h2, h3.kept hk fun k hv => hS k (Nat.le_of_lt (h2 k hv)), h4⟩

/-- The call returned v, and the Reader in block p is in another state; all else is as it was. -/
def RetR (v : Value) (p : Nat) (s : RS) (w : World) (e : Ending) (w' : World) : Prop := e = .returned v ∧ RdAt w' p s ∧ Keeps (fun k => k = p) w w'

section
variable (w : World) (p : Nat) (s : RS) (h : RdAt w p s)
include h

theorem err_any : Calls Tryz.prog 81 #[.pointer (some ⟨p, 0, none⟩)] w (Ret (.int .i64 s.e) w) := by
  obtain ⟨v, hp, _⟩ := h
  have c1 := blk_cell hp 1 rfl
  clear hp
  go_enter Tryz.func81, Tryz.ntmps81
  go_wp2
  go_ret
  exact Ret.mk rfl

theorem fail_any (e : Int) (he : e ≠ 0) : Calls Tryz.prog 83 #[.pointer (some ⟨p, 0, none⟩), .int .i64 e] w (RetR (.tuple #[]) p (s.fail e) w) := by
  have her := err_any w p s h
  have H := Lib.hid h
  obtain ⟨v, hp, hne, hs, hok⟩ := h
  have c0 := blk_cell hp 0 rfl
  have c1 := blk_cell hp 1 rfl
  have f0 := blk_free hp 0
  have f1 := blk_free hp 1
  have HP := Lib.hid hp
  have HE := Lib.hid he
  clear hp hs hok he
  cases h0 : (s.e == 0)
  · have e1 : s.fail e = s := by unfold RS.fail; rw [if_neg (by simpa using h0)]
    rw [e1]
    clear e1
    go_enter Tryz.func83, Tryz.ntmps83
    go_wp2_with (go_at_call 81; refine her.mono ?_; rintro e w' ⟨rfl, rfl⟩)
    go_end0
    exact ⟨rfl, H.out, Keeps.refl _ _⟩
  · have e1 : s.fail e = ⟨[], e⟩ := by unfold RS.fail; rw [if_pos (by simpa using h0)]
    rw [e1]
    clear e1
    go_enter Tryz.func83, Tryz.ntmps83
    go_wp2_with (go_at_call 81; refine her.mono ?_; rintro e w' ⟨rfl, rfl⟩)
    go_end0
    refine ⟨rfl, ⟨.slice none 0 0, blk_set (blk_set HP.out 1 _) 0 _, by simp [Value.ownBlock], Sl.nil _ _, fun _ => rfl⟩, ((Keeps.refl (fun k => k = p) w).setCell (.inl rfl) _).setCell (.inl rfl) _⟩

theorem one_err (h0 : (s.e == 0) = false) : Calls Tryz.prog 82 #[.pointer (some ⟨p, 0, none⟩)] w (RetR (.int .u8 0) p s w) := by
  have her := err_any w p s h
  have H := Lib.hid h
  clear h
  go_enter Tryz.func82, Tryz.ntmps82
  go_wp2_with (go_at_call 81; refine her.mono ?_; rintro e w' ⟨rfl, rfl⟩)
  go_ret
  exact ⟨rfl, H.out, Keeps.refl _ _⟩

theorem one_short (h0 : s = ⟨[], 0⟩) : Calls Tryz.prog 82 #[.pointer (some ⟨p, 0, none⟩)] w (RetR (.int .u8 0) p ⟨[], 4⟩ w) := by
  subst h0
  have her := err_any w p _ h
  have hfl : Calls Tryz.prog 83 #[.pointer (some ⟨p, 0, none⟩), .int .i64 4] w (RetR (.tuple #[]) p ⟨[], 4⟩ w) := fail_any w p _ h 4 (by decide)
  obtain ⟨v, hp, hne, ⟨a, cap, rfl, hl, hm, hx⟩, hok⟩ := h
  have c0 := blk_cell hp 0 rfl
  clear hp hx hok hne
  simp only [List.length_nil] at *
  go_enter Tryz.func82, Tryz.ntmps82
  go_wp2_with (go_at_call 81; refine her.mono ?_; rintro e w' ⟨rfl, rfl⟩)
  refine hfl.mono ?_
  rintro e w1 ⟨rfl, h1, hk⟩
  have her1 := err_any w1 p _ h1
  clear her hfl c0
  go_wp2_with (go_at_call 81; refine her1.mono ?_; rintro e w' ⟨rfl, rfl⟩)
  go_ret
  exact ⟨rfl, h1, hk⟩

theorem one_yes (c : UInt8) (r : List UInt8) (h0 : s = ⟨c :: r, 0⟩) : Calls Tryz.prog 82 #[.pointer (some ⟨p, 0, none⟩)] w (RetR (.int .u8 c.toNat) p ⟨r, 0⟩ w) := by
  subst h0
  have her := err_any w p _ h
  obtain ⟨v, hp, hne, ⟨a, cap, rfl, hl, hm, hx⟩, hok⟩ := h
  have c0 := blk_cell hp 0 rfl
  have f0 := blk_free hp 0
  rcases hx with ⟨rfl, rfl⟩ | ⟨b, o, rfl, hb, hc⟩
  · simp at hl
  have hcb : w.cell? ⟨b, o, none⟩ = some (.int .u8 (c.toNat : Int)) := hc 0 c rfl
  clear hok
  have HC := Lib.hid hc
  have HP := Lib.hid hp
  have HE := Lib.hid (show b < p from hne b (by simp [Value.ownBlock]))
  have HL := Lib.hid hl
  clear hc hp hne
  simp only [List.length_cons] at *
  unfold maxLen at hm
  by_cases h1 : cap = 1
  · subst h1
    go_enter Tryz.func82, Tryz.ntmps82
    go_wp2_with (go_at_call 81; refine her.mono ?_; rintro e w' ⟨rfl, rfl⟩)
    go_ret
    have hr : r = [] := List.eq_nil_of_length_eq_zero (by have := HL.out; omega)
    subst hr
    refine ⟨rfl, ⟨_, blk_set HP.out 0 _, fun k hk => by simp [Value.ownBlock] at hk; have := HE.out; omega, ?_, fun h => absurd rfl h⟩, (Keeps.refl (fun k => k = p) w).setCell (.inl rfl) _⟩
    exact ⟨_, 0, rfl, by simp, Nat.zero_le _, .inr ⟨b, o, rfl, by simpa [World.setCell] using hb, fun i c hi => by simp at hi⟩⟩
  · go_enter Tryz.func82, Tryz.ntmps82
    go_wp2_with (go_at_call 81; refine her.mono ?_; rintro e w' ⟨rfl, rfl⟩)
    go_ret
    refine ⟨rfl, ⟨_, blk_set HP.out 0 _, fun k hk => by simp [Value.ownBlock] at hk; have := HE.out; omega, ?_, fun h => absurd rfl h⟩, (Keeps.refl (fun k => k = p) w).setCell (.inl rfl) _⟩
    have hs : Sl u8v w (.slice (some ⟨b, o + 1, none⟩) r.length (cap - 1)) r :=
      ⟨_, _, rfl, by have := HL.out; omega, by unfold maxLen; omega, .inr ⟨b, o + 1, rfl, hb, fun i c hi => by
        have := HC.out (i + 1) c (by simpa using hi)
        rw [Nat.add_assoc, Nat.add_comm 1 i]
        exact this⟩⟩
    exact hs.setCell (by simp only [Value.ownBlock, ne_eq, Option.some.injEq]; have := HE.out; omega) _
end

end Go.Proofs.YtbfhgljmopgejaaGreat

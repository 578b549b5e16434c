/- slices.Clone at []int. -/
import Derived.Test.YtbfhgljmopgejaaGreatConfH
namespace Go.Proofs.YtbfhgljmopgejaaGreat
open Go.RowKit

/-- What is cloned: the same numbers, in a row of its own. -/
def ClonedI (w : World) (l : List Int) (e : Ending) (w' : World) : Prop :=
  ∃ v, e = .returned v ∧ Below w.heap.size w w' ∧ Sl intv w' v l ∧ w'.ownsRow 0 3 1 v l.length (l.map intv) ∧ ∀ k, v.ownBlock = some k → w.heap.size ≤ k

set_option maxRecDepth 100000 in
theorem clone_anyI (w : World) (ad : Option Addr) (n cp : Nat) (l : List Int) (hu : Sl intv w (.slice ad n cp) l) (hl : l.length ≤ 1000) :
    Calls Tryz.prog 17 #[.slice ad n cp] w (ClonedI w l) := by
  have HU := Lib.hid hu
  have HL := Lib.hid hl
  clear hl
  cases ad with
  | none =>
    obtain ⟨rfl, rfl, rfl⟩ := hu.none_nil
    clear hu
    have hnil := fun w => Lib.run_eql_slice_nil (P := Tryz.prog) w 30 3 none 0 0 0 0 Tryz.underlying30
    go_enter Tryz.func17, Tryz.ntmps17
    go_wp2
    go_ret
    exact ⟨_, rfl, Below.refl _ _, Sl.nil _ _, World.ownsRow_nil _ _ _ _, fun k hk => by simp [Value.ownBlock] at hk⟩
  | some x =>
    obtain ⟨b, o, rfl, hb, rfl, hn, hc⟩ := hu.some_row
    clear hu hc hn
    have hnil := fun w => Lib.run_eql_slice_nil (P := Tryz.prog) w 30 3 (some ⟨b, o, none⟩) l.length cp 0 0 Tryz.underlying30
    obtain ⟨i0, hi, hz0, hz1, hz2⟩ := info_parts info_i64
    go_enter Tryz.func17, Tryz.ntmps17
    have how : (w.alloc (.cells #[] 3)).ownsRow 0 3 1 (.slice (some ⟨w.heap.size, 0, none⟩) 0 0) 0 [] := World.ownsRow_made w #[] 0 (Nat.zero_le _) (Nat.zero_le _) rfl
    have hus : Sl intv (w.alloc (.cells #[] 3)) (.slice (some ⟨b, o, none⟩) l.length cp) l := HU.out.alloc _
    have HM0 := Lib.hid (show 0 + l.length ≤ maxLen by unfold maxLen; have := HL.out; omega)
    have HM1 := Lib.hid (show (0 + l.length) * 8 ≤ 140737488355328 by have := HL.out; omega)
    have HO0 := Lib.hid how
    have HU0 := Lib.hid hus
    clear how hus
    go_wp2_with (at_builtin; refine wpList_append_sl (w.alloc (.cells #[] 3)) rfl _ _ _ rfl 3 i0 (.int .i64 0) 8 Tryz.underlying30 hi hz0 hz1 hz2 rfl (.slice (some ⟨w.heap.size, 0, none⟩) 0 0) 0 [] rfl HO0.out (.slice (some ⟨b, o, none⟩) l.length cp) l rfl HU0.out intv_one HM0.out HM1.out ?_; intro v' w1 hown hg hrow; have HO := Lib.hid hown; have HG := Lib.hid hg; have HR := Lib.hid hrow; clear hown hg hrow)
    go_ret
    have hown : w1.ownsRow 0 3 1 v' l.length (l.map intv) := by have := HO.out; rwa [Nat.zero_add, List.nil_append] at this
    refine ⟨v', rfl, ?_, owns_sl hown, hown, fun k hk => ?_⟩
    · have h1 : Keeps (fun k => w.heap.size ≤ k) w w1 := ((Keeps.refl _ w).alloc _).trans (grown_keeps HG.out (fun k hk => by simp [Value.ownBlock] at hk; omega))
      exact h1.below (Nat.le_refl _) (fun k hk => hk)
    · rcases HR.out with h1 | ⟨j, h1, h2, _⟩
      · rw [h1] at hk; simp [Value.ownBlock] at hk; omega
      · rw [h1] at hk; cases hk; simp at h2; omega

end Go.Proofs.YtbfhgljmopgejaaGreat

/- The reference's numbers as bytes. -/
import Derived.Test.YtckmenongeklpaaOctV
import Derived.IntWalk
import Derived.Deep.RegionLaw
namespace Go.Proofs.Ytckmenongeklpaa
open Go.RowKit

theorem belowN {B : Nat} {a w : World} (h : Below B a w) : Below B a w.drew := ⟨h.os, h.tape, h.output, h.size, h.block⟩

theorem str_app (a b : List UInt8) : (⟨a.toArray⟩ : ByteArray) ++ ⟨b.toArray⟩ = ⟨(a ++ b).toArray⟩ :=
  ByteArray.ext (by rw [ByteArray.data_append]; simp)

theorem byte_at {w : World} {b : Nat} {c : Int} {T : TypeId} {fr : Nat × Nat} (hb : w.heap[b]? = some (.cells #[.int .u8 c] T fr)) (h0 : 0 ≤ c) (h1 : c ≤ 255) : (convert 22 9 (.slice (some ⟨b, 0, none⟩) 1 1)).run Try.prog w = .ok (.string ⟨#[UInt8.ofNat c.toNat]⟩) w := by
  have hs : Sl u8v w (.slice (some ⟨b, 0, none⟩) 1 1) [UInt8.ofNat c.toNat] := by
    refine ⟨_, 1, rfl, Nat.le_refl _, by decide, .inr ⟨_, 0, rfl, heap_lt hb, fun i x hi => ?_⟩⟩
    have hi0 : i = 0 := by have := (List.getElem?_eq_some_iff.1 hi).1; simpa using this
    subst hi0
    simp at hi
    subst hi
    have e : ((c.toNat : Nat) : Int) = c := by omega
    show _ = some (Value.int .u8 ((UInt8.ofNat c.toNat).toNat : Int))
    rw [toNat_ofNat (by omega), e]
    exact blk_cell hb 0 rfl
  exact sl_string hs Try.underlying22

theorem byte_string (w : World) (c : Int) (h0 : 0 ≤ c) (h1 : c ≤ 255) : (convert 22 9 (.slice (some ⟨w.heap.size, 0, none⟩) 1 1)).run Try.prog (w.alloc (.cells #[.int .u8 c] 5)) = .ok (.string ⟨#[UInt8.ofNat c.toNat]⟩) (w.alloc (.cells #[.int .u8 c] 5)) :=
  byte_at (heap_new w _) h0 h1

set_option maxRecDepth 100000 in
theorem refnum_any : ∀ (x : Nat) (w : World), x < 18446744073709551616 → Calls Try.prog 31 #[.int .u64 x] w (RetB (.string ⟨(numB x).toArray⟩) w) := by
  intro x
  induction x using Nat.strongRecOn with
  | ind x ih =>
    intro w hx
    have HX := Lib.hid hx
    clear hx
    by_cases h : x < 128
    · have hc := byte_string w (x : Int) (by omega) (by omega)
      have HB := Lib.hid (numB_lt h)
      clear ih HX
      go_enter Try.func31, Try.ntmps31
      go_wp2
      go_ret
      exact RetB.mk (by rw [HB.out]; rfl) ((Below.refl _ _).alloc (Nat.le_refl _) _)
    · have h1 : 128 ≤ x := by omega
      have HB := Lib.hid (numB_ge h1)
      have hr := fun W => ih (x / 128) (by omega) W (by have := HX.out; omega)
      have hlen := numB_len10 (x := x / 128) (by have := HX.out; omega)
      clear ih
      obtain ⟨m, hm⟩ : ∃ m, m = x % 128 := ⟨_, rfl⟩
      obtain ⟨q, hq⟩ : ∃ q, q = x / 128 := ⟨_, rfl⟩
      rw [← hq] at hr hlen
      have m1 : m < 128 := by omega
      have e1 : (x : Int).tmod 128 = (m : Int) := by rw [hm, Int.tmod_eq_emod_of_nonneg (by omega)]; omega
      have e2 : (x : Int).tdiv 128 = (q : Int) := by rw [hq, Int.tdiv_eq_ediv_of_nonneg (by omega)]; omega
      have hx63 : ¬ (x : Int) < 128 := by omega
      have e3 : IntKind.u64.wrap ((m : Int) + 128) = (m : Int) + 128 := IntWalk.u64_in _ (by omega)
      have e4 : IntKind.u8.wrap ((m : Int) + 128) = (m : Int) + 128 := IntWalk.u8_in _ (by omega)
      have HM := Lib.hid hm
      have HQ := Lib.hid hq
      have HLEN := Lib.hid hlen
      have e5 : IntKind.u64.wrap (q : Int) = (q : Int) := IntWalk.u64_in _ (by have := HX.out; omega)
      have hc1 := byte_at (w := (w.alloc (.cells #[.int .u8 ((m : Int) + 128)] 5)).drew) (heap_new w _) (c := (m : Int) + 128) (by omega) (by omega)
      have hcc : ¬ (9223372036854775807 < 1 + (numB q).length) := by omega
      clear hm hq hlen
      go_enter Try.func31, Try.ntmps31
      go_wp2
      go_region_law (first
        | (go_simp; go_at_call 31; refine (hr _).mono ?_; rintro e w2 ⟨rfl, hb2⟩; first | (have hx3 := bheap (W := (w.alloc (.cells #[.int .u8 ((m : Int) + 128)] 5)).drew) hb2 (heap_new w _) (by simp); have hc3 := byte_at hx3 (by omega) (by omega)) | (have hc2 := byte_string w2 ((m : Int) + 128) (by omega) (by omega))))
      all_goals
        go_wp2
        go_ret
        refine RetB.mk ?_ ?_
        · rw [HB.out, HM.out.symm, HQ.out.symm]
          have e : ((m : Int) + 128).toNat = m + 128 := by omega
          rw [e]
          exact congrArg Value.string (str_app [_] (numB q))
        · first
            | exact (belowN ((Below.refl _ w).alloc (Nat.le_refl _) _)).trans (hb2.mono (by simp))
            | exact ((belowN (Below.refl _ w)).trans hb2).alloc (hb2.size) _

theorem zig_neg {x : Int} (h : x < 0) : ((zig x : Nat) : Int) = 2 * (-(x + 1)) + 1 := by unfold zig; rw [if_pos h]; omega
theorem zig_pos {x : Int} (h : 0 ≤ x) : ((zig x : Nat) : Int) = 2 * x := by unfold zig; rw [if_neg (by omega)]; omega

theorem refint_any (x : Int) (w : World) (h1 : -9223372036854775808 ≤ x) (h2 : x ≤ 9223372036854775807) :
    Calls Try.prog 33 #[.int .i64 x] w (RetB (.string ⟨(intB x).toArray⟩) w) := by
  have hn := refnum_any (zig x) w (zig_lt h1 h2)
  by_cases h : x < 0
  · rw [zig_neg h] at hn
    have HN := Lib.hid hn
    clear hn
    go_enter Try.func33, Try.ntmps33
    go_wp2_with fail
    refine HN.out.mono ?_
    rintro e w1 ⟨rfl, hb⟩
    go_wp2_with fail
    go_ret
    exact RetB.mk rfl hb
  · have h0 : 0 ≤ x := by omega
    rw [zig_pos h0] at hn
    have HN := Lib.hid hn
    clear hn
    go_enter Try.func33, Try.ntmps33
    go_wp2_with fail
    refine HN.out.mono ?_
    rintro e w1 ⟨rfl, hb⟩
    go_wp2_with fail
    go_ret
    exact RetB.mk rfl hb

theorem reftext_any (s : ByteArray) (w : World) (hs : s.size ≤ 1000000) :
    Calls Try.prog 32 #[.string s] w (RetB (.string ⟨(textB s.data.toList).toArray⟩) w) := by
  have hlen : s.data.toList.length = s.size := by rw [Array.length_toList]; rfl
  have hn := Lib.hid (refnum_any s.size w (by omega))
  have hl10 := numB_len10 (x := s.size) (by omega)
  have HL := Lib.hid hlen
  clear hlen
  go_enter Try.func32, Try.ntmps32
  go_wp2_with fail
  refine hn.out.mono ?_
  rintro e w1 ⟨rfl, hb⟩
  go_wp2_with fail
  go_ret
  refine RetB.mk ?_ hb
  unfold textB
  rw [HL.out]
  exact congrArg Value.string (str_app (numB s.size) s.data.toList)

end Go.Proofs.Ytckmenongeklpaa

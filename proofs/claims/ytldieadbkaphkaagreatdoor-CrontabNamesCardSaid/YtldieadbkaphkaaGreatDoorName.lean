/- spec.Name, and the statements' own Name: whether a text is a name. -/
import Derived.Test.YtldieadbkaphkaaGreatDoorBase
import Derived.Handy
namespace Go.Proofs.YtldieadbkaphkaaGreatDoor
open Go.RowKit

theorem at_list (s : ByteArray) (i : Nat) (h : i < s.size) : s[i]'h = s.data.toList.getD i 0 := by
  have : i < s.data.toList.length := by rw [Array.length_toList]; exact h
  rw [List.getD_eq_getElem?_getD, List.getElem?_eq_getElem this]
  rfl

def signB (c : Nat) : Bool := (decide (97 ≤ c) && decide (c ≤ 122)) || (decide (48 ≤ c) && decide (c ≤ 57)) || decide (c = 45) || decide (c = 46)

def nameL (l : List UInt8) : Bool := decide (1 ≤ l.length) && decide (l.length ≤ 24) && decide (97 ≤ (l.getD 0 0).toNat) && decide ((l.getD 0 0).toNat ≤ 122) && l.all fun c => signB c.toNat

def nameB (s : ByteArray) : Bool := nameL s.data.toList

theorem nameB_iff (s : ByteArray) : nameB s = true ↔ 1 ≤ s.size ∧ s.size ≤ 24 ∧ 97 ≤ (s.data.toList.getD 0 0).toNat ∧ (s.data.toList.getD 0 0).toNat ≤ 122 ∧ ∀ i, i < s.size → signB (s.data.toList.getD i 0).toNat = true := by
  have e0 : s.size = s.data.toList.length := by rw [Array.length_toList]; rfl
  unfold nameB nameL
  rw [e0]
  generalize s.data.toList = l
  simp only [Bool.and_eq_true, decide_eq_true_eq, List.all_eq_true]
  constructor
  · rintro ⟨⟨⟨⟨h1, h2⟩, h3⟩, h4⟩, h5⟩
    refine ⟨h1, h2, h3, h4, fun i hi => h5 _ ?_⟩
    rw [List.getD_eq_getElem?_getD, List.getElem?_eq_getElem hi]; exact List.getElem_mem hi
  · rintro ⟨h1, h2, h3, h4, h5⟩
    refine ⟨⟨⟨⟨h1, h2⟩, h3⟩, h4⟩, fun c hc => ?_⟩
    obtain ⟨i, hi, rfl⟩ := List.getElem_of_mem hc
    have := h5 i hi
    rw [List.getD_eq_getElem?_getD, List.getElem?_eq_getElem hi] at this
    exact this

theorem signB_iff (c : Nat) : signB c = true ↔ (97 ≤ c ∧ c ≤ 122) ∨ (48 ≤ c ∧ c ≤ 57) ∨ c = 45 ∨ c = 46 := by
  unfold signB
  simp only [Bool.or_eq_true, Bool.and_eq_true, decide_eq_true_eq]
  omega

theorem signB_no {c : Nat} (h : ¬ ((97 ≤ c ∧ c ≤ 122) ∨ (48 ≤ c ∧ c ≤ 57) ∨ c = 45 ∨ c = 46)) : signB c = false := by
  cases h' : signB c
  · rfl
  · exact absurd ((signB_iff c).1 h') h

theorem sign_any (c : Nat) (w : World) : Calls Tryz.prog 46 #[.int .i32 c] w (Ret (.bool (signB c)) w) := by
  have h8 := signB_iff c
  generalize signB c = b at *
  cases b
  all_goals
    simp only [Bool.false_eq_true, false_iff, true_iff] at h8
    by_cases h1 : 97 ≤ c <;> by_cases h2 : c ≤ 122 <;> by_cases h3 : 48 ≤ c <;> by_cases h4 : c ≤ 57 <;> by_cases h5 : c = 45 <;> by_cases h6 : c = 46
    all_goals try omega
    all_goals
      clear h8
      first
      | (have k5 : ((c : Int) == 45) = false := (by simp; omega))
      | (have k5 : ((c : Int) == 45) = true := (by simp; omega))
      first
      | (have k6 : ((c : Int) == 46) = false := (by simp; omega))
      | (have k6 : ((c : Int) == 46) = true := (by simp; omega))
      clear h5 h6
      go_enter Tryz.func46, Tryz.ntmps46
      go_wp2
      go_ret
      first
        | exact Ret.mk rfl
        | exact Ret.mk (bool_eq (by simp; omega))

theorem isEmpty_false (s : ByteArray) (hs : 1 ≤ s.size) : s.toList.isEmpty = false := by
  rw [ByteArray.toList_eq]
  have : s.data.toList.length = s.size := by rw [Array.length_toList]; rfl
  cases h : s.data.toList with
  | nil => rw [h] at this; simp at this; omega
  | cons c l => rfl

theorem isEmpty_true (s : ByteArray) (hs : s.size = 0) : s.toList.isEmpty = true := by
  rw [ByteArray.toList_eq]
  have : s.data.toList.length = s.size := by rw [Array.length_toList]; rfl
  cases h : s.data.toList with
  | nil => rfl
  | cons c l => rw [h] at this; simp at this; omega

theorem name_loop (s : ByteArray) (w : World) (b : Bool) (hs : 1 ≤ s.size) (hs2 : s.size ≤ 24) (h1 : 97 ≤ (s.data.toList.getD 0 0).toNat) (h2 : (s.data.toList.getD 0 0).toNat ≤ 122) (hb : nameB s = b) :
    Calls Tryz.prog 29 #[.string s] w (RetB (.bool b) w) := by
  have HB := Lib.hid hb
  have e0 := at_list s 0 (by omega)
  have H1 := Lib.hid h1
  have H2 := Lib.hid h2
  rw [← e0] at h1 h2
  have he := isEmpty_false s hs
  clear hb e0
  go_enter Tryz.func29, Tryz.ntmps29
  go_wp2_with fail
  clear h1 h2
  go_loopw [4] (fun _ wr => ∃ pos : Nat, wr = w.iter s pos ∧ ∀ i, i < pos → i < s.size → signB (s.data.toList.getD i 0).toNat = true) (fun _ wr => s.size - wr.iterPos w.heap.size)
  case atStart => exact ⟨0, rfl, fun i hi => by omega⟩
  case round =>
    obtain ⟨pos, rfl, hg⟩ := hrel
    have HG := Lib.hid hg
    clear hg
    by_cases hp : pos < s.size
    · by_cases ha : (s[pos]'hp).toNat < 128
      · have hnx : ∀ ty, (Instr.next (.pointer (some ⟨w.heap.size, 0, none⟩)) true ty).run Tryz.prog (w.iter s pos) = _ := fun ty => run_next_ascii w s pos ty hp ha
        cases hsg : signB (s[pos]'hp).toNat
        · go_wp2_with (go_at_call 46; refine (sign_any _ _).mono ?_; rintro e w' ⟨rfl, rfl⟩)
          go_ret
          refine RetB.mk (bool_eq ?_) ((Below.refl _ _).alloc (Nat.le_refl _) _)
          have := HB.out
          cases b
          · rfl
          · have h5 := ((nameB_iff s).1 this).2.2.2.2 pos hp
            rw [← at_list s pos hp, hsg] at h5
            cases h5
        · have HS := Lib.hid hsg
          go_wp2_with (go_at_call 46; refine (sign_any _ _).mono ?_; rintro e w' ⟨rfl, rfl⟩)
          go_roundw
          case rel =>
            refine ⟨pos + 1, rfl, fun i hi hi2 => ?_⟩
            rcases Nat.lt_or_ge i pos with h | h
            · exact HG.out i h hi2
            · obtain rfl : i = pos := by omega
              rw [← at_list s i hp]; exact HS.out
          case measure => simp; omega
      · have hnx : ∀ ty, (Instr.next (.pointer (some ⟨w.heap.size, 0, none⟩)) true ty).run Tryz.prog (w.iter s pos) = _ := fun ty => run_next_any w s pos ty hp
        have hhi := (decode_high s pos hp (by omega)).1
        have hsg : signB (Utf8.decode s pos).1 = false := signB_no (by omega)
        generalize (Utf8.decode s pos).1 = r at *
        clear hhi
        have HA := Lib.hid ha
        clear ha
        go_wp2_with (go_at_call 46; refine (sign_any _ _).mono ?_; rintro e w' ⟨rfl, rfl⟩)
        go_ret
        refine RetB.mk (bool_eq ?_) ((Below.refl _ _).alloc (Nat.le_refl _) _)
        have := HB.out
        cases b
        · rfl
        · have h5 := ((nameB_iff s).1 this).2.2.2.2 pos hp
          rw [← at_list s pos hp] at h5
          have := HA.out
          have h6 := (signB_iff _).1 h5
          omega
    · have hnx : ∀ ty, (Instr.next (.pointer (some ⟨w.heap.size, 0, none⟩)) true ty).run Tryz.prog (w.iter s pos) = _ := fun ty => run_next_end w s pos ty hp
      go_wp2
      go_ret
      refine RetB.mk (bool_eq ?_) ((Below.refl _ _).alloc (Nat.le_refl _) _)
      rw [← HB.out]
      symm
      exact (nameB_iff s).2 ⟨hs, hs2, H1.out, H2.out, fun i hi => HG.out i (by omega) hi⟩

theorem name_any (s : ByteArray) (w : World) (hm : s.size ≤ maxLen) : Calls Tryz.prog 29 #[.string s] w (RetB (.bool (nameB s)) w) := by
  unfold maxLen at hm
  by_cases h0 : s.size = 0
  · have hb : nameB s = false := by
      cases h : nameB s
      · rfl
      · have := ((nameB_iff s).1 h).1; omega
    have he := isEmpty_true s h0
    rw [hb]
    clear hb h0
    go_enter Tryz.func29, Tryz.ntmps29
    go_wp2_with fail
    go_ret
    exact RetB.mk rfl (Below.refl _ _)
  · by_cases h24 : 24 < s.size
    · have hb : nameB s = false := by
        cases h : nameB s
        · rfl
        · have := ((nameB_iff s).1 h).2.1; omega
      have he := isEmpty_false s (by omega)
      rw [hb]
      clear hb h0
      go_enter Tryz.func29, Tryz.ntmps29
      go_wp2_with fail
      go_ret
      exact RetB.mk rfl (Below.refl _ _)
    · by_cases h97 : 97 ≤ (s.data.toList.getD 0 0).toNat ∧ (s.data.toList.getD 0 0).toNat ≤ 122
      · exact name_loop s w _ (by omega) (by omega) h97.1 h97.2 rfl
      · have hb : nameB s = false := by
          cases h : nameB s
          · rfl
          · have := ((nameB_iff s).1 h).2.2; omega
        have he := isEmpty_false s (by omega)
        rw [hb]
        have hz : 0 < s.size := by omega
        rw [← at_list s 0 hz] at h97
        have hor : (s[0]'hz).toNat < 97 ∨ 97 ≤ (s[0]'hz).toNat ∧ 122 < (s[0]'hz).toNat := by omega
        clear h97
        clear hb
        rcases hor with hor | ⟨hor, hor2⟩
        all_goals
          go_enter Tryz.func29, Tryz.ntmps29
          go_wp2_with fail
          go_ret
          exact RetB.mk rfl (Below.refl _ _)

end Go.Proofs.YtldieadbkaphkaaGreatDoor

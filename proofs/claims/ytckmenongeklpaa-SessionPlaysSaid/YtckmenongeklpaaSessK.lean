/- A table's bytes (package session): the whole. -/
import Derived.Test.YtckmenongeklpaaSessJ
import Derived.Shelf.Abstract
namespace Go.Proofs.Ytckmenongeklpaa
open Go.RowKit Go.Maps Go.ChangeMaps

theorem keysU_any (w : World) (m : Nat) : Calls Try.prog 23 #[.map (some m)] w (fun e w' => e = .returned (.func (.func 43) #[] #[.pointer (some ⟨w.heap.size, 0, none⟩)]) ∧ w' = w.alloc (.cells #[.map (some m)] 59)) := by
  go_enter Try.func23, Try.ntmps23
  go_wp2
  go_ret
  exact ⟨rfl, rfl⟩

/-- What Bytes leaves. -/
def BytesP (l : List (Int × (Int × Ans))) (w : World) (e : Ending) (w' : World) : Prop := ∃ ys : List Int, ys.Perm (keys l) ∧ ys.Pairwise (· < ·) ∧ Cloned w (numB ys.length ++ entsB l ys) e w'

set_option maxRecDepth 100000 in
set_option maxHeartbeats 1600000 in
theorem bytes_any (w : World) (t m : Nat) (l : List (Int × (Int × Ans))) (hT : TableAt w t m l) (hok : TabOk l) :
    Calls Try.prog 7 #[.pointer (some ⟨t, 0, none⟩)] w (BytesP l w) := by
  have HT := Lib.hid hT
  have HOK := Lib.hid hok
  have lt1 := heap_lt hT.box
  have lt2 := hT.map.lt
  have hlen := hok.2.1
  clear hT hok
  go_enter Try.func7, Try.ntmps7
  have hcell := cell_of_one (HT.out.alloc (.cells #[.pointer (some ⟨t, 0, none⟩)] 24)).box
  obtain ⟨W0, hW0⟩ : ∃ W0, W0 = (w.alloc (.cells #[.pointer (some ⟨t, 0, none⟩)] 24)).alloc (.cells #[.slice none 0 0] 64) := ⟨_, rfl⟩
  have hcell0 := cell_of_one ((HT.out.alloc (.cells #[.pointer (some ⟨t, 0, none⟩)] 24)).alloc (.cells #[.slice none 0 0] 64)).box
  have HW0 := Lib.hid hW0
  clear hW0
  go_wp2_with fail
  rw [← HW0.out]
  have HX0 : Hid (W0.heap[w.heap.size]? = some (.cells #[.pointer (some ⟨t, 0, none⟩)] 24 (0, 0))) := Lib.hid (by rw [HW0.out]; exact aheap (heap_new _ _) _)
  have HP0 : Hid (Wr W0 (w.heap.size + 1) none []) := Lib.hid (by
    have h := wr_new (w := w.alloc (.cells #[.pointer (some ⟨t, 0, none⟩)] 24))
    rw [World.size_alloc] at h
    rw [HW0.out]; exact h)
  have HT0 : Hid (TableAt W0 t m l) := Lib.hid (by rw [HW0.out]; exact (HT.out.alloc _).alloc _)
  have HB0 : Hid (Below w.heap.size w W0) := Lib.hid (by rw [HW0.out]; exact ((Below.refl _ _).alloc (Nat.le_refl _) _).alloc (by simp) _)
  have HZ0 : Hid (W0.heap.size = w.heap.size + 2) := Lib.hid (by rw [HW0.out]; simp)
  clear hcell hcell0
  refine (keysU_any W0 m).mono ?_
  rintro e w1 ⟨rfl, hw1⟩
  have hb1 : Below W0.heap.size W0 w1 := by rw [hw1]; exact (Below.refl _ _).alloc (Nat.le_refl _) _
  have hk1 : w1.heap[W0.heap.size]? = some (.cells #[.map (some m)] 59 (0, 0)) := by rw [hw1]; exact heap_new _ _
  have HZ1 : Hid (w1.heap.size = W0.heap.size + 1) := Lib.hid (by rw [hw1]; simp)
  have HT1 := Lib.hid (HT0.out.below hb1 (heap_lt HT0.out.box) HT0.out.map.lt)
  have HX1 := Lib.hid (bheap hb1 HX0.out (heap_lt HX0.out))
  have HP1 : Hid (Wr w1 (w.heap.size + 1) none []) := Lib.hid (HP0.out.kept (Keeps.of_belowS (S := fun _ => False) hb1) (fun h => h) (fun _ _ h => h))
  have HB1 := Lib.hid (HB0.out.trans (hb1.mono HB0.out.size))
  have hkeys : (keys l).length = l.length := by simp [keys]
  have hso := sorted_any w1 43 #[.pointer (some ⟨W0.heap.size, 0, none⟩)] (enters_of Try.func43 (by kernel_rfl) rfl) (keys l) (by omega) HOK.out.1 (KeysR W0.heap.size m l)
    (keysU_iter 4 W0.heap.size m l) (fun A hA => ⟨bheap hA hk1 (heap_lt hk1), HT1.out.map.same (hA.block m HT1.out.map.lt)⟩)
  have HSO := Lib.hid hso
  clear hw1 hb1 hk1 hso
  go_wp2_with fail
  refine HSO.out.mono ?_
  rintro e w2 ⟨v, ys, rfl, hperm, hrise, hown, hb2⟩
  have HT2 := Lib.hid (HT1.out.below hb2 (heap_lt HT1.out.box) HT1.out.map.lt)
  have HX2 := Lib.hid (bheap hb2 HX1.out (heap_lt HX1.out))
  have HP2 : Hid (Wr w2 (w.heap.size + 1) none []) := Lib.hid (HP1.out.kept (Keeps.of_belowS (S := fun _ => False) hb2) (fun h => h) (fun _ _ h => h))
  have HB2 := Lib.hid (HB1.out.trans (hb2.mono HB1.out.size))
  have hsl : Sl keyU w2 v ys := owns_sl (owns_mono hown (Nat.zero_le _))
  have hvn : ∀ k, v.ownBlock = some k → k ≠ w.heap.size + 1 := fun k hk => by have := (hown.lt k hk).1; have := HZ0.out; have := HZ1.out; omega
  have hyl : ys.length = l.length := by rw [hperm.length_eq, hkeys]
  have hpu := putU_any w2 (w.heap.size + 1) t m w.heap.size l HP2.out HT2.out HX2.out (by omega) (by omega) (by omega) HOK.out v ys hsl hvn (fun c hc => hperm.mem_iff.1 hc) (by omega)
  have HPU := Lib.hid hpu
  have HYS := Lib.hid (show ys.Perm (keys l) ∧ ys.Pairwise (· < ·) from ⟨hperm, hrise⟩)
  clear hown hb2 hsl hvn hperm hrise hpu HSO
  go_wp2_with fail
  refine HPU.out.mono ?_
  rintro e w3 ⟨rfl, r3, hP3, hk3⟩
  have HP3 := Lib.hid hP3
  have HB3 := Lib.hid (HB2.out.trans ((hk3.below (B := w.heap.size + 1) (by have := HB2.out.size; have := HP2.out.lt; omega) (Nat.le_refl _) (by simp)).1.mono (Nat.le_succ _)))
  have hlb : (numB ys.length ++ entsB l ys).length ≤ 100000000 := by
    have q1 := numB_len10 (x := ys.length) (by omega)
    have q2 := entsB_len HOK.out ys
    rw [List.length_append]
    omega
  clear hP3 hk3
  go_wp2_with fail
  refine (wbytes_any w3 (w.heap.size + 1) r3 _ HP3.out (by omega)).mono ?_
  rintro e w4 ⟨u, rfl, hb4, hs4, ho4, hn4⟩
  have HF := Lib.hid (show Below w.heap.size w w4 ∧ Sl u8v w4 u (numB ys.length ++ entsB l ys) ∧ w4.ownsRow 0 5 1 u (numB ys.length ++ entsB l ys).length ((numB ys.length ++ entsB l ys).map u8v) ∧ ∀ k, u.ownBlock = some k → w.heap.size ≤ k from
    ⟨HB3.out.trans (hb4.mono HB3.out.size), hs4, ho4, fun k hk => Nat.le_trans HB3.out.size (hn4 k hk)⟩)
  clear hb4 hs4 ho4 hn4
  go_wp2_with fail
  go_ret
  exact ⟨ys, HYS.out.1, HYS.out.2, u, rfl, HF.out⟩

end Go.Proofs.Ytckmenongeklpaa

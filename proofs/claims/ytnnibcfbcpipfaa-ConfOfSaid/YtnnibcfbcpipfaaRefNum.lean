/- The reference's numbers as bytes. -/
import Derived.Test.YtnnibcfbcpipfaaLogA
import Derived.Test.YtnnibcfbcpipfaaConfP
import Derived.Deep.RegionLaw
namespace Go.Proofs.Ytnnibcfbcpipfaa
open Go.RowKit

theorem str_app (a b : List UInt8) : (⟨a.toArray⟩ : ByteArray) ++ ⟨b.toArray⟩ = ⟨(a ++ b).toArray⟩ :=
  ByteArray.ext (by rw [ByteArray.data_append]; simp)

theorem byte_at {w : World} {b : Nat} {c : Int} {T : TypeId} {fr : Nat × Nat} (hb : w.heap[b]? = some (.cells #[.int .u8 c] T fr)) (h0 : 0 ≤ c) (h1 : c ≤ 255) : (convert 48 9 (.slice (some ⟨b, 0, none⟩) 1 1)).run Try.prog w = .ok (.string ⟨#[UInt8.ofNat c.toNat]⟩) w := by
  have hs : Sl u8v w (.slice (some ⟨b, 0, none⟩) 1 1) [UInt8.ofNat c.toNat] := by
    refine ⟨_, 1, rfl, Nat.le_refl _, by decide, .inr ⟨_, 0, rfl, heap_lt hb, fun i x hi => ?_⟩⟩
    have hi0 : i = 0 := by have := (List.getElem?_eq_some_iff.1 hi).1; simpa using this
    subst hi0
    simp at hi
    subst hi
    have e : ((c.toNat : Nat) : Int) = c := by omega
    show _ = some (Value.int .u8 ((UInt8.ofNat c.toNat).toNat : Int))
    rw [toNat_ofNat (by omega), e]
    exact blk_cell hb 0 rfl
  exact sl_string hs Try.underlying48

theorem byte_string (w : World) (c : Int) (h0 : 0 ≤ c) (h1 : c ≤ 255) : (convert 48 9 (.slice (some ⟨w.heap.size, 0, none⟩) 1 1)).run Try.prog (w.alloc (.cells #[.int .u8 c] 5)) = .ok (.string ⟨#[UInt8.ofNat c.toNat]⟩) (w.alloc (.cells #[.int .u8 c] 5)) :=
  byte_at (heap_new w _) h0 h1

set_option maxRecDepth 100000 in
theorem refnum_any : ∀ (x : Nat) (w : World), x < 18446744073709551616 → Calls Try.prog 68 #[.int .u64 x] w (RetB (.string ⟨(numB x).toArray⟩) w) := by
  intro x
  induction x using Nat.strongRecOn with
  | ind x ih =>
    intro w hx
    have HX := Lib.hid hx
    clear hx
    by_cases h : x < 128
    · have hc := byte_string w (x : Int) (by omega) (by omega)
      have HB := Lib.hid (numB_lt h)
      clear ih HX
      go_enter Try.func68, Try.ntmps68
      go_wp2
      go_ret
      exact RetB.mk (by rw [HB.out]; rfl) ((Below.refl _ _).alloc (Nat.le_refl _) _)
    · have h1 : 128 ≤ x := by omega
      have HB := Lib.hid (numB_ge h1)
      have hr := fun W => ih (x / 128) (by omega) W (by have := HX.out; omega)
      have hlen := numB_len10 (x := x / 128) (by have := HX.out; omega)
      clear ih
      obtain ⟨m, hm⟩ : ∃ m, m = x % 128 := ⟨_, rfl⟩
      obtain ⟨q, hq⟩ : ∃ q, q = x / 128 := ⟨_, rfl⟩
      rw [← hq] at hr hlen
      have m1 : m < 128 := by omega
      have e1 : (x : Int).tmod 128 = (m : Int) := by rw [hm, Int.tmod_eq_emod_of_nonneg (by omega)]; omega
      have e2 : (x : Int).tdiv 128 = (q : Int) := by rw [hq, Int.tdiv_eq_ediv_of_nonneg (by omega)]; omega
      have hx63 : ¬ (x : Int) < 128 := by omega
      have e3 : IntKind.u64.wrap ((m : Int) + 128) = (m : Int) + 128 := IntWalk.u64_in _ (by omega)
      have e4 : IntKind.u8.wrap ((m : Int) + 128) = (m : Int) + 128 := IntWalk.u8_in _ (by omega)
      have HM := Lib.hid hm
      have HQ := Lib.hid hq
      have HLEN := Lib.hid hlen
      have e5 : IntKind.u64.wrap (q : Int) = (q : Int) := IntWalk.u64_in _ (by have := HX.out; omega)
      have hc1 := byte_at (w := (w.alloc (.cells #[.int .u8 ((m : Int) + 128)] 5)).drew) (heap_new w _) (c := (m : Int) + 128) (by omega) (by omega)
      have hcc : ¬ (9223372036854775807 < 1 + (numB q).length) := by omega
      clear hm hq hlen
      go_enter Try.func68, Try.ntmps68
      go_wp2
      go_region_law (first
        | (go_simp; go_at_call 68; refine (hr _).mono ?_; rintro e w2 ⟨rfl, hb2⟩; first | (have hx3 := bheap (W := (w.alloc (.cells #[.int .u8 ((m : Int) + 128)] 5)).drew) hb2 (heap_new w _) (by simp); have hc3 := byte_at hx3 (by omega) (by omega)) | (have hc2 := byte_string w2 ((m : Int) + 128) (by omega) (by omega))))
      all_goals
        go_wp2
        go_ret
        refine RetB.mk ?_ ?_
        · rw [HB.out, HM.out.symm, HQ.out.symm]
          have e : ((m : Int) + 128).toNat = m + 128 := by omega
          rw [e]
          exact congrArg Value.string (str_app [_] (numB q))
        · first
            | exact (belowD ((Below.refl _ w).alloc (Nat.le_refl _) _)).trans (hb2.mono (by simp))
            | exact ((belowD (Below.refl _ w)).trans hb2).alloc (hb2.size) _

theorem numsB_any_len : ∀ {l : List Int}, (∀ n ∈ l, 0 ≤ n ∧ n ≤ 9223372036854775807) → (numsB l).length ≤ 10 * l.length
  | [], _ => by simp [numsB]
  | x :: r, h => by
    have h1 := numB_len10 (x := x.toNat) (by have := h x (by simp); omega)
    have h2 := numsB_any_len (l := r) fun n hn => h n (List.mem_cons_of_mem _ hn)
    simp only [numsB, List.map_cons, List.flatten_cons, List.length_append, List.length_cons] at *
    omega

set_option maxRecDepth 100000 in
set_option maxHeartbeats 1000000 in
theorem refmembers_any (w : World) (a : Option Addr) (n cap : Nat) (l : List Int) (hs : Sl intv w (.slice a n cap) l) (hm : ∀ x ∈ l, 0 ≤ x ∧ x ≤ 7) (hl7 : l.length ≤ 7) :
    Calls Try.prog 35 #[.slice a n cap] w (RetB (.string ⟨(membB l).toArray⟩) w) := by
  have hn := fun W => refnum_any l.length W (by omega)
  have HS := Lib.hid hs
  have HM := Lib.hid hm
  obtain ⟨a', cap', he, hl1, hl2, hx⟩ := hs
  cases he
  have HLC := Lib.hid hl1
  clear hl1 hm hl2
  go_enter Try.func35, Try.ntmps35
  go_wp2_with fail
  refine (hn _).mono ?_
  rintro e w1 ⟨rfl, hb1⟩
  clear hn
  go_wp2_with fail
  go_loopw [3, 12] (fun sv i wr => ∃ k : Nat, k ≤ l.length ∧ i = .int .i64 k ∧ sv = .string ⟨(numB l.length ++ numsB (l.take k)).toArray⟩ ∧ Below w.heap.size w wr) (fun _ i _ => l.length - (intOf i).toNat)
  case atStart => exact ⟨0, by omega, rfl, by simp [numsB], hb1⟩
  case round =>
    obtain ⟨k, hk, rfl, rfl, hb⟩ := hrel
    clear hb1
    have HB := Lib.hid hb
    clear hb
    by_cases hlt : k < l.length
    · rcases hx with ⟨rfl, rfl⟩ | ⟨b, o, rfl, hb, hc⟩
      · have := HLC.out; omega
      · have hk0 : l[k]? = some l[k] := List.getElem?_eq_getElem hlt
        obtain ⟨_, _, he, _, _, hx2⟩ := HS.out.below HB.out HS.out.row_lt
        cases he
        rcases hx2 with ⟨h, _⟩ | ⟨b', o', he, hb', hc'⟩
        · cases h
        · cases he
          have hcell : wr.cell? ⟨b, o + k, none⟩ = some (.int .i64 l[k]) := hc' k _ hk0
          obtain ⟨hx0, hx1⟩ := HM.out l[k] (List.getElem_mem hlt)
          have htk : l.take (k + 1) = l.take k ++ [l[k]] := by rw [List.take_succ_eq_append_getElem hlt]
          generalize l[k] = x at *
          obtain ⟨y, rfl⟩ : ∃ y : Nat, x = (y : Int) := ⟨x.toNat, by omega⟩
          have hny := fun W => refnum_any y W (by omega)
          have hln : (numB l.length ++ numsB (l.take k)).length + (numB y).length ≤ 1000 := by
            have h1 := numB_len10 (x := l.length) (by omega)
            have h2 := numsB_len (l := l.take k) fun n hn => HM.out n (List.mem_of_mem_take hn)
            have h3 : (l.take k).length ≤ 7 := by rw [List.length_take]; omega
            have h4 := numB_len10 (x := y) (by omega)
            simp only [List.length_append]
            omega
          have HE := Lib.hid (show numB l.length ++ numsB (l.take (k + 1)) = (numB l.length ++ numsB (l.take k)) ++ numB y by rw [htk, numsB_snoc, List.append_assoc]; rfl)
          generalize numB l.length ++ numsB (l.take k) = acc at *
          have hsz : ¬ (9223372036854775807 < acc.length + (numB y).length) := by omega
          clear hc hc' hk0 htk hln
          go_wp2_with fail
          refine (hny _).mono ?_
          rintro e w2 ⟨rfl, hb2⟩
          clear hny
          go_wp2_with fail
          go_roundw
          case rel => exact ⟨k + 1, by omega, by go_num, by rw [HE.out, ← str_app], HB.out.trans (hb2.mono HB.out.size)⟩
          case measure => simp [intOf]; omega
    · obtain rfl : k = l.length := by omega
      clear hx
      have HT := Lib.hid (show numB l.length ++ numsB (l.take l.length) = membB l by rw [List.take_length]; rfl)
      generalize numB l.length ++ numsB (l.take l.length) = acc at *
      go_wp2_with fail
      go_ret
      exact RetB.mk (by rw [HT.out]; rfl) HB.out

end Go.Proofs.Ytnnibcfbcpipfaa

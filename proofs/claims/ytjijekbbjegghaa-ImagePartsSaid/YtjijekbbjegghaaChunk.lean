/- The library's slices.Chunk: the parts of a row of bytes. -/
import Derived.Test.YtjijekbbjegghaaRangeS
import Derived.Test.YtjijekbbjegghaaImg0
import Derived.BigRegionIn
import Derived.Shelf.Abstract
import Derived.Shelf.RegionOpen
import Derived.WalkKit
import Derived.OwnWalkIn
import Derived.TacticsInMore
import Derived.LoopNIn
import Derived.LoopIn
namespace Go.Proofs.Ytjijekbbjegghaa
open Go.RowKit Go.ChangeMaps Go.Sort

/-- Where each part begins, and how long it is: of r from i on. -/
def chunkF (n : Nat) : Nat → Nat → Nat → List (Nat × Nat)
  | 0, _, _ => []
  | k + 1, i, r => if r = 0 then [] else (i, min n r) :: chunkF n k (i + n) (r - n)
theorem chunkF_nil (n k i : Nat) : chunkF n k i 0 = [] := by cases k <;> simp [chunkF]
theorem chunkF_cons {n k i r : Nat} (h : r ≠ 0) : chunkF n (k + 1) i r = (i, min n r) :: chunkF n k (i + n) (r - n) := by rw [chunkF, if_neg h]
/-- A part, as a value. -/
def partV (b o : Nat) (x : Nat × Nat) : Value := .slice (some ⟨b, o + x.1, none⟩) x.2 x.2

/-- What the iterator reads: the row, the size. -/
def ChunkR (b1 b2 b o L cap n : Nat) (W : World) : Prop := W.heap[b1]? = some (.cells #[.slice (some ⟨b, o, none⟩) L cap] 22 (0, 0)) ∧ W.heap[b2]? = some (.cells #[.int .i64 n] 3 (0, 0))

set_option maxRecDepth 100000 in
set_option maxHeartbeats 4000000 in
theorem chunk_iter (m : Nat) (b1 b2 b o L cap n : Nat) (hn : 1 ≤ n) (hn2 : n ≤ 9223372036854775807) (hL : L ≤ 1000000) (hc : L ≤ cap) (hc2 : cap ≤ 9223372036854775807) :
    IterS (partV b o) (chunkF n L 0 L) (ChunkR b1 b2 b o L cap n) m 28 #[.pointer (some ⟨b1, 0, none⟩), .pointer (some ⟨b2, 0, none⟩)] := by
  intro l J W hJb hJr hY h0
  have HJB := Lib.hid hJb
  have HJR := Lib.hid hJr
  have HY := Lib.hid hY
  clear hJb hJr hY
  refine callsIn_of_wp Try.func28 rfl trivial ?_ rfl
  simp only [Try.ntmps28, List.size_toArray, List.length_cons, List.length_nil, Nat.reduceAdd, Nat.reduceSub, Array.replicate_succ, Array.replicate_zero, List.push_toArray, List.append_toArray, List.nil_append, List.cons_append]
  gi_wp2
  gi_loopw [4] (fun s4 wr => ∃ (p : List (Nat × Nat)) (i k r : Nat), s4 = .int .i64 i ∧ p ++ chunkF n k i r = chunkF n L 0 L ∧ r ≤ k ∧ ((i + r = L) ∨ (r = 0 ∧ L ≤ i)) ∧ (i = 0 ∨ n ≤ i) ∧ i ≤ 9223372036854775807 ∧ J p wr) (fun s4 _ => L - (intOf s4).toNat)
  case atStart => exact ⟨[], 0, L, L, rfl, rfl, Nat.le_refl _, .inl (by omega), .inl rfl, by omega, h0⟩
  case round =>
    obtain ⟨p, i, k, r, rfl, hp, hrk, hir, hin0, hi63, hJ⟩ := hrel
    obtain ⟨g1, g2⟩ := HJR.out _ _ hJ
    have HJ := Lib.hid hJ
    have HP := Lib.hid hp
    have c1 : wr.cell? ⟨b1, 0, none⟩ = some (.slice (some ⟨b, o, none⟩) L cap) := blk_cell g1 0 rfl
    have c2 : wr.cell? ⟨b2, 0, none⟩ = some (.int .i64 n) := blk_cell g2 0 rfl
    clear g1 g2 hJ hp
    by_cases hlt : i < L
    · have hw1 : (i : Int) ≤ (L : Int) := by omega
      gi_wp2
      refine wpIn_wide.2 ?_
      go_quiet (fail)
      obtain ⟨e, he⟩ : ∃ e, e = min n r := ⟨_, rfl⟩
      have hmin : (if L - i < n then ((L - i : Nat) : Int) else (n : Int)) = (e : Int) := by
        split <;> omega
      simp only [hmin]
      obtain ⟨k, rfl⟩ : ∃ k', k = k' + 1 := ⟨k - 1, by omega⟩
      obtain ⟨w2, hw2⟩ : ∃ w2, w2 = wr.drewN nq := ⟨_, rfl⟩
      rw [← hw2]
      have hJ2 : J p w2 := HJB.out _ _ _ HJ.out (by rw [hw2]; exact ⟨rfl, rfl, rfl, Nat.le_refl _, fun _ _ => rfl⟩)
      obtain ⟨g1, g2⟩ := HJR.out _ _ hJ2
      have c1 : w2.cell? ⟨b1, 0, none⟩ = some (.slice (some ⟨b, o, none⟩) L cap) := blk_cell g1 0 rfl
      have HXS : Hid (p ++ (i, e) :: chunkF n k (i + n) (r - n) = chunkF n L 0 L) := Lib.hid (by rw [he, ← HP.out, chunkF_cons (by omega)])
      obtain ⟨fn, tmps, assign, body, hy, hR⟩ := HY.out _ _ _ _ HXS.out hJ2
      unfold partV at hy
      simp only at hy
      have HE := Lib.hid he
      have hie : i + e ≤ L := by omega
      have he0 : ¬ e = 0 := by omega
      have hei : ¬ i + e = i := by omega
      clear g1 g2 hJ2 hmin hw2 he
      gi_wp2
      refine ⟨fun h => by simp [Fence.wide] at h, hR.mono ?_⟩
      rintro en W3 ⟨rfl, hJ3⟩
      obtain ⟨g1, g2⟩ := HJR.out _ _ hJ3
      have c2 : W3.cell? ⟨b2, 0, none⟩ = some (.int .i64 n) := blk_cell g2 0 rfl
      have HJ3 := Lib.hid hJ3
      have hin : i + n ≤ 9223372036854775807 := by omega
      clear g1 g2 hJ3 hR hy
      gi_wp2
      go_roundw
      case rel => exact ⟨p ++ [(i, e)], i + n, k, r - n, by go_num, by rw [List.append_assoc]; exact HXS.out, by omega, by omega, by omega, hin, HJ3.out⟩
      case measure => simp [intOf] <;> omega
    · obtain rfl : r = 0 := by omega
      have HE : Hid (p = chunkF n L 0 L) := Lib.hid (by rw [← HP.out, chunkF_nil, List.append_nil])
      gi_wp2
      refine bodyPost_end (results_none rfl _ _ _) rfl ?_
      exact ⟨⟨_, rfl⟩, by rw [← HE.out]; exact HJ.out⟩

theorem chunk_any (w : World) (a : Option Addr) (L cap : Nat) (n : Int) (hn : 1 ≤ n) : Calls Try.prog 10 #[.slice a L cap, .int .i64 n] w (fun e w' => e = .returned (.func (.func 28) #[] #[.pointer (some ⟨w.heap.size, 0, none⟩), .pointer (some ⟨w.heap.size + 1, 0, none⟩)]) ∧
    w' = (w.alloc (.cells #[.slice a L cap] 22)).alloc (.cells #[.int .i64 n] 3)) := by
  go_enter Try.func10, Try.ntmps10
  go_wp2
  go_ret
  exact ⟨rfl, rfl⟩

end Go.Proofs.Ytjijekbbjegghaa

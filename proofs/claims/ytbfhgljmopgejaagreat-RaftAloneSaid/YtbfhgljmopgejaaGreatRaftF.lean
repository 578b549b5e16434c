/- Package raft, a node alone: all, agree. -/
import Derived.Test.YtbfhgljmopgejaaGreatRaftE
namespace Go.Proofs.YtbfhgljmopgejaaGreat
open Go.RowKit Go.Sort

/-- The call ended, and the node in block p, which alone was written, is y. -/
def LoneP (w0 w : World) (p : Nat) (y : LoneS) (v : Value) (e : Ending) (w' : World) : Prop := e = .returned v ∧ Lone w0 w' p y ∧ Keeps (fun k => k = p) w w'

section
variable {w0 w : World} {p : Nat} {x : LoneS}

theorem all_lone (h : Lone w0 w p x) : Calls Tryz.prog 22 #[.pointer (some ⟨p, 0, none⟩)] w (LoneP w0 w p { x with since := 0 } (.tuple #[])) := by
  have c8 := h.cell 8 rfl
  have f8 := h.free 8
  have hlt := h.lt
  have H1 := Lib.hid (h.set { x with since := 0 } 8 (.int .i64 0) rfl rfl rfl rfl rfl rfl)
  have HO := Lib.hid (others_lone H1.out)
  have HK := Lib.hid (show Keeps (fun k => k = p) w (w.setCell ⟨p, 8, none⟩ (.int .i64 0)) from (Keeps.refl (fun k => k = p) w).setCell (p := ⟨p, 8, none⟩) (.inl rfl) _)
  clear h
  go_enter Tryz.func22, Tryz.ntmps22
  go_wp2_with fail
  refine HO.out.mono ?_
  rintro e w1 ⟨a, cap, rfl, hb1⟩
  have H2 := Lib.hid (H1.out.below hb1)
  have HK2 := Lib.hid (HK.out.trans (Keeps.of_belowS (S := fun k => k = p) hb1))
  clear hb1 c8 f8
  go_wp2_with fail
  go_loop [10] (fun i => i = .int .i64 0) (fun _ => 0)
  case atStart => rfl
  case round =>
    obtain rfl := hrel
    go_wp2_with fail
    refine bodyPost_end (results_none rfl _ _ _) rfl ?_
    exact ⟨rfl, H2.out, HK2.out⟩

theorem sortA_one (n : Int) : sortA [n] = #[n] := by
  have h := sortA_perm [n]
  have h2 : (sortA [n]).toList = [n] := List.perm_singleton.1 h
  rw [← Array.toArray_toList (xs := sortA [n]), h2]

theorem agreed_one (id n : Int) : agreedF [id] (fun _ => n) = n := by
  unfold agreedF
  rw [show [id].map (fun _ => n) = [n] from rfl, sortA_one]
  simp

theorem callable_agreeR (args : Array Value) (w : World) : (callFunc 64 args).run Tryz.prog w = .ok (Next.enter 64 args) w := by
  kernel_rfl

theorem agreeR1_any (w : World) (bx lc p : Nat) (id n : Int) (h1 : w.cell? ⟨bx, 0, none⟩ = some (.pointer (some ⟨p, 0, none⟩))) (h2 : w.cell? ⟨p, 0, none⟩ = some (.int .i64 id)) (h3 : w.cell? ⟨lc, 0, none⟩ = some (.int .u64 n)) :
    Calls Tryz.prog 64 #[.int .i64 id, .pointer (some ⟨bx, 0, none⟩), .pointer (some ⟨lc, 0, none⟩)] w (RetB (.int .u64 n) w) := by
  go_enter Tryz.func64, Tryz.ntmps64
  go_wp2
  go_ret
  exact RetB.mk rfl (Below.refl _ _)

set_option maxRecDepth 100000 in
set_option maxHeartbeats 1600000 in
theorem agree_lone (h : Lone w0 w p x) (k : Nat) (e : Ent) (hk : x.es[k]? = some e) (n : Nat) (hn : x.es.length = n) (hkn : n = k + 1) (ht : e.tm = x.term) (hc0 : 0 ≤ x.commit) (hc : x.commit < n) :
    Calls Tryz.prog 44 #[.pointer (some ⟨p, 0, none⟩)] w (LoneP w0 w p { x with commit := n, since := 0 } (.tuple #[])) := by
  have HT0 := Lib.hid ht
  have HN := Lib.hid hn
  have HKN := Lib.hid hkn
  obtain ⟨W1, hW1⟩ : ∃ W1, W1 = w.alloc (.cells #[.pointer (some ⟨p, 0, none⟩)] 26) := ⟨_, rfl⟩
  have H1 : Hid (Lone w0 W1 p x) := Lib.hid (by rw [hW1]; exact h.alloc _)
  have HX1 : Hid (W1.heap[w.heap.size]? = some (.cells #[.pointer (some ⟨p, 0, none⟩)] 26 (0, 0))) := Lib.hid (by rw [hW1]; exact heap_new _ _)
  have HK1 : Hid (Keeps (fun k => k = p) w W1) := Lib.hid (by rw [hW1]; exact (Keeps.refl _ w).alloc _)
  have hpw := h.lt
  have c9 : w.cell? ⟨p, 9, none⟩ = some (.pointer (some ⟨x.lg, 0, none⟩)) := h.cell 9 rfl
  have hn0 : n ≤ 1000 := by rw [← hn]; exact h.n0
  have hls := last_any W1 x.lg x.r 0 0 x.es H1.out.log h.ok
  rw [hn, show (0 : Int) + (n : Int) = (n : Int) by omega] at hls
  have HLS := Lib.hid hls
  clear hls h ht hn hkn
  generalize hlt0 : lastTm 0 x.es = lt at *
  clear hlt0
  go_enter Tryz.func44, Tryz.ntmps44
  go_wp2_with fail
  rw [← hW1]
  clear hW1 c9
  refine HLS.out.mono ?_
  rintro en w2 ⟨rfl, hb2⟩
  have H2 := Lib.hid (H1.out.below hb2)
  have HX2 := Lib.hid (bheap hb2 HX1.out (heap_lt HX1.out))
  have HK2 := Lib.hid (HK1.out.trans (Keeps.of_belowS (S := fun k => k = p) hb2))
  have hz2 : w.heap.size < w2.heap.size := Nat.lt_of_lt_of_le (heap_lt HX1.out) hb2.size
  obtain ⟨W3, hW3⟩ : ∃ W3, W3 = w2.alloc (.cells #[.int .u64 n] 23) := ⟨_, rfl⟩
  have H3 : Hid (Lone w0 W3 p x) := Lib.hid (by rw [hW3]; exact H2.out.alloc _)
  have HX3 : Hid (W3.heap[w.heap.size]? = some (.cells #[.pointer (some ⟨p, 0, none⟩)] 26 (0, 0))) := Lib.hid (by rw [hW3]; exact aheap HX2.out _)
  have HY3 : Hid (W3.heap[w2.heap.size]? = some (.cells #[.int .u64 n] 23 (0, 0))) := Lib.hid (by rw [hW3]; exact heap_new _ _)
  have HK3 : Hid (Keeps (fun k => k = p) w W3) := Lib.hid (by rw [hW3]; exact HK2.out.alloc _)
  have x2 : w2.cell? ⟨w.heap.size, 0, none⟩ = some (.pointer (some ⟨p, 0, none⟩)) := blk_cell HX2.out 0 rfl
  clear hb2
  go_wp2_with fail
  rw [← hW3]
  clear hW3 x2
  refine (members_lone H3.out).mono ?_
  rintro en w4 ⟨a, cap, rfl, hn4⟩
  have hb4 := hn4.bel
  have H4 := Lib.hid (H3.out.below hb4)
  have HX4 := Lib.hid (bheap hb4 HX3.out (heap_lt HX3.out))
  have HY4 := Lib.hid (bheap hb4 HY3.out (heap_lt HY3.out))
  have HK4 := Lib.hid (HK3.out.trans (Keeps.of_belowS (S := fun k => k = p) hb4))
  have hmb : membersB [x.id] = true := by
    have e1 : (0 : Int) < x.id := by have := H4.out.i1; omega
    have e2 := H4.out.i7
    simp [membersB, memFrom, e1, e2]
  have hag := agreed_any w4 a 1 cap [x.id] hn4.sl hmb 64 #[.pointer (some ⟨w.heap.size, 0, none⟩), .pointer (some ⟨w2.heap.size, 0, none⟩)] (fun _ => (n : Int)) callable_agreeR (fun y hy W hW => by
    obtain rfl : y = x.id := by simpa using hy
    exact agreeR1_any W w.heap.size w2.heap.size p x.id n (blk_cell (bheap hW HX4.out (heap_lt HX4.out)) 0 rfl) ((H4.out.below hW).cell 0 rfl) (blk_cell (bheap hW HY4.out (heap_lt HY4.out)) 0 rfl))
  rw [agreed_one] at hag
  have HAG := Lib.hid hag
  clear hn4 hb4 hmb hag
  go_wp2_with fail
  refine HAG.out.mono ?_
  rintro en w5 ⟨rfl, hb5⟩
  have H5 := Lib.hid (H4.out.below hb5)
  have HX5 := Lib.hid (bheap hb5 HX4.out (heap_lt HX4.out))
  have HK5 := Lib.hid (HK4.out.trans (Keeps.of_belowS (S := fun k => k = p) hb5))
  have x5 : w5.cell? ⟨w.heap.size, 0, none⟩ = some (.pointer (some ⟨p, 0, none⟩)) := blk_cell HX5.out 0 rfl
  have d9 : w5.cell? ⟨p, 9, none⟩ = some (.pointer (some ⟨x.lg, 0, none⟩)) := H5.out.cell 9 rfl
  have htm := term_at w5 x.lg x.r 0 0 x.es H5.out.log H5.out.ok k e hk n (by have := HKN.out; omega)
  rw [HT0.out] at htm
  have HTM := Lib.hid htm
  clear hb5 htm
  go_wp2_with fail
  refine HTM.out.mono ?_
  rintro en w6 ⟨rfl, hb6⟩
  have H6 := Lib.hid (H5.out.below hb6)
  have HX6 := Lib.hid (bheap hb6 HX5.out (heap_lt HX5.out))
  have HK6 := Lib.hid (HK5.out.trans (Keeps.of_belowS (S := fun k => k = p) hb6))
  have x6 : w6.cell? ⟨w.heap.size, 0, none⟩ = some (.pointer (some ⟨p, 0, none⟩)) := blk_cell HX6.out 0 rfl
  have f4 : w6.cell? ⟨p, 4, none⟩ = some (.int .u64 x.term) := H6.out.cell 4 rfl
  have f14 : w6.cell? ⟨p, 14, none⟩ = some (.int .u64 x.commit) := H6.out.cell 14 rfl
  have q14 := H6.out.free 14
  have q1 : decide ((n : Int) ≤ x.commit) = false := by simp; omega
  have q2 : ¬ ((n : Int) ≤ x.commit) := by omega
  have H7 := Lib.hid (H6.out.set { x with commit := n } 14 (.int .u64 n) rfl rfl rfl rfl rfl rfl)
  have HX7 : Hid ((w6.setCell ⟨p, 14, none⟩ (.int .u64 n)).heap[w.heap.size]? = some (.cells #[.pointer (some ⟨p, 0, none⟩)] 26 (0, 0))) := Lib.hid (blk_set_other HX6.out (by simp; omega) _)
  have x7 : (w6.setCell ⟨p, 14, none⟩ (.int .u64 n)).cell? ⟨w.heap.size, 0, none⟩ = some (.pointer (some ⟨p, 0, none⟩)) := blk_cell HX7.out 0 rfl
  have HK7 : Hid (Keeps (fun k => k = p) w (w6.setCell ⟨p, 14, none⟩ (.int .u64 n))) := Lib.hid (HK6.out.setCell (p := ⟨p, 14, none⟩) (.inl rfl) _)
  clear hb6 x5 d9
  go_wp2_with fail
  refine (all_lone H7.out).mono ?_
  rintro en w8 ⟨rfl, h8, hk8⟩
  have H8 := Lib.hid h8
  have HX8 := Lib.hid (hk8.heap (show ¬ w.heap.size = p by omega) HX7.out)
  have HK8 := Lib.hid (HK7.out.trans hk8)
  have x8 : w8.cell? ⟨w.heap.size, 0, none⟩ = some (.pointer (some ⟨p, 0, none⟩)) := blk_cell HX8.out 0 rfl
  obtain ⟨ia, ic, himv, hsi⟩ := H8.out.img
  have HIM : Hid (x.imv = .slice ia 1 ic) := Lib.hid himv
  have g9 : w8.cell? ⟨p, 9, none⟩ = some (.pointer (some ⟨x.lg, 0, none⟩)) := H8.out.cell 9 rfl
  have g12 : w8.cell? ⟨p, 12, none⟩ = some (.slice ia 1 ic) := by rw [← HIM.out]; exact H8.out.cell 12 rfl
  have g14 : w8.cell? ⟨p, 14, none⟩ = some (.int .u64 n) := H8.out.cell 14 rfl
  have HOF := Lib.hid (fun W (hW : Below w8.heap.size w8 W) => of_lone W x.lg x.r 0 0 x.es (h8.log.below hW) h8.ok h8.dl h8.cf ia ic [x.id] (hsi.below hW hsi.row_lt) (by simp) n (by have := HN.out; omega) (by omega))
  clear h8 hk8 x6 x7 f4 f14 q14 hsi himv
  go_wp2_with fail
  go_region_held3 (fun w' => w'.cell? ⟨w.heap.size, 0, none⟩ = some (.pointer (some ⟨p, 0, none⟩)) ∧ w'.cell? ⟨p, 9, none⟩ = some (.pointer (some ⟨x.lg, 0, none⟩)) ∧ w'.cell? ⟨p, 12, none⟩ = some (.slice ia 1 ic) ∧ w'.cell? ⟨p, 14, none⟩ = some (.int .u64 n)) (first | exact ⟨x8, g9, g12, g14⟩ | exact ⟨x9, k9, k12, k14⟩)
    (first | (go_at_call 38; refine (HOF.out _ (belowD (Below.refl _ _))).mono ?_; rintro en w9 ⟨a9, cap9, rfl, hn9⟩; have HN9 := Lib.hid hn9; have HX9 := Lib.hid (bheap hn9.bel (show w8.drew.heap[w.heap.size]? = _ from HX8.out) (heap_lt HX8.out)); have x9 : w9.cell? ⟨w.heap.size, 0, none⟩ = some (.pointer (some ⟨p, 0, none⟩)) := blk_cell HX9.out 0 rfl; have k9 : w9.cell? ⟨p, 9, none⟩ = some (.pointer (some ⟨x.lg, 0, none⟩)) := (H8.out.drew.below HN9.out.bel).cell 9 rfl; have k12 : w9.cell? ⟨p, 12, none⟩ = some (.slice ia 1 ic) := (by rw [← HIM.out]; exact (H8.out.drew.below HN9.out.bel).cell 12 rfl); have k14 : w9.cell? ⟨p, 14, none⟩ = some (.int .u64 n) := (H8.out.drew.below HN9.out.bel).cell 14 rfl))
  have H9 := Lib.hid (H8.out.drew.below HN9.out.bel)
  have HK9 := Lib.hid ((HK8.out.drew).trans (Keeps.of_belowS (S := fun k => k = p) HN9.out.bel))
  have k0 : w9.cell? ⟨p, 0, none⟩ = some (.int .i64 x.id) := H9.out.cell 0 rfl
  have hh := has_any w9 a9 1 cap9 [x.id] HN9.out.sl x.id
  rw [show decide (x.id ∈ [x.id]) = true by simp] at hh
  have HH := Lib.hid hh
  clear hh k9 k12 k14 x8 g9 g12 g14
  go_wp2_with fail
  refine HH.out.mono ?_
  rintro en w10 ⟨rfl, rfl⟩
  go_wp2_with fail
  refine bodyPost_end (results_none rfl _ _ _) rfl ?_
  exact ⟨rfl, H9.out, HK9.out⟩
end

end Go.Proofs.YtbfhgljmopgejaaGreat

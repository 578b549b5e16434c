/- Package raft, a node alone: all, agree. -/
import Derived.Test.YtdjooojpcepleaaGreatRsM38

namespace Go.Proofs.YtdjooojpcepleaaGreat.L8
open Go.RowKit Go.Sort
def LoneP (w0 w : World) (p : Nat) (y : LoneS) (v : Value) (e : Ending) (w' : World) : Prop := e = .returned v ∧ Lone w0 w' p y ∧ Keeps (fun k => k = p) w w'
section
variable {w0 w : World} {p : Nat} {x : LoneS}
theorem all_lone (h : Lone w0 w p x) : Calls Tryz.prog 29 #[.pointer (some ⟨p, 0, none⟩)] w (LoneP w0 w p { x with since := 0 } (.tuple #[])) := by
 have c8 := h.cell 8 rfl
 have f8 := h.free 8
 have hlt := h.lt
 have H1 := hI (h.set { x with since := 0 } 8 (.int .i64 0) rfl rfl rfl rfl rfl rfl)
 have HO := hI (others_lone H1.out)
 have HK := hI (show Keeps (fun k => k = p) w (w.setCell ⟨p, 8, none⟩ (.int .i64 0)) from (Keeps.refl (fun k => k = p) w).setCell (p := ⟨p, 8, none⟩) (.inl rfl) _)
 clear h
 go_enter Tryz.func29, Tryz.ntmps29
 go_wp2_with fail
 refine HO.out.mono ?_
 rintro e w1 ⟨a, cap, rfl, hb1⟩
 have H2 := hI (H1.out.below hb1)
 have HK2 := hI (HK.out.trans (Keeps.of_belowS (S := fun k => k = p) hb1))
 clear hb1 c8 f8
 go_wp2_with fail
 go_loop [10] (fun i => i = .int .i64 0) (fun _ => 0)
 case atStart => rfl
 case round =>
  obtain rfl := hrel
  go_wp2_with fail
  refine bE rfl rfl ?_
  exact ⟨rfl, H2.out, HK2.out⟩
theorem sortA_one (n : Int) : sortA [n] = #[n] := by
 have h := sortA_perm [n]
 have h2 : (sortA [n]).toList = [n] := List.perm_singleton.1 h
 rw [← Array.toArray_toList (xs := sortA [n]), h2]
theorem agreed_one (id n : Int) : agreedF [id] (fun _ => n) = n := by
 unfold agreedF
 rw [show [id].map (fun _ => n) = [n] from rfl, sortA_one]
 simp
theorem callable_agreeR (args : Array Value) (w : World) : (callFunc 99 args).run Tryz.prog w = .ok (Next.enter 99 args) w := by
 kernel_rfl
theorem agreeR1_any (w : World) (bx lc p : Nat) (id n : Int) (h1 : w.cell? ⟨bx, 0, none⟩ = some (.pointer (some ⟨p, 0, none⟩))) (h2 : w.cell? ⟨p, 0, none⟩ = some (.int .i64 id)) (h3 : w.cell? ⟨lc, 0, none⟩ = some (.int .u64 n)) :
  Calls Tryz.prog 99 #[.int .i64 id, .pointer (some ⟨bx, 0, none⟩), .pointer (some ⟨lc, 0, none⟩)] w (RetB (.int .u64 n) w) := by
 go_enter Tryz.func99, Tryz.ntmps99
 go_wp2
 go_ret
 exact RetB.mk rfl bR
set_option maxRecDepth 100000 in
set_option maxHeartbeats 1600000 in
theorem agree_lone (h : Lone w0 w p x) (k : Nat) (e : Ent) (hk : x.es[k]? = some e) (n : Nat) (hn : x.es.length = n) (hkn : n = k + 1) (ht : e.tm = x.term) (_ : 0 ≤ x.commit) (hc : x.commit < n) :
  Calls Tryz.prog 74 #[.pointer (some ⟨p, 0, none⟩)] w (LoneP w0 w p { x with commit := n, since := 0 } (.tuple #[])) := by
 have HT0 := hI ht
 have HN := hI hn
 have HKN := hI hkn
 obtain ⟨W1, hW1⟩ : ∃ W1, W1 = w.alloc (.cells #[.pointer (some ⟨p, 0, none⟩)] 44) := ⟨_, rfl⟩
 have H1 : Hid (Lone w0 W1 p x) := hI (by rw [hW1]; exact h.alloc _)
 have HX1 : Hid (W1.heap[w.heap.size]? = some (.cells #[.pointer (some ⟨p, 0, none⟩)] 44 (0, 0))) := hI (by rw [hW1]; exact bW _ _)
 have HK1 : Hid (Keeps (fun k => k = p) w W1) := hI (by rw [hW1]; exact (Keeps.refl _ w).alloc _)
 have hpw := h.lt
 have c9 : w.cell? ⟨p, 9, none⟩ = some (.pointer (some ⟨x.lg, 0, none⟩)) := h.cell 9 rfl
 have hn0 : n ≤ 1000 := by rw [← hn]; exact h.n0
 have hls := last_any W1 x.lg x.r 0 0 x.es H1.out.log h.ok
 rw [hn, show (0 : Int) + (n : Int) = (n : Int) by omega] at hls
 have HLS := hI hls
 clear hls h ht hn hkn
 generalize hlt0 : lT 0 x.es = lt at *
 clear hlt0
 go_enter Tryz.func74, Tryz.ntmps74
 go_wp2_with fail
 rw [← hW1]
 clear hW1 c9
 refine HLS.out.mono ?_
 rintro en w2 ⟨rfl, hb2⟩
 have H2 := hI (H1.out.below hb2)
 have HX2 := hI (bH hb2 HX1.out (heap_lt HX1.out))
 have HK2 := hI (HK1.out.trans (Keeps.of_belowS (S := fun k => k = p) hb2))
 have hz2 : w.heap.size < w2.heap.size := Nat.lt_of_lt_of_le (heap_lt HX1.out) hb2.size
 obtain ⟨W3, hW3⟩ : ∃ W3, W3 = w2.alloc (.cells #[.int .u64 n] 26) := ⟨_, rfl⟩
 have H3 : Hid (Lone w0 W3 p x) := hI (by rw [hW3]; exact H2.out.alloc _)
 have HX3 : Hid (W3.heap[w.heap.size]? = some (.cells #[.pointer (some ⟨p, 0, none⟩)] 44 (0, 0))) := hI (by rw [hW3]; exact aheap HX2.out _)
 have HY3 : Hid (W3.heap[w2.heap.size]? = some (.cells #[.int .u64 n] 26 (0, 0))) := hI (by rw [hW3]; exact bW _ _)
 have HK3 : Hid (Keeps (fun k => k = p) w W3) := hI (by rw [hW3]; exact HK2.out.alloc _)
 have x2 : w2.cell? ⟨w.heap.size, 0, none⟩ = some (.pointer (some ⟨p, 0, none⟩)) := bC HX2.out 0 rfl
 clear hb2
 go_wp2_with fail
 rw [← hW3]
 clear hW3 x2
 refine (members_lone H3.out).mono ?_
 rintro en w4 ⟨a, cap, rfl, hn4⟩
 have hb4 := hn4.bel
 have H4 := hI (H3.out.below hb4)
 have HX4 := hI (bH hb4 HX3.out (heap_lt HX3.out))
 have HY4 := hI (bH hb4 HY3.out (heap_lt HY3.out))
 have HK4 := hI (HK3.out.trans (Keeps.of_belowS (S := fun k => k = p) hb4))
 have hmb : mB [x.id] = true := by
  have e1 : (0 : Int) < x.id := by have := H4.out.i1; omega
  have e2 := H4.out.i7
  simp [mB, memFrom, e1, e2]
 have hag := agreed_any w4 a 1 cap [x.id] hn4.sl hmb 99 #[.pointer (some ⟨w.heap.size, 0, none⟩), .pointer (some ⟨w2.heap.size, 0, none⟩)] (fun _ => (n : Int)) callable_agreeR (fun y hy W hW => by
   obtain rfl : y = x.id := by simpa using hy
   exact agreeR1_any W w.heap.size w2.heap.size p x.id n (bC (bH hW HX4.out (heap_lt HX4.out)) 0 rfl) ((H4.out.below hW).cell 0 rfl) (bC (bH hW HY4.out (heap_lt HY4.out)) 0 rfl))
 rw [agreed_one] at hag
 have HAG := hI hag
 clear hn4 hb4 hmb hag
 go_wp2_with fail
 refine HAG.out.mono ?_
 rintro en w5 ⟨rfl, hb5⟩
 have H5 := hI (H4.out.below hb5)
 have HX5 := hI (bH hb5 HX4.out (heap_lt HX4.out))
 have HK5 := hI (HK4.out.trans (Keeps.of_belowS (S := fun k => k = p) hb5))
 have x5 : w5.cell? ⟨w.heap.size, 0, none⟩ = some (.pointer (some ⟨p, 0, none⟩)) := bC HX5.out 0 rfl
 have d9 : w5.cell? ⟨p, 9, none⟩ = some (.pointer (some ⟨x.lg, 0, none⟩)) := H5.out.cell 9 rfl
 have htm := term_at w5 x.lg x.r 0 0 x.es H5.out.log H5.out.ok k e hk n (by have := HKN.out; omega)
 rw [HT0.out] at htm
 have HTM := hI htm
 clear hb5 htm
 go_wp2_with fail
 refine HTM.out.mono ?_
 rintro en w6 ⟨rfl, hb6⟩
 have H6 := hI (H5.out.below hb6)
 have HX6 := hI (bH hb6 HX5.out (heap_lt HX5.out))
 have HK6 := hI (HK5.out.trans (Keeps.of_belowS (S := fun k => k = p) hb6))
 have x6 : w6.cell? ⟨w.heap.size, 0, none⟩ = some (.pointer (some ⟨p, 0, none⟩)) := bC HX6.out 0 rfl
 have f4 : w6.cell? ⟨p, 4, none⟩ = some (.int .u64 x.term) := H6.out.cell 4 rfl
 have f14 : w6.cell? ⟨p, 14, none⟩ = some (.int .u64 x.commit) := H6.out.cell 14 rfl
 have q14 := H6.out.free 14
 have q1 : decide ((n : Int) ≤ x.commit) = false := by simp; omega
 have q2 : ¬ ((n : Int) ≤ x.commit) := by omega
 have H7 := hI (H6.out.set { x with commit := n } 14 (.int .u64 n) rfl rfl rfl rfl rfl rfl)
 have HX7 : Hid ((w6.setCell ⟨p, 14, none⟩ (.int .u64 n)).heap[w.heap.size]? = some (.cells #[.pointer (some ⟨p, 0, none⟩)] 44 (0, 0))) := hI (bO HX6.out (by simp; omega) _)
 have x7 : (w6.setCell ⟨p, 14, none⟩ (.int .u64 n)).cell? ⟨w.heap.size, 0, none⟩ = some (.pointer (some ⟨p, 0, none⟩)) := bC HX7.out 0 rfl
 have HK7 : Hid (Keeps (fun k => k = p) w (w6.setCell ⟨p, 14, none⟩ (.int .u64 n))) := hI (HK6.out.setCell (p := ⟨p, 14, none⟩) (.inl rfl) _)
 clear hb6 x5 d9
 go_wp2_with fail
 refine (all_lone H7.out).mono ?_
 rintro en w8 ⟨rfl, h8, hk8⟩
 have H8 := hI h8
 have HX8 := hI (hk8.heap (show ¬ w.heap.size = p by omega) HX7.out)
 have HK8 := hI (HK7.out.trans hk8)
 have x8 : w8.cell? ⟨w.heap.size, 0, none⟩ = some (.pointer (some ⟨p, 0, none⟩)) := bC HX8.out 0 rfl
 obtain ⟨ia, ic, himv, hsi⟩ := H8.out.img
 have HIM : Hid (x.imv = .slice ia 1 ic) := hI himv
 have g9 : w8.cell? ⟨p, 9, none⟩ = some (.pointer (some ⟨x.lg, 0, none⟩)) := H8.out.cell 9 rfl
 have g12 : w8.cell? ⟨p, 12, none⟩ = some (.slice ia 1 ic) := by rw [← HIM.out]; exact H8.out.cell 12 rfl
 have g14 : w8.cell? ⟨p, 14, none⟩ = some (.int .u64 n) := H8.out.cell 14 rfl
 have HOF := hI (fun W (hW : Below w8.heap.size w8 W) => of_lone W x.lg x.r 0 0 x.es (h8.log.below hW) h8.ok h8.dl h8.cf ia ic [x.id] (hsi.below hW hsi.row_lt) (by simp) n (by have := HN.out; omega) (by omega))
 clear h8 hk8 x6 x7 f4 f14 q14 hsi himv
 go_wp2_with fail
 go_region_held3 (fun w' => w'.cell? ⟨w.heap.size, 0, none⟩ = some (.pointer (some ⟨p, 0, none⟩)) ∧ w'.cell? ⟨p, 9, none⟩ = some (.pointer (some ⟨x.lg, 0, none⟩)) ∧ w'.cell? ⟨p, 12, none⟩ = some (.slice ia 1 ic) ∧ w'.cell? ⟨p, 14, none⟩ = some (.int .u64 n)) (first | exact ⟨x8, g9, g12, g14⟩ | exact ⟨x9, k9, k12, k14⟩)
  (first | (go_at_call 51; refine (HOF.out _ (bD bR)).mono ?_; rintro en w9 ⟨a9, cap9, rfl, hn9⟩; have HN9 := hI hn9; have HX9 := hI (bH hn9.bel (show w8.drew.heap[w.heap.size]? = _ from HX8.out) (heap_lt HX8.out)); have x9 : w9.cell? ⟨w.heap.size, 0, none⟩ = some (.pointer (some ⟨p, 0, none⟩)) := bC HX9.out 0 rfl; have k9 : w9.cell? ⟨p, 9, none⟩ = some (.pointer (some ⟨x.lg, 0, none⟩)) := (H8.out.drew.below HN9.out.bel).cell 9 rfl; have k12 : w9.cell? ⟨p, 12, none⟩ = some (.slice ia 1 ic) := (by rw [← HIM.out]; exact (H8.out.drew.below HN9.out.bel).cell 12 rfl); have k14 : w9.cell? ⟨p, 14, none⟩ = some (.int .u64 n) := (H8.out.drew.below HN9.out.bel).cell 14 rfl))
 have H9 := hI (H8.out.drew.below HN9.out.bel)
 have HK9 := hI ((HK8.out.drew).trans (Keeps.of_belowS (S := fun k => k = p) HN9.out.bel))
 have k0 : w9.cell? ⟨p, 0, none⟩ = some (.int .i64 x.id) := H9.out.cell 0 rfl
 have hh := has_any w9 a9 1 cap9 [x.id] HN9.out.sl x.id
 rw [show decide (x.id ∈ [x.id]) = true by simp] at hh
 have HH := hI hh
 clear hh k9 k12 k14 x8 g9 g12 g14
 go_wp2_with fail
 refine HH.out.mono ?_
 rintro en w10 ⟨rfl, rfl⟩
 go_wp2_with fail
 refine bE rfl rfl ?_
 exact ⟨rfl, H9.out, HK9.out⟩
end
end Go.Proofs.YtdjooojpcepleaaGreat.L8

namespace Go.Proofs.YtdjooojpcepleaaGreat.L8
open Go.RowKit Go.Sort
section
variable {w0 w : World} {p : Nat} {x : LoneS}
theorem Lone.keptNew {w' w'' : World} {y : LoneS} (h : Lone w0 w' p y) (hold : Lone w0 w p x) (h1 : y.lg = x.lg) (h2 : y.r = x.r) (h3 : y.es = x.es) (h4 : y.imv = x.imv) {S : Nat → Prop} (hk : Keeps S w' w'') (hS : ∀ k, S k → w.heap.size ≤ k) : Lone w0 w'' p y := by
 obtain ⟨a, cap, e, hs⟩ := h.img
 obtain ⟨a2, cap2, e2, hs2⟩ := hold.img
 have hz := hold.bel.size
 have hp := hold.lt
 have hl := hold.log.lt
 refine ⟨hk.heap (fun hh => by have := hS p hh; omega) h.box, ?_, h.ok, h.dl, h.cf, ⟨a, cap, e, hs.kept hk fun k hk2 hh => ?_⟩, h.i1, h.i7, h.bel.trans (hk.below h.bel.size (fun k hh => by have := hS k hh; omega)), h.pb, h.lb, h.rb, h.pl, h.pr, h.pi, h.il, h.ir, h.pd, h.n0⟩
 ·refine h.log.kept hk (fun hh => by have := hS _ hh; rw [h1] at this; omega) (fun k hk2 hh => ?_) (fun q hq k hk2 hh => ?_)
  ·rw [h2] at hk2; have := hold.log.row_lt k hk2; have := hS k hh; omega
  ·rw [h3] at hq; have := (hold.log.data q hq).1.row_lt k hk2; have := hS k hh; omega
 ·have := hS k hh
  rw [← e, h4, e2] at hk2
  have := hs2.row_lt k hk2
  omega
set_option maxRecDepth 100000 in
theorem poll_lone (h : Lone w0 w p x) : Calls Tryz.prog 60 #[.pointer (some ⟨p, 0, none⟩)] w
  fun e w' => ∃ b, e = .returned (.int .i64 1) ∧ Lone w0 w' p { x with poll := .pointer (some ⟨b, 0, none⟩) } ∧ Keeps (fun k => k = p) w w' := by
 have hpw := h.lt
 have H := hI h
 have HM := hI (members_lone h)
 clear h
 go_enter Tryz.func60, Tryz.ntmps60
 go_wp2_with fail
 refine HM.out.mono ?_
 rintro e w1 ⟨a, cap, rfl, hn1⟩
 have H1 := hI (H.out.below hn1.bel)
 have HK1 := hI (Keeps.of_belowS (S := fun k => k = p) hn1.bel)
 have HZ1 := hI hn1.bel.size
 have HBN := hI (balnew_any w1 a cap x.id hn1.sl)
 clear hn1
 go_wp2_with fail
 refine HBN.out.mono ?_
 rintro e w2 ⟨b, m, rfl, hB2, hb2, hbb, hbm, hne, ba, bc, hbox, hrow⟩
 have H2 := hI (H1.out.below hb2)
 have HK2 := hI (HK1.out.trans (Keeps.of_belowS (S := fun k => k = p) hb2))
 have c15 := H2.out.free 15
 have d15 := H2.out.cell 15 rfl
 have p1 := H1.out.lt
 have hkp : Keeps (fun k => k = p) w2 (w2.setCell ⟨p, 15, none⟩ (.pointer (some ⟨b, 0, none⟩))) := (Keeps.refl (fun k => k = p) w2).setCell (p := ⟨p, 15, none⟩) (.inl rfl) _
 have H3 := hI (H2.out.set { x with poll := .pointer (some ⟨b, 0, none⟩) } 15 (.pointer (some ⟨b, 0, none⟩)) rfl rfl rfl rfl rfl rfl)
 have HB3 := hI (hB2.kept hkp (B := w1.heap.size) (fun k hk => by omega) hbb hbm (fun a' cap' h' k hk => by
   rw [hbox] at h'
   simp at h'
   obtain ⟨h1, h2⟩ := h'
   subst h1 h2
   exact (hrow k hk).1))
 have HBX3 := hI (hkp.heap (show ¬ b = p by omega) hbox)
 have HK3 := hI (HK2.out.trans hkp)
 have HROW := hI hrow
 clear hB2 hbox hb2 hrow hkp
 go_wp2_with fail
 generalize w2.setCell ⟨p, 15, none⟩ (.pointer (some ⟨b, 0, none⟩)) = W3 at *
 have e15 : W3.cell? ⟨p, 15, none⟩ = some (.pointer (some ⟨b, 0, none⟩)) := H3.out.cell 15 rfl
 have e0 : W3.cell? ⟨p, 0, none⟩ = some (.int .i64 x.id) := H3.out.cell 0 rfl
 have HV := hI (vote_any W3.drew b m x.id (HB3.out.below (bD bR)) H3.out.i1 H3.out.i7 hne)
 clear c15 d15
 go_region_held3 (fun w' => w'.cell? ⟨p, 15, none⟩ = some (.pointer (some ⟨b, 0, none⟩)) ∧ w'.cell? ⟨p, 0, none⟩ = some (.int .i64 x.id)) (first | exact ⟨e15, e0⟩ | exact ⟨g15, g0⟩)
  (first | (go_at_call 67; refine HV.out.mono ?_; rintro en w4 ⟨rfl, hm4, hk4⟩; have HM4 := hI hm4; have HK4 := hI hk4; have H4 := hI (H3.out.drew.keptNew H1.out rfl rfl rfl rfl HK4.out (fun k hk => hk ▸ hbm)); have g15 : w4.cell? ⟨p, 15, none⟩ = some (.pointer (some ⟨b, 0, none⟩)) := H4.out.cell 15 rfl; have g0 : w4.cell? ⟨p, 0, none⟩ = some (.int .i64 x.id) := H4.out.cell 0 rfl; clear hm4 hk4))
 have HB4 : Hid (BalAt w4 b m x.id [(x.id, true)]) := hI (by
   refine ⟨⟨ba, bc, HK4.out.heap hne HBX3.out, ?_⟩, HM4.out⟩
   obtain ⟨a', c', h1, h2⟩ := HB3.out.box
   rw [HBX3.out] at h1
   simp at h1
   obtain ⟨e1, e2⟩ := h1
   subst e1 e2
   exact (show Sl intv W3.drew _ _ from h2).kept HK4.out (fun k hk => (HROW.out k hk).2))
 have HKF : Hid (Keeps (fun k => k = p) w w4) := hI ((((HK3.out.drew).mono (T := fun k => k = p ∨ k = m) (fun k _ h => .inl h)).trans (HK4.out.mono (fun k _ h => .inr h))).mono (fun k hk h => by
   have := HZ1.out
   rcases h with h | h
   · exact h
   · omega))
 clear e15 e0 g0
 go_wp2_with fail
 refine (state_any w4 b m x.id HB4.out H4.out.i1 H4.out.i7).mono ?_
 rintro en w5 ⟨rfl, hb5⟩
 have H5 := hI (H4.out.below hb5)
 have HK5 := hI (HKF.out.trans (Keeps.of_belowS (S := fun k => k = p) hb5))
 clear hb5
 go_wp2_with fail
 go_ret
 exact ⟨b, rfl, H5.out, HK5.out⟩
end
end Go.Proofs.YtdjooojpcepleaaGreat.L8

namespace Go.Proofs.YtdjooojpcepleaaGreat.L8
open Go.RowKit Go.Sort
structure Led (w0 w : World) (p : Nat) (x : LoneS) (tb tm : Nat) : Prop where
 lone : Lone w0 w p x
 trk : TrkAt w tb tm
 xt : x.track = .pointer (some ⟨tb, 0, none⟩)
 s1 : tb ≠ p
 s2 : tm ≠ p
 s3 : tb ≠ x.lg
 s4 : tm ≠ x.lg
 s5 : x.r ≠ some tb
 s6 : x.r ≠ some tm
section
variable {w0 w w' : World} {p tb tm : Nat} {x : LoneS}
theorem Led.wrote {y : LoneS} (h : Led w0 w p x tb tm) (hl : Lone w0 w' p y) (hk : Keeps (fun k => k = p) w w') (h1 : y.track = x.track) (h2 : y.lg = x.lg) (h3 : y.r = x.r) : Led w0 w' p y tb tm :=
 ⟨hl, h.trk.kept hk h.s1 h.s2, h1.trans h.xt, h.s1, h.s2, by rw [h2]; exact h.s3, by rw [h2]; exact h.s4, by rw [h3]; exact h.s5, by rw [h3]; exact h.s6⟩
theorem Lone.added {term : Int} {d : List UInt8} {v : Value} {r' : Option Nat} (h : Lone w0 w p x) (hl : LogAt w' x.lg r' 0 0 (x.es ++ [⟨0 + x.es.length + 1, term, false, v, d⟩])) (hk : Keeps (fun k => k = x.lg ∨ x.r = some k) w w')
  (hv : ∀ k, v.ownBlock = some k → w.heap.size ≤ k) (hr : r' = x.r ∨ ∃ k, r' = some k ∧ w.heap.size ≤ k) (hn : x.es.length < 1000) (ht : 0 ≤ term) (ht2 : term ≤ 18446744073709551615) (hd : d.length ≤ 900) :
  Lone w0 w' p { x with r := r', es := x.es ++ [⟨0 + x.es.length + 1, term, false, v, d⟩] } := by
 obtain ⟨a, cap, e, hs⟩ := h.img
 have hp := h.lt
 have hz := h.bel.size
 have hlg := h.log.lt
 have hrl := h.log.row_lt
 refine ⟨hk.heap (fun hh => ?_) h.box, hl, ?_, ?_, ?_, ⟨a, cap, e, hs.kept hk fun k hk2 hh => ?_⟩, h.i1, h.i7, h.bel.trans (hk.below hz fun k hh => ?_), h.pb, h.lb, fun k hk2 => ?_, h.pl, fun hh => ?_, h.pi, h.il, fun k hk2 hh => ?_, ?_, ?_⟩
 ·rcases hh with hh | hh
  ·exact h.pl hh
  ·exact h.pr hh
 ·have ok := h.ok
  refine ⟨fun k q hq => ?_, ok.lo, ?_, ok.tmlo, fun q hq => ?_, ok.tmhi⟩
  ·rcases Nat.lt_or_ge k x.es.length with hlt | hge
   ·rw [List.getElem?_append_left hlt] at hq; exact ok.ixs k q hq
   ·rw [List.getElem?_append_right hge] at hq
    have hk0 : k = x.es.length := by
     have := (List.getElem?_eq_some_iff.1 hq).1
     simp at this; omega
    rw [hk0] at hq ⊢
    simp at hq
    rw [← hq]
    show (x.es.length : Int) + 1 = 0 + _ + 1
    omega
  ·simp; omega
  ·rcases List.mem_append.1 hq with hq | hq
   ·exact ok.tms q hq
   ·obtain rfl : q = _ := List.mem_singleton.1 hq
    exact ⟨ht, ht2⟩
 ·intro q hq
  rcases List.mem_append.1 hq with hq | hq
  ·exact h.dl q hq
  ·obtain rfl : q = _ := List.mem_singleton.1 hq
   exact hd
 ·intro q hq
  rcases List.mem_append.1 hq with hq | hq
  ·exact h.cf q hq
  ·obtain rfl : q = _ := List.mem_singleton.1 hq
   rfl
 ·rw [← e] at hk2
  rcases hh with hh | hh
  ·exact h.il (by rw [hk2, hh])
  ·exact h.ir k hk2 hh
 ·rcases hh with hh | hh
  ·rw [hh]; exact h.lb
  ·exact h.rb k hh
 ·rcases hr with e1 | ⟨j, e1, hj⟩
  ·exact h.rb k (by rw [← e1]; exact hk2)
  ·rw [show r' = some j from e1] at hk2; cases hk2; omega
 ·rcases hr with e1 | ⟨j, e1, hj⟩
  ·exact h.pr (by rw [← e1]; exact hh)
  ·rw [show r' = some j from e1] at hh; cases hh; omega
 ·rcases hr with e1 | ⟨j, e1, hj⟩
  ·exact h.ir k hk2 (by rw [← e1]; exact hh)
  ·have hh' : r' = some k := hh
   rw [e1] at hh'
   cases hh'
   rw [e] at hk2
   have := hs.row_lt k hk2
   omega
 ·intro q hq
  rcases List.mem_append.1 hq with hq | hq
  ·exact h.pd q hq
  ·obtain rfl : q = _ := List.mem_singleton.1 hq
   exact fun hh => by have := hv p hh; omega
 ·show (x.es ++ [_]).length ≤ 1000
  rw [List.length_append]; simp; omega
set_option maxRecDepth 100000 in
set_option maxHeartbeats 1600000 in
theorem leads_lone (h : Lone w0 w p x) (he : x.es = []) (hc : x.commit = 0) (ht : 0 ≤ x.term) (ht2 : x.term ≤ 18446744073709551615) : Calls Tryz.prog 69 #[.pointer (some ⟨p, 0, none⟩)] w
  fun e w' => e = .returned (.tuple #[]) ∧ ∃ tb tm r v, Led w0 w' p { x with role := 3, lead := x.id, poll := .pointer none, track := .pointer (some ⟨tb, 0, none⟩), r := r, es := [⟨1, x.term, false, v, nothB⟩], commit := 1, since := 0 } tb tm := by
 have hls := last_any w x.lg x.r 0 0 x.es h.log h.ok
 rw [he] at hls
 have HLS := hI hls
 have c9 : w.cell? ⟨p, 9, none⟩ = some (.pointer (some ⟨x.lg, 0, none⟩)) := h.cell 9 rfl
 have HE := hI he
 have HC := hI hc
 have H := hI h
 clear hls he hc h
 go_enter Tryz.func69, Tryz.ntmps69
 go_wp2_with fail
 refine HLS.out.mono ?_
 rintro en w1 ⟨rfl, hb1⟩
 have H1 := hI (H.out.below hb1)
 have d0 : w1.cell? ⟨p, 0, none⟩ = some (.int .i64 x.id) := H1.out.cell 0 rfl
 have d8 : w1.cell? ⟨p, 8, none⟩ = some (.int .i64 x.since) := H1.out.cell 8 rfl
 have d6 : w1.cell? ⟨p, 6, none⟩ = some (.int .i64 x.role) := H1.out.cell 6 rfl
 have d7 : w1.cell? ⟨p, 7, none⟩ = some (.int .i64 x.lead) := H1.out.cell 7 rfl
 have d15 : w1.cell? ⟨p, 15, none⟩ = some x.poll := H1.out.cell 15 rfl
 have f8 := H1.out.free 8
 have f6 := H1.out.free 6
 have f7 := H1.out.free 7
 have f15 := H1.out.free 15
 clear hb1 c9
 have H2 := hI ((((H1.out.set { x with since := 0 } 8 (.int .i64 0) rfl rfl rfl rfl rfl rfl).set { x with since := 0, role := 3 } 6 (.int .i64 3) rfl rfl rfl rfl rfl rfl).set { x with since := 0, role := 3, lead := x.id } 7 (.int .i64 x.id) rfl rfl rfl rfl rfl rfl).set { x with since := 0, role := 3, lead := x.id, poll := .pointer none } 15 (.pointer none) rfl rfl rfl rfl rfl rfl)
 go_wp2_with fail
 generalize (((w1.setCell ⟨p, 8, none⟩ (.int .i64 0)).setCell ⟨p, 6, none⟩ (.int .i64 3)).setCell ⟨p, 7, none⟩ (.int .i64 x.id)).setCell ⟨p, 15, none⟩ (.pointer none) = W2 at *
 clear d0 d8 d6 d7 d15 f8 f6 f7 f15
 refine (others_lone H2.out).mono ?_
 rintro en w3 ⟨a, cap, rfl, hb3⟩
 have H3 := hI (H2.out.below hb3)
 clear hb3
 go_wp2_with fail
 refine (track_new w3 a cap _).mono ?_
 rintro en w4 ⟨tb, tm, rfl, ht4, hb4, htb, htm⟩
 have H4 := hI (H3.out.below hb4)
 have q3 := H3.out.lt
 have l3 := H3.out.log.lt
 have R3 := hI H3.out.log.row_lt
 have f16 := H4.out.free 16
 have d16 : w4.cell? ⟨p, 16, none⟩ = some x.track := H4.out.cell 16 rfl
 have hkp : Keeps (fun k => k = p) w4 (w4.setCell ⟨p, 16, none⟩ (.pointer (some ⟨tb, 0, none⟩))) := (Keeps.refl (fun k => k = p) w4).setCell (p := ⟨p, 16, none⟩) (.inl rfl) _
 have H5 := hI (H4.out.set { x with since := 0, role := 3, lead := x.id, poll := .pointer none, track := .pointer (some ⟨tb, 0, none⟩) } 16 (.pointer (some ⟨tb, 0, none⟩)) rfl rfl rfl rfl rfl rfl)
 have HT5 := hI (ht4.kept hkp (show ¬ tb = p by omega) (show ¬ tm = p by omega))
 have HTM4 := hI (⟨heap_lt ht4.box, ht4.map.lt⟩ : tb < w4.heap.size ∧ tm < w4.heap.size)
 have HZ5 := hI hkp.size
 clear ht4 hb4 hkp
 go_wp2_with fail
 generalize w4.setCell ⟨p, 16, none⟩ (.pointer (some ⟨tb, 0, none⟩)) = W5 at *
 clear f16 d16
 have e9 : W5.cell? ⟨p, 9, none⟩ = some (.pointer (some ⟨x.lg, 0, none⟩)) := H5.out.cell 9 rfl
 have e4 : W5.cell? ⟨p, 4, none⟩ = some (.int .u64 x.term) := H5.out.cell 4 rfl
 have HN0 : Hid (nothB.length ≤ 900) := hI (by
   have hn0 : (numB 0).length ≤ 10 := numB_len10 (by omega)
   unfold nothB
   simp only [List.length_append]
   omega)
 go_region_held3 (fun w' => w'.cell? ⟨p, 9, none⟩ = some (.pointer (some ⟨x.lg, 0, none⟩)) ∧ w'.cell? ⟨p, 4, none⟩ = some (.int .u64 x.term)) (first | exact ⟨e9, e4⟩ | exact ⟨f9, f4⟩ | exact ⟨g9, g4⟩)
  (first
    | (go_at_call 96; refine (nothing_any _).mono ?_; rintro en w6 ⟨a6, c6, rfl, hb6, hs6⟩; have H6 := hI (H5.out.drew.below hb6); have HS6 := hI hs6; have HT6 := hI ((HT5.out.below (bD bR)).below hb6); have HZ6 := hI hb6.size; have f9 : w6.cell? ⟨p, 9, none⟩ = some (.pointer (some ⟨x.lg, 0, none⟩)) := H6.out.cell 9 rfl; have f4 : w6.cell? ⟨p, 4, none⟩ = some (.int .u64 x.term) := H6.out.cell 4 rfl; clear hb6 hs6)
    | (go_at_call 75; refine (add_any w6 x.lg x.r 0 0 x.es H6.out.log H6.out.ok x.term false _ nothB (.inl HS6.out) (by rw [HE.out]; exact ht) (by rw [HE.out]; simp) HN0.out).mono ?_; rintro en w7 ⟨v, r', rfl, hl7, hk7, hv7, hr7⟩; have H7 := hI (H6.out.added hl7 hk7 hv7 hr7 (by rw [HE.out]; simp) ht ht2 HN0.out); have HK7 := hI hk7; have HR7 := hI hr7; have g9 : w7.cell? ⟨p, 9, none⟩ = some (.pointer (some ⟨x.lg, 0, none⟩)) := H7.out.cell 9 rfl; have g4 : w7.cell? ⟨p, 4, none⟩ = some (.int .u64 x.term) := H7.out.cell 4 rfl; clear hl7 hk7 hv7 hr7))
 have hes : x.es ++ [(⟨0 + x.es.length + 1, x.term, false, v, nothB⟩ : Ent)] = [⟨1, x.term, false, v, nothB⟩] := by rw [HE.out]; rfl
 have h7 := H7.out
 rw [hes] at h7
 have hzz := HZ5.out
 have hz6 := HZ6.out
 have htt := HTM4.out
 have hz6' : W5.heap.size ≤ w6.heap.size := hz6
 have HL7 : Hid (Led w0 w7 p { x with since := 0, role := 3, lead := x.id, poll := .pointer none, track := .pointer (some ⟨tb, 0, none⟩), r := r', es := [⟨1, x.term, false, v, nothB⟩] } tb tm) := hI (by
   refine ⟨h7, HT6.out.kept HK7.out (fun hh => ?_) (fun hh => ?_), rfl, by omega, by omega, by show tb ≠ x.lg; omega, by show tm ≠ x.lg; omega, fun hh => ?_, fun hh => ?_⟩
   · rcases hh with hh | hh
     · have hh' : tb = x.lg := hh
       omega
     · have := R3.out _ hh; omega
   · rcases hh with hh | hh
     · have hh' : tm = x.lg := hh
       omega
     · have := R3.out _ hh; omega
   · have hh' : r' = some tb := hh
     rcases HR7.out with e1 | ⟨j, e1, hj⟩
     · have := R3.out tb (by rw [← hh']; exact e1.symm); omega
     · rw [e1] at hh'; cases hh'; omega
   · have hh' : r' = some tm := hh
     rcases HR7.out with e1 | ⟨j, e1, hj⟩
     · have := R3.out tm (by rw [← hh']; exact e1.symm); omega
     · rw [e1] at hh'; cases hh'; omega)
 clear h7 hes hzz hz6 hz6' htt e9 e4 f9 f4 g9 g4
 go_wp2_with fail
 refine (all_lone HL7.out.lone).mono ?_
 rintro en w8 ⟨rfl, h8, hk8⟩
 have HL8 := hI (HL7.out.wrote h8 hk8 rfl rfl rfl)
 clear h8 hk8
 go_wp2_with fail
 refine (agree_lone HL8.out.lone 0 ⟨1, x.term, false, v, nothB⟩ rfl 1 rfl rfl rfl (by show 0 ≤ x.commit; rw [HC.out]; omega) (by show x.commit < 1; rw [HC.out]; omega)).mono ?_
 rintro en w9 ⟨rfl, h9, hk9⟩
 have HL9 := hI (HL8.out.wrote h9 hk9 rfl rfl rfl)
 clear h9 hk9
 go_wp2_with fail
 refine bE rfl rfl ?_
 exact ⟨rfl, tb, tm, r', v, HL9.out⟩
end
end Go.Proofs.YtdjooojpcepleaaGreat.L8

/- The statement RaftSafe: the walk. -/
import Derived.Test.YtdjooojpcepleaaGreatRsM48
import Derived.Test.YtdjooojpcepleaaGreatRsM49

namespace Go.Proofs.YtdjooojpcepleaaGreat
section
open Go.RowKit
theorem safe_long (w : World) (size : Int) (a : Option Addr) (len cap : Nat) (hl : ¬ len ≤ 300) :
  Calls Tryz.prog 4 #[.int .u8 size, .slice a len cap] w (RetB (.bool true) w) := by
 have hbig : (300 : Int) < (len : Int) := by omega
 clear hl
 go_enter Tryz.func4, Tryz.ntmps4
 go_wp2_with fail
 refine (L8.lives26 _).mono ?_
 rintro e w1 ⟨rfl, hb1⟩
 have HB1 := hI hb1
 clear hb1
 go_wp2_with fail
 refine (L8.lives26 _).mono ?_
 rintro e w2 ⟨rfl, hb2⟩
 have HB2 := hI (HB1.out.trans (hb2.mono HB1.out.size))
 clear hb2
 go_wp2_with fail
 go_ret
 exact RetB.mk rfl HB2.out
set_option maxRecDepth 100000 in
set_option maxHeartbeats 3200000 in
theorem safe_main (hbg : BeginOk) (hdo : DoOk) (w : World) (size : Int) (he0 : 0 ≤ size) (_ : size < 256) (a : Option Addr) (len cap : Nat) (xs : Nat → StpV) (hr : StpRow w a len cap xs) (hl : len ≤ 300) :
  Calls Tryz.prog 4 #[.int .u8 size, .slice a len cap] w (RetB (.bool true) w) := by
 have HR := hI hr
 have hm0 := Int.emod_nonneg size (show (7 : Int) ≠ 0 by omega)
 have hm1 := Int.emod_lt_of_pos size (show (0 : Int) < 7 by omega)
 have t1 : Int.tmod size 7 = size % 7 := Int.tmod_eq_emod_of_nonneg he0
 have t2 : IntKind.i64.wrap (size % 7) = size % 7 := IntWalk.i64_in _ (by omega)
 have t4 : IntKind.u8.wrap (size % 7) = size % 7 := by unfold IntKind.wrap; simp [IntKind.bits, IntKind.signed]; omega
 have t3 : IntKind.i64.wrap (1 + size % 7) = 1 + size % 7 := IntWalk.i64_in _ (by omega)
 have hs60 : decide ((300 : Int) < (len : Int)) = false := decide_eq_false (by omega)
 obtain ⟨s, hs⟩ : ∃ s : Nat, (s : Int) = 1 + size % 7 := ⟨(1 + size % 7).toNat, by omega⟩
 have hs1 : 1 ≤ s := by omega
 have hs7 : s ≤ 7 := by omega
 have HS := hI hs
 clear hr hs
 go_enter Tryz.func4, Tryz.ntmps4
 go_wp2_with fail
 refine (L8.lives26 _).mono ?_
 rintro e w1 ⟨rfl, hb1⟩
 have HB1 := hI hb1
 clear hb1
 go_wp2_with fail
 rw [← HS.out]
 clear t1 t2 t3 t4 hm0 hm1
 refine (run_begin hbg HB1.out s hs1 hs7).mono ?_
 rintro e w2 ⟨b, M0, c0, rfl, hrun⟩
 have HRUN := hI hrun
 clear hrun HB1
 go_wp2_with fail
 go_loopw [23] (fun iv wr => ∃ i : Nat, iv = .int .i64 i ∧ i ≤ len ∧ Hid (∃ M c g L D, RunAt s w b i wr M c g L D)) (fun iv _ => len - (intOf iv).toNat)
 case atStart => exact ⟨0, rfl, Nat.zero_le _, hI ⟨M0, c0, _, _, _, HRUN.out⟩⟩
 case round =>
  obtain ⟨i, rfl, hi, HL⟩ := hrel
  clear HRUN
  by_cases hilt : i < len
  ·obtain ⟨M, c, g, L, D, hrun⟩ := HL.out
   obtain ⟨b8, off, rfl, hbl, ⟨x0, x1, x2⟩, hd, hn⟩ := HR.out.at hilt
   generalize xs i = x at *
   obtain ⟨kind, node, draw⟩ := x
   have y0 : wr.cell? ⟨b8, off + i * 3, none⟩ = some (.int .i64 kind) := (bcell hrun.bel b8 _ hbl).trans x0
   have y1 : wr.cell? ⟨b8, off + i * 3 + 1, none⟩ = some (.int .i64 node) := (bcell hrun.bel b8 _ hbl).trans x1
   have y2 : wr.cell? ⟨b8, off + i * 3 + 2, none⟩ = some (.int .u64 draw) := (bcell hrun.bel b8 _ hbl).trans x2
   have HDO : Hid (∀ W, Below wr.heap.size wr W → Calls Tryz.prog 9 #[.pointer (some ⟨b, 0, none⟩), .agg #[.int .i64 kind, .int .i64 node, .int .u64 draw]] W fun e w' => e = .returned (.tuple #[]) ∧ ∃ M' c' g', RunAt s w b (i + 1) w' M' c' g' L D ∧ (∃ v, Grow v g g')) := hI fun W hW => run_do hdo (hrun.below hW) (by omega) kind node draw hd.1 hd.2 hn.1 hn.2
   have zi : (i : Int) < (len : Int) := by omega
   clear hrun hd hn x0 x1 x2 HL
   go_wp2_with fail
   refine (HDO.out _ (bR.alloc nL _)).mono ?_
   rintro e w3 ⟨rfl, M3, c3, g3, hr3, _⟩
   have HSF := hI (run_safe hr3 (by omega))
   clear hr3 HDO y0 y1 y2
   go_wp2_with fail
   refine HSF.out.mono ?_
   rintro e w4 ⟨rfl, L4, D4, hr4⟩
   have HR4 := hI hr4
   clear hr4 HSF
   go_wp2_with fail
   go_roundw
   case rel => exact ⟨i + 1, by go_num, by omega, hI ⟨M3, c3, g3, L4, D4, HR4.out⟩⟩
   case measure => exact k_meas hilt
  ·obtain rfl : i = len := by omega
   obtain ⟨M, c, g, L, D, hrun⟩ := HL.out
   have HB := hI hrun.bel
   clear hrun HL hilt
   go_wp2_with fail
   go_ret
   exact RetB.mk rfl HB.out
theorem safe_walk (hbg : BeginOk) (hdo : DoOk) (size : Int) (a : Option Addr) (len cap : Nat) (xs : Nat → StpV) (w : World) (h0 : (Lit.int .u8 size).wf = true) (hr : StpRow w a len cap xs) :
  Calls Tryz.prog 4 #[.int .u8 size, .slice a len cap] w (RetB (.bool true) w) := by
 simp [Lit.wf, IntKind.min, IntKind.max, IntKind.signed, IntKind.bits] at h0
 by_cases hl : len ≤ 300
 ·exact safe_main hbg hdo w size (by omega) (by omega) a len cap xs hr hl
 ·exact safe_long w size a len cap hl
end
section
open Go.RowKit
theorem safe_all (size : Int) (a : Option Addr) (len cap : Nat) (xs : Nat → StpV) (w : World) (h0 : (Lit.int .u8 size).wf = true) (hr : StpRow w a len cap xs) :
  Calls Tryz.prog 4 #[.int .u8 size, .slice a len cap] w (RetB (.bool true) w) :=
 safe_walk begin_ok do_ok size a len cap xs w h0 hr
end
end Go.Proofs.YtdjooojpcepleaaGreat

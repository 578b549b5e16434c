/- The statement RaftMatches: the walk. PRINTED by wip/tools/gen_ruv.py. -/
import Derived.Test.YtdjooojpcepleaaGreatMaA
import Derived.Test.YtdjooojpcepleaaGreatMaR
import Derived.Test.YtdjooojpcepleaaGreatRsM41
import Derived.Deep.DeepCutAuto
import Derived.Deep.CutBlock
namespace Go.Proofs.YtdjooojpcepleaaGreat
open Go.RowKit Go.Maps Go.ChangeMaps
theorem matches_long (w : World) (size : Int) (a : Option Addr) (len cap : Nat) (hl : ¬ len ≤ 300) :
  Calls Tryz.prog 3 #[.int .u8 size, .slice a len cap] w (RetB (.bool true) w) := by
 have hbig : (300 : Int) < (len : Int) := by omega
 clear hl
 go_enter Tryz.func3, Tryz.ntmps3
 go_wp2_with fail
 refine (L8.lives26 _).mono ?_
 rintro e w1 ⟨rfl, hb1⟩
 have HB1 := hI hb1
 clear hb1
 go_wp2_with fail
 refine (L8.lives26 _).mono ?_
 rintro e w2 ⟨rfl, hb2⟩
 have HB2 := hI (HB1.out.trans (hb2.mono HB1.out.size))
 clear hb2
 go_wp2_with fail
 go_ret
 exact RetB.mk rfl HB2.out
theorem info_st : (Tryz.prog.info? 43).map (·.size) = some 7 := by kernel_rfl
theorem st_one (t v ix tm : Int) (a1 : Option Addr) (n1 c1 : Nat) (a2 : Option Addr) (n2 c2 : Nat) (a3 : Option Addr) (n3 c3 : Nat) : OneCells [.int .u64 t, .int .i64 v, .int .u64 ix, .int .u64 tm, .slice a1 n1 c1, .slice a2 n2 c2, .slice a3 n3 c3] := by simp [OneCells, Value.oneCell']
def TwoR (w : World) (xi xk : NodeS) (v10 v11 : Value) (w' : World) : Prop :=
 ∃ pa pb va ca la vb cb lb N, v10 = .pointer (some ⟨pa, 0, none⟩) ∧ v11 = .pointer (some ⟨pb, 0, none⟩) ∧ Below w.heap.size w w' ∧ w'.cell? ⟨pa, 6, none⟩ = some (.slice va la.length ca) ∧ w'.cell? ⟨pb, 6, none⟩ = some (.slice vb lb.length cb) ∧
  RowE w' N (.slice va la.length ca) la ∧ RowE w' N (.slice vb lb.length cb) lb ∧ la.map Ent.pl = xi.es.map Ent.pl ∧ lb.map Ent.pl = xk.es.map Ent.pl
theorem at_look {wr3 : World} {pm : Nat} {D : List (Int × Ent)} {i : Int} (hM : MapOf Tryz.prog 26 keyU entV wr3 pm D) (hix : 0 ≤ i ∧ i ≤ 18446744073709551615) {N : Nat → Prop} {va : Option Addr} {ca : Nat} {la : List Ent} (hra : RowE wr3 N (.slice va la.length ca) la) (hin : ∀ q ∈ D, q.2 ∈ la) :
  ∃ (y : Ent) (ya : Option Addr) (yc : Nat) (yb : Bool), Hid (∀ W, Below wr3.heap.size wr3 W → (Instr.lookup 34 (.map (some pm)) (.int .u64 i) true).run Tryz.prog W = .ok (.tuple #[.agg #[.int .u64 y.ix, .int .u64 y.tm, .bool y.cf, .slice ya y.d.length yc], .bool yb]) W) ∧
   Hid (yb = true → aget i D = some y ∧ Sl u8v wr3 (.slice ya y.d.length yc) y.d) := by
 have key : ∀ W, Below wr3.heap.size wr3 W → (Instr.lookup 34 (.map (some pm)) (.int .u64 i) true).run Tryz.prog W = .ok (.tuple #[((aget i D).map entV).getD (.agg #[.int .u64 0, .int .u64 0, .bool false, .slice none 0 0]), .bool (aget i D).isSome]) W := fun W hW => by
  have := (hM.kept (Keeps.of_belowS (S := fun _ => False) hW) id).run_lookup ukeyed keyU_inj Tryz.underlying34 (ezero W) (ukey (u64_wf hix.1 hix.2)) (key := i) true
  exact this
 cases hy : aget i D with
 | none =>
  rw [hy] at key
  exact ⟨⟨0, 0, false, .slice none 0 0, []⟩, none, 0, false, hI key, hI fun e => nomatch e⟩
 | some y =>
  rw [hy] at key
  have hr := (hra.2.1 y (hin _ (aget_some_mem hy))).1
  obtain ⟨ya, yc, hyv, _⟩ := id hr
  rw [hyv] at hr
  refine ⟨y, ya, yc, true, hI fun W hW => ?_, hI fun _ => ⟨rfl, hr⟩⟩
  have := key W hW
  rw [show ((some y).map entV).getD (.agg #[.int .u64 0, .int .u64 0, .bool false, .slice none 0 0]) = .agg #[.int .u64 y.ix, .int .u64 y.tm, .bool y.cf, .slice ya y.d.length yc] by show entV y = _; unfold entV; rw [hyv]] at this
  exact this
def Blk7 (wr : World) (N : Nat → Prop) (W : World) (p : Nat) : Prop := (∃ C T, W.heap[p]? = some (.cells C T (0, 0)) ∧ C.size = 7) ∧ N p ∧ wr.heap.size ≤ p
def S15 (wr : World) (oa ob : Option Nat) (ra rb : Option (Value × List Ent)) (W : World) : Prop :=
 ∃ N, Below wr.heap.size wr W ∧ (∀ q, N q → q < W.heap.size) ∧ (∀ p, oa = some p → Blk7 wr N W p) ∧ (∀ p, ob = some p → Blk7 wr N W p) ∧ (∀ p q, oa = some p → ob = some q → p ≠ q) ∧ (∀ v, ra = some v → RowE W N v.1 v.2) ∧ ∀ v, rb = some v → RowE W N v.1 v.2
section
variable {wr W W' : World} {oa ob : Option Nat} {ra rb : Option (Value × List Ent)} {v : Value} {l : List Ent}
theorem Blk7.below {N : Nat → Prop} {p : Nat} (h : Blk7 wr N W p) (hb : Below W.heap.size W W') : Blk7 wr N W' p := by
 obtain ⟨⟨C, T, h1, h2⟩, h3, h4⟩ := h
 exact ⟨⟨C, T, bH hb h1 (heap_lt h1), h2⟩, h3, h4⟩
theorem S15.bel (h : S15 wr oa ob ra rb W) : Below wr.heap.size wr W := by
 obtain ⟨N, h, _⟩ := h
 exact h
theorem S15.below (h : S15 wr oa ob ra rb W) (hb : Below W.heap.size W W') : S15 wr oa ob ra rb W' := by
 obtain ⟨N, h1, h2, h3, h4, h5, h6, h7⟩ := h
 exact ⟨N, h1.trans (hb.mono h1.size), fun q hq => Nat.lt_of_lt_of_le (h2 q hq) hb.size, fun p hp => (h3 p hp).below hb, fun p hp => (h4 p hp).below hb, h5, fun v hv => (h6 v hv).mv (Mv.below N hb), fun v hv => (h7 v hv).mv (Mv.below N hb)⟩
theorem S15.takeA (h : S15 wr oa ob none rb W) (hb : Below W.heap.size W W') (hr : RowN W W' v l) : S15 wr oa ob (some (v, l)) rb W' := by
 obtain ⟨N, h1, h2, h3, h4, h5, _, h7⟩ := h
 exact ⟨N, h1.trans (hb.mono h1.size), fun q hq => Nat.lt_of_lt_of_le (h2 q hq) hb.size, fun p hp => (h3 p hp).below hb, fun p hp => (h4 p hp).below hb, h5, fun v hv => (by cases hv; exact hr.rowE h2), fun v hv => (h7 v hv).mv (Mv.below N hb)⟩
theorem S15.takeB (h : S15 wr oa ob ra none W) (hb : Below W.heap.size W W') (hr : RowN W W' v l) : S15 wr oa ob ra (some (v, l)) W' := by
 obtain ⟨N, h1, h2, h3, h4, h5, h6, _⟩ := h
 exact ⟨N, h1.trans (hb.mono h1.size), fun q hq => Nat.lt_of_lt_of_le (h2 q hq) hb.size, fun p hp => (h3 p hp).below hb, fun p hp => (h4 p hp).below hb, h5, fun v hv => (h6 v hv).mv (Mv.below N hb), fun v hv => (by cases hv; exact hr.rowE h2)⟩
theorem Blk7.new {N : Nat → Prop} (hb : Below wr.heap.size wr W) {C : Array Value} {T : TypeId} (hC : C.size = 7) : Blk7 wr (fun q => N q ∨ q = W.heap.size) (W.alloc (.cells C T)) W.heap.size := ⟨⟨C, T, bW W _, hC⟩, .inr rfl, hb.size⟩
theorem Blk7.wide {N : Nat → Prop} {p : Nat} (h : Blk7 wr N W p) (o : Obj) : Blk7 wr (fun q => N q ∨ q = W.heap.size) (W.alloc o) p := by
 obtain ⟨h1, h3, h4⟩ := h.below ((Below.refl W.heap.size W).alloc nL o)
 exact ⟨h1, .inl h3, h4⟩
theorem row_wide {N : Nat → Prop} (h : RowE W N v l) (o : Obj) : RowE (W.alloc o) (fun q => N q ∨ q = W.heap.size) v l := (h.more nL).mv (Mv.below _ ((Below.refl W.heap.size W).alloc nL o))
theorem Blk7.ne {N : Nat → Prop} {p : Nat} (h : Blk7 wr N W p) : p ≠ W.heap.size := by
 obtain ⟨⟨C, T, h1, h2⟩, _⟩ := h
 have := heap_lt h1
 omega
theorem S15.newA (h : S15 wr none ob ra rb W) {C : Array Value} {T : TypeId} (hC : C.size = 7) : S15 wr (some W.heap.size) ob ra rb (W.alloc (.cells C T)) := by
 obtain ⟨N, h1, h2, h3, h4, h5, h6, h7⟩ := h
 have hb : Below W.heap.size W (W.alloc (.cells C T)) := bR.alloc nL _
 exact ⟨fun q => N q ∨ q = W.heap.size, h1.alloc h1.size _, fun q hq => hq.elim (fun hq => Nat.lt_of_lt_of_le (h2 q hq) hb.size) (fun e => by rw [e]; exact heap_lt (bW W (.cells C T))), fun p hp => (by cases hp; exact Blk7.new h1 hC), fun p hp => (h4 p hp).wide _, fun p q hp hq => (by cases hp; exact fun e => (h4 q hq).ne e.symm), fun v hv => row_wide (h6 v hv) _, fun v hv => row_wide (h7 v hv) _⟩
theorem S15.newB (h : S15 wr oa none ra rb W) {C : Array Value} {T : TypeId} (hC : C.size = 7) : S15 wr oa (some W.heap.size) ra rb (W.alloc (.cells C T)) := by
 obtain ⟨N, h1, h2, h3, h4, h5, h6, h7⟩ := h
 have hb : Below W.heap.size W (W.alloc (.cells C T)) := bR.alloc nL _
 exact ⟨fun q => N q ∨ q = W.heap.size, h1.alloc h1.size _, fun q hq => hq.elim (fun hq => Nat.lt_of_lt_of_le (h2 q hq) hb.size) (fun e => by rw [e]; exact heap_lt (bW W (.cells C T))), fun p hp => (h3 p hp).wide _, fun p hp => (by cases hp; exact Blk7.new h1 hC), fun p q hp hq => (by cases hq; exact (h3 p hp).ne), fun v hv => row_wide (h6 v hv) _, fun v hv => row_wide (h7 v hv) _⟩
theorem stored7 {p : Nat} {C : Array Value} {T : TypeId} (h : W.heap[p]? = some (.cells C T (0, 0))) (hC : C.size = 7) (a0 a1 a2 a3 a4 a5 a6 : Value) : stored W p 0 [a0, a1, a2, a3, a4, a5, a6] = setBlock W p (.cells #[a0, a1, a2, a3, a4, a5, a6] T (0, 0)) := by
 unfold stored
 rw [blkC_of h, blkT_of h]
 have e : spl C 0 [a0, a1, a2, a3, a4, a5, a6] = #[a0, a1, a2, a3, a4, a5, a6] := by
  apply Array.ext
  ·simp [spl, hC]
  ·intro i h1 h2
   have h3 : i = 0 ∨ i = 1 ∨ i = 2 ∨ i = 3 ∨ i = 4 ∨ i = 5 ∨ i = 6 := by simp at h2; omega
   rcases h3 with rfl | rfl | rfl | rfl | rfl | rfl | rfl <;> simp [spl, hC]
 rw [e]
theorem S15.fin {pa pb : Nat} {xi xk : NodeS} {va vb : Option Addr} {ca cb : Nat} {la lb : List Ent} (h : S15 wr (some pa) (some pb) (some (.slice va la.length ca, la)) (some (.slice vb lb.length cb, lb)) W) (ha : la.map Ent.pl = xi.es.map Ent.pl) (hb : lb.map Ent.pl = xk.es.map Ent.pl) (a0 a1 a2 a3 a4 a5 b0 b1 b2 b3 b4 b5 : Value) :
  Fits W pa 7 ∧ Below wr.heap.size wr (stored W pa 0 [a0, a1, a2, a3, a4, a5, .slice va la.length ca]) ∧ Fits (stored W pa 0 [a0, a1, a2, a3, a4, a5, .slice va la.length ca]) pb 7 ∧
   Below wr.heap.size wr (stored (stored W pa 0 [a0, a1, a2, a3, a4, a5, .slice va la.length ca]) pb 0 [b0, b1, b2, b3, b4, b5, .slice vb lb.length cb]) ∧ TwoR wr xi xk (.pointer (some ⟨pa, 0, none⟩)) (.pointer (some ⟨pb, 0, none⟩)) (stored (stored W pa 0 [a0, a1, a2, a3, a4, a5, .slice va la.length ca]) pb 0 [b0, b1, b2, b3, b4, b5, .slice vb lb.length cb]) := by
 obtain ⟨N, h1, h2, h3, h4, h5, h6, h7⟩ := h
 obtain ⟨⟨C, T, c1, c2⟩, n1, g1⟩ := h3 pa rfl
 obtain ⟨⟨C', T', d1, d2⟩, n2, g2⟩ := h4 pb rfl
 have hne := h5 pa pb rfl rfl
 have r1 := h6 _ rfl
 have r2 := h7 _ rfl
 rw [stored7 c1 c2]
 have hB1 := below_set h1 g1 (.cells #[a0, a1, a2, a3, a4, a5, .slice va la.length ca] T (0, 0))
 have hX1 := setBlock_at (heap_lt c1) (.cells #[a0, a1, a2, a3, a4, a5, .slice va la.length ca] T (0, 0))
 have hd1 := blk_setBlock_other d1 hne.symm (.cells #[a0, a1, a2, a3, a4, a5, .slice va la.length ca] T (0, 0))
 have m1 : Mv W N (setBlock W pa (.cells #[a0, a1, a2, a3, a4, a5, .slice va la.length ca] T (0, 0))) N := Mv.keep ((Keeps.refl (fun q => q = pa) _).setBlock (p := pa) (.inl rfl) _) fun q e => by rw [e]; exact n1
 have r1' := r1.mv m1
 have r2' := r2.mv m1
 revert hB1 hX1 hd1 r1' r2'
 generalize setBlock W pa (.cells #[a0, a1, a2, a3, a4, a5, .slice va la.length ca] T (0, 0)) = W1
 intro hB1 hX1 hd1 r1' r2'
 rw [stored7 hd1 d2]
 have m2 : Mv W1 N (setBlock W1 pb (.cells #[b0, b1, b2, b3, b4, b5, .slice vb lb.length cb] T' (0, 0))) N := Mv.keep ((Keeps.refl (fun q => q = pb) _).setBlock (p := pb) (.inl rfl) _) fun q e => by rw [e]; exact n2
 exact ⟨⟨C, T, c1, c2⟩, hB1, ⟨C', T', hd1, d2⟩, below_set hB1 g2 _, pa, pb, va, ca, la, vb, cb, lb, N, rfl, rfl, below_set hB1 g2 _, bC (blk_setBlock_other hX1 hne _) 6 rfl, bC (setBlock_at (heap_lt hd1) _) 6 rfl, r1'.mv m2, r2'.mv m2, ha, hb⟩
end
set_option maxRecDepth 100000 in
set_option maxHeartbeats 3200000 in
theorem matches_main (hbg : BeginOk) (hdo : DoOk) (w : World) (size : Int) (he0 : 0 ≤ size) (_ : size < 256) (a : Option Addr) (len cap : Nat) (xs : Nat → StpV) (hr : StpRow w a len cap xs) (hl : len ≤ 300) :
  Calls Tryz.prog 3 #[.int .u8 size, .slice a len cap] w (RetB (.bool true) w) := by
 have HR := hI hr
 have hm0 := Int.emod_nonneg size (show (7 : Int) ≠ 0 by omega)
 have hm1 := Int.emod_lt_of_pos size (show (0 : Int) < 7 by omega)
 have t1 : Int.tmod size 7 = size % 7 := Int.tmod_eq_emod_of_nonneg he0
 have t2 : IntKind.i64.wrap (size % 7) = size % 7 := IntWalk.i64_in _ (by omega)
 have t4 : IntKind.u8.wrap (size % 7) = size % 7 := by unfold IntKind.wrap; simp [IntKind.bits, IntKind.signed]; omega
 have t3 : IntKind.i64.wrap (1 + size % 7) = 1 + size % 7 := IntWalk.i64_in _ (by omega)
 have hs60 : decide ((300 : Int) < (len : Int)) = false := decide_eq_false (by omega)
 obtain ⟨s, hs⟩ : ∃ s : Nat, (s : Int) = 1 + size % 7 := ⟨(1 + size % 7).toNat, by omega⟩
 have hs1 : 1 ≤ s := by omega
 have hs7 : s ≤ 7 := by omega
 have HS := hI hs
 clear hr hs
 go_enter Tryz.func3, Tryz.ntmps3
 go_wp2_with fail
 refine (L8.lives26 _).mono ?_
 rintro e w1 ⟨rfl, hb1⟩
 have HB1 := hI hb1
 clear hb1
 go_wp2_with fail
 rw [← HS.out]
 clear t1 t2 t3 t4 hm0 hm1
 refine (run_begin hbg HB1.out s hs1 hs7).mono ?_
 rintro e w2 ⟨b, M0, c0, rfl, hrun⟩
 have HRUN := hI hrun
 clear hrun HB1
 go_wp2_with fail
 go_loopw [34] (fun iv wr => ∃ i : Nat, iv = .int .i64 i ∧ i ≤ len ∧ Hid (∃ M c g L D, RunAt s w b i wr M c g L D)) (fun iv _ => len - (intOf iv).toNat)
 case atStart => exact ⟨0, rfl, Nat.zero_le _, hI ⟨M0, c0, _, _, _, HRUN.out⟩⟩
 case round =>
  obtain ⟨i, rfl, hi, HL⟩ := hrel
  clear HRUN
  by_cases hilt : i < len
  ·obtain ⟨M, c, g, L, D, hrun⟩ := HL.out
   obtain ⟨b8, off, rfl, hbl, ⟨x0, x1, x2⟩, hd, hn⟩ := HR.out.at hilt
   generalize xs i = x at *
   obtain ⟨kind, node, draw⟩ := x
   have y0 : wr.cell? ⟨b8, off + i * 3, none⟩ = some (.int .i64 kind) := (bcell hrun.bel b8 _ hbl).trans x0
   have y1 : wr.cell? ⟨b8, off + i * 3 + 1, none⟩ = some (.int .i64 node) := (bcell hrun.bel b8 _ hbl).trans x1
   have y2 : wr.cell? ⟨b8, off + i * 3 + 2, none⟩ = some (.int .u64 draw) := (bcell hrun.bel b8 _ hbl).trans x2
   have HDO : Hid (∀ W, Below wr.heap.size wr W → Calls Tryz.prog 9 #[.pointer (some ⟨b, 0, none⟩), .agg #[.int .i64 kind, .int .i64 node, .int .u64 draw]] W fun e w' => e = .returned (.tuple #[]) ∧ ∃ M' c' g', RunAt s w b (i + 1) w' M' c' g' L D ∧ (∃ v, Grow v g g')) := hI fun W hW => run_do hdo (hrun.below hW) (by omega) kind node draw hd.1 hd.2 hn.1 hn.2
   have zi : (i : Int) < (len : Int) := by omega
   clear hrun hd hn x0 x1 x2 HL
   go_wp2_with fail
   refine (HDO.out _ (bR.alloc nL _)).mono ?_
   rintro e w3 ⟨rfl, M3, c3, g3, hr3, _⟩
   have HR3 := hI hr3
   clear hr3 HDO y0 y1 y2
   go_wp2_with fail
   go_roundw
   case rel => exact ⟨i + 1, by go_num, by omega, hI ⟨M3, c3, g3, L, D, HR3.out⟩⟩
   case measure => exact k_meas hilt
  ·obtain ⟨n, hn3, M, c, g, L, D, hrun⟩ : ∃ n, n ≤ 300 ∧ ∃ M c g L D, RunAt s w b n wr M c g L D := ⟨i, by omega, HL.out⟩
   have zil : ¬ ((i : Int) < (len : Int)) := by omega
   have HRUN := hI hrun
   have k0 := hrun.k0
   clear hrun HL hilt
   have hmm := @run_makeMap Tryz.prog
   go_wp2_with fail
   go_loopw [47] (fun iv wr => ∃ i : Nat, iv = .int .i64 i ∧ i ≤ s ∧ Hid (RunAt s w b n wr M c g L D)) (fun iv _ => s - (intOf iv).toNat)
   case atStart => exact ⟨0, rfl, Nat.zero_le _, HRUN⟩
   case round =>
    obtain ⟨i, rfl, his', HRI⟩ := hrel
    clear HRUN k0
    by_cases his : i < s
    ·have zi : (i : Int) < (s : Int) := by omega
     go_wp2_with fail
     go_loopw [51] (fun kv wr => ∃ k : Nat, kv = .int .i64 k ∧ k ≤ i ∧ Hid (RunAt s w b n wr M c g L D)) (fun kv _ => i - (intOf kv).toNat)
     case atStart => exact ⟨0, rfl, Nat.zero_le _, HRI⟩
     case round =>
      obtain ⟨k, rfl, hki', HRK⟩ := hrel
      clear HRI
      by_cases hki : k < i
      ·have zk : (k : Int) < (i : Int) := by omega
       have zks : (k : Int) < (s : Int) := by omega
       have hks : k < s := by omega
       go_upto_region 15 with (fail)
       go_cut [10, 11] (fun va vb wx => TwoR wr (c.x i) (c.x k) va vb wx)
       case first =>
        have HS15 : Hid (∀ w', Below wr.heap.size wr w' → w'.cell? ⟨b, 0, none⟩ = some (.slice (some ⟨c.nb, 0, none⟩) s c.ncap) ∧ w'.cell? ⟨c.nb, i, none⟩ = some (.pointer (some ⟨c.P i, 0, none⟩)) ∧ w'.cell? ⟨c.nb, k, none⟩ = some (.pointer (some ⟨c.P k, 0, none⟩))) := hI fun W hW => ⟨(HRK.out.below hW).k0, (HRK.out.below hW).cn his, (HRK.out.below hW).cn hks⟩
        have HST : Hid (∀ W, Below wr.heap.size wr W → ∀ j, j < s → Calls Tryz.prog 10 #[.pointer (some ⟨c.P j, 0, none⟩)] W (StateR W (c.x j))) := hI fun W hW j hj => run_state (HRK.out.below hW) hj (by omega)
        obtain ⟨W0, hW0⟩ : ∃ W, W = wr.drew := ⟨_, rfl⟩
        have HB0 : Hid (Below wr.heap.size wr W0) := hI (by rw [hW0]; exact bD bR)
        have HS0 : Hid (S15 wr none none none none W0) := hI ⟨M, HB0.out, by rw [hW0]; exact HRK.out.at_.lt, (fun _ h => nomatch h), (fun _ h => nomatch h), (fun _ _ h => nomatch h), (fun _ h => nomatch h), (fun _ h => nomatch h)⟩
        refine wp_region_held_drew (S := fun w' => w'.cell? ⟨b, 0, none⟩ = some (.slice (some ⟨c.nb, 0, none⟩) s c.ncap) ∧ w'.cell? ⟨c.nb, i, none⟩ = some (.pointer (some ⟨c.P i, 0, none⟩)) ∧ w'.cell? ⟨c.nb, k, none⟩ = some (.pointer (some ⟨c.P k, 0, none⟩))) (by kernel_rfl) (HS15.out wr.drew (bD bR)) (fun hH => ?_)
        rw [← hW0] at hH ⊢
        clear hW0 HB0
        refine wpAnyH_take (i := 0) (oi := ⟨some 54, _, _, _, _, _⟩) (v := ?_) rfl (by kernel_rfl) (by kernel_rfl) (by kernel_rfl) (fun _ _ _ h => h) (Or.inl ⟨by rfl, ?_⟩) hH ?_
        rotate_left
        ·(intro w' hSw; (try dsimp only at hSw); go_simp; try with_reducible rfl)
        simp only [Act.put, sA, sZ, sS]
        refine wpAnyH_take (i := 1) (oi := ⟨some 55, _, _, _, _, _⟩) (v := ?_) rfl (by kernel_rfl) (by kernel_rfl) (by kernel_rfl) (fun _ _ _ h => h) (Or.inl ⟨by rfl, ?_⟩) hH ?_
        rotate_left
        ·(intro w' hSw; (try dsimp only at hSw); go_simp; try with_reducible rfl)
        simp only [Act.put, sA, sZ, sS]
        refine wpAnyH_take (i := 2) (oi := ⟨some 56, _, _, _, _, _⟩) (v := ?_) rfl (by kernel_rfl) (by kernel_rfl) (by kernel_rfl) (fun _ _ _ h => h) (Or.inl ⟨by rfl, ?_⟩) hH ?_
        rotate_left
        ·(intro w' hSw; (try dsimp only at hSw); go_simp; try with_reducible rfl)
        simp only [Act.put, sA, sZ, sS]
        refine wpAnyH_take (i := 3) (oi := ⟨some 57, _, _, _, _, _⟩) (v := ?_) rfl (by kernel_rfl) (by kernel_rfl) (by kernel_rfl) (fun _ _ _ h => h) (Or.inl ⟨by rfl, ?_⟩) hH ?_
        rotate_left
        ·(intro w' hSw; (try dsimp only at hSw); go_simp; try with_reducible rfl)
        simp only [Act.put, sA, sZ, sS]
        refine wpAnyH_take (i := 4) (oi := ⟨some 58, _, _, _, _, _⟩) (v := ?_) rfl (by kernel_rfl) (by kernel_rfl) (by kernel_rfl) (fun _ _ _ h => h) (Or.inl ⟨by rfl, ?_⟩) hH ?_
        rotate_left
        ·(intro w' hSw; (try dsimp only at hSw); go_simp; try with_reducible rfl)
        simp only [Act.put, sA, sZ, sS]
        refine wpAnyH_take (i := 5) (oi := ⟨some 59, _, _, _, _, _⟩) (v := ?_) rfl (by kernel_rfl) (by kernel_rfl) (by kernel_rfl) (fun _ _ _ h => h) (Or.inl ⟨by rfl, ?_⟩) hH ?_
        rotate_left
        ·(intro w' hSw; (try dsimp only at hSw); go_simp; try with_reducible rfl)
        simp only [Act.put, sA, sZ, sS]
        refine wpAnyH_take (i := 6) (oi := ⟨some 60, _, _, _, _, _⟩) (v := ?_) rfl (by kernel_rfl) (by kernel_rfl) (by kernel_rfl) (fun _ _ _ h => h) (Or.inl ⟨by rfl, ?_⟩) hH ?_
        rotate_left
        ·(intro w' hSw; (try dsimp only at hSw); go_simp; try with_reducible rfl)
        simp only [Act.put, sA, sZ, sS]
        refine wpAnyH_take (i := 8) (oi := ⟨some 62, _, _, _, _, _⟩) (v := ?_) rfl (by kernel_rfl) (by kernel_rfl) (by kernel_rfl) (fun _ _ _ h => h) (Or.inl ⟨by rfl, ?_⟩) hH ?_
        rotate_left
        ·(intro w' hSw; (try dsimp only at hSw); go_simp; try with_reducible rfl)
        simp only [Act.put, sA, sZ, sS]
        refine wpAnyH_take (i := 9) (oi := ⟨some 63, _, _, _, _, _⟩) (v := ?_) rfl (by kernel_rfl) (by kernel_rfl) (by kernel_rfl) (fun _ _ _ h => h) (Or.inl ⟨by rfl, ?_⟩) hH ?_
        rotate_left
        ·(intro w' hSw; (try dsimp only at hSw); go_simp; try with_reducible rfl)
        simp only [Act.put, sA, sZ, sS]
        refine wpAnyH_take (i := 10) (oi := ⟨some 64, _, _, _, _, _⟩) (v := ?_) rfl (by kernel_rfl) (by kernel_rfl) (by kernel_rfl) (fun _ _ _ h => h) (Or.inl ⟨by rfl, ?_⟩) hH ?_
        rotate_left
        ·(intro w' hSw; (try dsimp only at hSw); go_simp; try with_reducible rfl)
        simp only [Act.put, sA, sZ, sS]
        refine wpAnyH_take (i := 11) (oi := ⟨some 65, _, _, _, _, _⟩) (v := ?_) rfl (by kernel_rfl) (by kernel_rfl) (by kernel_rfl) (fun _ _ _ h => h) (Or.inl ⟨by rfl, ?_⟩) hH ?_
        rotate_left
        ·(intro w' hSw; (try dsimp only at hSw); go_simp; try with_reducible rfl)
        simp only [Act.put, sA, sZ, sS]
        refine wpAnyH_take (i := 12) (oi := ⟨some 66, _, _, _, _, _⟩) (v := ?_) rfl (by kernel_rfl) (by kernel_rfl) (by kernel_rfl) (fun _ _ _ h => h) (Or.inl ⟨by rfl, ?_⟩) hH ?_
        rotate_left
        ·(intro w' hSw; (try dsimp only at hSw); go_simp; try with_reducible rfl)
        simp only [Act.put, sA, sZ, sS]
        refine wpAnyH_take (i := 13) (oi := ⟨some 67, _, _, _, _, _⟩) (v := ?_) rfl (by kernel_rfl) (by kernel_rfl) (by kernel_rfl) (fun _ _ _ h => h) (Or.inl ⟨by rfl, ?_⟩) hH ?_
        rotate_left
        ·(intro w' hSw; (try dsimp only at hSw); go_simp; try with_reducible rfl)
        simp only [Act.put, sA, sZ, sS]
        refine wpAnyH_take (i := 14) (oi := ⟨some 68, _, _, _, _, _⟩) (v := ?_) rfl (by kernel_rfl) (by kernel_rfl) (by kernel_rfl) (fun _ _ _ h => h) (Or.inl ⟨by rfl, ?_⟩) hH ?_
        rotate_left
        ·(intro w' hSw; (try dsimp only at hSw); go_simp; try with_reducible rfl)
        simp only [Act.put, sA, sZ, sS]
        refine wpAnyH_ready (rs := [7, 16, 17]) (by kernel_rfl) (by simp) (AllReadyH.cons (o := ⟨some 61, _, _, _, _, _⟩) rfl (fun K hK => ?_) (AllReadyH.cons (o := ⟨some 10, _, _, _, _, _⟩) rfl (fun K hK => ?_) (AllReadyH.cons (o := ⟨some 11, _, _, _, _, _⟩) rfl (fun K hK => ?_) AllReadyH.nil)))
        ·go_simp
         refine (HST.out W0 HS0.out.bel i his).mono ?_
         rintro en W1 ⟨naa, nca, eaa, eca, da, va, la, ca, rfl, hb, _, _, _, _, _, hrn, hpl⟩
         have HPa := hI hpl
         have HS1 := hI (HS0.out.takeA hb hrn)
         clear hb hrn hpl HS0
         try go_wp2_with fail
         refine hK.out _ _ (HS15.out _ HS1.out.bel) (fun hH => ?_)
         clear hK K
         try simp only [Act.put, sA, sZ, sS]
         refine wpAnyH_ready (rs := [15, 16, 17]) (by kernel_rfl) (by simp) (AllReadyH.cons (o := ⟨some 69, _, _, _, _, _⟩) rfl (fun K hK => ?_) (AllReadyH.cons (o := ⟨some 10, _, _, _, _, _⟩) rfl (fun K hK => ?_) (AllReadyH.cons (o := ⟨some 11, _, _, _, _, _⟩) rfl (fun K hK => ?_) AllReadyH.nil)))
         ·go_simp
          refine (HST.out W1 HS1.out.bel k hks).mono ?_
          rintro en W2 ⟨nab, ncb, eab, ecb, db, vb, lb, cb, rfl, hb, _, _, _, _, _, hrn, hpl⟩
          have HPb := hI hpl
          have HS2 := hI (HS1.out.takeB hb hrn)
          clear hb hrn hpl HS1
          try go_wp2_with fail
          refine hK.out _ _ (HS15.out _ HS2.out.bel) (fun hH => ?_)
          clear hK K
          try simp only [Act.put, sA, sZ, sS]
          refine wpAnyH_ready (rs := [16, 17]) (by kernel_rfl) (by simp) (AllReadyH.cons (o := ⟨some 10, _, _, _, _, _⟩) rfl (fun K hK => ?_) (AllReadyH.cons (o := ⟨some 11, _, _, _, _, _⟩) rfl (fun K hK => ?_) AllReadyH.nil))
          ·go_simp
           have HS3 : Hid (S15 _ _ _ _ _ _) := hI (HS2.out.newA (C := #[.int .u64 0, .int .i64 0, .int .u64 0, .int .u64 0, .slice none 0 0, .slice none 0 0, .slice none 0 0]) (T := 43) rfl)
           revert HS3
           generalize W2.alloc (.cells #[.int .u64 0, .int .i64 0, .int .u64 0, .int .u64 0, .slice none 0 0, .slice none 0 0, .slice none 0 0] 43) = W3, W2.heap.size = pa
           intro HS3
           clear HS2
           refine hK.out _ _ (HS15.out _ HS3.out.bel) (fun hH => ?_)
           clear hK K
           try simp only [Act.put, sA, sZ, sS]
           refine wpAnyH_ready (rs := [17]) (by kernel_rfl) (by simp) (AllReadyH.cons (o := ⟨some 11, _, _, _, _, _⟩) rfl (fun K hK => ?_) AllReadyH.nil)
           go_simp
           have HS4 : Hid (S15 _ _ _ _ _ _) := hI (HS3.out.newB (C := #[.int .u64 0, .int .i64 0, .int .u64 0, .int .u64 0, .slice none 0 0, .slice none 0 0, .slice none 0 0]) (T := 43) rfl)
           revert HS4
           generalize W3.alloc (.cells #[.int .u64 0, .int .i64 0, .int .u64 0, .int .u64 0, .slice none 0 0, .slice none 0 0, .slice none 0 0] 43) = W4, W3.heap.size = pb
           intro HS4
           clear HS3
           refine hK.out _ _ (HS15.out _ HS4.out.bel) (fun hH => ?_)
           clear hK K
           try simp only [Act.put, sA, sZ, sS]
           obtain ⟨f1, f2, f3, f4, f5⟩ := HS4.out.fin HPa.out HPb.out (.int .u64 (c.x i).term) (.int .i64 (c.x i).vote) (.int .u64 (c.x i).ix) (.int .u64 (c.x i).tm) _ _ (.int .u64 (c.x k).term) (.int .i64 (c.x k).vote) (.int .u64 (c.x k).ix) (.int .u64 (c.x k).tm) _ _
           refine wpAnyH_ready (rs := [18]) (by kernel_rfl) (by simp) (AllReadyH.cons (o := ⟨none, _, _, _, _, _⟩) rfl (fun K hK => ?_) AllReadyH.nil)
           rw [if_pos (by rfl), store_rule 7 (by decide) info_st (by rfl) (by rfl) (by rfl) (by exact f1) (by exact Nat.le_refl 7) (by exact st_one _ _ _ _ _ _ _ _ _ _ _ _ _)]
           refine hK.out _ _ (HS15.out _ f2) (fun hH => ?_)
           clear hK K
           try simp only [Act.put]
           refine wpAnyH_ready (rs := [19]) (by kernel_rfl) (by simp) (AllReadyH.cons (o := ⟨none, _, _, _, _, _⟩) rfl (fun K hK => ?_) AllReadyH.nil)
           rw [if_pos (by rfl), store_rule 7 (by decide) info_st (by rfl) (by rfl) (by rfl) (by exact f3) (by exact Nat.le_refl 7) (by exact st_one _ _ _ _ _ _ _ _ _ _ _ _ _)]
           refine hK.out _ _ (HS15.out _ f4) (fun hH => ?_)
           clear hK K
           try simp only [Act.put]
           refine wpAnyH_done (by kernel_rfl) ?_ _
           go_wp2_with fail
           go_meet
           exact f5
          ·go_simp
           have HS3 : Hid (S15 _ _ _ _ _ _) := hI (HS2.out.newB (C := #[.int .u64 0, .int .i64 0, .int .u64 0, .int .u64 0, .slice none 0 0, .slice none 0 0, .slice none 0 0]) (T := 43) rfl)
           revert HS3
           generalize W2.alloc (.cells #[.int .u64 0, .int .i64 0, .int .u64 0, .int .u64 0, .slice none 0 0, .slice none 0 0, .slice none 0 0] 43) = W3, W2.heap.size = pb
           intro HS3
           clear HS2
           refine hK.out _ _ (HS15.out _ HS3.out.bel) (fun hH => ?_)
           clear hK K
           try simp only [Act.put, sA, sZ, sS]
           refine wpAnyH_ready (rs := [16]) (by kernel_rfl) (by simp) (AllReadyH.cons (o := ⟨some 10, _, _, _, _, _⟩) rfl (fun K hK => ?_) AllReadyH.nil)
           go_simp
           have HS4 : Hid (S15 _ _ _ _ _ _) := hI (HS3.out.newA (C := #[.int .u64 0, .int .i64 0, .int .u64 0, .int .u64 0, .slice none 0 0, .slice none 0 0, .slice none 0 0]) (T := 43) rfl)
           revert HS4
           generalize W3.alloc (.cells #[.int .u64 0, .int .i64 0, .int .u64 0, .int .u64 0, .slice none 0 0, .slice none 0 0, .slice none 0 0] 43) = W4, W3.heap.size = pa
           intro HS4
           clear HS3
           refine hK.out _ _ (HS15.out _ HS4.out.bel) (fun hH => ?_)
           clear hK K
           try simp only [Act.put, sA, sZ, sS]
           obtain ⟨f1, f2, f3, f4, f5⟩ := HS4.out.fin HPa.out HPb.out (.int .u64 (c.x i).term) (.int .i64 (c.x i).vote) (.int .u64 (c.x i).ix) (.int .u64 (c.x i).tm) _ _ (.int .u64 (c.x k).term) (.int .i64 (c.x k).vote) (.int .u64 (c.x k).ix) (.int .u64 (c.x k).tm) _ _
           refine wpAnyH_ready (rs := [18]) (by kernel_rfl) (by simp) (AllReadyH.cons (o := ⟨none, _, _, _, _, _⟩) rfl (fun K hK => ?_) AllReadyH.nil)
           rw [if_pos (by rfl), store_rule 7 (by decide) info_st (by rfl) (by rfl) (by rfl) (by exact f1) (by exact Nat.le_refl 7) (by exact st_one _ _ _ _ _ _ _ _ _ _ _ _ _)]
           refine hK.out _ _ (HS15.out _ f2) (fun hH => ?_)
           clear hK K
           try simp only [Act.put]
           refine wpAnyH_ready (rs := [19]) (by kernel_rfl) (by simp) (AllReadyH.cons (o := ⟨none, _, _, _, _, _⟩) rfl (fun K hK => ?_) AllReadyH.nil)
           rw [if_pos (by rfl), store_rule 7 (by decide) info_st (by rfl) (by rfl) (by rfl) (by exact f3) (by exact Nat.le_refl 7) (by exact st_one _ _ _ _ _ _ _ _ _ _ _ _ _)]
           refine hK.out _ _ (HS15.out _ f4) (fun hH => ?_)
           clear hK K
           try simp only [Act.put]
           refine wpAnyH_done (by kernel_rfl) ?_ _
           go_wp2_with fail
           go_meet
           exact f5
         ·go_simp
          have HS2 : Hid (S15 _ _ _ _ _ _) := hI (HS1.out.newA (C := #[.int .u64 0, .int .i64 0, .int .u64 0, .int .u64 0, .slice none 0 0, .slice none 0 0, .slice none 0 0]) (T := 43) rfl)
          revert HS2
          generalize W1.alloc (.cells #[.int .u64 0, .int .i64 0, .int .u64 0, .int .u64 0, .slice none 0 0, .slice none 0 0, .slice none 0 0] 43) = W2, W1.heap.size = pa
          intro HS2
          clear HS1
          refine hK.out _ _ (HS15.out _ HS2.out.bel) (fun hH => ?_)
          clear hK K
          try simp only [Act.put, sA, sZ, sS]
          refine wpAnyH_ready (rs := [15, 17]) (by kernel_rfl) (by simp) (AllReadyH.cons (o := ⟨some 69, _, _, _, _, _⟩) rfl (fun K hK => ?_) (AllReadyH.cons (o := ⟨some 11, _, _, _, _, _⟩) rfl (fun K hK => ?_) AllReadyH.nil))
          ·go_simp
           refine (HST.out W2 HS2.out.bel k hks).mono ?_
           rintro en W3 ⟨nab, ncb, eab, ecb, db, vb, lb, cb, rfl, hb, _, _, _, _, _, hrn, hpl⟩
           have HPb := hI hpl
           have HS3 := hI (HS2.out.takeB hb hrn)
           clear hb hrn hpl HS2
           try go_wp2_with fail
           refine hK.out _ _ (HS15.out _ HS3.out.bel) (fun hH => ?_)
           clear hK K
           try simp only [Act.put, sA, sZ, sS]
           refine wpAnyH_ready (rs := [17]) (by kernel_rfl) (by simp) (AllReadyH.cons (o := ⟨some 11, _, _, _, _, _⟩) rfl (fun K hK => ?_) AllReadyH.nil)
           go_simp
           have HS4 : Hid (S15 _ _ _ _ _ _) := hI (HS3.out.newB (C := #[.int .u64 0, .int .i64 0, .int .u64 0, .int .u64 0, .slice none 0 0, .slice none 0 0, .slice none 0 0]) (T := 43) rfl)
           revert HS4
           generalize W3.alloc (.cells #[.int .u64 0, .int .i64 0, .int .u64 0, .int .u64 0, .slice none 0 0, .slice none 0 0, .slice none 0 0] 43) = W4, W3.heap.size = pb
           intro HS4
           clear HS3
           refine hK.out _ _ (HS15.out _ HS4.out.bel) (fun hH => ?_)
           clear hK K
           try simp only [Act.put, sA, sZ, sS]
           obtain ⟨f1, f2, f3, f4, f5⟩ := HS4.out.fin HPa.out HPb.out (.int .u64 (c.x i).term) (.int .i64 (c.x i).vote) (.int .u64 (c.x i).ix) (.int .u64 (c.x i).tm) _ _ (.int .u64 (c.x k).term) (.int .i64 (c.x k).vote) (.int .u64 (c.x k).ix) (.int .u64 (c.x k).tm) _ _
           refine wpAnyH_ready (rs := [18]) (by kernel_rfl) (by simp) (AllReadyH.cons (o := ⟨none, _, _, _, _, _⟩) rfl (fun K hK => ?_) AllReadyH.nil)
           rw [if_pos (by rfl), store_rule 7 (by decide) info_st (by rfl) (by rfl) (by rfl) (by exact f1) (by exact Nat.le_refl 7) (by exact st_one _ _ _ _ _ _ _ _ _ _ _ _ _)]
           refine hK.out _ _ (HS15.out _ f2) (fun hH => ?_)
           clear hK K
           try simp only [Act.put]
           refine wpAnyH_ready (rs := [19]) (by kernel_rfl) (by simp) (AllReadyH.cons (o := ⟨none, _, _, _, _, _⟩) rfl (fun K hK => ?_) AllReadyH.nil)
           rw [if_pos (by rfl), store_rule 7 (by decide) info_st (by rfl) (by rfl) (by rfl) (by exact f3) (by exact Nat.le_refl 7) (by exact st_one _ _ _ _ _ _ _ _ _ _ _ _ _)]
           refine hK.out _ _ (HS15.out _ f4) (fun hH => ?_)
           clear hK K
           try simp only [Act.put]
           refine wpAnyH_done (by kernel_rfl) ?_ _
           go_wp2_with fail
           go_meet
           exact f5
          ·go_simp
           have HS3 : Hid (S15 _ _ _ _ _ _) := hI (HS2.out.newB (C := #[.int .u64 0, .int .i64 0, .int .u64 0, .int .u64 0, .slice none 0 0, .slice none 0 0, .slice none 0 0]) (T := 43) rfl)
           revert HS3
           generalize W2.alloc (.cells #[.int .u64 0, .int .i64 0, .int .u64 0, .int .u64 0, .slice none 0 0, .slice none 0 0, .slice none 0 0] 43) = W3, W2.heap.size = pb
           intro HS3
           clear HS2
           refine hK.out _ _ (HS15.out _ HS3.out.bel) (fun hH => ?_)
           clear hK K
           try simp only [Act.put, sA, sZ, sS]
           refine wpAnyH_ready (rs := [15]) (by kernel_rfl) (by simp) (AllReadyH.cons (o := ⟨some 69, _, _, _, _, _⟩) rfl (fun K hK => ?_) AllReadyH.nil)
           go_simp
           refine (HST.out W3 HS3.out.bel k hks).mono ?_
           rintro en W4 ⟨nab, ncb, eab, ecb, db, vb, lb, cb, rfl, hb, _, _, _, _, _, hrn, hpl⟩
           have HPb := hI hpl
           have HS4 := hI (HS3.out.takeB hb hrn)
           clear hb hrn hpl HS3
           try go_wp2_with fail
           refine hK.out _ _ (HS15.out _ HS4.out.bel) (fun hH => ?_)
           clear hK K
           try simp only [Act.put, sA, sZ, sS]
           obtain ⟨f1, f2, f3, f4, f5⟩ := HS4.out.fin HPa.out HPb.out (.int .u64 (c.x i).term) (.int .i64 (c.x i).vote) (.int .u64 (c.x i).ix) (.int .u64 (c.x i).tm) _ _ (.int .u64 (c.x k).term) (.int .i64 (c.x k).vote) (.int .u64 (c.x k).ix) (.int .u64 (c.x k).tm) _ _
           refine wpAnyH_ready (rs := [18]) (by kernel_rfl) (by simp) (AllReadyH.cons (o := ⟨none, _, _, _, _, _⟩) rfl (fun K hK => ?_) AllReadyH.nil)
           rw [if_pos (by rfl), store_rule 7 (by decide) info_st (by rfl) (by rfl) (by rfl) (by exact f1) (by exact Nat.le_refl 7) (by exact st_one _ _ _ _ _ _ _ _ _ _ _ _ _)]
           refine hK.out _ _ (HS15.out _ f2) (fun hH => ?_)
           clear hK K
           try simp only [Act.put]
           refine wpAnyH_ready (rs := [19]) (by kernel_rfl) (by simp) (AllReadyH.cons (o := ⟨none, _, _, _, _, _⟩) rfl (fun K hK => ?_) AllReadyH.nil)
           rw [if_pos (by rfl), store_rule 7 (by decide) info_st (by rfl) (by rfl) (by rfl) (by exact f3) (by exact Nat.le_refl 7) (by exact st_one _ _ _ _ _ _ _ _ _ _ _ _ _)]
           refine hK.out _ _ (HS15.out _ f4) (fun hH => ?_)
           clear hK K
           try simp only [Act.put]
           refine wpAnyH_done (by kernel_rfl) ?_ _
           go_wp2_with fail
           go_meet
           exact f5
         ·go_simp
          have HS2 : Hid (S15 _ _ _ _ _ _) := hI (HS1.out.newB (C := #[.int .u64 0, .int .i64 0, .int .u64 0, .int .u64 0, .slice none 0 0, .slice none 0 0, .slice none 0 0]) (T := 43) rfl)
          revert HS2
          generalize W1.alloc (.cells #[.int .u64 0, .int .i64 0, .int .u64 0, .int .u64 0, .slice none 0 0, .slice none 0 0, .slice none 0 0] 43) = W2, W1.heap.size = pb
          intro HS2
          clear HS1
          refine hK.out _ _ (HS15.out _ HS2.out.bel) (fun hH => ?_)
          clear hK K
          try simp only [Act.put, sA, sZ, sS]
          refine wpAnyH_ready (rs := [15, 16]) (by kernel_rfl) (by simp) (AllReadyH.cons (o := ⟨some 69, _, _, _, _, _⟩) rfl (fun K hK => ?_) (AllReadyH.cons (o := ⟨some 10, _, _, _, _, _⟩) rfl (fun K hK => ?_) AllReadyH.nil))
          ·go_simp
           refine (HST.out W2 HS2.out.bel k hks).mono ?_
           rintro en W3 ⟨nab, ncb, eab, ecb, db, vb, lb, cb, rfl, hb, _, _, _, _, _, hrn, hpl⟩
           have HPb := hI hpl
           have HS3 := hI (HS2.out.takeB hb hrn)
           clear hb hrn hpl HS2
           try go_wp2_with fail
           refine hK.out _ _ (HS15.out _ HS3.out.bel) (fun hH => ?_)
           clear hK K
           try simp only [Act.put, sA, sZ, sS]
           refine wpAnyH_ready (rs := [16]) (by kernel_rfl) (by simp) (AllReadyH.cons (o := ⟨some 10, _, _, _, _, _⟩) rfl (fun K hK => ?_) AllReadyH.nil)
           go_simp
           have HS4 : Hid (S15 _ _ _ _ _ _) := hI (HS3.out.newA (C := #[.int .u64 0, .int .i64 0, .int .u64 0, .int .u64 0, .slice none 0 0, .slice none 0 0, .slice none 0 0]) (T := 43) rfl)
           revert HS4
           generalize W3.alloc (.cells #[.int .u64 0, .int .i64 0, .int .u64 0, .int .u64 0, .slice none 0 0, .slice none 0 0, .slice none 0 0] 43) = W4, W3.heap.size = pa
           intro HS4
           clear HS3
           refine hK.out _ _ (HS15.out _ HS4.out.bel) (fun hH => ?_)
           clear hK K
           try simp only [Act.put, sA, sZ, sS]
           obtain ⟨f1, f2, f3, f4, f5⟩ := HS4.out.fin HPa.out HPb.out (.int .u64 (c.x i).term) (.int .i64 (c.x i).vote) (.int .u64 (c.x i).ix) (.int .u64 (c.x i).tm) _ _ (.int .u64 (c.x k).term) (.int .i64 (c.x k).vote) (.int .u64 (c.x k).ix) (.int .u64 (c.x k).tm) _ _
           refine wpAnyH_ready (rs := [18]) (by kernel_rfl) (by simp) (AllReadyH.cons (o := ⟨none, _, _, _, _, _⟩) rfl (fun K hK => ?_) AllReadyH.nil)
           rw [if_pos (by rfl), store_rule 7 (by decide) info_st (by rfl) (by rfl) (by rfl) (by exact f1) (by exact Nat.le_refl 7) (by exact st_one _ _ _ _ _ _ _ _ _ _ _ _ _)]
           refine hK.out _ _ (HS15.out _ f2) (fun hH => ?_)
           clear hK K
           try simp only [Act.put]
           refine wpAnyH_ready (rs := [19]) (by kernel_rfl) (by simp) (AllReadyH.cons (o := ⟨none, _, _, _, _, _⟩) rfl (fun K hK => ?_) AllReadyH.nil)
           rw [if_pos (by rfl), store_rule 7 (by decide) info_st (by rfl) (by rfl) (by rfl) (by exact f3) (by exact Nat.le_refl 7) (by exact st_one _ _ _ _ _ _ _ _ _ _ _ _ _)]
           refine hK.out _ _ (HS15.out _ f4) (fun hH => ?_)
           clear hK K
           try simp only [Act.put]
           refine wpAnyH_done (by kernel_rfl) ?_ _
           go_wp2_with fail
           go_meet
           exact f5
          ·go_simp
           have HS3 : Hid (S15 _ _ _ _ _ _) := hI (HS2.out.newA (C := #[.int .u64 0, .int .i64 0, .int .u64 0, .int .u64 0, .slice none 0 0, .slice none 0 0, .slice none 0 0]) (T := 43) rfl)
           revert HS3
           generalize W2.alloc (.cells #[.int .u64 0, .int .i64 0, .int .u64 0, .int .u64 0, .slice none 0 0, .slice none 0 0, .slice none 0 0] 43) = W3, W2.heap.size = pa
           intro HS3
           clear HS2
           refine hK.out _ _ (HS15.out _ HS3.out.bel) (fun hH => ?_)
           clear hK K
           try simp only [Act.put, sA, sZ, sS]
           refine wpAnyH_ready (rs := [15]) (by kernel_rfl) (by simp) (AllReadyH.cons (o := ⟨some 69, _, _, _, _, _⟩) rfl (fun K hK => ?_) AllReadyH.nil)
           go_simp
           refine (HST.out W3 HS3.out.bel k hks).mono ?_
           rintro en W4 ⟨nab, ncb, eab, ecb, db, vb, lb, cb, rfl, hb, _, _, _, _, _, hrn, hpl⟩
           have HPb := hI hpl
           have HS4 := hI (HS3.out.takeB hb hrn)
           clear hb hrn hpl HS3
           try go_wp2_with fail
           refine hK.out _ _ (HS15.out _ HS4.out.bel) (fun hH => ?_)
           clear hK K
           try simp only [Act.put, sA, sZ, sS]
           obtain ⟨f1, f2, f3, f4, f5⟩ := HS4.out.fin HPa.out HPb.out (.int .u64 (c.x i).term) (.int .i64 (c.x i).vote) (.int .u64 (c.x i).ix) (.int .u64 (c.x i).tm) _ _ (.int .u64 (c.x k).term) (.int .i64 (c.x k).vote) (.int .u64 (c.x k).ix) (.int .u64 (c.x k).tm) _ _
           refine wpAnyH_ready (rs := [18]) (by kernel_rfl) (by simp) (AllReadyH.cons (o := ⟨none, _, _, _, _, _⟩) rfl (fun K hK => ?_) AllReadyH.nil)
           rw [if_pos (by rfl), store_rule 7 (by decide) info_st (by rfl) (by rfl) (by rfl) (by exact f1) (by exact Nat.le_refl 7) (by exact st_one _ _ _ _ _ _ _ _ _ _ _ _ _)]
           refine hK.out _ _ (HS15.out _ f2) (fun hH => ?_)
           clear hK K
           try simp only [Act.put]
           refine wpAnyH_ready (rs := [19]) (by kernel_rfl) (by simp) (AllReadyH.cons (o := ⟨none, _, _, _, _, _⟩) rfl (fun K hK => ?_) AllReadyH.nil)
           rw [if_pos (by rfl), store_rule 7 (by decide) info_st (by rfl) (by rfl) (by rfl) (by exact f3) (by exact Nat.le_refl 7) (by exact st_one _ _ _ _ _ _ _ _ _ _ _ _ _)]
           refine hK.out _ _ (HS15.out _ f4) (fun hH => ?_)
           clear hK K
           try simp only [Act.put]
           refine wpAnyH_done (by kernel_rfl) ?_ _
           go_wp2_with fail
           go_meet
           exact f5
        ·go_simp
         have HS1 : Hid (S15 _ _ _ _ _ _) := hI (HS0.out.newA (C := #[.int .u64 0, .int .i64 0, .int .u64 0, .int .u64 0, .slice none 0 0, .slice none 0 0, .slice none 0 0]) (T := 43) rfl)
         revert HS1
         generalize W0.alloc (.cells #[.int .u64 0, .int .i64 0, .int .u64 0, .int .u64 0, .slice none 0 0, .slice none 0 0, .slice none 0 0] 43) = W1, W0.heap.size = pa
         intro HS1
         clear HS0
         refine hK.out _ _ (HS15.out _ HS1.out.bel) (fun hH => ?_)
         clear hK K
         try simp only [Act.put, sA, sZ, sS]
         refine wpAnyH_ready (rs := [7, 17]) (by kernel_rfl) (by simp) (AllReadyH.cons (o := ⟨some 61, _, _, _, _, _⟩) rfl (fun K hK => ?_) (AllReadyH.cons (o := ⟨some 11, _, _, _, _, _⟩) rfl (fun K hK => ?_) AllReadyH.nil))
         ·go_simp
          refine (HST.out W1 HS1.out.bel i his).mono ?_
          rintro en W2 ⟨naa, nca, eaa, eca, da, va, la, ca, rfl, hb, _, _, _, _, _, hrn, hpl⟩
          have HPa := hI hpl
          have HS2 := hI (HS1.out.takeA hb hrn)
          clear hb hrn hpl HS1
          try go_wp2_with fail
          refine hK.out _ _ (HS15.out _ HS2.out.bel) (fun hH => ?_)
          clear hK K
          try simp only [Act.put, sA, sZ, sS]
          refine wpAnyH_ready (rs := [15, 17]) (by kernel_rfl) (by simp) (AllReadyH.cons (o := ⟨some 69, _, _, _, _, _⟩) rfl (fun K hK => ?_) (AllReadyH.cons (o := ⟨some 11, _, _, _, _, _⟩) rfl (fun K hK => ?_) AllReadyH.nil))
          ·go_simp
           refine (HST.out W2 HS2.out.bel k hks).mono ?_
           rintro en W3 ⟨nab, ncb, eab, ecb, db, vb, lb, cb, rfl, hb, _, _, _, _, _, hrn, hpl⟩
           have HPb := hI hpl
           have HS3 := hI (HS2.out.takeB hb hrn)
           clear hb hrn hpl HS2
           try go_wp2_with fail
           refine hK.out _ _ (HS15.out _ HS3.out.bel) (fun hH => ?_)
           clear hK K
           try simp only [Act.put, sA, sZ, sS]
           refine wpAnyH_ready (rs := [17]) (by kernel_rfl) (by simp) (AllReadyH.cons (o := ⟨some 11, _, _, _, _, _⟩) rfl (fun K hK => ?_) AllReadyH.nil)
           go_simp
           have HS4 : Hid (S15 _ _ _ _ _ _) := hI (HS3.out.newB (C := #[.int .u64 0, .int .i64 0, .int .u64 0, .int .u64 0, .slice none 0 0, .slice none 0 0, .slice none 0 0]) (T := 43) rfl)
           revert HS4
           generalize W3.alloc (.cells #[.int .u64 0, .int .i64 0, .int .u64 0, .int .u64 0, .slice none 0 0, .slice none 0 0, .slice none 0 0] 43) = W4, W3.heap.size = pb
           intro HS4
           clear HS3
           refine hK.out _ _ (HS15.out _ HS4.out.bel) (fun hH => ?_)
           clear hK K
           try simp only [Act.put, sA, sZ, sS]
           obtain ⟨f1, f2, f3, f4, f5⟩ := HS4.out.fin HPa.out HPb.out (.int .u64 (c.x i).term) (.int .i64 (c.x i).vote) (.int .u64 (c.x i).ix) (.int .u64 (c.x i).tm) _ _ (.int .u64 (c.x k).term) (.int .i64 (c.x k).vote) (.int .u64 (c.x k).ix) (.int .u64 (c.x k).tm) _ _
           refine wpAnyH_ready (rs := [18]) (by kernel_rfl) (by simp) (AllReadyH.cons (o := ⟨none, _, _, _, _, _⟩) rfl (fun K hK => ?_) AllReadyH.nil)
           rw [if_pos (by rfl), store_rule 7 (by decide) info_st (by rfl) (by rfl) (by rfl) (by exact f1) (by exact Nat.le_refl 7) (by exact st_one _ _ _ _ _ _ _ _ _ _ _ _ _)]
           refine hK.out _ _ (HS15.out _ f2) (fun hH => ?_)
           clear hK K
           try simp only [Act.put]
           refine wpAnyH_ready (rs := [19]) (by kernel_rfl) (by simp) (AllReadyH.cons (o := ⟨none, _, _, _, _, _⟩) rfl (fun K hK => ?_) AllReadyH.nil)
           rw [if_pos (by rfl), store_rule 7 (by decide) info_st (by rfl) (by rfl) (by rfl) (by exact f3) (by exact Nat.le_refl 7) (by exact st_one _ _ _ _ _ _ _ _ _ _ _ _ _)]
           refine hK.out _ _ (HS15.out _ f4) (fun hH => ?_)
           clear hK K
           try simp only [Act.put]
           refine wpAnyH_done (by kernel_rfl) ?_ _
           go_wp2_with fail
           go_meet
           exact f5
          ·go_simp
           have HS3 : Hid (S15 _ _ _ _ _ _) := hI (HS2.out.newB (C := #[.int .u64 0, .int .i64 0, .int .u64 0, .int .u64 0, .slice none 0 0, .slice none 0 0, .slice none 0 0]) (T := 43) rfl)
           revert HS3
           generalize W2.alloc (.cells #[.int .u64 0, .int .i64 0, .int .u64 0, .int .u64 0, .slice none 0 0, .slice none 0 0, .slice none 0 0] 43) = W3, W2.heap.size = pb
           intro HS3
           clear HS2
           refine hK.out _ _ (HS15.out _ HS3.out.bel) (fun hH => ?_)
           clear hK K
           try simp only [Act.put, sA, sZ, sS]
           refine wpAnyH_ready (rs := [15]) (by kernel_rfl) (by simp) (AllReadyH.cons (o := ⟨some 69, _, _, _, _, _⟩) rfl (fun K hK => ?_) AllReadyH.nil)
           go_simp
           refine (HST.out W3 HS3.out.bel k hks).mono ?_
           rintro en W4 ⟨nab, ncb, eab, ecb, db, vb, lb, cb, rfl, hb, _, _, _, _, _, hrn, hpl⟩
           have HPb := hI hpl
           have HS4 := hI (HS3.out.takeB hb hrn)
           clear hb hrn hpl HS3
           try go_wp2_with fail
           refine hK.out _ _ (HS15.out _ HS4.out.bel) (fun hH => ?_)
           clear hK K
           try simp only [Act.put, sA, sZ, sS]
           obtain ⟨f1, f2, f3, f4, f5⟩ := HS4.out.fin HPa.out HPb.out (.int .u64 (c.x i).term) (.int .i64 (c.x i).vote) (.int .u64 (c.x i).ix) (.int .u64 (c.x i).tm) _ _ (.int .u64 (c.x k).term) (.int .i64 (c.x k).vote) (.int .u64 (c.x k).ix) (.int .u64 (c.x k).tm) _ _
           refine wpAnyH_ready (rs := [18]) (by kernel_rfl) (by simp) (AllReadyH.cons (o := ⟨none, _, _, _, _, _⟩) rfl (fun K hK => ?_) AllReadyH.nil)
           rw [if_pos (by rfl), store_rule 7 (by decide) info_st (by rfl) (by rfl) (by rfl) (by exact f1) (by exact Nat.le_refl 7) (by exact st_one _ _ _ _ _ _ _ _ _ _ _ _ _)]
           refine hK.out _ _ (HS15.out _ f2) (fun hH => ?_)
           clear hK K
           try simp only [Act.put]
           refine wpAnyH_ready (rs := [19]) (by kernel_rfl) (by simp) (AllReadyH.cons (o := ⟨none, _, _, _, _, _⟩) rfl (fun K hK => ?_) AllReadyH.nil)
           rw [if_pos (by rfl), store_rule 7 (by decide) info_st (by rfl) (by rfl) (by rfl) (by exact f3) (by exact Nat.le_refl 7) (by exact st_one _ _ _ _ _ _ _ _ _ _ _ _ _)]
           refine hK.out _ _ (HS15.out _ f4) (fun hH => ?_)
           clear hK K
           try simp only [Act.put]
           refine wpAnyH_done (by kernel_rfl) ?_ _
           go_wp2_with fail
           go_meet
           exact f5
         ·go_simp
          have HS2 : Hid (S15 _ _ _ _ _ _) := hI (HS1.out.newB (C := #[.int .u64 0, .int .i64 0, .int .u64 0, .int .u64 0, .slice none 0 0, .slice none 0 0, .slice none 0 0]) (T := 43) rfl)
          revert HS2
          generalize W1.alloc (.cells #[.int .u64 0, .int .i64 0, .int .u64 0, .int .u64 0, .slice none 0 0, .slice none 0 0, .slice none 0 0] 43) = W2, W1.heap.size = pb
          intro HS2
          clear HS1
          refine hK.out _ _ (HS15.out _ HS2.out.bel) (fun hH => ?_)
          clear hK K
          try simp only [Act.put, sA, sZ, sS]
          refine wpAnyH_ready (rs := [7]) (by kernel_rfl) (by simp) (AllReadyH.cons (o := ⟨some 61, _, _, _, _, _⟩) rfl (fun K hK => ?_) AllReadyH.nil)
          go_simp
          refine (HST.out W2 HS2.out.bel i his).mono ?_
          rintro en W3 ⟨naa, nca, eaa, eca, da, va, la, ca, rfl, hb, _, _, _, _, _, hrn, hpl⟩
          have HPa := hI hpl
          have HS3 := hI (HS2.out.takeA hb hrn)
          clear hb hrn hpl HS2
          try go_wp2_with fail
          refine hK.out _ _ (HS15.out _ HS3.out.bel) (fun hH => ?_)
          clear hK K
          try simp only [Act.put, sA, sZ, sS]
          refine wpAnyH_ready (rs := [15]) (by kernel_rfl) (by simp) (AllReadyH.cons (o := ⟨some 69, _, _, _, _, _⟩) rfl (fun K hK => ?_) AllReadyH.nil)
          go_simp
          refine (HST.out W3 HS3.out.bel k hks).mono ?_
          rintro en W4 ⟨nab, ncb, eab, ecb, db, vb, lb, cb, rfl, hb, _, _, _, _, _, hrn, hpl⟩
          have HPb := hI hpl
          have HS4 := hI (HS3.out.takeB hb hrn)
          clear hb hrn hpl HS3
          try go_wp2_with fail
          refine hK.out _ _ (HS15.out _ HS4.out.bel) (fun hH => ?_)
          clear hK K
          try simp only [Act.put, sA, sZ, sS]
          obtain ⟨f1, f2, f3, f4, f5⟩ := HS4.out.fin HPa.out HPb.out (.int .u64 (c.x i).term) (.int .i64 (c.x i).vote) (.int .u64 (c.x i).ix) (.int .u64 (c.x i).tm) _ _ (.int .u64 (c.x k).term) (.int .i64 (c.x k).vote) (.int .u64 (c.x k).ix) (.int .u64 (c.x k).tm) _ _
          refine wpAnyH_ready (rs := [18]) (by kernel_rfl) (by simp) (AllReadyH.cons (o := ⟨none, _, _, _, _, _⟩) rfl (fun K hK => ?_) AllReadyH.nil)
          rw [if_pos (by rfl), store_rule 7 (by decide) info_st (by rfl) (by rfl) (by rfl) (by exact f1) (by exact Nat.le_refl 7) (by exact st_one _ _ _ _ _ _ _ _ _ _ _ _ _)]
          refine hK.out _ _ (HS15.out _ f2) (fun hH => ?_)
          clear hK K
          try simp only [Act.put]
          refine wpAnyH_ready (rs := [19]) (by kernel_rfl) (by simp) (AllReadyH.cons (o := ⟨none, _, _, _, _, _⟩) rfl (fun K hK => ?_) AllReadyH.nil)
          rw [if_pos (by rfl), store_rule 7 (by decide) info_st (by rfl) (by rfl) (by rfl) (by exact f3) (by exact Nat.le_refl 7) (by exact st_one _ _ _ _ _ _ _ _ _ _ _ _ _)]
          refine hK.out _ _ (HS15.out _ f4) (fun hH => ?_)
          clear hK K
          try simp only [Act.put]
          refine wpAnyH_done (by kernel_rfl) ?_ _
          go_wp2_with fail
          go_meet
          exact f5
        ·go_simp
         have HS1 : Hid (S15 _ _ _ _ _ _) := hI (HS0.out.newB (C := #[.int .u64 0, .int .i64 0, .int .u64 0, .int .u64 0, .slice none 0 0, .slice none 0 0, .slice none 0 0]) (T := 43) rfl)
         revert HS1
         generalize W0.alloc (.cells #[.int .u64 0, .int .i64 0, .int .u64 0, .int .u64 0, .slice none 0 0, .slice none 0 0, .slice none 0 0] 43) = W1, W0.heap.size = pb
         intro HS1
         clear HS0
         refine hK.out _ _ (HS15.out _ HS1.out.bel) (fun hH => ?_)
         clear hK K
         try simp only [Act.put, sA, sZ, sS]
         refine wpAnyH_ready (rs := [7, 16]) (by kernel_rfl) (by simp) (AllReadyH.cons (o := ⟨some 61, _, _, _, _, _⟩) rfl (fun K hK => ?_) (AllReadyH.cons (o := ⟨some 10, _, _, _, _, _⟩) rfl (fun K hK => ?_) AllReadyH.nil))
         ·go_simp
          refine (HST.out W1 HS1.out.bel i his).mono ?_
          rintro en W2 ⟨naa, nca, eaa, eca, da, va, la, ca, rfl, hb, _, _, _, _, _, hrn, hpl⟩
          have HPa := hI hpl
          have HS2 := hI (HS1.out.takeA hb hrn)
          clear hb hrn hpl HS1
          try go_wp2_with fail
          refine hK.out _ _ (HS15.out _ HS2.out.bel) (fun hH => ?_)
          clear hK K
          try simp only [Act.put, sA, sZ, sS]
          refine wpAnyH_ready (rs := [15, 16]) (by kernel_rfl) (by simp) (AllReadyH.cons (o := ⟨some 69, _, _, _, _, _⟩) rfl (fun K hK => ?_) (AllReadyH.cons (o := ⟨some 10, _, _, _, _, _⟩) rfl (fun K hK => ?_) AllReadyH.nil))
          ·go_simp
           refine (HST.out W2 HS2.out.bel k hks).mono ?_
           rintro en W3 ⟨nab, ncb, eab, ecb, db, vb, lb, cb, rfl, hb, _, _, _, _, _, hrn, hpl⟩
           have HPb := hI hpl
           have HS3 := hI (HS2.out.takeB hb hrn)
           clear hb hrn hpl HS2
           try go_wp2_with fail
           refine hK.out _ _ (HS15.out _ HS3.out.bel) (fun hH => ?_)
           clear hK K
           try simp only [Act.put, sA, sZ, sS]
           refine wpAnyH_ready (rs := [16]) (by kernel_rfl) (by simp) (AllReadyH.cons (o := ⟨some 10, _, _, _, _, _⟩) rfl (fun K hK => ?_) AllReadyH.nil)
           go_simp
           have HS4 : Hid (S15 _ _ _ _ _ _) := hI (HS3.out.newA (C := #[.int .u64 0, .int .i64 0, .int .u64 0, .int .u64 0, .slice none 0 0, .slice none 0 0, .slice none 0 0]) (T := 43) rfl)
           revert HS4
           generalize W3.alloc (.cells #[.int .u64 0, .int .i64 0, .int .u64 0, .int .u64 0, .slice none 0 0, .slice none 0 0, .slice none 0 0] 43) = W4, W3.heap.size = pa
           intro HS4
           clear HS3
           refine hK.out _ _ (HS15.out _ HS4.out.bel) (fun hH => ?_)
           clear hK K
           try simp only [Act.put, sA, sZ, sS]
           obtain ⟨f1, f2, f3, f4, f5⟩ := HS4.out.fin HPa.out HPb.out (.int .u64 (c.x i).term) (.int .i64 (c.x i).vote) (.int .u64 (c.x i).ix) (.int .u64 (c.x i).tm) _ _ (.int .u64 (c.x k).term) (.int .i64 (c.x k).vote) (.int .u64 (c.x k).ix) (.int .u64 (c.x k).tm) _ _
           refine wpAnyH_ready (rs := [18]) (by kernel_rfl) (by simp) (AllReadyH.cons (o := ⟨none, _, _, _, _, _⟩) rfl (fun K hK => ?_) AllReadyH.nil)
           rw [if_pos (by rfl), store_rule 7 (by decide) info_st (by rfl) (by rfl) (by rfl) (by exact f1) (by exact Nat.le_refl 7) (by exact st_one _ _ _ _ _ _ _ _ _ _ _ _ _)]
           refine hK.out _ _ (HS15.out _ f2) (fun hH => ?_)
           clear hK K
           try simp only [Act.put]
           refine wpAnyH_ready (rs := [19]) (by kernel_rfl) (by simp) (AllReadyH.cons (o := ⟨none, _, _, _, _, _⟩) rfl (fun K hK => ?_) AllReadyH.nil)
           rw [if_pos (by rfl), store_rule 7 (by decide) info_st (by rfl) (by rfl) (by rfl) (by exact f3) (by exact Nat.le_refl 7) (by exact st_one _ _ _ _ _ _ _ _ _ _ _ _ _)]
           refine hK.out _ _ (HS15.out _ f4) (fun hH => ?_)
           clear hK K
           try simp only [Act.put]
           refine wpAnyH_done (by kernel_rfl) ?_ _
           go_wp2_with fail
           go_meet
           exact f5
          ·go_simp
           have HS3 : Hid (S15 _ _ _ _ _ _) := hI (HS2.out.newA (C := #[.int .u64 0, .int .i64 0, .int .u64 0, .int .u64 0, .slice none 0 0, .slice none 0 0, .slice none 0 0]) (T := 43) rfl)
           revert HS3
           generalize W2.alloc (.cells #[.int .u64 0, .int .i64 0, .int .u64 0, .int .u64 0, .slice none 0 0, .slice none 0 0, .slice none 0 0] 43) = W3, W2.heap.size = pa
           intro HS3
           clear HS2
           refine hK.out _ _ (HS15.out _ HS3.out.bel) (fun hH => ?_)
           clear hK K
           try simp only [Act.put, sA, sZ, sS]
           refine wpAnyH_ready (rs := [15]) (by kernel_rfl) (by simp) (AllReadyH.cons (o := ⟨some 69, _, _, _, _, _⟩) rfl (fun K hK => ?_) AllReadyH.nil)
           go_simp
           refine (HST.out W3 HS3.out.bel k hks).mono ?_
           rintro en W4 ⟨nab, ncb, eab, ecb, db, vb, lb, cb, rfl, hb, _, _, _, _, _, hrn, hpl⟩
           have HPb := hI hpl
           have HS4 := hI (HS3.out.takeB hb hrn)
           clear hb hrn hpl HS3
           try go_wp2_with fail
           refine hK.out _ _ (HS15.out _ HS4.out.bel) (fun hH => ?_)
           clear hK K
           try simp only [Act.put, sA, sZ, sS]
           obtain ⟨f1, f2, f3, f4, f5⟩ := HS4.out.fin HPa.out HPb.out (.int .u64 (c.x i).term) (.int .i64 (c.x i).vote) (.int .u64 (c.x i).ix) (.int .u64 (c.x i).tm) _ _ (.int .u64 (c.x k).term) (.int .i64 (c.x k).vote) (.int .u64 (c.x k).ix) (.int .u64 (c.x k).tm) _ _
           refine wpAnyH_ready (rs := [18]) (by kernel_rfl) (by simp) (AllReadyH.cons (o := ⟨none, _, _, _, _, _⟩) rfl (fun K hK => ?_) AllReadyH.nil)
           rw [if_pos (by rfl), store_rule 7 (by decide) info_st (by rfl) (by rfl) (by rfl) (by exact f1) (by exact Nat.le_refl 7) (by exact st_one _ _ _ _ _ _ _ _ _ _ _ _ _)]
           refine hK.out _ _ (HS15.out _ f2) (fun hH => ?_)
           clear hK K
           try simp only [Act.put]
           refine wpAnyH_ready (rs := [19]) (by kernel_rfl) (by simp) (AllReadyH.cons (o := ⟨none, _, _, _, _, _⟩) rfl (fun K hK => ?_) AllReadyH.nil)
           rw [if_pos (by rfl), store_rule 7 (by decide) info_st (by rfl) (by rfl) (by rfl) (by exact f3) (by exact Nat.le_refl 7) (by exact st_one _ _ _ _ _ _ _ _ _ _ _ _ _)]
           refine hK.out _ _ (HS15.out _ f4) (fun hH => ?_)
           clear hK K
           try simp only [Act.put]
           refine wpAnyH_done (by kernel_rfl) ?_ _
           go_wp2_with fail
           go_meet
           exact f5
         ·go_simp
          have HS2 : Hid (S15 _ _ _ _ _ _) := hI (HS1.out.newA (C := #[.int .u64 0, .int .i64 0, .int .u64 0, .int .u64 0, .slice none 0 0, .slice none 0 0, .slice none 0 0]) (T := 43) rfl)
          revert HS2
          generalize W1.alloc (.cells #[.int .u64 0, .int .i64 0, .int .u64 0, .int .u64 0, .slice none 0 0, .slice none 0 0, .slice none 0 0] 43) = W2, W1.heap.size = pa
          intro HS2
          clear HS1
          refine hK.out _ _ (HS15.out _ HS2.out.bel) (fun hH => ?_)
          clear hK K
          try simp only [Act.put, sA, sZ, sS]
          refine wpAnyH_ready (rs := [7]) (by kernel_rfl) (by simp) (AllReadyH.cons (o := ⟨some 61, _, _, _, _, _⟩) rfl (fun K hK => ?_) AllReadyH.nil)
          go_simp
          refine (HST.out W2 HS2.out.bel i his).mono ?_
          rintro en W3 ⟨naa, nca, eaa, eca, da, va, la, ca, rfl, hb, _, _, _, _, _, hrn, hpl⟩
          have HPa := hI hpl
          have HS3 := hI (HS2.out.takeA hb hrn)
          clear hb hrn hpl HS2
          try go_wp2_with fail
          refine hK.out _ _ (HS15.out _ HS3.out.bel) (fun hH => ?_)
          clear hK K
          try simp only [Act.put, sA, sZ, sS]
          refine wpAnyH_ready (rs := [15]) (by kernel_rfl) (by simp) (AllReadyH.cons (o := ⟨some 69, _, _, _, _, _⟩) rfl (fun K hK => ?_) AllReadyH.nil)
          go_simp
          refine (HST.out W3 HS3.out.bel k hks).mono ?_
          rintro en W4 ⟨nab, ncb, eab, ecb, db, vb, lb, cb, rfl, hb, _, _, _, _, _, hrn, hpl⟩
          have HPb := hI hpl
          have HS4 := hI (HS3.out.takeB hb hrn)
          clear hb hrn hpl HS3
          try go_wp2_with fail
          refine hK.out _ _ (HS15.out _ HS4.out.bel) (fun hH => ?_)
          clear hK K
          try simp only [Act.put, sA, sZ, sS]
          obtain ⟨f1, f2, f3, f4, f5⟩ := HS4.out.fin HPa.out HPb.out (.int .u64 (c.x i).term) (.int .i64 (c.x i).vote) (.int .u64 (c.x i).ix) (.int .u64 (c.x i).tm) _ _ (.int .u64 (c.x k).term) (.int .i64 (c.x k).vote) (.int .u64 (c.x k).ix) (.int .u64 (c.x k).tm) _ _
          refine wpAnyH_ready (rs := [18]) (by kernel_rfl) (by simp) (AllReadyH.cons (o := ⟨none, _, _, _, _, _⟩) rfl (fun K hK => ?_) AllReadyH.nil)
          rw [if_pos (by rfl), store_rule 7 (by decide) info_st (by rfl) (by rfl) (by rfl) (by exact f1) (by exact Nat.le_refl 7) (by exact st_one _ _ _ _ _ _ _ _ _ _ _ _ _)]
          refine hK.out _ _ (HS15.out _ f2) (fun hH => ?_)
          clear hK K
          try simp only [Act.put]
          refine wpAnyH_ready (rs := [19]) (by kernel_rfl) (by simp) (AllReadyH.cons (o := ⟨none, _, _, _, _, _⟩) rfl (fun K hK => ?_) AllReadyH.nil)
          rw [if_pos (by rfl), store_rule 7 (by decide) info_st (by rfl) (by rfl) (by rfl) (by exact f3) (by exact Nat.le_refl 7) (by exact st_one _ _ _ _ _ _ _ _ _ _ _ _ _)]
          refine hK.out _ _ (HS15.out _ f4) (fun hH => ?_)
          clear hK K
          try simp only [Act.put]
          refine wpAnyH_done (by kernel_rfl) ?_ _
          go_wp2_with fail
          go_meet
          exact f5
       case rest =>
        obtain ⟨pa, pb, va, ca, la, vb, cb, lb, N, rfl, rfl, hB, h6a, h6b, hra, hrb, hpa, hpb⟩ := hcut
        obtain ⟨X, hX⟩ := HRK.out.nok his
        obtain ⟨Y, hY⟩ := HRK.out.nok hks
        have HX := hI hX
        have HY := hI hY
        have HLX := hI (HRK.out.logok his)
        have HLY := hI (HRK.out.logok hks)
        have HR1 := hI (HRK.out.below hB)
        have HRA := hI hra
        have HRB := hI hrb
        have HPA := hI hpa
        have HPB := hI hpb
        have H6A := hI h6a
        have H6B := hI h6b
        have hbm : Below wc.heap.size wc (wc.alloc (.map #[] 0)) := bR.alloc nL _
        have HM0 : Hid (MapOf Tryz.prog 26 keyU entV (wc.alloc (.map #[] 0)) wc.heap.size ([] : List (Int × Ent))) := hI (MapOf.made _ _ _ _ _)
        obtain ⟨pm, hpm⟩ : ∃ p, p = wc.heap.size := ⟨_, rfl⟩
        obtain ⟨wm, hwm⟩ : ∃ W, W = wc.alloc (.map #[] 0) := ⟨_, rfl⟩
        rw [← hwm, ← hpm] at HM0
        have HPM : Hid (wc.heap.size ≤ pm) := hI (by omega)
        rw [← hwm] at hbm
        have HBM := hI hbm
        have hpal : pa < wc.heap.size := cell_lt h6a
        have h6m : (wc.alloc (.map #[] 0)).cell? ⟨pa, 6, none⟩ = some (.slice va la.length ca) := by rw [← hwm]; exact (bcell hbm pa 6 (cell_lt h6a)).trans h6a
        clear hX hY hra hrb hpa hpb h6b hB hbm
        go_wp2_with fail
        rw [← hwm, ← hpm]
        clear hwm hpm hmm h6m h6a hpal
        go_loopw [74] (fun iv wr => ∃ (j : Nat) (D : List (Int × Ent)), iv = .int .i64 j ∧ j ≤ la.length ∧ Hid (Below wc.heap.size wc wr ∧ MapOf Tryz.prog 26 keyU entV wr pm D ∧ AtOk X D ∧ ∀ q ∈ D, q.2 ∈ la)) (fun iv _ => la.length - (intOf iv).toNat)
        case atStart => exact ⟨0, [], rfl, Nat.zero_le _, hI ⟨HBM.out, HM0.out, AtOk.nil, (fun _ h => nomatch h)⟩⟩
        case round =>
         obtain ⟨j, D, rfl, hj, HJ⟩ := hrel
         clear HM0 HBM
         by_cases hjt : j < la.length
         ·obtain ⟨e, he⟩ : ∃ e, la[j]? = some e := ⟨la[j], List.getElem?_eq_getElem hjt⟩
          have hrw := HRA.out.mv (Mv.below N HJ.out.1)
          obtain ⟨ba, o, cap, hv, hc1, hc2, hbl, e0, e1, e2, e3⟩ := hrw.at he
          injection hv with hva hlen hvc
          subst hva hvc
          have hde := hrw.2.1 e (List.mem_of_getElem? he)
          obtain ⟨da, dc, hdv, _⟩ := id hde.1
          rw [hdv] at e3
          have zl : (la.length : Int) ≤ 9223372036854775807 := by unfold maxLen at hc2; omega
          have zj : (j : Int) < (la.length : Int) := by omega
          have hst := HX.out.state_at HLX.out HPA.out he
          have hix : 0 ≤ e.ix ∧ e.ix ≤ 18446744073709551615 := by have := HX.out.len; omega
          obtain ⟨ob, hup, hM⟩ := (HJ.out.2.1.alloc (.cells #[.int .u64 e.ix, .int .u64 e.tm, .bool e.cf, .slice da e.d.length dc] 47)).run_update ukeyed keyU_inj Tryz.underlying34 (ukey (u64_wf hix.1 hix.2)) (key := e.ix) e
          have hup' : (Instr.mapUpdate 34 (.map (some pm)) (.int .u64 e.ix) (.agg #[.int .u64 e.ix, .int .u64 e.tm, .bool e.cf, .slice da e.d.length dc])).run Tryz.prog (wr.alloc (.cells #[.int .u64 e.ix, .int .u64 e.tm, .bool e.cf, .slice da e.d.length dc] 47)) = .ok () (setBlock (wr.alloc (.cells #[.int .u64 e.ix, .int .u64 e.tm, .bool e.cf, .slice da e.d.length dc] 47)) pm ob) := by
           have : entV e = .agg #[.int .u64 e.ix, .int .u64 e.tm, .bool e.cf, .slice da e.d.length dc] := by unfold entV; rw [hdv]
           rw [← this]
           exact hup
          have HN : Hid (Below wc.heap.size wc (setBlock (wr.alloc (.cells #[.int .u64 e.ix, .int .u64 e.tm, .bool e.cf, .slice da e.d.length dc] 47)) pm ob) ∧ MapOf Tryz.prog 26 keyU entV (setBlock (wr.alloc (.cells #[.int .u64 e.ix, .int .u64 e.tm, .bool e.cf, .slice da e.d.length dc] 47)) pm ob) pm (aset e.ix e D) ∧ AtOk X (aset e.ix e D) ∧ ∀ q ∈ aset e.ix e D, q.2 ∈ la) := hI ⟨below_set (HJ.out.1.alloc HJ.out.1.size _) HPM.out ob, hM, HJ.out.2.2.1.put HX.out HLX.out HPA.out he, fun q hq => (aset_mem hq).elim (HJ.out.2.2.2 q) fun e' => by rw [e']; exact List.mem_of_getElem? he⟩
          clear hrw hc1 hc2 hbl hde hst hix hup hM HJ he hlen
          go_wp2_with fail
          go_roundw
          case rel => exact ⟨j + 1, _, by go_num, by omega, HN⟩
          case measure => exact k_meas hjt
         ·have zjl : ¬ (j : Int) < (la.length : Int) := by omega
          have zb : (lb.length : Int) ≤ 9223372036854775807 := by
           obtain ⟨_, _, a', cap', hv, h3, h4, _⟩ := HRB.out
           injection hv with _ _ hvc
           unfold maxLen at h4
           omega
          have e9 : IntKind.i64.wrap ((lb.length : Int) - 1) = (lb.length : Int) - 1 := IntWalk.i64_in _ (by omega)
          have c6 : wr.cell? ⟨pb, 6, none⟩ = some (.slice vb lb.length cb) := (bcell HJ.out.1 pb 6 (cell_lt H6B.out)).trans H6B.out
          have HA0 : Hid (AtOk X D ∧ ∀ q ∈ D, q.2 ∈ la) := hI HJ.out.2.2
          have HJ0 : Hid (Below wc.heap.size wc wr ∧ MapOf Tryz.prog 26 keyU entV wr pm D) := hI ⟨HJ.out.1, HJ.out.2.1⟩
          clear HJ
          go_wp2_with fail
          clear e9 c6
          go_loopw [15, 16] (fun av jv wr => ∃ (al : Bool) (j : Nat), av = .bool al ∧ jv = .int .i64 ((j : Int) - 1) ∧ j ≤ lb.length ∧ Hid (AlOk X Y al ((c.x k).ix + j)) ∧ Hid (Below wc.heap.size wc wr ∧ MapOf Tryz.prog 26 keyU entV wr pm D)) (fun _ jv _ => (intOf jv + 1).toNat)
          case atStart => exact ⟨false, lb.length, rfl, rfl, Nat.le_refl _, hI (fun h => nomatch h), HJ0⟩
          case round =>
           obtain ⟨al, j2, rfl, hjv, hj2, HAL, HW⟩ := hrel
           clear HJ0
           cases j2 with
           | zero =>
            subst hjv
            have HRF := hI (HR1.out.below HW.out.1)
            go_wp2_with fail
            go_roundw
            case rel => exact ⟨k + 1, by go_num, by omega, HRF⟩
            case measure => exact k_meas hki
           | succ j3 =>
            have hjt : j3 < lb.length := by omega
            obtain rfl : _ = Value.int .i64 (j3 : Int) := hjv.trans (by congr 1; omega)
            clear hjv
            obtain ⟨e, he⟩ : ∃ e, lb[j3]? = some e := ⟨lb[j3], List.getElem?_eq_getElem hjt⟩
            have hrw := HRB.out.mv (Mv.below N HW.out.1)
            obtain ⟨bb, o, cap, hv, hc1, hc2, hbl, e0, e1, e2, e3⟩ := hrw.at he
            injection hv with hva hlen hvc
            subst hva hvc
            have hde := hrw.2.1 e (List.mem_of_getElem? he)
            obtain ⟨da, dc, hdv, _⟩ := id hde.1
            rw [hdv] at e3
            have zj0 : (0 : Int) ≤ (j3 : Int) := by omega
            have zj : (j3 : Int) < (lb.length : Int) := by omega
            have ew : IntKind.i64.wrap ((j3 : Int) - 1) = (j3 : Int) - 1 := IntWalk.i64_in _ (by omega)
            have hst := HY.out.state_at HLY.out HPB.out he
            have hix : 0 ≤ e.ix ∧ e.ix ≤ 18446744073709551615 := by have := HY.out.len; omega
            have HST := hI hst
            have HAL2 : Hid (AlOk X Y al e.ix) := hI (by have := HAL.out; rw [show (c.x k).ix + ((j3 + 1 : Nat) : Int) = e.ix by have := hst.1; omega] at this; exact this)
            have c6 : wr.cell? ⟨pb, 6, none⟩ = some (.slice (some ⟨bb, o, none⟩) lb.length cb) := (bcell HW.out.1 pb 6 (cell_lt H6B.out)).trans H6B.out
            have HDE : Hid (Sl u8v wr (.slice da e.d.length dc) e.d) := hI (by have := hde.1; rw [hdv] at this; exact this)
            obtain ⟨y, ya, yc, yb, HLK, HYB⟩ := at_look HW.out.2 hix (HRA.out.mv (Mv.below N HW.out.1)) HA0.out.2
            have HC : Hid (∀ W, Below wr.heap.size wr W → W.cell? ⟨pb, 6, none⟩ = some (.slice (some ⟨bb, o, none⟩) lb.length cb) ∧ W.cell? ⟨bb, o + j3 * 4, none⟩ = some (.int .u64 e.ix) ∧ W.cell? ⟨bb, o + j3 * 4 + 1, none⟩ = some (.int .u64 e.tm) ∧ W.cell? ⟨bb, o + j3 * 4 + 2, none⟩ = some (.bool e.cf) ∧ W.cell? ⟨bb, o + j3 * 4 + 3, none⟩ = some (.slice da e.d.length dc)) := hI fun W hW => ⟨(bcell hW pb 6 (cell_lt c6)).trans c6, (bcell hW bb _ hbl).trans e0, (bcell hW bb _ hbl).trans e1, (bcell hW bb _ hbl).trans e2, (bcell hW bb _ hbl).trans e3⟩
            have HE := hI he
            clear hrw hc1 hc2 hbl hde hdv hst hix he hlen e1 e2 e3 HAL
            have hlk := HLK.out wr bR
            have c7 := (HC.out wr bR).2
            have HBY : Hid (Below wr.heap.size wr (wr.alloc (.cells #[.int .u64 y.ix, .int .u64 y.tm, .bool y.cf, .slice ya y.d.length yc] 47))) := hI (bR.alloc nL _)
            have HFW : Hid (∀ W, Below wr.heap.size wr W → Below wc.heap.size wc W ∧ MapOf Tryz.prog 26 keyU entV W pm D) := hI fun W hW => ⟨HW.out.1.trans (hW.mono HW.out.1.size), HW.out.2.kept (Keeps.of_belowS (S := fun _ => False) hW) id⟩
            cases yb with
            | false =>
             go_wp2_with fail
             go_roundw
             case rel => exact ⟨al, j3, rfl, rfl, by omega, hI (HAL2.out.mono (by have := HST.out.1; omega)), hI (HFW.out _ HBY.out)⟩
             case measure => simp [intOf]
            | true =>
             obtain ⟨hyD, hys⟩ := HYB.out rfl
             have hal := al_step HX.out HY.out HA0.out.1 hyD HST.out.2.1 HST.out.2.2.2.2.1 HAL2.out
             have HALS := hI hal
             have HYS := hI hys
             clear hyD hys hal
             cases al with
             | false =>
              go_wp2_with fail
              obtain ⟨p9, hp9⟩ : ∃ p, p = wr.heap.size := ⟨_, rfl⟩
              obtain ⟨WY, hWY⟩ : ∃ W, W = wr.alloc (.cells #[.int .u64 y.ix, .int .u64 y.tm, .bool y.cf, .slice ya y.d.length yc] 47) := ⟨_, rfl⟩
              have HYY : Hid (WY.heap[p9]? = some (.cells #[.int .u64 y.ix, .int .u64 y.tm, .bool y.cf, .slice ya y.d.length yc] 47 (0, 0))) := hI (by rw [hWY, hp9]; exact bW wr _)
              have HB9 : Hid (Below wr.heap.size wr WY) := hI (by rw [hWY]; exact HBY.out)
              rw [← hWY, ← hp9]
              clear hWY hp9 HBY hlk c7 c6 e0
              have HCY : Hid (∀ W, Below WY.heap.size WY W → (W.cell? ⟨p9, 0, none⟩ = some (.int .u64 y.ix) ∧ W.cell? ⟨p9, 1, none⟩ = some (.int .u64 y.tm) ∧ W.cell? ⟨p9, 2, none⟩ = some (.bool y.cf) ∧ W.cell? ⟨p9, 3, none⟩ = some (.slice ya y.d.length yc)) ∧ W.cell? ⟨pb, 6, none⟩ = some (.slice (some ⟨bb, o, none⟩) lb.length cb) ∧ W.cell? ⟨bb, o + j3 * 4, none⟩ = some (.int .u64 e.ix) ∧ W.cell? ⟨bb, o + j3 * 4 + 1, none⟩ = some (.int .u64 e.tm) ∧ W.cell? ⟨bb, o + j3 * 4 + 2, none⟩ = some (.bool e.cf) ∧ W.cell? ⟨bb, o + j3 * 4 + 3, none⟩ = some (.slice da e.d.length dc)) := hI fun W hW => by
               have hx := bH hW HYY.out (heap_lt HYY.out)
               exact ⟨⟨bC hx 0 rfl, bC hx 1 rfl, bC hx 2 rfl, bC hx 3 rfl⟩, HC.out W (HB9.out.trans (hW.mono HB9.out.size))⟩
              obtain ⟨⟨y0, y1, y2, y3⟩, d6, d0, d1, d2, d3⟩ := HCY.out WY bR
              go_region
              by_cases ht : y.tm = e.tm
              ·have HT := hI ht
               have ht' : (y.tm == e.tm) = true := by simp [ht]
               clear ht
               go_wp2_with fail
               go_region_held3 (fun w' => w'.cell? ⟨p9, 1, none⟩ = some (.int .u64 y.tm) ∧ w'.cell? ⟨pb, 6, none⟩ = some (.slice (some ⟨bb, o, none⟩) lb.length cb) ∧ w'.cell? ⟨bb, o + j3 * 4 + 1, none⟩ = some (.int .u64 e.tm)) (first | exact ⟨y1, d6, d1⟩) (fail)
               go_wp2_with fail
               go_roundw
               case rel => exact ⟨true, j3, rfl, rfl, by omega, hI ((show AlOk X Y true e.ix from by have := HALS.out.2; simpa [HT.out] using this).mono (by have := HST.out.1; omega)), hI (HFW.out _ (bD (bD HB9.out)))⟩
               case measure => simp [intOf]
              ·have HT := hI ht
               have ht' : (y.tm == e.tm) = false := by simp [ht]
               clear ht
               go_wp2_with fail
               go_region_held3 (fun w' => w'.cell? ⟨p9, 1, none⟩ = some (.int .u64 y.tm) ∧ w'.cell? ⟨pb, 6, none⟩ = some (.slice (some ⟨bb, o, none⟩) lb.length cb) ∧ w'.cell? ⟨bb, o + j3 * 4 + 1, none⟩ = some (.int .u64 e.tm)) (first | exact ⟨y1, d6, d1⟩) (fail)
               go_wp2_with fail
               go_roundw
               case rel => exact ⟨false, j3, rfl, rfl, by omega, hI (fun h => nomatch h), hI (HFW.out _ (bD (bD HB9.out)))⟩
               case measure => simp [intOf]
             | true =>
              have HSM : Hid (∀ W, Below wr.heap.size wr W → Calls Tryz.prog 11 #[.agg #[.int .u64 y.ix, .int .u64 y.tm, .bool y.cf, .slice ya y.d.length yc], .agg #[.int .u64 e.ix, .int .u64 e.tm, .bool e.cf, .slice da e.d.length dc]] W (RetB (.bool true) W)) := hI fun W hW => by
               obtain ⟨s1, s2, s3, s4⟩ := HALS.out.1 rfl
               have hy := HYS.out
               rw [s4] at hy
               rw [s1, s2, s3, s4]
               exact same_yes W e.ix e.tm e.cf e.d ya yc (hy.below hW hy.row_lt) da dc (HDE.out.below hW HDE.out.row_lt)
              go_wp2_with fail
              obtain ⟨p9, hp9⟩ : ∃ p, p = wr.heap.size := ⟨_, rfl⟩
              obtain ⟨WY, hWY⟩ : ∃ W, W = wr.alloc (.cells #[.int .u64 y.ix, .int .u64 y.tm, .bool y.cf, .slice ya y.d.length yc] 47) := ⟨_, rfl⟩
              have HYY : Hid (WY.heap[p9]? = some (.cells #[.int .u64 y.ix, .int .u64 y.tm, .bool y.cf, .slice ya y.d.length yc] 47 (0, 0))) := hI (by rw [hWY, hp9]; exact bW wr _)
              have HB9 : Hid (Below wr.heap.size wr WY) := hI (by rw [hWY]; exact HBY.out)
              rw [← hWY, ← hp9]
              clear hWY hp9 HBY hlk c7 c6 e0
              have HCY : Hid (∀ W, Below WY.heap.size WY W → (W.cell? ⟨p9, 0, none⟩ = some (.int .u64 y.ix) ∧ W.cell? ⟨p9, 1, none⟩ = some (.int .u64 y.tm) ∧ W.cell? ⟨p9, 2, none⟩ = some (.bool y.cf) ∧ W.cell? ⟨p9, 3, none⟩ = some (.slice ya y.d.length yc)) ∧ W.cell? ⟨pb, 6, none⟩ = some (.slice (some ⟨bb, o, none⟩) lb.length cb) ∧ W.cell? ⟨bb, o + j3 * 4, none⟩ = some (.int .u64 e.ix) ∧ W.cell? ⟨bb, o + j3 * 4 + 1, none⟩ = some (.int .u64 e.tm) ∧ W.cell? ⟨bb, o + j3 * 4 + 2, none⟩ = some (.bool e.cf) ∧ W.cell? ⟨bb, o + j3 * 4 + 3, none⟩ = some (.slice da e.d.length dc)) := hI fun W hW => by
               have hx := bH hW HYY.out (heap_lt HYY.out)
               exact ⟨⟨bC hx 0 rfl, bC hx 1 rfl, bC hx 2 rfl, bC hx 3 rfl⟩, HC.out W (HB9.out.trans (hW.mono HB9.out.size))⟩
              obtain ⟨⟨y0, y1, y2, y3⟩, d6, d0, d1, d2, d3⟩ := HCY.out WY bR
              go_region_held3 (fun w' => (w'.cell? ⟨p9, 0, none⟩ = some (.int .u64 y.ix) ∧ w'.cell? ⟨p9, 1, none⟩ = some (.int .u64 y.tm) ∧ w'.cell? ⟨p9, 2, none⟩ = some (.bool y.cf) ∧ w'.cell? ⟨p9, 3, none⟩ = some (.slice ya y.d.length yc)) ∧ w'.cell? ⟨pb, 6, none⟩ = some (.slice (some ⟨bb, o, none⟩) lb.length cb) ∧ w'.cell? ⟨bb, o + j3 * 4, none⟩ = some (.int .u64 e.ix) ∧ w'.cell? ⟨bb, o + j3 * 4 + 1, none⟩ = some (.int .u64 e.tm) ∧ w'.cell? ⟨bb, o + j3 * 4 + 2, none⟩ = some (.bool e.cf) ∧ w'.cell? ⟨bb, o + j3 * 4 + 3, none⟩ = some (.slice da e.d.length dc)) (first | exact ⟨⟨y0, y1, y2, y3⟩, d6, d0, d1, d2, d3⟩ | exact HCY.out _ HBZ.out) (first
                | (go_at_call 11; refine (HSM.out _ (bD HB9.out)).mono ?_; rintro en WZ ⟨rfl, hbz⟩; have HBZ : Hid (Below WY.heap.size WY WZ) := hI ((bD bR).trans hbz); clear hbz))
              go_wp2_with fail
              go_region
              go_wp2_with fail
              go_roundw
              case rel => exact ⟨true, j3, rfl, rfl, by omega, hI ((show AlOk X Y true e.ix from by have := HALS.out.2; simpa [Bool.true_or] using this).mono (by have := HST.out.1; omega)), hI (HFW.out _ (HB9.out.trans ((bD HBZ.out).mono HB9.out.size)))⟩
              case measure => simp [intOf]
      ·go_wp2_with fail
       go_roundw
       case rel => exact ⟨i + 1, by go_num, by omega, HRK⟩
       case measure => exact k_meas his
    ·have HB := hI HRI.out.bel
     clear HRI
     go_wp2_with fail
     go_ret
     exact RetB.mk rfl HB.out
theorem matches_walk (hbg : BeginOk) (hdo : DoOk) (size : Int) (a : Option Addr) (len cap : Nat) (xs : Nat → StpV) (w : World) (h0 : (Lit.int .u8 size).wf = true) (hr : StpRow w a len cap xs) :
  Calls Tryz.prog 3 #[.int .u8 size, .slice a len cap] w (RetB (.bool true) w) := by
 simp [Lit.wf, IntKind.min, IntKind.max, IntKind.signed, IntKind.bits] at h0
 by_cases hl : len ≤ 300
 ·exact matches_main hbg hdo w size (by omega) (by omega) a len cap xs hr hl
 ·exact matches_long w size a len cap hl
end Go.Proofs.YtdjooojpcepleaaGreat

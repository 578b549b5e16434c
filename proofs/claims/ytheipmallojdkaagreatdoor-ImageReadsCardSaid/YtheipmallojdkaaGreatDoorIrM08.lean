/- Package wheel: a wheel's blocks; New (what it writes). Package wheel: find, at, put, Add (what they write). -/
import Derived.Test.YtheipmallojdkaaGreatDoorIrM03
import Derived.Laws.BitsLemmas
import Derived.Deep.QuietTactic

namespace Go.Proofs.YtheipmallojdkaaGreatDoor
open Go.RowKit Go.Maps Go.ChangeMaps

/-- A place, as a map holds it. -/
def plcV (p : Int × Int) : Value := .agg #[.int .i64 p.1, .int .i64 p.2]

/-- Block u is a wheel, all of whose blocks lie in S. -/
structure WheelAt (w : World) (u : Nat) (S : Nat → Prop) (C : Array Value) (now most : Int) (mw : Nat) (lw : List (ByteArray × (Int × Int))) : Prop where
  box : w.heap[u]? = some (.cells C 110 (0, 0))
  size : C.size = 261
  now : C[0]? = some (.int .i64 now)
  most : C[1]? = some (.int .i64 most)
  slots : ∀ i, 2 ≤ i → i < 260 → ∃ m l, C[i]? = some (.map (some m)) ∧ SMap intV w m l ∧ S m ∧ m ≠ mw
  wh : C[260]? = some (.map (some mw))
  mapw : SMap plcV w mw lw
  places : ∀ p ∈ lw, ((p.2.1 = -1 ∨ p.2.1 = 4 ∨ (0 ≤ p.2.1 ∧ p.2.1 < 4)) ∧ 0 ≤ p.2.2 ∧ p.2.2 < 64)
  su : S u
  sw : S mw
  lt : ∀ k, S k → k < w.heap.size

def Wheel (w : World) (u : Nat) (S : Nat → Prop) : Prop := ∃ C now most mw lw, WheelAt w u S C now most mw lw

theorem Wheel.lt {w : World} {u : Nat} {S : Nat → Prop} (h : Wheel w u S) : ∀ k, S k → k < w.heap.size := by
  obtain ⟨_, _, _, _, _, h⟩ := h
  exact h.lt
theorem Wheel.kept {S T : Nat → Prop} {w w' : World} {u : Nat} (h : Wheel w u S) (hk : Keeps T w w') (hn : ∀ k, S k → ¬ T k) : Wheel w' u S := by
  obtain ⟨C, now, most, mw, lw, h⟩ := h
  exact ⟨C, now, most, mw, lw, hk.heap (hn u h.su) h.box, h.size, h.now, h.most, fun i h1 h2 => by
    obtain ⟨m, l, a, b, c, d⟩ := h.slots i h1 h2
    exact ⟨m, l, a, b.kept hk (hn m c), c, d⟩, h.wh, h.mapw.kept hk (hn mw h.sw), h.places, h.su, h.sw, fun k hs => Nat.lt_of_lt_of_le (h.lt k hs) hk.size⟩

section
variable {P : Program} {ops : Array Oper} {rest : List Oper} {o : Oper} {a : Act} {Q : Exit → Act → World → Prop} {w : World}
/-- A struct that is built, its value given outright. -/
theorem wpList_build_as (hg : o.guard = none) (t : TypeId) (parts : Array (Nat × Operand)) (hop : o.op = .build t parts) (vals : List (Nat × Value)) (hv : parts.toList.map (fun p => (p.1, a.eval p.2)) = vals) (C : Array Value) (hb : P.built t vals = some C)
    (h : wpList P ops Q rest (a.put o.dst (.agg C)) w) : wpList P ops Q (o :: rest) a w := by
  refine wpList_plain hg fun K hK => ?_
  have hr := run_build (P := P) w t (parts.map fun p => (p.1, a.eval p.2)) C (by rw [Array.toList_map, hv]; exact hb)
  unfold Oper.wp execOp
  simp only [hop, Sem.run_bind, Sem.run_pure, Result.andThen_ok, hr]
  exact hK _ _ h
/-- .. and laid in a block of its own. -/
theorem wpList_box_agg (hg : o.guard = none) (t : TypeId) (x : Operand) (hop : o.op = .box t x) (C : Array Value) (hx : a.eval x = .agg C)
    (h : wpList P ops Q rest (a.put o.dst (.pointer (some ⟨w.heap.size, 0, none⟩))) (w.alloc (.cells C t))) : wpList P ops Q (o :: rest) a w := by
  refine wpList_plain hg fun K hK => ?_
  have hr : (Instr.box t (.agg C)).run P w = .ok (.pointer (some ⟨w.heap.size, 0, none⟩)) (w.alloc (.cells C t)) := by
    simp [Instr.box, go_sem]
  unfold Oper.wp execOp
  simp only [hop, hx, Sem.run_bind, Sem.run_pure, Result.andThen_ok, hr]
  exact hK _ _ h
end

/-- A new wheel's cells, without its slots. -/
def whC (now most : Int) (a b c : Nat) : Array Value := (#[.int .i64 now, .int .i64 most] ++ Array.replicate 256 (.map none)) ++ #[.map (some a), .map (some b), .map (some c)]
theorem built_wh (now most : Int) (a b c : Nat) : Tryz.prog.built 110 [(0, .int .i64 now), (1, .int .i64 most), (3, .map (some a)), (4, .map (some b)), (5, .map (some c))] = some (whC now most a b c) := by kernel_rfl
theorem whC_size (now most : Int) (a b c : Nat) : (whC now most a b c).size = 261 := by simp [whC]
theorem whC_0 (now most : Int) (a b c : Nat) : (whC now most a b c)[0]? = some (.int .i64 now) := by kernel_rfl
theorem whC_1 (now most : Int) (a b c : Nat) : (whC now most a b c)[1]? = some (.int .i64 most) := by kernel_rfl
theorem whC_8 (now most : Int) (a b c : Nat) : (whC now most a b c)[258]? = some (.map (some a)) := by kernel_rfl
theorem whC_9 (now most : Int) (a b c : Nat) : (whC now most a b c)[259]? = some (.map (some b)) := by kernel_rfl
theorem whC_10 (now most : Int) (a b c : Nat) : (whC now most a b c)[260]? = some (.map (some c)) := by kernel_rfl

/-- A wheel whose first j slots are made. -/
structure WMid (w0 : World) (now most : Int) (j : Nat) (w : World) : Prop where
  box : ∃ C, w.heap[w0.heap.size + 3]? = some (.cells C 110 (0, 0)) ∧ C.size = 261 ∧ C[0]? = some (.int .i64 now) ∧ C[1]? = some (.int .i64 most) ∧ C[258]? = some (.map (some w0.heap.size)) ∧ C[259]? = some (.map (some (w0.heap.size + 1))) ∧ C[260]? = some (.map (some (w0.heap.size + 2))) ∧
    ∀ i, 2 ≤ i → i < 2 + j → ∃ m, C[i]? = some (.map (some m)) ∧ SMap intV w m [] ∧ w0.heap.size ≤ m ∧ m ≠ w0.heap.size + 2
  far : SMap intV w w0.heap.size []
  due : SMap intV w (w0.heap.size + 1) []
  whe : SMap plcV w (w0.heap.size + 2) []
  below : Below w0.heap.size w0 w

theorem WMid.size {w0 w : World} {now most : Int} {j : Nat} (h : WMid w0 now most j w) : w0.heap.size + 4 ≤ w.heap.size := by
  obtain ⟨C, h1, _⟩ := h.box
  have := heap_lt h1
  omega

theorem WMid.start (w0 : World) (now most : Int) : WMid w0 now most 0 ((((w0.alloc (.map #[] 0)).alloc (.map #[] 0)).alloc (.map #[] 0)).alloc (.cells (whC now most w0.heap.size (w0.heap.size + 1) (w0.heap.size + 2)) 110)) := by
  have m2 : SMap intV ((w0.alloc (.map #[] 0)).alloc (.map #[] 0)) (w0.heap.size + 1) [] := by
    have := MapOf.made Tryz.prog 9 keyS intV (w0.alloc (.map #[] 0))
    rwa [World.size_alloc] at this
  have m3 : SMap plcV (((w0.alloc (.map #[] 0)).alloc (.map #[] 0)).alloc (.map #[] 0)) (w0.heap.size + 2) [] := by
    have := MapOf.made Tryz.prog 9 keyS plcV ((w0.alloc (.map #[] 0)).alloc (.map #[] 0))
    rwa [World.size_alloc, World.size_alloc] at this
  refine ⟨⟨_, ?_, whC_size .., whC_0 .., whC_1 .., whC_8 .., whC_9 .., whC_10 .., fun i h1 h2 => by omega⟩, (((MapOf.made _ _ _ _ w0).alloc _).alloc _).alloc _, (m2.alloc _).alloc _, m3.alloc _, ((((Below.refl _ w0).alloc (Nat.le_refl _) _).alloc (by simp) _).alloc (by simp; omega) _).alloc (by simp; omega) _⟩
  have := heap_new (((w0.alloc (.map #[] 0)).alloc (.map #[] 0)).alloc (.map #[] 0)) (.cells (whC now most w0.heap.size (w0.heap.size + 1) (w0.heap.size + 2)) 110)
  rwa [World.size_alloc, World.size_alloc, World.size_alloc] at this

/-- One slot more. -/
theorem WMid.next {w0 w : World} {now most : Int} {j : Nat} (h : WMid w0 now most j w) (hj : j < 256) : WMid w0 now most (j + 1) ((w.setCell ⟨w0.heap.size + 3, 2 + j, none⟩ (.map (some w.heap.size))).alloc (.map #[] 0)) := by
  have hs := h.size
  obtain ⟨C, h1, h2, h3, h4, h5, h6, h7, h8⟩ := h.box
  have hk : Keeps (fun k => k = w0.heap.size + 3) w ((w.setCell ⟨w0.heap.size + 3, 2 + j, none⟩ (.map (some w.heap.size))).alloc (.map #[] 0)) := ((Keeps.refl (fun k => k = w0.heap.size + 3) w).setCell (p := ⟨w0.heap.size + 3, 2 + j, none⟩) (.inl rfl) _).alloc _
  have hx := aheap (blk_set h1 (2 + j) (.map (some w.heap.size))) (.map #[] 0)
  have mn : SMap intV ((w.setCell ⟨w0.heap.size + 3, 2 + j, none⟩ (.map (some w.heap.size))).alloc (.map #[] 0)) w.heap.size [] := by
    have := MapOf.made Tryz.prog 9 keyS intV (w.setCell ⟨w0.heap.size + 3, 2 + j, none⟩ (.map (some w.heap.size)))
    rwa [show (w.setCell ⟨w0.heap.size + 3, 2 + j, none⟩ (.map (some w.heap.size))).heap.size = w.heap.size by simp] at this
  refine ⟨⟨_, hx, by simpa using h2, ?_, ?_, ?_, ?_, ?_, fun i a b => ?_⟩, h.far.kept hk (by omega), h.due.kept hk (by omega), h.whe.kept hk (by omega), ((Keeps.of_below h.below).trans (hk.mono fun k _ e => by show w0.heap.size ≤ k; omega)).below (Nat.le_refl _) fun k h => h⟩
  · rw [Array.getElem?_setIfInBounds, if_neg (by omega)]; exact h3
  · rw [Array.getElem?_setIfInBounds, if_neg (by omega)]; exact h4
  · rw [Array.getElem?_setIfInBounds, if_neg (by omega)]; exact h5
  · rw [Array.getElem?_setIfInBounds, if_neg (by omega)]; exact h6
  · rw [Array.getElem?_setIfInBounds, if_neg (by omega)]; exact h7
  · by_cases e : 2 + j = i
    · subst e
      refine ⟨w.heap.size, ?_, mn, by omega, by omega⟩
      rw [Array.getElem?_setIfInBounds, if_pos rfl, if_pos (by omega)]
    · obtain ⟨m, g1, g2, g3, g4⟩ := h8 i a (by omega)
      refine ⟨m, ?_, g2.kept hk ?_, g3, g4⟩
      · rw [Array.getElem?_setIfInBounds, if_neg e]; exact g1
      · rintro rfl
        obtain ⟨es, cl, q1, _⟩ := g2
        rw [h1] at q1
        cases q1

theorem WMid.wheel {w0 w : World} {now most : Int} (h : WMid w0 now most 256 w) : Wheel w (w0.heap.size + 3) (fun k => w0.heap.size ≤ k ∧ k < w.heap.size) := by
  have hs := h.size
  obtain ⟨C, h1, h2, h3, h4, h5, h6, h7, h8⟩ := h.box
  refine ⟨C, now, most, w0.heap.size + 2, [], h1, h2, h3, h4, fun i a b => ?_, h7, h.whe, by simp, ⟨by omega, by omega⟩, ⟨by omega, by omega⟩, fun k hk => hk.2⟩
  rcases Nat.lt_or_ge i 258 with c | c
  · obtain ⟨m, g1, g2, g3, g4⟩ := h8 i a (by omega)
    exact ⟨m, [], g1, g2, ⟨g3, g2.lt⟩, g4⟩
  · rcases Nat.lt_or_ge i 259 with d | d
    · obtain rfl : i = 258 := by omega
      exact ⟨_, [], h5, h.far, ⟨Nat.le_refl _, by omega⟩, by omega⟩
    · obtain rfl : i = 259 := by omega
      exact ⟨_, [], h6, h.due, ⟨by omega, by omega⟩, by omega⟩

/-- What New leaves. -/
def WNewP (w : World) (e : Ending) (w' : World) : Prop :=
  Below w.heap.size w w' ∧ (e = .returned (.tuple #[.pointer none, .int .i64 1]) ∨ ∃ u, e = .returned (.tuple #[.pointer (some ⟨u, 0, none⟩), .int .i64 0]) ∧ Wheel w' u (fun k => w.heap.size ≤ k ∧ k < w'.heap.size))

def tickB (now : Int) : Bool := decide (0 ≤ now) && decide (now ≤ 1099511627776)

set_option maxRecDepth 100000 in
set_option maxHeartbeats 1600000 in
theorem wnew_any (w : World) (now : Int) : Calls Tryz.prog 27 #[.int .i64 now, .int .i64 128] w (WNewP w) := by
  have hmm := @run_makeMap Tryz.prog
  by_cases h1 : now < 0
  · go_enter Tryz.func27, Tryz.ntmps27
    go_wp2
    go_ret2
    exact ⟨Below.refl _ _, .inl rfl⟩
  by_cases h2 : 1099511627776 < now
  · go_enter Tryz.func27, Tryz.ntmps27
    go_wp2
    go_ret2
    exact ⟨Below.refl _ _, .inl rfl⟩
  go_enter Tryz.func27, Tryz.ntmps27
  go_wp2_with (first | (refine wpList_build_as rfl _ _ rfl [(0, .int .i64 now), (1, .int .i64 128), (3, .map (some w.heap.size)), (4, .map (some (w.heap.size + 1))), (5, .map (some (w.heap.size + 2)))] rfl (whC now 128 w.heap.size (w.heap.size + 1) (w.heap.size + 2)) (built_wh ..) ?_) | (refine wpList_box_agg rfl _ _ rfl (whC now 128 w.heap.size (w.heap.size + 1) (w.heap.size + 2)) rfl ?_) | fail)
  obtain ⟨W0, hW⟩ : ∃ W0, W0 = ((((w.alloc (.map #[] 0)).alloc (.map #[] 0)).alloc (.map #[] 0)).alloc (.cells (whC now 128 w.heap.size (w.heap.size + 1) (w.heap.size + 2)) 110)) := ⟨_, rfl⟩
  rw [← hW]
  have HM0 : Hid (WMid w now 128 0 W0) := Lib.hid (by rw [hW]; exact WMid.start w now 128)
  clear hW
  go_loopw [30] (fun iv wr => ∃ i : Nat, iv = .int .i64 i ∧ i ≤ 4 ∧ Hid (WMid w now 128 (i * 64) wr)) (fun iv _ => 4 - (intOf iv).toNat)
  case atStart => exact ⟨0, rfl, by omega, HM0⟩
  case round =>
    obtain ⟨i, rfl, hi, HM⟩ := hrel
    clear HM0
    by_cases hlt : i < 4
    · go_wp2
      go_loopw [33] (fun kv wk => ∃ k : Nat, kv = .int .i64 k ∧ k ≤ 64 ∧ Hid (WMid w now 128 (i * 64 + k) wk)) (fun kv _ => 64 - (intOf kv).toNat)
      case atStart => exact ⟨0, rfl, by omega, HM⟩
      case round =>
        obtain ⟨k, rfl, hk, HN⟩ := hrel
        clear HM
        by_cases hkt : k < 64
        · have HX := Lib.hid (HN.out.next (by omega))
          have hb := HN.out.box
          obtain ⟨C, hc, hcs, _⟩ := hb
          have ht : ∃ v, C[2 + (i * 64 + k)]? = some v := ⟨C[2 + (i * 64 + k)]'(by omega), by simp⟩
          obtain ⟨v, hv⟩ := ht
          have c1 : wr.cell? ⟨w.heap.size + 3, 2 + (i * 64 + k), none⟩ = some v := blk_cell hc _ hv
          have f1 := blk_free hc (2 + (i * 64 + k))
          have l1 := heap_lt hc
          clear hc hcs hv
          rw [show 2 + (i * 64 + k) = 2 + i * 64 + k by omega] at c1 f1 HX
          go_wp2
          go_roundw
          case rel => exact ⟨k + 1, by go_num, by omega, Lib.hid (by have := HX.out; rwa [show i * 64 + k + 1 = i * 64 + (k + 1) by omega] at this)⟩
          case measure => simp [intOf]; omega
        · obtain rfl : k = 64 := by omega
          go_wp2
          go_roundw
          case rel => exact ⟨i + 1, by go_num, by omega, Lib.hid (by have := HN.out; rwa [show i * 64 + 64 = (i + 1) * 64 by omega] at this)⟩
          case measure => simp [intOf]; omega
    · obtain rfl : i = 4 := by omega
      go_wp2
      go_ret2
      exact ⟨HM.out.below, .inr ⟨_, rfl, HM.out.wheel⟩⟩

end Go.Proofs.YtheipmallojdkaaGreatDoor

namespace Go.Proofs.YtheipmallojdkaaGreatDoor
open Go.RowKit Go.Maps Go.ChangeMaps

theorem i64_and63 (n : Int) : bits .and .i64 n 63 = n % 64 := by
  have h63 : (BitVec.ofInt 64 63).toNat = 2 ^ 6 - 1 := by decide
  have key : (BitVec.ofInt 64 n &&& BitVec.ofInt 64 63).toNat = (n % ((2 ^ 64 : Nat) : Int)).toNat % 2 ^ 6 := by
    rw [BitVec.toNat_and, BitVec.toNat_ofInt, h63, Nat.and_two_pow_sub_one_eq_mod]
  show IntKind.i64.wrap ((BitVec.ofInt 64 n &&& BitVec.ofInt 64 63).toNat : Nat) = n % 64
  rw [key, IntKind.wrap_i64]
  omega

theorem info_plc : (Tryz.prog.info? 151).map (·.size) = some 2 := by kernel_rfl

/-- A place that may be. -/
def plcOk (p : Int × Int) : Prop := (p.1 = -1 ∨ p.1 = 4 ∨ (0 ≤ p.1 ∧ p.1 < 4)) ∧ 0 ≤ p.2 ∧ p.2 < 64

theorem below_drewN' {B : Nat} {a w : World} (h : Below B a w) (n : Nat) : Below B a (w.drewN n) := ⟨h.os, h.tape, h.output, h.size, h.block⟩
theorem cell_keptB {S : Nat → Prop} {w w' : World} (h : Keeps S w w') {a : Addr} (hl : a.block < w.heap.size) (hn : ¬ S a.block) : w'.cell? a = w.cell? a := by
  simp only [World.cell?, h.block _ hl hn]

def FindP (w : World) (e : Ending) (w' : World) : Prop := ∃ p, e = .returned (plcV p) ∧ plcOk p ∧ Below w.heap.size w w'

theorem FindP.mk {w w' : World} {b : Nat} {T : TypeId} {x y : Int} (W : World) (hb : Below w.heap.size w W) (hW : W.heap[w.heap.size]? = some (.cells #[.int .i64 0, .int .i64 0] T (0, 0))) (hx : plcOk (x, y)) (hk : Keeps (fun k => k = w.heap.size) W w') : FindP w (.returned (.agg #[.int .i64 x, .int .i64 y])) w' :=
  ⟨(x, y), rfl, hx, ((Keeps.of_below hb).trans (hk.mono fun k _ e => by show w.heap.size ≤ k; omega)).below (Nat.le_refl _) fun k h => h⟩

set_option maxRecDepth 100000 in
set_option maxHeartbeats 1600000 in
theorem find_any (w : World) (u : Nat) (S : Nat → Prop) (h : Wheel w u S) (t : Int) (h0 : 0 ≤ t) (h1 : t ≤ 1099511627776) : Calls Tryz.prog 104 #[.pointer (some ⟨u, 0, none⟩), .int .i64 t] w (FindP w) := by
  obtain ⟨C, now, most, mw, lw, h⟩ := h
  have hbx := h.box
  have hnw := h.now
  clear h
  have HZ : Hid ((w.alloc (.cells #[.int .i64 0, .int .i64 0] 151)).heap[w.heap.size]? = some (.cells #[.int .i64 0, .int .i64 0] 151 (0, 0))) := Lib.hid (heap_new _ _)
  have HB : Hid (Below w.heap.size w (w.alloc (.cells #[.int .i64 0, .int .i64 0] 151))) := Lib.hid ((Below.refl _ w).alloc (Nat.le_refl _) _)
  have hb1 := aheap hbx (.cells #[.int .i64 0, .int .i64 0] 151)
  obtain ⟨W0, hW⟩ : ∃ W0, W0 = w.alloc (.cells #[.int .i64 0, .int .i64 0] 151) := ⟨_, rfl⟩
  have HW := Lib.hid hW
  rw [← hW] at HZ HB hb1
  have c0 : W0.cell? ⟨u, 0, none⟩ = some (.int .i64 now) := blk_cell hb1 0 hnw
  have l0 := heap_lt hb1
  clear hbx hnw hb1 hW
  by_cases hd : t ≤ now
  · go_enter Tryz.func104, Tryz.ntmps104
    go_wp2_with (first | (refine wpList_store_all _ rfl _ _ _ rfl _ rfl _ rfl _ _ HZ.out ?_ ?_ info_plc ?_ ?_; (focus (simp; done)); (focus (simp; done)); (focus (simp [OneCells, Value.oneCell']; done)); rintro W9 hz9 hk9 hs9) | (rw [← HW.out]) | fail)
    refine bodyPost_ret (results_blk rfl _ _ _ _ _ _ rfl hz9 _ Tryz.underlying151 rfl info_plc) rfl ?_
    exact FindP.mk (b := u) _ HB.out HZ.out ⟨.inl rfl, by omega, by omega⟩ hk9
  have hd' : now < t := by omega
  go_enter Tryz.func104, Tryz.ntmps104
  go_wp2_with (first | (rw [← HW.out]) | fail)
  go_loopw [13] (fun iv wr => ∃ i : Nat, iv = .int .i64 i ∧ i ≤ 4 ∧ Hid (Keeps (fun _ => False) W0 wr)) (fun iv _ => 4 - (intOf iv).toNat)
  case atStart => exact ⟨0, rfl, by omega, Lib.hid (by rw [HW.out]; exact Keeps.refl _ _)⟩
  case round =>
    obtain ⟨i, rfl, hi, HK⟩ := hrel
    have cw : wr.cell? ⟨u, 0, none⟩ = some (.int .i64 now) := by rw [cell_keptB HK.out (by show u < _; omega) (fun h => h)]; exact c0
    have lw : u < wr.heap.size := Nat.lt_of_lt_of_le l0 HK.out.size
    have HZ1 := Lib.hid (HK.out.heap (fun h => h) HZ.out)
    have HB1 : Hid (Below w.heap.size w wr) := Lib.hid (((Keeps.of_below HB.out).trans (HK.out.mono fun k _ e => e.elim)).below (Nat.le_refl _) fun k h => h)
    clear c0 l0 HZ HB
    by_cases hlt : i < 4
    · have hcase : i = 0 ∨ i = 1 ∨ i = 2 ∨ i = 3 := by omega
      rcases hcase with rfl | rfl | rfl | rfl
      · have w1 : IntKind.i64.wrap 1 = 1 := rfl
        have w2 : IntKind.i64.wrap 6 = 6 := rfl
        by_cases he : t / 64 = now / 64
        · have d : (t / 64 == now / 64) = true := by simpa using he
          have ha := i64_and63 t
          clear he
          go_wp2
          go_quiet (fail)
          go_wp2_with (first | (refine wpList_store_all _ rfl _ _ _ rfl _ rfl _ rfl _ _ HZ1.out ?_ ?_ info_plc ?_ ?_; (focus (simp; done)); (focus (simp; done)); (focus (simp [OneCells, Value.oneCell']; done)); rintro W9 hz9 hk9 hs9) | fail)
          refine bodyPost_ret (results_blk rfl _ _ _ _ _ _ rfl hz9 _ Tryz.underlying151 rfl info_plc) rfl ?_
          exact FindP.mk (b := u) _ (below_drewN' HB1.out nq) HZ1.out ⟨.inr (.inr ⟨by omega, by omega⟩), by omega, by omega⟩ hk9
        · have d : (t / 64 == now / 64) = false := by simpa using he
          clear he
          go_wp2
          go_quiet (fail)
          go_wp2
          go_roundw
          case rel => exact ⟨1, by go_num, by omega, Lib.hid (keeps_drewN HK.out nq)⟩
          case measure => simp [intOf]
      · have w1 : IntKind.i64.wrap 2 = 2 := rfl
        have w2 : IntKind.i64.wrap 12 = 12 := rfl
        by_cases he : t / 4096 = now / 4096
        · have d : (t / 4096 == now / 4096) = true := by simpa using he
          have ha := i64_and63 (t / 64)
          clear he
          go_wp2
          go_quiet (fail)
          go_wp2_with (first | (refine wpList_store_all _ rfl _ _ _ rfl _ rfl _ rfl _ _ HZ1.out ?_ ?_ info_plc ?_ ?_; (focus (simp; done)); (focus (simp; done)); (focus (simp [OneCells, Value.oneCell']; done)); rintro W9 hz9 hk9 hs9) | fail)
          refine bodyPost_ret (results_blk rfl _ _ _ _ _ _ rfl hz9 _ Tryz.underlying151 rfl info_plc) rfl ?_
          exact FindP.mk (b := u) _ (below_drewN' HB1.out nq) HZ1.out ⟨.inr (.inr ⟨by omega, by omega⟩), by omega, by omega⟩ hk9
        · have d : (t / 4096 == now / 4096) = false := by simpa using he
          clear he
          go_wp2
          go_quiet (fail)
          go_wp2
          go_roundw
          case rel => exact ⟨2, by go_num, by omega, Lib.hid (keeps_drewN HK.out nq)⟩
          case measure => simp [intOf]
      · have w1 : IntKind.i64.wrap 3 = 3 := rfl
        have w2 : IntKind.i64.wrap 18 = 18 := rfl
        by_cases he : t / 262144 = now / 262144
        · have d : (t / 262144 == now / 262144) = true := by simpa using he
          have ha := i64_and63 (t / 4096)
          clear he
          go_wp2
          go_quiet (fail)
          go_wp2_with (first | (refine wpList_store_all _ rfl _ _ _ rfl _ rfl _ rfl _ _ HZ1.out ?_ ?_ info_plc ?_ ?_; (focus (simp; done)); (focus (simp; done)); (focus (simp [OneCells, Value.oneCell']; done)); rintro W9 hz9 hk9 hs9) | fail)
          refine bodyPost_ret (results_blk rfl _ _ _ _ _ _ rfl hz9 _ Tryz.underlying151 rfl info_plc) rfl ?_
          exact FindP.mk (b := u) _ (below_drewN' HB1.out nq) HZ1.out ⟨.inr (.inr ⟨by omega, by omega⟩), by omega, by omega⟩ hk9
        · have d : (t / 262144 == now / 262144) = false := by simpa using he
          clear he
          go_wp2
          go_quiet (fail)
          go_wp2
          go_roundw
          case rel => exact ⟨3, by go_num, by omega, Lib.hid (keeps_drewN HK.out nq)⟩
          case measure => simp [intOf]
      · have w1 : IntKind.i64.wrap 4 = 4 := rfl
        have w2 : IntKind.i64.wrap 24 = 24 := rfl
        by_cases he : t / 16777216 = now / 16777216
        · have d : (t / 16777216 == now / 16777216) = true := by simpa using he
          have ha := i64_and63 (t / 262144)
          clear he
          go_wp2
          go_quiet (fail)
          go_wp2_with (first | (refine wpList_store_all _ rfl _ _ _ rfl _ rfl _ rfl _ _ HZ1.out ?_ ?_ info_plc ?_ ?_; (focus (simp; done)); (focus (simp; done)); (focus (simp [OneCells, Value.oneCell']; done)); rintro W9 hz9 hk9 hs9) | fail)
          refine bodyPost_ret (results_blk rfl _ _ _ _ _ _ rfl hz9 _ Tryz.underlying151 rfl info_plc) rfl ?_
          exact FindP.mk (b := u) _ (below_drewN' HB1.out nq) HZ1.out ⟨.inr (.inr ⟨by omega, by omega⟩), by omega, by omega⟩ hk9
        · have d : (t / 16777216 == now / 16777216) = false := by simpa using he
          clear he
          go_wp2
          go_quiet (fail)
          go_wp2
          go_roundw
          case rel => exact ⟨4, by go_num, by omega, Lib.hid (keeps_drewN HK.out nq)⟩
          case measure => simp [intOf]
    · obtain rfl : i = 4 := by omega
      go_wp2_with (first | (refine wpList_store_all _ rfl _ _ _ rfl _ rfl _ rfl _ _ HZ1.out ?_ ?_ info_plc ?_ ?_; (focus (simp; done)); (focus (simp; done)); (focus (simp [OneCells, Value.oneCell']; done)); rintro W9 hz9 hk9 hs9) | fail)
      refine bodyPost_ret (results_blk rfl _ _ _ _ _ _ rfl hz9 _ Tryz.underlying151 rfl info_plc) rfl ?_
      exact FindP.mk (b := u) _ HB1.out HZ1.out ⟨.inr (.inl rfl), by omega, by omega⟩ hk9

def AtP (w : World) (S : Nat → Prop) (mw : Nat) (e : Ending) (w' : World) : Prop := ∃ m l, e = .returned (.map (some m)) ∧ SMap intV w m l ∧ S m ∧ m ≠ mw ∧ Below w.heap.size w w'

set_option maxRecDepth 100000 in
set_option maxHeartbeats 1600000 in
theorem wat_any (w : World) (u : Nat) (S : Nat → Prop) {C : Array Value} {now most : Int} {mw : Nat} {lw : List (ByteArray × (Int × Int))} (h : WheelAt w u S C now most mw lw) (p : Int × Int) (hp : plcOk p) :
    Calls Tryz.prog 105 #[.pointer (some ⟨u, 0, none⟩), plcV p] w (AtP w S mw) := by
  obtain ⟨lv, sl⟩ := p
  have hbx := h.box
  have hsl := h.slots
  clear h
  unfold plcV
  simp only
  obtain ⟨hlv, hs0, hs1⟩ := hp
  simp only at hlv hs0 hs1
  obtain ⟨k, rfl⟩ : ∃ k : Nat, sl = (k : Int) := ⟨sl.toNat, by omega⟩
  have hb1 := aheap hbx (.cells #[.int .i64 lv, .int .i64 k] 151)
  have hbp := heap_new w (.cells #[.int .i64 lv, .int .i64 k] 151)
  have l1 := heap_lt hb1
  have HB := Lib.hid ((Below.refl _ w).alloc (Nat.le_refl _) (.cells #[.int .i64 lv, .int .i64 k] 151))
  clear hbx
  have hcase : lv = -1 ∨ lv = 4 ∨ lv = 0 ∨ lv = 1 ∨ lv = 2 ∨ lv = 3 := by omega
  rcases hcase with rfl | rfl | rfl | rfl | rfl | rfl
  · obtain ⟨m, l, hm1, hm2, hm3, hm4⟩ := hsl 259 (by omega) (by omega)
    have c := blk_cell hb1 259 hm1
    have HF := Lib.hid (show SMap intV w m l ∧ S m ∧ m ≠ mw from ⟨hm2, hm3, hm4⟩)
    clear hb1 hbp hsl hm1 hm2 hm3 hm4 hlv
    go_enter Tryz.func105, Tryz.ntmps105
    go_wp2
    go_ret
    exact ⟨m, l, rfl, HF.out.1, HF.out.2.1, HF.out.2.2, HB.out⟩
  · obtain ⟨m, l, hm1, hm2, hm3, hm4⟩ := hsl 258 (by omega) (by omega)
    have c := blk_cell hb1 258 hm1
    have HF := Lib.hid (show SMap intV w m l ∧ S m ∧ m ≠ mw from ⟨hm2, hm3, hm4⟩)
    clear hb1 hbp hsl hm1 hm2 hm3 hm4 hlv
    go_enter Tryz.func105, Tryz.ntmps105
    go_wp2
    go_ret
    exact ⟨m, l, rfl, HF.out.1, HF.out.2.1, HF.out.2.2, HB.out⟩
  · obtain ⟨m, l, hm1, hm2, hm3, hm4⟩ := hsl (2 + k) (by omega) (by omega)
    have c := blk_cell hb1 (2 + k) hm1
    have c0 := blk_cell hbp 0 rfl
    have c1 := blk_cell hbp 1 rfl
    have hk : k < 64 := by omega
    have HF := Lib.hid (show SMap intV w m l ∧ S m ∧ m ≠ mw from ⟨hm2, hm3, hm4⟩)
    clear hsl hm1 hm2 hm3 hm4 hlv
    go_enter Tryz.func105, Tryz.ntmps105
    go_wp2
    go_quiet (fail)
    clear hb1 hbp
    go_wp2
    go_ret
    exact ⟨m, l, rfl, HF.out.1, HF.out.2.1, HF.out.2.2, below_drewN' HB.out nq⟩
  · obtain ⟨m, l, hm1, hm2, hm3, hm4⟩ := hsl (66 + k) (by omega) (by omega)
    have c := blk_cell hb1 (66 + k) hm1
    have c0 := blk_cell hbp 0 rfl
    have c1 := blk_cell hbp 1 rfl
    have hk : k < 64 := by omega
    have HF := Lib.hid (show SMap intV w m l ∧ S m ∧ m ≠ mw from ⟨hm2, hm3, hm4⟩)
    clear hsl hm1 hm2 hm3 hm4 hlv
    go_enter Tryz.func105, Tryz.ntmps105
    go_wp2
    go_quiet (fail)
    clear hb1 hbp
    go_wp2
    go_ret
    exact ⟨m, l, rfl, HF.out.1, HF.out.2.1, HF.out.2.2, below_drewN' HB.out nq⟩
  · obtain ⟨m, l, hm1, hm2, hm3, hm4⟩ := hsl (130 + k) (by omega) (by omega)
    have c := blk_cell hb1 (130 + k) hm1
    have c0 := blk_cell hbp 0 rfl
    have c1 := blk_cell hbp 1 rfl
    have hk : k < 64 := by omega
    have HF := Lib.hid (show SMap intV w m l ∧ S m ∧ m ≠ mw from ⟨hm2, hm3, hm4⟩)
    clear hsl hm1 hm2 hm3 hm4 hlv
    go_enter Tryz.func105, Tryz.ntmps105
    go_wp2
    go_quiet (fail)
    clear hb1 hbp
    go_wp2
    go_ret
    exact ⟨m, l, rfl, HF.out.1, HF.out.2.1, HF.out.2.2, below_drewN' HB.out nq⟩
  · obtain ⟨m, l, hm1, hm2, hm3, hm4⟩ := hsl (194 + k) (by omega) (by omega)
    have c := blk_cell hb1 (194 + k) hm1
    have c0 := blk_cell hbp 0 rfl
    have c1 := blk_cell hbp 1 rfl
    have hk : k < 64 := by omega
    have HF := Lib.hid (show SMap intV w m l ∧ S m ∧ m ≠ mw from ⟨hm2, hm3, hm4⟩)
    clear hsl hm1 hm2 hm3 hm4 hlv
    go_enter Tryz.func105, Tryz.ntmps105
    go_wp2
    go_quiet (fail)
    clear hb1 hbp
    go_wp2
    go_ret
    exact ⟨m, l, rfl, HF.out.1, HF.out.2.1, HF.out.2.2, below_drewN' HB.out nq⟩

end Go.Proofs.YtheipmallojdkaaGreatDoor

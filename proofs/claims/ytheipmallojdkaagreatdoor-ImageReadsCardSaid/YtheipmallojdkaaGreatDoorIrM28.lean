/- Package sched: Job. A range over an iterator of jobs whose round runs the caller's code: the caller's law, under the wide fence. The caller tells which blocks it writes. Whole structs in blocks that are known, in a fence. Of whatever program. -/
import Derived.Test.YtheipmallojdkaaGreatDoorIrM27
import Derived.Test.YtheipmallojdkaaGreatDoorIrM05
import Derived.Test.YtheipmallojdkaaGreatDoorIrM20
import Derived.Test.YtheipmallojdkaaGreatDoorIrM02
import Derived.Test.YtheipmallojdkaaGreatDoorIrM06
import Derived.OwnWalkIn

namespace Go.Proofs.YtheipmallojdkaaGreatDoor
open Go.RowKit Go.Maps Go.ChangeMaps

/-- A job, its row of texts new. -/
def JobP (w : World) (j : Jb) (e : Ending) (w' : World) : Prop :=
  ∃ dv, e = .returned (.tuple #[j.v dv, .bool true]) ∧ Below w.heap.size w w' ∧ Sl strv w' dv j.sp.deps ∧ ∀ k, dv.ownBlock = some k → w.heap.size ≤ k

set_option maxRecDepth 100000 in
set_option maxHeartbeats 1600000 in
theorem sjob_any (w : World) (s mj : Nat) (now each order : Int) (g r u q : Option Addr) (hb : w.heap[s]? = some (.cells #[.int .i64 now, .int .i64 each, .int .u64 order, .map (some mj), .pointer g, .pointer r, .pointer u, .pointer q] 72 (0, 0))) (l : List (ByteArray × Nat)) (hM : SMap ptrV w mj l)
    (name : ByteArray) (hname : name.size ≤ maxLen) (b : Nat) (hg : aget name l = some b) (j : Jb) (dv : Value) (hj : w.heap[b]? = some (.cells (j.cells dv) 42 (0, 0))) (hd : Sl strv w dv j.sp.deps) (hdl : j.sp.deps.length ≤ 70368744177) :
    Calls Tryz.prog 50 #[.pointer (some ⟨s, 0, none⟩), .string name] w (JobP w j) := by
  have hr : ∀ o, (Instr.lookup 66 (.map (some mj)) (.string name) false).run Tryz.prog (w.alloc o) = .ok (.pointer (some ⟨b, 0, none⟩)) (w.alloc o) := fun o => by
    have := jget (hM.alloc o) hname
    rw [hg] at this
    exact this
  have c3 := blk_cell hb 3 rfl
  have ls := heap_lt hb
  have lb := heap_lt hj
  obtain ⟨ad, cp, rfl, _⟩ := id hd
  obtain ⟨D, hD⟩ : ∃ D, D = j.cells (.slice ad j.sp.deps.length cp) := ⟨_, rfl⟩
  rw [← hD] at hj
  obtain ⟨D1, hD1⟩ : ∃ D1, D1 = j.sp.cells (.slice ad j.sp.deps.length cp) := ⟨_, rfl⟩
  have HDS : Hid (D.size = 21) := Lib.hid (by rw [hD]; rfl)
  have HD1 : Hid (OneCells D.toList) := Lib.hid (by rw [hD]; simp [Jb.cells, OneCells, Value.oneCell'])
  have HS1 : Hid (D1.size = 11) := Lib.hid (by rw [hD1]; rfl)
  have HC1 : Hid ((D.toList.drop 0).take D1.size = D1.toList) := Lib.hid (by rw [HS1.out, hD1, hD]; rfl)
  have HJ : Hid (∀ o, (w.alloc o).heap[b]? = some (.cells D 42 (0, 0))) := Lib.hid fun o => aheap hj o
  have HN : Hid (∀ o, ((w.alloc o).alloc (.cells D 42)).heap[w.heap.size + 1]? = some (.cells D 42 (0, 0))) := Lib.hid fun o => by
    have := heap_new (w.alloc o) (.cells D 42)
    rwa [World.size_alloc] at this
  have HCL : Hid (∀ o, Calls Tryz.prog 39 #[.agg D1] ((w.alloc o).alloc (.cells D 42)) (ClonedP ((w.alloc o).alloc (.cells D 42)) j.sp)) := Lib.hid fun o => by
    rw [hD1]
    exact sclone_any _ j.sp ad _ cp ((hd.alloc _).alloc _) hdl
  have HE := Lib.hid hD
  clear hb hM hg hj hd hdl hD hD1 hname
  go_enter Tryz.func50, Tryz.ntmps50
  go_wp2_with (first | (refine wpList_load_all _ rfl _ _ rfl b rfl D D _ _ (HJ.out _) rfl _ Tryz.underlying42 rfl (by rw [HDS.out]; exact info_jobG) ?_) | (refine wpList_store_fresh _ rfl _ _ _ rfl _ rfl D rfl _ _ _ rfl (by simp) (by rw [HDS.out]; decide) (by rw [HDS.out]; rfl) (by rw [HDS.out]; exact info_jobG) HD1.out ?_) | (refine wpList_load_blk _ rfl _ _ rfl (w.heap.size + 1) 0 rfl D _ _ (HN.out _) D1 HC1.out _ Tryz.underlying40 rfl (by rw [HS1.out]; exact info_spec4) ?_) | fail)
  refine (HCL.out _).mono ?_
  rintro e w3 ⟨v', rfl, hb3, hsl3, hv3⟩
  obtain ⟨ad3, cp3, rfl, _⟩ := id hsl3
  have hz3 := bheap hb3 (aheap (heap_new w _) _) (by simp; omega)
  have hn3 := bheap hb3 (HN.out _) (by first | (simp; done) | (simp; omega))
  have hbw : Below w.heap.size w w3 := (((Below.refl w.heap.size w).alloc (Nat.le_refl _) _).alloc (by simp) _).trans (hb3.mono (by simp; omega))
  have hv3' : ∀ k, (Value.slice ad3 j.sp.deps.length cp3).ownBlock = some k → w.heap.size + 2 ≤ k := fun k hk => by have := hv3 k hk; simpa using this
  have HB3 := Lib.hid hbw
  have HSL3 := Lib.hid hsl3
  have HV3 := Lib.hid hv3'
  have HZ3 := Lib.hid hz3
  have HN3 := Lib.hid hn3
  obtain ⟨D2, hD2⟩ : ∃ D2, D2 = j.sp.cells (.slice ad3 j.sp.deps.length cp3) := ⟨_, rfl⟩
  obtain ⟨D3, hD3⟩ : ∃ D3, D3 = j.cells (.slice ad3 j.sp.deps.length cp3) := ⟨_, rfl⟩
  unfold Sp.v
  rw [← hD2]
  have HS2 : Hid (D2.size = 11) := Lib.hid (by rw [hD2]; rfl)
  have HO2 : Hid (OneCells D2.toList) := Lib.hid (by rw [hD2]; simp [Sp.cells, OneCells, Value.oneCell'])
  have HSP : Hid (spl D 0 D2.toList = D3) := Lib.hid (by rw [hD2, HE.out, hD3]; exact spl_job j _ _)
  have HS3 : Hid (D3.size = 21) := Lib.hid (by rw [hD3]; rfl)
  have HO3 : Hid (OneCells D3.toList) := Lib.hid (by rw [hD3]; simp [Jb.cells, OneCells, Value.oneCell'])
  have HE3 := Lib.hid hD3
  have hl3 := heap_lt hn3
  clear hb3 hsl3 hv3 hv3' hz3 hn3 hbw hD2 hD3 HCL HN HJ HC1 HS1 HD1 hr c3 ls lb
  go_wp2_with (first | (refine wpList_store_at _ rfl _ _ _ rfl (w.heap.size + 1) 0 rfl D2 rfl D _ _ HN3.out (by rw [HS2.out]; decide) (by rw [HS2.out, HDS.out]; decide) HSP.out (by rw [HS2.out]; exact info_spec4) HO2.out ?_; intro w4 hc4 hk4 hz4; have HC4 := Lib.hid hc4; have HK4 := Lib.hid hk4; have HZ4 : Hid (_ = _) := Lib.hid (hk4.heap (fun e => by omega) HZ3.out); have hl4 : w.heap.size + 1 < w4.heap.size := heap_lt hc4; clear hc4 hk4 hz4) | (refine wpList_load_all _ rfl _ _ rfl (w.heap.size + 1) rfl D3 D3 _ _ HC4.out rfl _ Tryz.underlying42 rfl (by rw [HS3.out]; exact info_jobG) ?_) | (refine wpList_store_all _ rfl _ _ _ rfl w.heap.size rfl D3 rfl _ _ HZ4.out (by rw [HS3.out]; decide) (by rw [HS3.out]; rfl) (by rw [HS3.out]; exact info_jobG) HO3.out ?_; intro w5 hc5 hk5 hz5) | fail)
  refine bodyPost_ret (results_blk2 rfl _ _ _ _ _ _ rfl hc5 _ Tryz.underlying42 rfl (by rw [HS3.out]; exact info_jobG)) rfl ?_
  have hk : Keeps (fun k => k = w.heap.size + 1 ∨ k = w.heap.size) w3 w5 := (HK4.out.mono fun k _ e => .inl e).trans (hk5.mono fun k _ e => .inr e)
  rw [HE3.out]
  refine ⟨_, rfl, ?_, ?_, fun k hk => ?_⟩
  · exact ((Keeps.of_below HB3.out).trans (hk.mono (T := fun k => w.heap.size ≤ k) (fun k _ e => by omega))).below (Nat.le_refl _) fun k h => h
  · exact HSL3.out.kept hk fun k hk' e => by have := HV3.out k hk'; omega
  · have := HV3.out k hk; omega

end Go.Proofs.YtheipmallojdkaaGreatDoor

namespace Go.Proofs.YtheipmallojdkaaGreatDoor
open Go.RowKit

def jdV (x : JD) : Value := x.1.v x.2

/-- A job of P's, whose row of texts is newer than A0. -/
def StJ (P : Jb → Prop) (x : JD) (A0 A : World) : Prop := P x.1 ∧ Sl strv A x.2 x.1.sp.deps ∧ ∀ k, x.2.ownBlock = some k → A0.heap.size ≤ k

theorem StJ.putObj {P : Jb → Prop} {x : JD} {A0 A : World} {l : Nat} {o : Obj} (h : StJ P x A0 A) (ho : A.heap[l]? = some o) (hc : o.isCells = false) (o' : Obj) : StJ P x A0 (A.putObj l o') := by
  obtain ⟨h1, ⟨ad, cap, h2, h3, h4, h5⟩, h6⟩ := h
  refine ⟨h1, ⟨ad, cap, h2, h3, h4, ?_⟩, h6⟩
  rcases h5 with h5 | ⟨b, i, e, hb, hcell⟩
  · exact .inl h5
  · refine .inr ⟨b, i, e, by simpa using hb, fun j c hj => ?_⟩
    have hx := hcell j c hj
    by_cases hbl : b = l
    · subst hbl
      simp only [World.cell?, ho] at hx
      cases o <;> simp_all [Obj.isCells]
    · rw [World.cell?_of_block (World.putObj_heap_other hbl)]
      exact hx

/-- The iterator's contract: it tells jobs, one behind the other; O is what the caller writes. -/
def IterJ (P : Jb → Prop) (Done : List JD → Prop) (R : World → Prop) (n gf : Nat) (lb : Array Value) : Prop :=
  ∀ (l : Nat) (J : List JD → (Nat → Prop) → World → Prop) (O0 : Nat → Prop) (W : World), (∀ p O A B, J p O A → Below A.heap.size A B → J p O B) → (∀ p O A, J p O A → R A) → (∀ k, O0 k → k < W.heap.size) →
    (∀ p O x A0 A, p.length < 128 → J p O A0 → Below A0.heap.size A0 A → StJ P x A0 A → YieldAt Fence.wide (n - 1) Tryz.prog l #[jdV x] A fun e B => e = .returned (.bool true) ∧ ∃ O', J (p ++ [x]) O' B ∧ Keeps O A B ∧ ∀ k, O' k → O k ∨ A.heap.size ≤ k) →
    J [] O0 W → CallsIn Fence.wide n Tryz.prog gf (#[.func (.yield l) #[] #[]] ++ lb) W fun e B => (∃ v, e = .returned v) ∧ ∃ xs O, Done xs ∧ J xs O B

theorem range_jobs {g : Operand} {ps : Array Tmp} {assign body : Code} {Q : Exit → Act → World → Prop} {a : Act} {w : World} {n : Nat} {gf : Nat} {lb : Array Value}
    (hg : a.eval g = .func (.func gf) #[] lb) (eg : ∀ args w, (callFunc gf args).run Tryz.prog w = .ok (.enter gf args) w) (hps : ps.size = 1)
    {P : Jb → Prop} {Done : List JD → Prop} {R : World → Prop} (iter : IterJ P Done R (n - 1) gf lb)
    (I : List JD → (Nat → Prop) → World → Prop) (O0 : Nat → Prop) (hO0 : ∀ k, O0 k → k < w.heap.size)
    (hIb : ∀ p O A B, I p O A → Below A.heap.size A B → I p O B)
    (hIr : ∀ p O A, I p O A → R A)
    (hIo : ∀ p O A l o o', I p O A → w.heap.size ≤ l → A.heap[l]? = some o → o.isCells = false → I p O (A.putObj l o'))
    (h0 : I [] O0 w) (a₁ : JD → Nat → Act)
    (hassign : ∀ (l : Nat) (x : JD) (W : World) (K : Act → World → Prop), (∃ ad n cp, x.2 = .slice ad n cp) → K (a₁ x W.heap.size) (W.alloc (.cells (x.1.cells x.2) 42)) →
      assign.wpIn (Fence.wide.inRound l) (n - 1 - 1) Tryz.prog (Exit.then K (fun _ _ _ => False)) { tmps := (ps.zip #[jdV x]).foldl (fun t (p, v) => t.setIfInBounds p v) a.tmps, defers := [] } W)
    (hbody : ∀ (l : Nat) (p : List JD) (O : Nat → Prop) (x : JD) (A0 V : World) (k : Nat), p.length < 128 → I p O A0 → A0.heap.size ≤ k → w.heap.size ≤ A0.heap.size → V.heap[k]? = some (.cells (x.1.cells x.2) 42 (0, 0)) → StJ P x A0 V → I p O V →
      body.wpIn (Fence.wide.inRound l) (n - 1 - 1) Tryz.prog (fun e _ W' => e = .normal ∧ KeepsOthers V W' ∧ ∃ O', I (p ++ [x]) O' W' ∧ Keeps O V W' ∧ ∀ k, O' k → O k ∨ V.heap.size ≤ k) (a₁ x k) V)
    (hdone : ∀ (D : Nat) (W : World) (xs : List JD) (O : Nat → Prop), w.heap.size ≤ D → Done xs → I xs O W → W.heap[D]? = some (.deferred (some [])) → Q .normal { a with defers := { target := .collected D, args := #[] } :: a.defers } W) :
    (Code.rangeFunc g ps assign body).wpIn Fence.wide n Tryz.prog Q a w := by
  refine wpIn_rangeFunc ?_
  intro fn hfn
  obtain ⟨rec, hrec⟩ : ∃ rec : LoopState → Option Code → Loop, rec = fun st pe => { state := st, pending := pe, fn, tmps := a.tmps, params := ps, assign, body, defers := w.heap.size } := ⟨_, rfl⟩
  obtain ⟨W1, hW1⟩ : ∃ W1, (w.alloc (.deferred (some []))).alloc (.loop (rec .ready none)) = W1 := ⟨_, rfl⟩
  have hL1 : W1.heap[w.heap.size + 1]? = some (.loop (rec .ready none)) := by
    rw [← hW1]; have := World.alloc_heap_new (w.alloc (.deferred (some []))) (.loop (rec .ready none)); rwa [World.size_alloc] at this
  have hK1 : W1.heap[w.heap.size]? = some (.deferred (some [])) := by
    rw [← hW1]; exact (Below.heap_alloc _ _ _ (by simp)).trans (World.alloc_heap_new w _)
  have hbw : Below w.heap.size w W1 := by rw [← hW1]; exact ((Below.refl _ w).alloc (Nat.le_refl _) _).alloc (by simp) _
  have hI1 : I [] O0 W1 := hIb _ _ _ _ h0 hbw
  refine ⟨w.heap.size + 1, [{ target := .collected w.heap.size, args := #[] }], W1, { target := .fn (.func gf) lb, args := #[.func (.yield (w.heap.size + 1)) #[] #[]] }, W1, gf,
    #[.func (.yield (w.heap.size + 1)) #[] #[]] ++ lb, W1, ?_, ?_, ?_, ?_, fun h => by simp [Fence.wide] at h, ?_⟩
  · rw [← hW1, hrec]; exact run_enterLoop_outer _ _ _ _ _
  · simp only [resolve, hg]
    simp [go_sem]
  · intro f' _; trivial
  · simp [invoke, go_sem, eg]
  · refine (iter (w.heap.size + 1)
      (fun p O W => (∃ O1, I p O1 W ∧ (O = fun k => O1 k ∨ k = w.heap.size + 1)) ∧ W.heap[w.heap.size + 1]? = some (.loop (rec .ready none)) ∧ W.heap[w.heap.size]? = some (.deferred (some [])))
      (fun k => O0 k ∨ k = w.heap.size + 1) W1 ?_ ?_ ?_ ?_ ⟨⟨O0, hI1, rfl⟩, hL1, hK1⟩).mono ?_
    · rintro p O A B ⟨⟨O1, hi, rfl⟩, hl, hk⟩ hb
      exact ⟨⟨O1, hIb _ _ _ _ hi hb, rfl⟩, (hb.block _ (Array.getElem?_eq_some_iff.1 hl).1).trans hl, (hb.block _ (Array.getElem?_eq_some_iff.1 hk).1).trans hk⟩
    · rintro p O A ⟨⟨O1, hi, rfl⟩, _⟩
      exact hIr _ _ _ hi
    · rintro k (hk | rfl)
      · have := hO0 k hk
        have := hbw.size
        omega
      · exact heap_lt hL1
    · rintro p O x A0 W hp128 ⟨⟨O1, hi0, rfl⟩, hl0, hk0⟩ hb0 hst
      have hi : I p O1 W := hIb _ _ _ _ hi0 hb0
      have hl := (hb0.block _ (Array.getElem?_eq_some_iff.1 hl0).1).trans hl0
      have hk := (hb0.block _ (Array.getElem?_eq_some_iff.1 hk0).1).trans hk0
      have hlt0 : w.heap.size + 1 < A0.heap.size := (Array.getElem?_eq_some_iff.1 hl0).1
      have hy := run_yield (P := Tryz.prog) (args := #[jdV x]) hl (by rw [hrec]; simp [hps])
      rw [hrec] at hy
      obtain ⟨V0, hV0⟩ : ∃ V0, V0 = W.alloc (.cells (x.1.cells x.2) 42) := ⟨_, rfl⟩
      have hbV : Below W.heap.size W V0 := by rw [hV0]; exact (Below.refl _ _).alloc (Nat.le_refl _) _
      have hzV : V0.heap.size = W.heap.size + 1 := by rw [hV0]; simp
      have hxV : V0.heap[W.heap.size]? = some (.cells (x.1.cells x.2) 42 (0, 0)) := by rw [hV0]; exact heap_new _ _
      have hlV := (hbV.block _ (Array.getElem?_eq_some_iff.1 hl).1).trans hl
      have hkV := (hbV.block _ (Array.getElem?_eq_some_iff.1 hk).1).trans hk
      have hltV : w.heap.size + 1 < V0.heap.size := (Array.getElem?_eq_some_iff.1 hlV).1
      have hzz := hb0.size
      have hstV : StJ P x A0 V0 := ⟨hst.1, hst.2.1.below hbV hst.2.1.row_lt, hst.2.2⟩
      refine ⟨fn, _, assign, body, hy, roundIn_of_wpIn hfn (hassign _ x W _ (by obtain ⟨_, ⟨ad, cap, e, _⟩, _⟩ := hst; exact ⟨ad, _, cap, e⟩) ?_)⟩
      rw [← hV0]
      refine ⟨_, run_beginRound hlV (by rw [hrec]), ?_⟩
      have hl2 : (V0.putObj (w.heap.size + 1) (.loop { rec .ready none with state := .busy })).heap[w.heap.size + 1]? = some (.loop { rec .ready none with state := .busy }) := World.putObj_heap_same hltV
      have hk2 : (V0.putObj (w.heap.size + 1) (.loop { rec .ready none with state := .busy })).heap[w.heap.size]? = some (.deferred (some [])) := (World.putObj_heap_other (by omega)).trans hkV
      refine wpIn_mono (hbody _ p O1 x A0 _ W.heap.size hp128 hi0 hzz (by omega) ((World.putObj_heap_other (by omega)).trans hxV) (hstV.putObj hlV rfl _) (hIo _ _ _ _ _ _ (hIb _ _ _ _ hi hbV) (by omega) hlV rfl)) ?_
      rintro e a3 W3 ⟨rfl, hk3, O', hi3, hkp, hO'⟩
      have hl3 := hk3.same _ _ hl2 rfl
      have hr := run_endRound (P := Tryz.prog) none hl3
      rw [hrec] at hr
      refine ⟨_, _, hr, rfl, fun k => O' k ∨ k = w.heap.size + 1, ⟨⟨O', hIo _ _ _ _ _ _ hi3 (by omega) hl3 rfl, rfl⟩, by rw [hrec] at hl3 ⊢; exact World.putObj_heap_same (Array.getElem?_eq_some_iff.1 hl3).1, (World.putObj_heap_other (by omega)).trans (hk3.same _ _ hk2 rfl)⟩, ?_, ?_⟩
      · exact (((Keeps.of_belowS hbV).trans ((keeps_putObj V0 (w.heap.size + 1) _).mono fun k _ e => .inr e)).trans (hkp.mono fun k _ e => .inl e)).trans ((keeps_putObj W3 (w.heap.size + 1) _).mono fun k _ e => .inr e)
      · rintro k (h | h)
        · rcases hO' k h with h | h
          · exact .inl (.inl h)
          · right; simp at h; omega
        · exact .inl (.inr h)
    · rintro e W2 ⟨⟨v, rfl⟩, xs, O, hxs, ⟨O1, hi, rfl⟩, hl, hk⟩
      exact ⟨none, _, by have := run_endLoop (P := Tryz.prog) hl (by rw [hrec]; simp); rw [hrec] at this; exact this, hdone _ _ xs O1 (Nat.le_refl _) hxs (hIo _ _ _ _ _ _ hi (by omega) hl rfl) ((World.putObj_heap_other (by omega)).trans hk)⟩

end Go.Proofs.YtheipmallojdkaaGreatDoor

namespace Go.Proofs.YtheipmallojdkaaGreatDoor
open Go.RowKit Go.ChangeMaps

section
variable {P : Program} (w : World) {F : Fence} {n : Nat} {ops : Array Oper} {rest : List Oper} {o : Oper} {a : Act} {Q : Exit → Act → World → Prop}

/-- A struct stored into the last block. -/
theorem wpListIn_store_fresh (hg : o.guard = none) (ty : TypeId) (x y : Operand) (hop : o.op = .store ty x y) (b : Nat) (hx : a.eval x = .pointer (some ⟨b, 0, none⟩)) (vs : Array Value) (hy : a.eval y = .agg vs)
    (W : World) (C : Array Value) (T : TypeId) (hw : w = W.alloc (.cells C T)) (hb : b = W.heap.size) (hn : 0 < vs.size) (hs : vs.size = C.size) (hi : (P.info? ty).map (·.size) = some vs.size) (h1 : OneCells vs.toList)
    (h : wpListIn F n P ops Q rest (a.put o.dst undef) (W.alloc (.cells vs T))) : wpListIn F n P ops Q (o :: rest) a w := by
  subst hw hb
  refine wpListIn_plain hg fun K hK => ?_
  have ht := there_block (heap_new W (.cells C T)) 0 vs.size (by omega)
  have e : (W.alloc (.cells C T)).setCells W.heap.size 0 vs.toList = W.alloc (.cells vs T) := by
    rw [setCells_block vs.toList 0 C _ (heap_new _ _) (by intro e; have := congrArg List.length e; simp at this; simp [this] at hn), spl_full C vs hs, setBlock_alloc]
  unfold Oper.wpIn
  refine ⟨by simp [Oper.about, hop], ?_⟩
  rw [Oper.semAt_plain F _ _ (by rw [hop]; intro c hc'; cases hc')]
  unfold execOp
  simp only [hop, hx, hy, Instr.storeAt, Instr.sureAddr, Sem.run_bind, Sem.run_pure, Result.andThen_ok, run_storeVar_mid _ _ 0 ty vs ht hi h1.arr, e]
  exact hK _ _ h

/-- A struct read, whole, out of a block that is known. -/
theorem wpListIn_load_all (hg : o.guard = none) (ty : TypeId) (x : Operand) (hop : o.op = .load ty x) (b : Nat) (hx : a.eval x = .pointer (some ⟨b, 0, none⟩)) (C : Array Value) (T : TypeId) (fr : Nat × Nat)
    (hb : w.heap[b]? = some (.cells C T fr)) (d : TypeDesc) (hu : P.underlying ty = some d) (hd : d.isRow = true) (hi : (P.info? ty).map (·.size) = some C.size)
    (h : wpListIn F n P ops Q rest (a.put o.dst (.agg C)) w) : wpListIn F n P ops Q (o :: rest) a w := by
  refine wpListIn_plain hg fun K hK => ?_
  have hl := run_load_blk w ty b 0 C T fr hb C (take_all C) d hu hd hi
  unfold Oper.wpIn
  refine ⟨by simp [Oper.about, hop], ?_⟩
  rw [Oper.semAt_plain F _ _ (by rw [hop]; intro c hc'; cases hc')]
  unfold execOp
  simp only [hop, hx, Instr.loadAt, Instr.sureAddr, Sem.run_bind, Sem.run_pure, Result.andThen_ok, hl]
  exact hK _ _ h

/-- append, at the operation. -/
theorem wpListIn_append_more (hgd : o.guard = none) (s x : Operand) (t : TypeId)
    (hop : o.op = .call { callee := .builtin .append, args := #[s, x], argTypes := #[t, t] })
    (e : TypeId) (i : TypeInfo) (z : Value) (size bytes : Nat) (ht : P.underlying t = some (.slice e)) (hi : P.info? e = some i) (hz : i.zero = some z)
    (hsize : i.size = size) (hby : i.bytes = bytes) (hzs : z.cells.size = size) (hsz : 0 < size)
    (v : Value) (m : Nat) (xs : List Value) (hs : a.eval s = v) (hown : w.ownsRow 0 e size v m xs)
    (ad : Addr) (k c : Nat) (news : List Value) (hx : a.eval x = .slice (some ad) k c) (hl : news.length = k * size) (hnews : ∀ j u, news[j]? = some u → w.cell? (ad.add j) = some u) (h1 : ∀ u ∈ news, u.oneCell' = true)
    (h63 : m + k ≤ maxLen) (hbytes : (m + k) * bytes ≤ 140737488355328)
    (h : ∀ v' w', w'.ownsRow 0 e size v' (m + k) (xs ++ news) → w.grownBy w' v.ownBlock → (v'.ownBlock = v.ownBlock ∨ ∃ k, v'.ownBlock = some k ∧ w.heap.size ≤ k ∧ k < w'.heap.size) → wpListIn F n P ops Q rest (a.put o.dst v') w') : wpListIn F n P ops Q (o :: rest) a w := by
  refine wpListIn_plain hgd fun K hK => ?_
  obtain ⟨v', w', hr, h2, h3, h4⟩ := run_append_more (P := P) w t o.type e i z size bytes ht hi hz hsize hby hzs hsz v m xs hown ad k c news hl hnews h1 h63 hbytes
  unfold Oper.wpIn
  refine ⟨by simp [Oper.about, hop, resolve, Target.leads, Sem.run_pure], ?_⟩
  rw [Oper.semAt_plain F _ _ (by rw [hop]; intro c hc'; cases hc')]
  unfold execOp
  simp only [hop, resolve, invoke, builtin, Sem.run_bind, Sem.run_pure, Result.andThen_ok, List.map_toArray, List.map_cons, List.map_nil, hs, hx, hr]
  exact hK _ _ (h v' w' h2 h3 h4)
end

end Go.Proofs.YtheipmallojdkaaGreatDoor

/- A spec, a job, as they are read (package spec's Get, GetJob): printed by wip/tools/gen_getjob.py. -/
import Derived.Test.YtheipmallojdkaaGreatDoorIrM18
import Derived.Test.YtheipmallojdkaaGreatDoorIrM02

namespace Go.Proofs.YtheipmallojdkaaGreatDoor
open Go.RowKit Go.ChangeMaps

/-- In the midst of a reading: block b holds what was read so far, res the result's zero; dv is the row of texts dl. -/
structure GS (w0 : World) (res b : Nat) (T : TypeId) (Z : Array Value) (p : Nat) (s : RS) (C : Array Value) (dv : Value) (dl : List ByteArray) (w : World) : Prop where
  blk : w.heap[b]? = some (.cells C T (0, 0))
  rz : w.heap[res]? = some (.cells Z T (0, 0))
  rd : RdAt w p s
  keeps : Keeps (fun k => k = p) w0 w
  dep : Sl strv w dv dl
  dnew : ∀ k, dv.ownBlock = some k → w0.heap.size ≤ k ∧ k ≠ res ∧ k ≠ b
  ne : res ≠ b
  ps : p < w0.heap.size
  rs : w0.heap.size ≤ res
  bs : w0.heap.size ≤ b

theorem GS.call {w0 : World} {res b : Nat} {T : TypeId} {Z : Array Value} {p : Nat} {s s' : RS} {C : Array Value} {dv : Value} {dl : List ByteArray} {w w' : World} (h : GS w0 res b T Z p s C dv dl w) (hr : RdAt w' p s') (hk : Keeps (fun k => k = p) w w') : GS w0 res b T Z p s' C dv dl w' := by
  have h1 := h.ps
  have h2 := h.rs
  have h3 := h.bs
  exact ⟨hk.heap (by omega) h.blk, hk.heap (by omega) h.rz, hr, h.keeps.trans hk, h.dep.kept hk fun k hk' e => by have := (h.dnew k hk').1; have e' : k = p := e; omega, h.dnew, h.ne, h.ps, h.rs, h.bs⟩

theorem GS.set {w0 : World} {res b : Nat} {T : TypeId} {Z : Array Value} {p : Nat} {s : RS} {C : Array Value} {dv : Value} {dl : List ByteArray} {w : World} (h : GS w0 res b T Z p s C dv dl w) (i : Nat) (v : Value) : GS w0 res b T Z p s (C.setIfInBounds i v) dv dl (w.setCell ⟨b, i, none⟩ v) := by
  have h1 := h.ps
  have h2 := h.rs
  have h3 := h.bs
  have hk : Keeps (fun k => k = b) w (w.setCell ⟨b, i, none⟩ v) := (Keeps.refl (fun k => k = b) w).setCell (p := ⟨b, i, none⟩) (.inl rfl) _
  exact ⟨blk_set h.blk i v, hk.heap h.ne h.rz, h.rd.kept hk fun k hk' e => by have e' : k = b := e; omega, h.keeps.setCell (p := ⟨b, i, none⟩) (.inr h.bs) _, h.dep.kept hk fun k hk' e => (h.dnew k hk').2.2 e, h.dnew, h.ne, h.ps, h.rs, h.bs⟩

/-- .. a row of texts comes. -/
theorem GS.deps {w0 : World} {res b : Nat} {T : TypeId} {Z : Array Value} {p : Nat} {s s' : RS} {C : Array Value} {dv dv' : Value} {dl dl' : List ByteArray} {w w' : World} (h : GS w0 res b T Z p s C dv dl w) (hr : RdAt w' p s') (hk : Keeps (fun k => k = p) w w') (hs : Sl strv w' dv' dl') (hn : ∀ k, dv'.ownBlock = some k → w.heap.size ≤ k) : GS w0 res b T Z p s' C dv' dl' w' := by
  have h0 := h.call hr hk
  have h1 := heap_lt h.blk
  have h2 := heap_lt h.rz
  have h3 := h.keeps.size
  exact ⟨h0.blk, h0.rz, hr, h0.keeps, hs, fun k hk' => by have := hn k hk'; omega, h0.ne, h0.ps, h0.rs, h0.bs⟩

def specZ : Array Value := #[.string ⟨#[]⟩, .string ⟨#[]⟩, .int .i64 0, .int .i64 0, .slice none 0 0, .int .i64 0, .int .i64 0, .int .i64 0, .int .i64 0, .string ⟨#[]⟩, .int .i64 0]
theorem info_specG : (Tryz.prog.info? 40).map (·.size) = some 11 := by kernel_rfl
theorem info_jobG : (Tryz.prog.info? 42).map (·.size) = some 21 := by kernel_rfl

/-- What Get leaves. -/
def GotP (p : Nat) (x : Sp) (s : RS) (w : World) (e : Ending) (w' : World) : Prop :=
  ∃ y dv, e = .returned (y.v dv) ∧ RdAt w' p s ∧ Keeps (fun k => k = p) w w' ∧ Sl strv w' dv y.deps ∧ (∀ k, dv.ownBlock = some k → w.heap.size ≤ k) ∧ (s.e = 0 → y = x)
/-- What GetJob leaves. -/
def GotJ (p : Nat) (x : Jb) (s : RS) (w : World) (e : Ending) (w' : World) : Prop :=
  ∃ y dv, e = .returned (Jb.v y dv) ∧ RdAt w' p s ∧ Keeps (fun k => k = p) w w' ∧ Sl strv w' dv y.sp.deps ∧ (∀ k, dv.ownBlock = some k → w.heap.size ≤ k) ∧ (s.e = 0 → y = x)

set_option maxRecDepth 100000 in
set_option maxHeartbeats 4000000 in
theorem getP_any (w : World) (p : Nat) (s : RS) (h : RdAt w p s) :
    Calls Tryz.prog 35 #[.pointer (some ⟨p, 0, none⟩)] w (GotP p (specR s).1 (specR s).2 w) := by
  obtain ⟨t1, h1⟩ : ∃ x, texR s = x := ⟨_, rfl⟩
  have D1 : Hid (∀ W, RdAt W p s → Calls Tryz.prog 36 #[.pointer (some ⟨p, 0, none⟩)] W (RetR (.string t1.1) p t1.2 W)) := Lib.hid (fun W hW => by rw [← h1]; exact text_any W p _ hW)
  obtain ⟨t2, h2⟩ : ∃ x, texR t1.2 = x := ⟨_, rfl⟩
  have D2 : Hid (∀ W, RdAt W p t1.2 → Calls Tryz.prog 36 #[.pointer (some ⟨p, 0, none⟩)] W (RetR (.string t2.1) p t2.2 W)) := Lib.hid (fun W hW => by rw [← h2]; exact text_any W p _ hW)
  obtain ⟨t3, h3⟩ : ∃ x, intR t2.2 = x := ⟨_, rfl⟩
  have D3 : Hid (∀ W, RdAt W p t2.2 → Calls Tryz.prog 9 #[.pointer (some ⟨p, 0, none⟩)] W (RetR (.int .i64 t3.1) p t3.2 W)) := Lib.hid (fun W hW => by rw [← h3]; exact rint_any W p _ hW)
  obtain ⟨t4, h4⟩ : ∃ x, intR t3.2 = x := ⟨_, rfl⟩
  have D4 : Hid (∀ W, RdAt W p t3.2 → Calls Tryz.prog 9 #[.pointer (some ⟨p, 0, none⟩)] W (RetR (.int .i64 t4.1) p t4.2 W)) := Lib.hid (fun W hW => by rw [← h4]; exact rint_any W p _ hW)
  obtain ⟨t5, h5⟩ : ∃ x, depsR t4.2 = x := ⟨_, rfl⟩
  have D5 := Lib.hid h5
  obtain ⟨t6, h6⟩ : ∃ x, intR t5.2 = x := ⟨_, rfl⟩
  have D6 : Hid (∀ W, RdAt W p t5.2 → Calls Tryz.prog 9 #[.pointer (some ⟨p, 0, none⟩)] W (RetR (.int .i64 t6.1) p t6.2 W)) := Lib.hid (fun W hW => by rw [← h6]; exact rint_any W p _ hW)
  obtain ⟨t7, h7⟩ : ∃ x, intR t6.2 = x := ⟨_, rfl⟩
  have D7 : Hid (∀ W, RdAt W p t6.2 → Calls Tryz.prog 9 #[.pointer (some ⟨p, 0, none⟩)] W (RetR (.int .i64 t7.1) p t7.2 W)) := Lib.hid (fun W hW => by rw [← h7]; exact rint_any W p _ hW)
  obtain ⟨t8, h8⟩ : ∃ x, intR t7.2 = x := ⟨_, rfl⟩
  have D8 : Hid (∀ W, RdAt W p t7.2 → Calls Tryz.prog 9 #[.pointer (some ⟨p, 0, none⟩)] W (RetR (.int .i64 t8.1) p t8.2 W)) := Lib.hid (fun W hW => by rw [← h8]; exact rint_any W p _ hW)
  obtain ⟨t9, h9⟩ : ∃ x, intR t8.2 = x := ⟨_, rfl⟩
  have D9 : Hid (∀ W, RdAt W p t8.2 → Calls Tryz.prog 9 #[.pointer (some ⟨p, 0, none⟩)] W (RetR (.int .i64 t9.1) p t9.2 W)) := Lib.hid (fun W hW => by rw [← h9]; exact rint_any W p _ hW)
  obtain ⟨t10, h10⟩ : ∃ x, texR t9.2 = x := ⟨_, rfl⟩
  have D10 : Hid (∀ W, RdAt W p t9.2 → Calls Tryz.prog 36 #[.pointer (some ⟨p, 0, none⟩)] W (RetR (.string t10.1) p t10.2 W)) := Lib.hid (fun W hW => by rw [← h10]; exact text_any W p _ hW)
  obtain ⟨t11, h11⟩ : ∃ x, intR t10.2 = x := ⟨_, rfl⟩
  have D11 : Hid (∀ W, RdAt W p t10.2 → Calls Tryz.prog 9 #[.pointer (some ⟨p, 0, none⟩)] W (RetR (.int .i64 t11.1) p t11.2 W)) := Lib.hid (fun W hW => by rw [← h11]; exact rint_any W p _ hW)
  have HO : Hid (specR s = (⟨t1.1, t2.1, t3.1, t4.1, t5.1, t6.1, t7.1, t8.1, t9.1, t10.1, t11.1⟩, t11.2)) := Lib.hid (by subst h11 h10 h9 h8 h7 h6 h5 h4 h3 h2 h1; rfl)
  clear h1 h2 h3 h4 h5 h6 h7 h8 h9 h10 h11
  have hp := h.lt
  have HR := Lib.hid h
  clear h
  go_enter Tryz.func35, Tryz.ntmps35
  go_wp2_with fail
  obtain ⟨W0, hW⟩ : ∃ W0, W0 = (w.alloc (.cells #[.string ⟨#[]⟩, .string ⟨#[]⟩, .int .i64 0, .int .i64 0, .slice none 0 0, .int .i64 0, .int .i64 0, .int .i64 0, .int .i64 0, .string ⟨#[]⟩, .int .i64 0] 40)).alloc (.cells #[.string ⟨#[]⟩, .string ⟨#[]⟩, .int .i64 0, .int .i64 0, .slice none 0 0, .int .i64 0, .int .i64 0, .int .i64 0, .int .i64 0, .string ⟨#[]⟩, .int .i64 0] 40) := ⟨_, rfl⟩
  rw [← hW]
  have HG0 : Hid (GS w w.heap.size (w.heap.size + 1) 40 specZ p s #[.string ⟨#[]⟩, .string ⟨#[]⟩, .int .i64 0, .int .i64 0, .slice none 0 0, .int .i64 0, .int .i64 0, .int .i64 0, .int .i64 0, .string ⟨#[]⟩, .int .i64 0] (.slice none 0 0) [] W0) := Lib.hid (by
    rw [hW]
    refine ⟨?_, aheap (heap_new _ _) _, (HR.out.alloc _).alloc _, ((Keeps.refl _ _).alloc _).alloc _, Sl.nil _ _, fun k hk => by simp [Value.ownBlock] at hk, by omega, hp, Nat.le_refl _, by omega⟩
    have := heap_new (w.alloc (.cells #[.string ⟨#[]⟩, .string ⟨#[]⟩, .int .i64 0, .int .i64 0, .slice none 0 0, .int .i64 0, .int .i64 0, .int .i64 0, .int .i64 0, .string ⟨#[]⟩, .int .i64 0] 40)) (.cells #[.string ⟨#[]⟩, .string ⟨#[]⟩, .int .i64 0, .int .i64 0, .slice none 0 0, .int .i64 0, .int .i64 0, .int .i64 0, .int .i64 0, .string ⟨#[]⟩, .int .i64 0] 40)
    rwa [World.size_alloc] at this)
  clear hW
  refine (D1.out W0 HG0.out.rd).mono ?_
  rintro e u1 ⟨rfl, hR, hk⟩
  have HGc1 := Lib.hid (HG0.out.call hR hk)
  clear hR hk
  go_wp2_with fail
  refine (D2.out u1 HGc1.out.rd).mono ?_
  rintro e u2 ⟨rfl, hR, hk⟩
  have HGc2 := Lib.hid (HGc1.out.call hR hk)
  clear hR hk
  have c0 := blk_cell HGc2.out.blk 0 rfl
  have f0 := blk_free HGc2.out.blk 0
  have c1 := blk_cell HGc2.out.blk 1 rfl
  have f1 := blk_free HGc2.out.blk 1
  have lB := heap_lt HGc2.out.blk
  go_wp2_with fail
  obtain ⟨X1, hW⟩ : ∃ X1, X1 = ((u2.setCell ⟨(w.heap.size + 1), 0, none⟩ (.string t1.1)).setCell ⟨(w.heap.size + 1), 1, none⟩ (.string t2.1)) := ⟨_, rfl⟩
  rw [← hW]
  have HGs1 : Hid (GS w w.heap.size (w.heap.size + 1) 40 specZ p t2.2 #[.string t1.1, .string t2.1, .int .i64 0, .int .i64 0, .slice none 0 0, .int .i64 0, .int .i64 0, .int .i64 0, .int .i64 0, .string ⟨#[]⟩, .int .i64 0] (.slice none 0 0) [] X1) := Lib.hid (by rw [hW]; exact ((HGc2.out.set 0 _).set 1 _))
  clear hW lB c0 f0 c1 f1 HGc1 HGc2
  refine (D3.out X1 HGs1.out.rd).mono ?_
  rintro e u3 ⟨rfl, hR, hk⟩
  have HGc3 := Lib.hid (HGs1.out.call hR hk)
  clear hR hk
  go_wp2_with fail
  refine (D4.out u3 HGc3.out.rd).mono ?_
  rintro e u4 ⟨rfl, hR, hk⟩
  have HGc4 := Lib.hid (HGc3.out.call hR hk)
  clear hR hk
  have c2 := blk_cell HGc4.out.blk 2 rfl
  have f2 := blk_free HGc4.out.blk 2
  have c3 := blk_cell HGc4.out.blk 3 rfl
  have f3 := blk_free HGc4.out.blk 3
  have lB := heap_lt HGc4.out.blk
  go_wp2_with fail
  obtain ⟨X2, hW⟩ : ∃ X2, X2 = ((u4.setCell ⟨(w.heap.size + 1), 2, none⟩ (.int .i64 t3.1)).setCell ⟨(w.heap.size + 1), 3, none⟩ (.int .i64 t4.1)) := ⟨_, rfl⟩
  rw [← hW]
  have HGs2 : Hid (GS w w.heap.size (w.heap.size + 1) 40 specZ p t4.2 #[.string t1.1, .string t2.1, .int .i64 t3.1, .int .i64 t4.1, .slice none 0 0, .int .i64 0, .int .i64 0, .int .i64 0, .int .i64 0, .string ⟨#[]⟩, .int .i64 0] (.slice none 0 0) [] X2) := Lib.hid (by rw [hW]; exact ((HGc4.out.set 2 _).set 3 _))
  clear hW lB c2 f2 c3 f3 HGc3 HGc4
  refine (getS_any X2 p _ HGs2.out.rd).mono ?_
  rintro e u5 ⟨v, rfl, hR, hown, hnew, hk⟩
  rw [D5.out] at hR hown
  have hsl := owns_sl hown
  obtain ⟨ad, cp, rfl, _⟩ := id hsl
  have HGc5 := Lib.hid (HGs2.out.deps hR hk hsl hnew)
  clear hR hk hown hsl hnew
  have c4 := blk_cell HGc5.out.blk 4 rfl
  have f4 := blk_free HGc5.out.blk 4
  have lB := heap_lt HGc5.out.blk
  go_wp2_with fail
  obtain ⟨X3, hW⟩ : ∃ X3, X3 = (u5.setCell ⟨(w.heap.size + 1), 4, none⟩ (.slice ad t5.1.length cp)) := ⟨_, rfl⟩
  rw [← hW]
  have HGs3 : Hid (GS w w.heap.size (w.heap.size + 1) 40 specZ p t5.2 #[.string t1.1, .string t2.1, .int .i64 t3.1, .int .i64 t4.1, .slice ad t5.1.length cp, .int .i64 0, .int .i64 0, .int .i64 0, .int .i64 0, .string ⟨#[]⟩, .int .i64 0] (.slice ad t5.1.length cp) t5.1 X3) := Lib.hid (by rw [hW]; exact (HGc5.out.set 4 _))
  clear hW lB c4 f4 HGc5
  refine (D6.out X3 HGs3.out.rd).mono ?_
  rintro e u6 ⟨rfl, hR, hk⟩
  have HGc6 := Lib.hid (HGs3.out.call hR hk)
  clear hR hk
  go_wp2_with fail
  refine (D7.out u6 HGc6.out.rd).mono ?_
  rintro e u7 ⟨rfl, hR, hk⟩
  have HGc7 := Lib.hid (HGc6.out.call hR hk)
  clear hR hk
  have c5 := blk_cell HGc7.out.blk 5 rfl
  have f5 := blk_free HGc7.out.blk 5
  have c6 := blk_cell HGc7.out.blk 6 rfl
  have f6 := blk_free HGc7.out.blk 6
  have lB := heap_lt HGc7.out.blk
  go_wp2_with fail
  obtain ⟨X4, hW⟩ : ∃ X4, X4 = ((u7.setCell ⟨(w.heap.size + 1), 5, none⟩ (.int .i64 t6.1)).setCell ⟨(w.heap.size + 1), 6, none⟩ (.int .i64 t7.1)) := ⟨_, rfl⟩
  rw [← hW]
  have HGs4 : Hid (GS w w.heap.size (w.heap.size + 1) 40 specZ p t7.2 #[.string t1.1, .string t2.1, .int .i64 t3.1, .int .i64 t4.1, .slice ad t5.1.length cp, .int .i64 t6.1, .int .i64 t7.1, .int .i64 0, .int .i64 0, .string ⟨#[]⟩, .int .i64 0] (.slice ad t5.1.length cp) t5.1 X4) := Lib.hid (by rw [hW]; exact ((HGc7.out.set 5 _).set 6 _))
  clear hW lB c5 f5 c6 f6 HGc6 HGc7
  refine (D8.out X4 HGs4.out.rd).mono ?_
  rintro e u8 ⟨rfl, hR, hk⟩
  have HGc8 := Lib.hid (HGs4.out.call hR hk)
  clear hR hk
  go_wp2_with fail
  refine (D9.out u8 HGc8.out.rd).mono ?_
  rintro e u9 ⟨rfl, hR, hk⟩
  have HGc9 := Lib.hid (HGc8.out.call hR hk)
  clear hR hk
  have c7 := blk_cell HGc9.out.blk 7 rfl
  have f7 := blk_free HGc9.out.blk 7
  have c8 := blk_cell HGc9.out.blk 8 rfl
  have f8 := blk_free HGc9.out.blk 8
  have lB := heap_lt HGc9.out.blk
  go_wp2_with fail
  obtain ⟨X5, hW⟩ : ∃ X5, X5 = ((u9.setCell ⟨(w.heap.size + 1), 7, none⟩ (.int .i64 t8.1)).setCell ⟨(w.heap.size + 1), 8, none⟩ (.int .i64 t9.1)) := ⟨_, rfl⟩
  rw [← hW]
  have HGs5 : Hid (GS w w.heap.size (w.heap.size + 1) 40 specZ p t9.2 #[.string t1.1, .string t2.1, .int .i64 t3.1, .int .i64 t4.1, .slice ad t5.1.length cp, .int .i64 t6.1, .int .i64 t7.1, .int .i64 t8.1, .int .i64 t9.1, .string ⟨#[]⟩, .int .i64 0] (.slice ad t5.1.length cp) t5.1 X5) := Lib.hid (by rw [hW]; exact ((HGc9.out.set 7 _).set 8 _))
  clear hW lB c7 f7 c8 f8 HGc8 HGc9
  refine (D10.out X5 HGs5.out.rd).mono ?_
  rintro e u10 ⟨rfl, hR, hk⟩
  have HGc10 := Lib.hid (HGs5.out.call hR hk)
  clear hR hk
  go_wp2_with fail
  refine (D11.out u10 HGc10.out.rd).mono ?_
  rintro e u11 ⟨rfl, hR, hk⟩
  have HGc11 := Lib.hid (HGc10.out.call hR hk)
  clear hR hk
  have c9 := blk_cell HGc11.out.blk 9 rfl
  have f9 := blk_free HGc11.out.blk 9
  have c10 := blk_cell HGc11.out.blk 10 rfl
  have f10 := blk_free HGc11.out.blk 10
  have lB := heap_lt HGc11.out.blk
  go_wp2_with fail
  obtain ⟨X6, hW⟩ : ∃ X6, X6 = ((u11.setCell ⟨(w.heap.size + 1), 9, none⟩ (.string t10.1)).setCell ⟨(w.heap.size + 1), 10, none⟩ (.int .i64 t11.1)) := ⟨_, rfl⟩
  rw [← hW]
  have HGs6 : Hid (GS w w.heap.size (w.heap.size + 1) 40 specZ p t11.2 #[.string t1.1, .string t2.1, .int .i64 t3.1, .int .i64 t4.1, .slice ad t5.1.length cp, .int .i64 t6.1, .int .i64 t7.1, .int .i64 t8.1, .int .i64 t9.1, .string t10.1, .int .i64 t11.1] (.slice ad t5.1.length cp) t5.1 X6) := Lib.hid (by rw [hW]; exact ((HGc11.out.set 9 _).set 10 _))
  clear hW lB c9 f9 c10 f10 HGc10 HGc11
  have he := err_any X6 p _ HGs6.out.rd
  cases h0 : (t11.2.e == 0)
  · have h0' : (t11.2.e != 0) = true := by rw [bne, h0]; rfl
    have H0 := Lib.hid h0
    clear h0
    refine he.mono ?_
    rintro e w' ⟨rfl, rfl⟩
    go_wp2_with (first | (refine wpList_store_all _ rfl _ _ _ rfl _ rfl #[.string ⟨#[]⟩, .string ⟨#[]⟩, .int .i64 0, .int .i64 0, .slice none 0 0, .int .i64 0, .int .i64 0, .int .i64 0, .int .i64 0, .string ⟨#[]⟩, .int .i64 0] rfl _ _ HGs6.out.rz ?_ ?_ info_specG ?_ ?_; (focus (simp; done)); (focus (simp [specZ]; done)); (focus (simp [OneCells, Value.oneCell']; done)); rintro W9 hz9 hk9 hs9) | fail)
    refine bodyPost_ret (results_blk rfl _ _ _ _ _ _ rfl hz9 _ Tryz.underlying40 rfl info_specG) rfl ?_
    have q1 := HGs6.out.rs
    have q2 := HGs6.out.ps
    rw [HO.out]
    refine ⟨Sp.zero, .slice none 0 0, rfl, HGs6.out.rd.kept hk9 (fun k hk e => by have e' : k = w.heap.size := e; omega), keeps_after HGs6.out.keeps hk9 (fun k e => by have e' : k = w.heap.size := e; omega), Sl.nil _ _, fun k hk => by simp [Value.ownBlock] at hk, fun h => ?_⟩
    exact absurd h (by simpa using H0.out)
  · have h0' : (t11.2.e != 0) = false := by rw [bne, h0]; rfl
    clear h0
    refine he.mono ?_
    rintro e w' ⟨rfl, rfl⟩
    go_wp2_with (first | (refine wpList_load_all _ rfl _ _ rfl _ rfl _ _ _ _ HGs6.out.blk rfl _ Tryz.underlying40 rfl info_specG ?_) | (refine wpList_store_all _ rfl _ _ _ rfl _ rfl _ rfl _ _ HGs6.out.rz ?_ ?_ info_specG ?_ ?_; (focus (simp; done)); (focus (simp [specZ]; done)); (focus (simp [OneCells, Value.oneCell']; done)); rintro W9 hz9 hk9 hs9) | fail)
    refine bodyPost_ret (results_blk rfl _ _ _ _ _ _ rfl hz9 _ Tryz.underlying40 rfl info_specG) rfl ?_
    have q1 := HGs6.out.rs
    have q2 := HGs6.out.ps
    rw [HO.out]
    exact ⟨_, (.slice ad t5.1.length cp), rfl, HGs6.out.rd.kept hk9 (fun k hk e => by have e' : k = w.heap.size := e; omega), keeps_after HGs6.out.keeps hk9 (fun k e => by have e' : k = w.heap.size := e; omega), HGs6.out.dep.kept hk9 (fun k hk e => (HGs6.out.dnew k hk).2.1 e), fun k hk => (HGs6.out.dnew k hk).1, fun _ => rfl⟩

def jobZ : Array Value := #[.string ⟨#[]⟩, .string ⟨#[]⟩, .int .i64 0, .int .i64 0, .slice none 0 0, .int .i64 0, .int .i64 0, .int .i64 0, .int .i64 0, .string ⟨#[]⟩, .int .i64 0, .int .i64 0, .int .i64 0, .int .u64 0, .int .i64 0, .int .i64 0, .string ⟨#[]⟩, .int .u64 0, .int .i64 0, .int .i64 0, .int .i64 0]
set_option maxRecDepth 100000 in
set_option maxHeartbeats 4000000 in
theorem getJ_any (w : World) (p : Nat) (s : RS) (h : RdAt w p s) :
    Calls Tryz.prog 12 #[.pointer (some ⟨p, 0, none⟩)] w (GotJ p (jobR s).1 (jobR s).2 w) := by
  obtain ⟨t0, h0⟩ : ∃ x, specR s = x := ⟨_, rfl⟩
  obtain ⟨t1, h1⟩ : ∃ x, intR t0.2 = x := ⟨_, rfl⟩
  have D1 : Hid (∀ W, RdAt W p t0.2 → Calls Tryz.prog 9 #[.pointer (some ⟨p, 0, none⟩)] W (RetR (.int .i64 t1.1) p t1.2 W)) := Lib.hid (fun W hW => by rw [← h1]; exact rint_any W p _ hW)
  obtain ⟨t2, h2⟩ : ∃ x, intR t1.2 = x := ⟨_, rfl⟩
  have D2 : Hid (∀ W, RdAt W p t1.2 → Calls Tryz.prog 9 #[.pointer (some ⟨p, 0, none⟩)] W (RetR (.int .i64 t2.1) p t2.2 W)) := Lib.hid (fun W hW => by rw [← h2]; exact rint_any W p _ hW)
  obtain ⟨t3, h3⟩ : ∃ x, nuR t2.2 = x := ⟨_, rfl⟩
  have D3 : Hid (∀ W, RdAt W p t2.2 → Calls Tryz.prog 10 #[.pointer (some ⟨p, 0, none⟩)] W (RetR (.int .u64 t3.1) p t3.2 W)) := Lib.hid (fun W hW => by rw [← h3]; exact rnum_any W p _ hW)
  obtain ⟨t4, h4⟩ : ∃ x, intR t3.2 = x := ⟨_, rfl⟩
  have D4 : Hid (∀ W, RdAt W p t3.2 → Calls Tryz.prog 9 #[.pointer (some ⟨p, 0, none⟩)] W (RetR (.int .i64 t4.1) p t4.2 W)) := Lib.hid (fun W hW => by rw [← h4]; exact rint_any W p _ hW)
  obtain ⟨t5, h5⟩ : ∃ x, intR t4.2 = x := ⟨_, rfl⟩
  have D5 : Hid (∀ W, RdAt W p t4.2 → Calls Tryz.prog 9 #[.pointer (some ⟨p, 0, none⟩)] W (RetR (.int .i64 t5.1) p t5.2 W)) := Lib.hid (fun W hW => by rw [← h5]; exact rint_any W p _ hW)
  obtain ⟨t6, h6⟩ : ∃ x, texR t5.2 = x := ⟨_, rfl⟩
  have D6 : Hid (∀ W, RdAt W p t5.2 → Calls Tryz.prog 36 #[.pointer (some ⟨p, 0, none⟩)] W (RetR (.string t6.1) p t6.2 W)) := Lib.hid (fun W hW => by rw [← h6]; exact text_any W p _ hW)
  obtain ⟨t7, h7⟩ : ∃ x, nuR t6.2 = x := ⟨_, rfl⟩
  have D7 : Hid (∀ W, RdAt W p t6.2 → Calls Tryz.prog 10 #[.pointer (some ⟨p, 0, none⟩)] W (RetR (.int .u64 t7.1) p t7.2 W)) := Lib.hid (fun W hW => by rw [← h7]; exact rnum_any W p _ hW)
  obtain ⟨t8, h8⟩ : ∃ x, intR t7.2 = x := ⟨_, rfl⟩
  have D8 : Hid (∀ W, RdAt W p t7.2 → Calls Tryz.prog 9 #[.pointer (some ⟨p, 0, none⟩)] W (RetR (.int .i64 t8.1) p t8.2 W)) := Lib.hid (fun W hW => by rw [← h8]; exact rint_any W p _ hW)
  obtain ⟨t9, h9⟩ : ∃ x, intR t8.2 = x := ⟨_, rfl⟩
  have D9 : Hid (∀ W, RdAt W p t8.2 → Calls Tryz.prog 9 #[.pointer (some ⟨p, 0, none⟩)] W (RetR (.int .i64 t9.1) p t9.2 W)) := Lib.hid (fun W hW => by rw [← h9]; exact rint_any W p _ hW)
  obtain ⟨t10, h10⟩ : ∃ x, intR t9.2 = x := ⟨_, rfl⟩
  have D10 : Hid (∀ W, RdAt W p t9.2 → Calls Tryz.prog 9 #[.pointer (some ⟨p, 0, none⟩)] W (RetR (.int .i64 t10.1) p t10.2 W)) := Lib.hid (fun W hW => by rw [← h10]; exact rint_any W p _ hW)
  have HO : Hid (jobR s = (⟨t0.1, t1.1, t2.1, t3.1, t4.1, t5.1, t6.1, t7.1, t8.1, t9.1, t10.1⟩, t10.2)) := Lib.hid (by subst h10 h9 h8 h7 h6 h5 h4 h3 h2 h1 h0; rfl)
  have HE : Hid (t10.2.e = 0 → t0.2.e = 0) := Lib.hid (by
    intro hz
    have z10 := (int_backR t9.2 (by rw [h10]; exact hz)).1
    have z9 := (int_backR t8.2 (by rw [h9]; exact (by rw [z10]))).1
    have z8 := (int_backR t7.2 (by rw [h8]; exact (by rw [z9]))).1
    have z7 := (nuR_back t6.2 (by rw [h7]; exact (by rw [z8]))).1
    have z6 := (texR_back t5.2 (by rw [h6]; exact (by rw [z7]))).1
    have z5 := (int_backR t4.2 (by rw [h5]; exact (by rw [z6]))).1
    have z4 := (int_backR t3.2 (by rw [h4]; exact (by rw [z5]))).1
    have z3 := (nuR_back t2.2 (by rw [h3]; exact (by rw [z4]))).1
    have z2 := (int_backR t1.2 (by rw [h2]; exact (by rw [z3]))).1
    have z1 := (int_backR t0.2 (by rw [h1]; exact (by rw [z2]))).1
    rw [z1])
  clear h1 h2 h3 h4 h5 h6 h7 h8 h9 h10
  have hp := h.lt
  have HR := Lib.hid h
  have hG : Calls Tryz.prog 35 #[.pointer (some ⟨p, 0, none⟩)] (w.alloc (.cells #[.string ⟨#[]⟩, .string ⟨#[]⟩, .int .i64 0, .int .i64 0, .slice none 0 0, .int .i64 0, .int .i64 0, .int .i64 0, .int .i64 0, .string ⟨#[]⟩, .int .i64 0, .int .i64 0, .int .i64 0, .int .u64 0, .int .i64 0, .int .i64 0, .string ⟨#[]⟩, .int .u64 0, .int .i64 0, .int .i64 0, .int .i64 0] 42)) (GotP p t0.1 t0.2 (w.alloc (.cells #[.string ⟨#[]⟩, .string ⟨#[]⟩, .int .i64 0, .int .i64 0, .slice none 0 0, .int .i64 0, .int .i64 0, .int .i64 0, .int .i64 0, .string ⟨#[]⟩, .int .i64 0, .int .i64 0, .int .i64 0, .int .u64 0, .int .i64 0, .int .i64 0, .string ⟨#[]⟩, .int .u64 0, .int .i64 0, .int .i64 0, .int .i64 0] 42))) := by rw [← h0]; exact getP_any _ p s (h.alloc _)
  have HGT := Lib.hid hG
  clear h hG h0
  go_enter Tryz.func12, Tryz.ntmps12
  go_wp2_with fail
  refine HGT.out.mono ?_
  rintro e v0 ⟨y, dv, rfl, hR, hk, hsl, hnew, hy⟩
  obtain ⟨ad, cp, rfl, _⟩ := id hsl
  obtain ⟨dn, hdn⟩ : ∃ dn, dn = y.deps.length := ⟨_, rfl⟩
  rw [← hdn] at hsl hnew
  have HY := Lib.hid hy
  have HS := Lib.hid hsl
  have HN := Lib.hid hnew
  have HK := Lib.hid hk
  have HRD := Lib.hid hR
  have HRZ : Hid (v0.heap[w.heap.size]? = some (.cells #[.string ⟨#[]⟩, .string ⟨#[]⟩, .int .i64 0, .int .i64 0, .slice none 0 0, .int .i64 0, .int .i64 0, .int .i64 0, .int .i64 0, .string ⟨#[]⟩, .int .i64 0, .int .i64 0, .int .i64 0, .int .u64 0, .int .i64 0, .int .i64 0, .string ⟨#[]⟩, .int .u64 0, .int .i64 0, .int .i64 0, .int .i64 0] 42 (0, 0))) := Lib.hid (hk.heap (by omega) (heap_new _ _))
  have hsz : w.heap.size + 1 ≤ v0.heap.size := by have := hk.size; simpa using this
  have HDN := Lib.hid hdn
  clear hy hR hk hsl hnew hdn
  obtain ⟨ya, yb, yc, yd, ye, yf, yg, yh, yi, yj, yk⟩ := y
  simp only at HS HDN
  unfold Sp.v Sp.cells
  simp only
  rw [← HDN.out]
  go_wp2_with (first | (refine wpList_store_fresh _ rfl _ _ _ rfl _ rfl _ rfl v0 _ _ rfl rfl ?_ ?_ info_jobG ?_ ?_; (focus (simp; done)); (focus (simp; done)); (focus (simp [OneCells, Value.oneCell']; done))) | fail)
  obtain ⟨W0, hW⟩ : ∃ W0, W0 = v0.alloc (.cells #[.string ya, .string yb, .int .i64 yc, .int .i64 yd, .slice ad dn cp, .int .i64 yf, .int .i64 yg, .int .i64 yh, .int .i64 yi, .string yj, .int .i64 yk, .int .i64 0, .int .i64 0, .int .u64 0, .int .i64 0, .int .i64 0, .string ⟨#[]⟩, .int .u64 0, .int .i64 0, .int .i64 0, .int .i64 0] 42) := ⟨_, rfl⟩
  rw [← hW]
  obtain ⟨b, hb⟩ : ∃ b, b = v0.heap.size := ⟨_, rfl⟩
  rw [← hb]
  have HG0 : Hid (GS w w.heap.size b 42 jobZ p t0.2 #[.string ya, .string yb, .int .i64 yc, .int .i64 yd, .slice ad dn cp, .int .i64 yf, .int .i64 yg, .int .i64 yh, .int .i64 yi, .string yj, .int .i64 yk, .int .i64 0, .int .i64 0, .int .u64 0, .int .i64 0, .int .i64 0, .string ⟨#[]⟩, .int .u64 0, .int .i64 0, .int .i64 0, .int .i64 0] (.slice ad dn cp) ye W0) := Lib.hid (by
    rw [hW]
    refine ⟨by rw [hb]; exact heap_new _ _, aheap HRZ.out _, HRD.out.alloc _, ((((Keeps.refl _ _).alloc _).trans HK.out)).alloc _, HS.out.alloc _, fun k hk => ?_, by omega, hp, Nat.le_refl _, by omega⟩
    have h1 := HN.out k hk
    have h2 := HS.out.row_lt k hk
    simp at h1
    omega)
  clear hW hb HRD HRZ HK HS HN
  refine (D1.out W0 HG0.out.rd).mono ?_
  rintro e u1 ⟨rfl, hR, hk⟩
  have HGc1 := Lib.hid (HG0.out.call hR hk)
  clear hR hk
  go_wp2_with fail
  refine (D2.out u1 HGc1.out.rd).mono ?_
  rintro e u2 ⟨rfl, hR, hk⟩
  have HGc2 := Lib.hid (HGc1.out.call hR hk)
  clear hR hk
  have c11 := blk_cell HGc2.out.blk 11 rfl
  have f11 := blk_free HGc2.out.blk 11
  have c12 := blk_cell HGc2.out.blk 12 rfl
  have f12 := blk_free HGc2.out.blk 12
  have lB := heap_lt HGc2.out.blk
  go_wp2_with fail
  obtain ⟨X1, hW⟩ : ∃ X1, X1 = ((u2.setCell ⟨b, 11, none⟩ (.int .i64 t1.1)).setCell ⟨b, 12, none⟩ (.int .i64 t2.1)) := ⟨_, rfl⟩
  rw [← hW]
  have HGs1 : Hid (GS w w.heap.size b 42 jobZ p t2.2 #[.string ya, .string yb, .int .i64 yc, .int .i64 yd, .slice ad dn cp, .int .i64 yf, .int .i64 yg, .int .i64 yh, .int .i64 yi, .string yj, .int .i64 yk, .int .i64 t1.1, .int .i64 t2.1, .int .u64 0, .int .i64 0, .int .i64 0, .string ⟨#[]⟩, .int .u64 0, .int .i64 0, .int .i64 0, .int .i64 0] (.slice ad dn cp) ye X1) := Lib.hid (by rw [hW]; exact ((HGc2.out.set 11 _).set 12 _))
  clear hW lB c11 f11 c12 f12 HGc1 HGc2
  refine (D3.out X1 HGs1.out.rd).mono ?_
  rintro e u3 ⟨rfl, hR, hk⟩
  have HGc3 := Lib.hid (HGs1.out.call hR hk)
  clear hR hk
  go_wp2_with fail
  refine (D4.out u3 HGc3.out.rd).mono ?_
  rintro e u4 ⟨rfl, hR, hk⟩
  have HGc4 := Lib.hid (HGc3.out.call hR hk)
  clear hR hk
  have c13 := blk_cell HGc4.out.blk 13 rfl
  have f13 := blk_free HGc4.out.blk 13
  have c14 := blk_cell HGc4.out.blk 14 rfl
  have f14 := blk_free HGc4.out.blk 14
  have lB := heap_lt HGc4.out.blk
  go_wp2_with fail
  obtain ⟨X2, hW⟩ : ∃ X2, X2 = ((u4.setCell ⟨b, 13, none⟩ (.int .u64 t3.1)).setCell ⟨b, 14, none⟩ (.int .i64 t4.1)) := ⟨_, rfl⟩
  rw [← hW]
  have HGs2 : Hid (GS w w.heap.size b 42 jobZ p t4.2 #[.string ya, .string yb, .int .i64 yc, .int .i64 yd, .slice ad dn cp, .int .i64 yf, .int .i64 yg, .int .i64 yh, .int .i64 yi, .string yj, .int .i64 yk, .int .i64 t1.1, .int .i64 t2.1, .int .u64 t3.1, .int .i64 t4.1, .int .i64 0, .string ⟨#[]⟩, .int .u64 0, .int .i64 0, .int .i64 0, .int .i64 0] (.slice ad dn cp) ye X2) := Lib.hid (by rw [hW]; exact ((HGc4.out.set 13 _).set 14 _))
  clear hW lB c13 f13 c14 f14 HGc3 HGc4
  refine (D5.out X2 HGs2.out.rd).mono ?_
  rintro e u5 ⟨rfl, hR, hk⟩
  have HGc5 := Lib.hid (HGs2.out.call hR hk)
  clear hR hk
  go_wp2_with fail
  refine (D6.out u5 HGc5.out.rd).mono ?_
  rintro e u6 ⟨rfl, hR, hk⟩
  have HGc6 := Lib.hid (HGc5.out.call hR hk)
  clear hR hk
  have c15 := blk_cell HGc6.out.blk 15 rfl
  have f15 := blk_free HGc6.out.blk 15
  have c16 := blk_cell HGc6.out.blk 16 rfl
  have f16 := blk_free HGc6.out.blk 16
  have lB := heap_lt HGc6.out.blk
  go_wp2_with fail
  obtain ⟨X3, hW⟩ : ∃ X3, X3 = ((u6.setCell ⟨b, 15, none⟩ (.int .i64 t5.1)).setCell ⟨b, 16, none⟩ (.string t6.1)) := ⟨_, rfl⟩
  rw [← hW]
  have HGs3 : Hid (GS w w.heap.size b 42 jobZ p t6.2 #[.string ya, .string yb, .int .i64 yc, .int .i64 yd, .slice ad dn cp, .int .i64 yf, .int .i64 yg, .int .i64 yh, .int .i64 yi, .string yj, .int .i64 yk, .int .i64 t1.1, .int .i64 t2.1, .int .u64 t3.1, .int .i64 t4.1, .int .i64 t5.1, .string t6.1, .int .u64 0, .int .i64 0, .int .i64 0, .int .i64 0] (.slice ad dn cp) ye X3) := Lib.hid (by rw [hW]; exact ((HGc6.out.set 15 _).set 16 _))
  clear hW lB c15 f15 c16 f16 HGc5 HGc6
  refine (D7.out X3 HGs3.out.rd).mono ?_
  rintro e u7 ⟨rfl, hR, hk⟩
  have HGc7 := Lib.hid (HGs3.out.call hR hk)
  clear hR hk
  go_wp2_with fail
  refine (D8.out u7 HGc7.out.rd).mono ?_
  rintro e u8 ⟨rfl, hR, hk⟩
  have HGc8 := Lib.hid (HGc7.out.call hR hk)
  clear hR hk
  have c17 := blk_cell HGc8.out.blk 17 rfl
  have f17 := blk_free HGc8.out.blk 17
  have c18 := blk_cell HGc8.out.blk 18 rfl
  have f18 := blk_free HGc8.out.blk 18
  have lB := heap_lt HGc8.out.blk
  go_wp2_with fail
  obtain ⟨X4, hW⟩ : ∃ X4, X4 = ((u8.setCell ⟨b, 17, none⟩ (.int .u64 t7.1)).setCell ⟨b, 18, none⟩ (.int .i64 t8.1)) := ⟨_, rfl⟩
  rw [← hW]
  have HGs4 : Hid (GS w w.heap.size b 42 jobZ p t8.2 #[.string ya, .string yb, .int .i64 yc, .int .i64 yd, .slice ad dn cp, .int .i64 yf, .int .i64 yg, .int .i64 yh, .int .i64 yi, .string yj, .int .i64 yk, .int .i64 t1.1, .int .i64 t2.1, .int .u64 t3.1, .int .i64 t4.1, .int .i64 t5.1, .string t6.1, .int .u64 t7.1, .int .i64 t8.1, .int .i64 0, .int .i64 0] (.slice ad dn cp) ye X4) := Lib.hid (by rw [hW]; exact ((HGc8.out.set 17 _).set 18 _))
  clear hW lB c17 f17 c18 f18 HGc7 HGc8
  refine (D9.out X4 HGs4.out.rd).mono ?_
  rintro e u9 ⟨rfl, hR, hk⟩
  have HGc9 := Lib.hid (HGs4.out.call hR hk)
  clear hR hk
  go_wp2_with fail
  refine (D10.out u9 HGc9.out.rd).mono ?_
  rintro e u10 ⟨rfl, hR, hk⟩
  have HGc10 := Lib.hid (HGc9.out.call hR hk)
  clear hR hk
  have c19 := blk_cell HGc10.out.blk 19 rfl
  have f19 := blk_free HGc10.out.blk 19
  have c20 := blk_cell HGc10.out.blk 20 rfl
  have f20 := blk_free HGc10.out.blk 20
  have lB := heap_lt HGc10.out.blk
  go_wp2_with fail
  obtain ⟨X5, hW⟩ : ∃ X5, X5 = ((u10.setCell ⟨b, 19, none⟩ (.int .i64 t9.1)).setCell ⟨b, 20, none⟩ (.int .i64 t10.1)) := ⟨_, rfl⟩
  rw [← hW]
  have HGs5 : Hid (GS w w.heap.size b 42 jobZ p t10.2 #[.string ya, .string yb, .int .i64 yc, .int .i64 yd, .slice ad dn cp, .int .i64 yf, .int .i64 yg, .int .i64 yh, .int .i64 yi, .string yj, .int .i64 yk, .int .i64 t1.1, .int .i64 t2.1, .int .u64 t3.1, .int .i64 t4.1, .int .i64 t5.1, .string t6.1, .int .u64 t7.1, .int .i64 t8.1, .int .i64 t9.1, .int .i64 t10.1] (.slice ad dn cp) ye X5) := Lib.hid (by rw [hW]; exact ((HGc10.out.set 19 _).set 20 _))
  clear hW lB c19 f19 c20 f20 HGc9 HGc10
  have he := err_any X5 p _ HGs5.out.rd
  cases h0 : (t10.2.e == 0)
  · have h0' : (t10.2.e != 0) = true := by rw [bne, h0]; rfl
    have H0 := Lib.hid h0
    clear h0
    refine he.mono ?_
    rintro e w' ⟨rfl, rfl⟩
    go_wp2_with (first | (refine wpList_store_all _ rfl _ _ _ rfl _ rfl #[.string ⟨#[]⟩, .string ⟨#[]⟩, .int .i64 0, .int .i64 0, .slice none 0 0, .int .i64 0, .int .i64 0, .int .i64 0, .int .i64 0, .string ⟨#[]⟩, .int .i64 0, .int .i64 0, .int .i64 0, .int .u64 0, .int .i64 0, .int .i64 0, .string ⟨#[]⟩, .int .u64 0, .int .i64 0, .int .i64 0, .int .i64 0] rfl _ _ HGs5.out.rz ?_ ?_ info_jobG ?_ ?_; (focus (simp; done)); (focus (simp [specZ, jobZ]; done)); (focus (simp [OneCells, Value.oneCell']; done)); rintro W9 hz9 hk9 hs9) | fail)
    refine bodyPost_ret (results_blk rfl _ _ _ _ _ _ rfl hz9 _ Tryz.underlying42 rfl info_jobG) rfl ?_
    have q1 := HGs5.out.rs
    have q2 := HGs5.out.ps
    rw [HO.out]
    refine ⟨Jb.zero, .slice none 0 0, rfl, HGs5.out.rd.kept hk9 (fun k hk e => by have e' : k = w.heap.size := e; omega), keeps_after HGs5.out.keeps hk9 (fun k e => by have e' : k = w.heap.size := e; omega), Sl.nil _ _, fun k hk => by simp [Value.ownBlock] at hk, fun h => ?_⟩
    exact absurd h (by simpa using H0.out)
  · have h0' : (t10.2.e != 0) = false := by rw [bne, h0]; rfl
    clear h0
    refine he.mono ?_
    rintro e w' ⟨rfl, rfl⟩
    go_wp2_with (first | (refine wpList_load_all _ rfl _ _ rfl _ rfl _ _ _ _ HGs5.out.blk rfl _ Tryz.underlying42 rfl info_jobG ?_) | (refine wpList_store_all _ rfl _ _ _ rfl _ rfl _ rfl _ _ HGs5.out.rz ?_ ?_ info_jobG ?_ ?_; (focus (simp; done)); (focus (simp [specZ, jobZ]; done)); (focus (simp [OneCells, Value.oneCell']; done)); rintro W9 hz9 hk9 hs9) | fail)
    refine bodyPost_ret (results_blk rfl _ _ _ _ _ _ rfl hz9 _ Tryz.underlying42 rfl info_jobG) rfl ?_
    have q1 := HGs5.out.rs
    have q2 := HGs5.out.ps
    rw [HO.out]
    exact ⟨⟨⟨ya, yb, yc, yd, ye, yf, yg, yh, yi, yj, yk⟩, t1.1, t2.1, t3.1, t4.1, t5.1, t6.1, t7.1, t8.1, t9.1, t10.1⟩, (.slice ad dn cp), rfl, HGs5.out.rd.kept hk9 (fun k hk e => by have e' : k = w.heap.size := e; omega), keeps_after HGs5.out.keeps hk9 (fun k e => by have e' : k = w.heap.size := e; omega), HGs5.out.dep.kept hk9 (fun k hk e => (HGs5.out.dnew k hk).2.1 e), fun k hk => (HGs5.out.dnew k hk).1, fun hz => by rw [HY.out (HE.out hz)]⟩

end Go.Proofs.YtheipmallojdkaaGreatDoor

/- Package entry: Term, At and Add. Who may be members: the program's two tests of it. Package command: members as bytes. -/
import Derived.Test.YtdjooojpcepleaaGreatRsM03
import Derived.Deep.AppendLies
import Derived.Deep.RegionLaw

namespace Go.Proofs.YtdjooojpcepleaaGreat
section
open Go.RowKit
structure LogOk (ix tm : Int) (es : List Ent) : Prop where
 ixs : ∀ (k : Nat) (e : Ent), es[k]? = some e → e.ix = ix + (k : Int) + 1
 lo : 0 ≤ ix
 hi : ix + es.length ≤ 9223372036854775807
 tmlo : 0 ≤ tm
 tms : ∀ e ∈ es, 0 ≤ e.tm ∧ e.tm ≤ 18446744073709551615
 tmhi : tm ≤ 18446744073709551615
theorem LogOk.last {ix tm : Int} {es : List Ent} (h : LogOk ix tm es) : lastIx ix es = ix + es.length := by
 unfold lastIx
 rcases Nat.eq_zero_or_pos es.length with h0 | h0
 ·have hes : es = [] := List.eq_nil_of_length_eq_zero h0
  subst hes; simp
 ·obtain ⟨k, hk⟩ : ∃ k, es.length = k + 1 := ⟨es.length - 1, by omega⟩
  obtain ⟨e, he⟩ : ∃ e, es[k]? = some e := ⟨es[k], List.getElem?_eq_getElem (by omega)⟩
  have hl : es.getLast? = some e := by rw [List.getLast?_eq_getElem?, hk]; exact he
  rw [hl, hk]
  have := h.ixs k e he
  simp
  omega
theorem LogOk.lastT {ix tm : Int} {es : List Ent} (h : LogOk ix tm es) : 0 ≤ lT tm es ∧ lT tm es ≤ 18446744073709551615 := by
 unfold lT
 cases hl : es.getLast? with
 | none => exact ⟨h.tmlo, h.tmhi⟩
 | some e => exact h.tms e (List.mem_of_getLast? hl)
section
variable (w : World) (t : Nat) (r : Option Nat) (ix tm : Int) (es : List Ent) (h : LogAt w t r ix tm es) (ok : LogOk ix tm es)
include h ok
theorem last_any : Calls Tryz.prog 33 #[.pointer (some ⟨t, 0, none⟩)] w (RetB (.tuple #[.int .u64 (ix + es.length), .int .u64 (lT tm es)]) w) := by
 have := last_any' w t r ix tm es h
 rwa [ok.last] at this
theorem term_no (i : Int) (e : Int) (hi : i < ix ∧ e = 20 ∨ ix + (es.length : Int) < i ∧ e = 7) :
  Calls Tryz.prog 52 #[.pointer (some ⟨t, 0, none⟩), .int .u64 i] w (RetB (.tuple #[.int .u64 0, .int .i64 e]) w) := by
 have hl := last_any w t r ix tm es h ok
 have H : Hid (∀ W, Below w.heap.size w W → LogAt W t r ix tm es) := hI fun W hW => h.below hW
 have hx := ok.lo
 clear h ok
 generalize lT tm es = lt at *
 have hln : (0 : Int) ≤ (es.length : Int) := by omega
 have HLN := hI hln
 clear hln
 rcases hi with ⟨hi, rfl⟩ | ⟨hi, rfl⟩
 ·go_enter Tryz.func52, Tryz.ntmps52
  go_wp2_with fail
  refine hl.mono ?_
  rintro e w1 ⟨rfl, hb⟩
  obtain ⟨a, cap, hbx⟩ := (H.out w1 hb).slice
  have c0 := bC hbx 0 rfl
  clear hbx
  go_wp2_with fail
  go_ret2
  exact RetB.mk rfl hb
 ·by_cases hi2 : i < ix
  ·exfalso; have := HLN.out; omega
  ·go_enter Tryz.func52, Tryz.ntmps52
   go_wp2_with fail
   refine hl.mono ?_
   rintro e w1 ⟨rfl, hb⟩
   obtain ⟨a, cap, hbx⟩ := (H.out w1 hb).slice
   have c0 := bC hbx 0 rfl
   clear hbx
   go_wp2_with fail
   go_ret2
   exact RetB.mk rfl hb
theorem term_base : Calls Tryz.prog 52 #[.pointer (some ⟨t, 0, none⟩), .int .u64 ix] w (RetB (.tuple #[.int .u64 tm, .int .i64 0]) w) := by
 have hl := last_any w t r ix tm es h ok
 have H : Hid (∀ W, Below w.heap.size w W → LogAt W t r ix tm es) := hI fun W hW => h.below hW
 have hle : ix ≤ ix + (es.length : Int) := by omega
 clear h ok
 generalize lT tm es = lt at *
 generalize ix + (es.length : Int) = li at *
 go_enter Tryz.func52, Tryz.ntmps52
 go_wp2_with fail
 refine hl.mono ?_
 rintro e w1 ⟨rfl, hb⟩
 obtain ⟨a, cap, hbx⟩ := (H.out w1 hb).slice
 have c0 := bC hbx 0 rfl
 have c1 := bC hbx 1 rfl
 clear hbx
 go_wp2_with fail
 go_ret2
 exact RetB.mk rfl hb
theorem term_at (k : Nat) (e : Ent) (he : es[k]? = some e) (i : Int) (hi : i = ix + (k : Int) + 1) :
  Calls Tryz.prog 52 #[.pointer (some ⟨t, 0, none⟩), .int .u64 i] w (RetB (.tuple #[.int .u64 e.tm, .int .i64 0]) w) := by
 have hl := last_any w t r ix tm es h ok
 have H : Hid (∀ W, Below w.heap.size w W → LogAt W t r ix tm es) := hI fun W hW => h.below hW
 have HE := hI he
 have hk := (List.getElem?_eq_some_iff.1 he).1
 have hx := ok.lo
 have hx2 := ok.hi
 have h1 : i ≤ ix + (es.length : Int) := by omega
 have h2 : ix < i := by omega
 have h3 : (i == ix) = false := by rw [beq_eq_false_iff_ne]; omega
 have h4 : IntKind.u64.wrap (i - ix) = (k : Int) + 1 := by rw [show i - ix = (k : Int) + 1 by omega]; exact IntWalk.u64_in _ (by omega)
 have h5 : IntKind.u64.wrap (k : Int) = (k : Int) := IntWalk.u64_in _ (by omega)
 have h6 : (0 : Int) ≤ (k : Int) := by omega
 have h7 : (k : Int) < (es.length : Int) := by omega
 have hi0 : 0 ≤ i := by omega
 have hi1 : i ≤ 9223372036854775807 := by omega
 have HI := hI hi
 clear h ok he hi hk
 generalize lT tm es = lt at *
 go_enter Tryz.func52, Tryz.ntmps52
 go_wp2_with fail
 refine hl.mono ?_
 rintro e w1 ⟨rfl, hb⟩
 obtain ⟨g, cap, rfl, hbx, hc, hm, d0, d1, d2, d3⟩ := (H.out w1 hb).at HE.out
 have c0 := bC hbx 0 rfl
 have c2 := bC hbx 2 rfl
 clear hbx d0 d2 d3 hl
 go_wp2_with fail
 go_quiet (fail)
 go_wp2
 go_ret2
 exact RetB.mk rfl (belowDN hb _)
end
def NewEnt (w : World) (e : Ent) (P : Value → Value) (en : Ending) (w' : World) : Prop :=
 ∃ v, en = .returned (P (.agg #[.int .u64 e.ix, .int .u64 e.tm, .bool e.cf, v])) ∧ Below w.heap.size w w' ∧ Sl u8v w' v e.d ∧ ∀ k, v.ownBlock = some k → w.heap.size ≤ k
theorem cloneE_any (w : World) (e : Ent) (hs : Sl u8v w e.v e.d) (hl : e.d.length ≤ 70368744177664) :
  Calls Tryz.prog 55 #[.agg #[.int .u64 e.ix, .int .u64 e.tm, .bool e.cf, e.v]] w (NewEnt w e id) := by
 obtain ⟨da, dc, hv, _⟩ := id hs
 rw [hv] at hs ⊢
 have hcl := fun W (hW : Sl u8v W (.slice da e.d.length dc) e.d) => clone_any W da _ dc e.d hW hl
 clear hv hl
 go_enter Tryz.func55, Tryz.ntmps55
 go_wp2_with fail
 refine (hcl _ ((hs.alloc _).alloc _)).mono ?_
 rintro en w1 ⟨v, rfl, hb, hs1, _, hnew⟩
 obtain ⟨va, vc, rfl, _⟩ := id hs1
 have hsz := hb.size
 simp at hsz
 have hx := bH hb (aheap (bW w (.cells #[.int .u64 e.ix, .int .u64 e.tm, .bool e.cf, .slice da e.d.length dc] 47)) _) (by simp; omega)
 have hy := bH hb (bW (w.alloc (.cells #[.int .u64 e.ix, .int .u64 e.tm, .bool e.cf, .slice da e.d.length dc] 47)) (.cells #[.int .u64 0, .int .u64 0, .bool false, .slice none 0 0] 47)) (by simp)
 have c0 := bC hx 0 rfl
 have c1 := bC hx 1 rfl
 have c2 := bC hx 2 rfl
 have c3 := bC hx 3 rfl
 have f3 := bF hx 3
 have y0 := bC hy 0 rfl
 have y1 := bC hy 1 rfl
 have y2 := bC hy 2 rfl
 have y3 := bC hy 3 rfl
 have g0 := bF hy 0
 have g1 := bF hy 1
 have g2 := bF hy 2
 have g3 := bF hy 3
 simp only [World.size_alloc] at y0 y1 y2 y3 g0 g1 g2 g3
 clear hx hy hcl
 go_wp2
 have hk : Below w.heap.size w w1 := ((((Below.refl _ w).alloc nL _).alloc (by simp) _).trans (hb.mono (by simp; omega)))
 refine bodyPost_ret (v := .agg #[.int .u64 e.ix, .int .u64 e.tm, .bool e.cf, .slice va e.d.length vc]) (by simp [results, Tryz.results55, go_sem, y0, y1, y2, y3]) rfl ⟨.slice va e.d.length vc, rfl, ?_, ?_, fun k hk => by have := hnew k hk; simp at this; omega⟩
 ·exact (((((hk.setCell (by simp) _).setCell (by simp) _).setCell (by simp) _).setCell (by simp) _).setCell (by simp) _)
 ·have hne : ∀ k, (Value.slice va e.d.length vc).ownBlock = some k → w.heap.size + 2 ≤ k := fun k hk => by have := hnew k hk; simp at this; omega
  have h1 : ∀ b, b < w.heap.size + 2 → (Value.slice va e.d.length vc).ownBlock ≠ some b := fun b hb e => by have := hne b e; omega
  exact (((((hs1.setCell (h1 _ (by simp)) _).setCell (h1 _ (by simp)) _).setCell (h1 _ (by simp)) _).setCell (h1 _ (by simp)) _).setCell (h1 _ (by simp)) _)
def AtR (w : World) (e : Ent) (en : Ending) (w' : World) : Prop :=
 ∃ a cap, en = .returned (.tuple #[.agg #[.int .u64 e.ix, .int .u64 e.tm, .bool e.cf, .slice a e.d.length cap], .int .i64 0]) ∧ Below w.heap.size w w' ∧ Sl u8v w' (.slice a e.d.length cap) e.d
set_option maxRecDepth 100000 in
theorem at_any (w : World) (t : Nat) (r : Option Nat) (ix tm : Int) (es : List Ent) (h : LogAt w t r ix tm es) (ok : LogOk ix tm es) (k : Nat) (e : Ent) (he : es[k]? = some e) (i : Int) (hi : i = ix + (k : Int) + 1) (hl : e.d.length ≤ 70368744177664) :
  Calls Tryz.prog 79 #[.pointer (some ⟨t, 0, none⟩), .int .u64 i] w (AtR w e) := by
 have hk := (List.getElem?_eq_some_iff.1 he).1
 have hx := ok.lo
 have hx2 := ok.hi
 have H : Hid (∀ W, Below w.heap.size w W → LogAt W t r ix tm es) := hI fun W hW => h.below hW
 have hT := fun (W : World) (hW : Below w.heap.size w W) => term_at W t r ix tm es (h.below hW) ok k e he i hi
 have HT := hI hT
 have HE := hI he
 have HL := hI hl
 have h3 : (i == ix) = false := by rw [beq_eq_false_iff_ne]; omega
 have h4 : IntKind.u64.wrap (i - ix) = (k : Int) + 1 := by rw [show i - ix = (k : Int) + 1 by omega]; exact IntWalk.u64_in _ (by omega)
 have h5 : IntKind.u64.wrap (k : Int) = (k : Int) := IntWalk.u64_in _ (by omega)
 have h6 : (0 : Int) ≤ (k : Int) := by omega
 have h7 : (k : Int) < (es.length : Int) := by omega
 have hi0 : 0 ≤ i := by omega
 have hi1 : i ≤ 9223372036854775807 := by omega
 clear h ok he hT hi hk hl
 go_enter Tryz.func79, Tryz.ntmps79
 go_wp2_with fail
 have hb0 := (Below.refl w.heap.size w).alloc nL (.cells #[.int .u64 0, .int .u64 0, .bool false, .slice none 0 0] 47)
 refine (HT.out _ hb0).mono ?_
 rintro en w1 ⟨rfl, hb⟩
 have hy := bH hb (bW w (.cells #[.int .u64 0, .int .u64 0, .bool false, .slice none 0 0] 47)) (by simp)
 have hb1 := hb0.trans (hb.mono (by simp))
 obtain ⟨g, cap, hr, hbx, hc, hm, d0, d1, d2, d3⟩ := (H.out w1 hb1).at HE.out
 have hsd := ((H.out w1 hb1).data e (List.mem_of_getElem? HE.out)).1
 have c0 := bC hbx 0 rfl
 have c2 := bC hbx 2 rfl
 have hsz := hb1.size
 have hlt := heap_lt hy
 clear hbx hb0 hb
 have HY := hI hy
 have HB1 := hI hb1
 clear hy hb1 hr
 obtain ⟨da, dc, hv, _⟩ := id hsd
 rw [hv] at d3
 have hce := fun W hW => cloneE_any W e hW HL.out
 rw [hv] at hce hsd
 clear hv
 go_wp2_with fail
 refine still_tail 13 (by kernel_rfl) (by kernel_rfl) ?_
 intro W hW
 have HW : Hid (W = w1.drew) := hI hW
 replace hsd : Sl u8v W (.slice da e.d.length dc) e.d := by rw [hW]; exact hsd
 replace c0 : W.cell? ⟨t, 0, none⟩ = some (.int .u64 ix) := by rw [hW]; exact c0
 replace c2 : W.cell? ⟨t, 2, none⟩ = some (.slice (some ⟨g, 0, none⟩) es.length cap) := by rw [hW]; exact c2
 replace d0 : W.cell? ⟨g, k * 4, none⟩ = some (.int .u64 e.ix) := by rw [hW]; exact d0
 replace d1 : W.cell? ⟨g, k * 4 + 1, none⟩ = some (.int .u64 e.tm) := by rw [hW]; exact d1
 replace d2 : W.cell? ⟨g, k * 4 + 2, none⟩ = some (.bool e.cf) := by rw [hW]; exact d2
 replace d3 : W.cell? ⟨g, k * 4 + 3, none⟩ = some (.slice da e.d.length dc) := by rw [hW]; exact d3
 clear hW
 simp only [List.take_succ_cons, List.take_zero, List.drop_succ_cons, List.drop_zero]
 repeat still_step
 refine wpStill_nil ?_
 have hcw := hce W hsd
 have hbW : Below w.heap.size w W := by rw [HW.out]; exact bD HB1.out
 have hyW : W.heap[w.heap.size]? = some (.cells #[.int .u64 0, .int .u64 0, .bool false, .slice none 0 0] 47 (0, 0)) := by rw [HW.out]; exact HY.out
 have hszW := hbW.size
 have hltW := heap_lt hyW
 clear hce hsd c0 c2 d0 d1 d2 d3
 go_wp2_with fail
 refine hcw.mono ?_
 rintro en w2 ⟨v, rfl, hb2, hs2, hnew⟩
 obtain ⟨va, vc, rfl, _⟩ := id hs2
 have hy2 := bH hb2 hyW hltW
 have y0 := bC hy2 0 rfl
 have y1 := bC hy2 1 rfl
 have y2 := bC hy2 2 rfl
 have y3 := bC hy2 3 rfl
 have g0 := bF hy2 0
 have g1 := bF hy2 1
 have g2 := bF hy2 2
 have g3 := bF hy2 3
 have hB2 := hbW.trans (hb2.mono hszW)
 have hS2 : ∀ k, (Value.slice va e.d.length vc).ownBlock = some k → w.heap.size < k := fun k hk => by have := hnew k hk; omega
 have HB2 := hI hB2
 have HSS := hI hs2
 clear hy2 hb2 hs2 hB2 hnew hyW hbW hcw
 go_wp2
 refine bodyPost_ret (v := .tuple #[.agg #[.int .u64 e.ix, .int .u64 e.tm, .bool e.cf, .slice va e.d.length vc], .int .i64 0]) (by simp [results, Tryz.results79, go_sem, y0, y1, y2, y3]) rfl ⟨va, vc, rfl, ?_, ?_⟩
 ·exact (((HB2.out.setCell (by simp) _).setCell (by simp) _).setCell (by simp) _).setCell (by simp) _
 ·have h1 : (Value.slice va e.d.length vc).ownBlock ≠ some w.heap.size := fun e => by have := hS2 _ e; omega
  exact (((HSS.out.setCell h1 _).setCell h1 _).setCell h1 _).setCell h1 _
def AddR (w : World) (t : Nat) (r : Option Nat) (ix tm term : Int) (cf : Bool) (d : List UInt8) (es : List Ent) (en : Ending) (w' : World) : Prop :=
 ∃ v r', en = .returned (.tuple #[.int .u64 (ix + es.length + 1), .int .i64 0]) ∧ LogAt w' t r' ix tm (es ++ [⟨ix + es.length + 1, term, cf, v, d⟩]) ∧ Keeps (fun k => k = t ∨ r = some k) w w' ∧ (∀ k, v.ownBlock = some k → w.heap.size ≤ k) ∧ (r' = r ∨ ∃ k, r' = some k ∧ w.heap.size ≤ k)
theorem info_entry : (Tryz.prog.info? 47).map (fun i => (i.zero, i.size, i.bytes)) = some (some (.agg #[.int .u64 0, .int .u64 0, .bool false, .slice none 0 0]), 4, 48) := by kernel_rfl
theorem LogAt.owns {w : World} {t : Nat} {r : Option Nat} {ix tm : Int} {es : List Ent} (h : LogAt w t r ix tm es) {a : Option Addr} {cap : Nat} (hb : w.heap[t]? = some (.cells #[.int .u64 ix, .int .u64 tm, .slice a es.length cap] 99 (0, 0))) :
  w.ownsRow 0 47 4 (.slice a es.length cap) es.length (entCells es) ∧ (Value.slice a es.length cap).ownBlock = r := by
 obtain ⟨v, h1, h2, h3⟩ := h.box
 rw [h1] at hb
 simp at hb
 subst hb
 exact ⟨h2, h3⟩
theorem LogAt.push {w w2 w3 : World} {t : Nat} {r : Option Nat} {ix tm : Int} {es : List Ent} (h : LogAt w2 t r ix tm es) (hB : Below w.heap.size w w2) (ht : t < w.heap.size) (hrl : ∀ k, r = some k → k < w.heap.size) {a : Option Addr} {cap : Nat}
  (hbx : w2.heap[t]? = some (.cells #[.int .u64 ix, .int .u64 tm, .slice a es.length cap] 99 (0, 0))) {ob : Obj} {gg cp : Nat} {e : Ent} (hs : Sl u8v w2 e.v e.d) (hnew : ∀ k, e.v.ownBlock = some k → w.heap.size ≤ k)
  (hown : w3.ownsRow 0 47 4 (.slice (some ⟨gg, 0, none⟩) (es.length + 1) cp) (es.length + 1) (entCells es ++ e.cells)) (hg : (w2.alloc ob).grownBy w3 r) (hat : r = some gg ∨ gg = w2.heap.size + 1) :
  LogAt (w3.setCell ⟨t, 2, none⟩ (.slice (some ⟨gg, 0, none⟩) (es.length + 1) cp)) t (some gg) ix tm (es ++ [e]) ∧ Keeps (fun k => k = t ∨ r = some k) w (w3.setCell ⟨t, 2, none⟩ (.slice (some ⟨gg, 0, none⟩) (es.length + 1) cp)) := by
 have hk3 : Keeps (fun k => r = some k) w2 w3 := ((Keeps.refl (fun k => r = some k) w2).alloc ob).trans (gK hg fun k hk => hk.symm)
 have hsz := hB.size
 have hbx3 := hk3.heap h.rt hbx
 have hgt : gg ≠ t := by
  rintro rfl
  rcases hat with h1 | h1
  ·exact h.rt h1
  ·omega
 have hks : Keeps (fun k => k = t) w3 (w3.setCell ⟨t, 2, none⟩ (.slice (some ⟨gg, 0, none⟩) (es.length + 1) cp)) := (Keeps.refl (fun k => k = t) w3).setCell (.inl rfl) _
 refine ⟨⟨⟨_, blk_set hbx3 2 _, ?_, rfl⟩, fun e => hgt (Option.some.inj e), fun e' he => ?_⟩, ?_⟩
 ·rw [entCells_snoc, List.length_append]
  exact owns_kept hown hks fun k hk e => by simp [Value.ownBlock] at hk; omega
 ·rcases List.mem_append.1 he with he | he
  ·obtain ⟨h1, h2⟩ := h.data e' he
   refine ⟨(h1.kept hk3 fun k hk => (h2 k hk).2).kept hks fun k hk => (h2 k hk).1, fun k hk => ⟨(h2 k hk).1, fun e => ?_⟩⟩
   have hkk := h1.row_lt k hk
   rcases hat with h3 | h3
   ·exact (h2 k hk).2 (h3.trans e)
   ·have := Option.some.inj e; omega
  ·obtain rfl : e' = e := by simpa using he
   refine ⟨(hs.kept hk3 fun k hk e => ?_).kept hks fun k hk => ?_, fun k hk => ⟨?_, fun e => ?_⟩⟩
   ·have := hnew k hk; have := hrl k e; omega
   ·have := hnew k hk; omega
   ·have := hnew k hk; omega
   ·have h1 := hnew k hk
    have h2 := hs.row_lt k hk
    have h3 := Option.some.inj e
    rcases hat with h4 | h4
    ·have := hrl gg h4; omega
    ·omega
 ·exact (((Keeps.of_below hB).mono (T := fun k => k = t ∨ r = some k) fun k hk h => by omega).trans (hk3.mono fun k _ hk => .inr hk)).trans (hks.mono fun k _ hk => .inl hk)
set_option maxRecDepth 100000 in
set_option maxHeartbeats 1000000 in
theorem add_any (w : World) (t : Nat) (r : Option Nat) (ix tm : Int) (es : List Ent) (h : LogAt w t r ix tm es) (ok : LogOk ix tm es) (term : Int) (cf : Bool) (v : Value) (d : List UInt8) (hs : SlW u8v w v d)
  (ht : lT tm es ≤ term) (hn : es.length < 1024) (hd : d.length ≤ 900) :
  Calls Tryz.prog 75 #[.pointer (some ⟨t, 0, none⟩), .int .u64 term, .bool cf, v] w (AddR w t r ix tm term cf d es) := by
 obtain ⟨va, vc, rfl⟩ := hs.form
 have hl := last_any w t r ix tm es h ok
 have H : Hid (∀ W, Below w.heap.size w W → LogAt W t r ix tm es) := hI fun W hW => h.below hW
 have hcl := fun (W : World) (hW : Below w.heap.size w W) => clone_W W _ d (hs.below hW) (by omega)
 have HCL := hI hcl
 have hx := ok.lo
 have hx2 := ok.hi
 have htl := ok.lastT
 have hlt := h.lt
 have hlr := h.row_lt
 have hrt := h.rt
 obtain ⟨i0, hi, hz0, hz1, hz2⟩ := info_parts info_entry
 have HRT := hI hrt
 have HLR := hI hlr
 clear h ok hs hcl hrt hlr
 generalize lT tm es = lt at *
 go_enter Tryz.func75, Tryz.ntmps75
 go_wp2_with fail
 refine hl.mono ?_
 rintro en w1 ⟨rfl, hb⟩
 obtain ⟨a, cap, hbx⟩ := (H.out w1 hb).slice
 have c2 := bC hbx 2 rfl
 have HBX := hI hbx
 have HB := hI hb
 have hcl := HCL.out w1.drew (bD hb)
 clear hbx hl hb
 go_wp2_with fail
 have hwr : IntKind.u64.wrap (ix + (es.length : Int) + 1) = ix + (es.length : Int) + 1 := IntWalk.u64_in _ (by omega)
 have HN0 := hI (show es.length + 1 ≤ maxLen by unfold maxLen; omega)
 have HN1 := hI (show (es.length + 1) * 48 ≤ 140737488355328 by omega)
 go_region_law (first
   | (go_simp; go_at_call 56; refine hcl.mono ?_; rintro en w2 ⟨u, rfl, hb2, hs2, _, hnew2⟩; obtain ⟨ua, uc, rfl, _⟩ := id hs2; have hB2 : Below w.heap.size w w2 := (bD HB.out).trans (hb2.mono (by have := HB.out.size; simpa using this)); have hbx2 := bH (w1 := w2) (W := w1.drew) hb2 HBX.out (Nat.lt_of_lt_of_le hlt HB.out.size); have c2 := bC hbx2 2 rfl; have f2 := bF hbx2 2; have l2 := heap_lt hbx2; have HO2 := hI ((H.out w2 hB2).owns hbx2).1; have HR2 := hI ((H.out w2 hB2).owns hbx2).2; have HB2 := hI hB2; have HS2 := hI hs2; have HNW := hI hnew2; have HX2 := hI hbx2; clear hB2 hbx2 hb2 hs2 hnew2)
   | (refine step_append_lies _ (by rfl) _ _ _ (by rfl) 0 47 i0 _ 4 48 Tryz.underlying41 hi hz0 hz1 hz2 rfl (by omega) (.slice a es.length cap) es.length (entCells es) (by rfl) (HO2.out.alloc _)
       ⟨w2.heap.size, 0, none⟩ 1 1 [.int .u64 (ix + es.length + 1), .int .u64 term, .bool cf, .slice ua d.length uc] (by rfl) (by rfl) (World.news_of_block (cs := #[.int .u64 (ix + es.length + 1), .int .u64 term, .bool cf, .slice ua d.length uc]) (t := 47) (fr := (0, 0)) (bW w2 _)) (by simp [Value.oneCell'])
       (by omega) HN0.out HN1.out (by simp) (w2.heap.size + 1) (by simp) ?_; intro gg cp w3 hown3 hg3 hat3 hlt3; have hbx3 := (gK (S := fun k => r = some k) hg3 (fun k hk => (hk.trans HR2.out).symm)).heap HRT.out (aheap HX2.out _); have c3 := bC hbx3 2 rfl; have f3 := bF hbx3 2; have l3 := heap_lt hbx3; clear hbx3))
 all_goals
  go_wp2
  go_ret2
  rw [HR2.out] at hg3 hat3
  obtain ⟨q1, q2⟩ := LogAt.push (e := ⟨ix + es.length + 1, term, cf, .slice ua d.length uc, d⟩) (H.out w2 HB2.out) HB2.out hlt HLR.out HX2.out HS2.out (fun k hk => Nat.le_trans HB.out.size (HNW.out k hk)) hown3 hg3 hat3
  refine ⟨.slice ua d.length uc, some gg, rfl, q1, q2, fun k hk => Nat.le_trans HB.out.size (HNW.out k hk), ?_⟩
  rcases hat3 with h1 | h1
  ·exact .inl h1.symm
  ·exact .inr ⟨gg, rfl, by have := HB2.out.size; omega⟩
end
section
open Go.RowKit
def intv (n : Int) : Value := .int .i64 n
theorem intv_one (n : Int) : (intv n).oneCell' = true := rfl
def memFrom : Int → List Int → Bool
 | _, [] => true
 | p, n :: r => decide (p < n ∧ n ≤ 7) && memFrom n r
def mB (l : List Int) : Bool := !l.isEmpty && memFrom 0 l
theorem memFrom_step {p : Int} {l : List Int} {k : Nat} {n : Int} (hk : l[k]? = some n) : memFrom p (l.drop k) = (decide (p < n ∧ n ≤ 7) && memFrom n (l.drop (k + 1))) := by
 obtain ⟨h1, h2⟩ := List.getElem?_eq_some_iff.1 hk
 rw [List.drop_eq_getElem_cons h1, h2]
 rfl
theorem memFrom_le : ∀ {l : List Int} {p : Int}, memFrom p l = true → p ≤ 7 → (l.length : Int) ≤ 7 - p
 | [], p, _, h => by simp; omega
 | n :: r, p, h, hp => by
  simp only [memFrom, Bool.and_eq_true, decide_eq_true_eq] at h
  have := memFrom_le h.2 h.1.2
  simp only [List.length_cons]
  omega
theorem memFrom_all : ∀ {l : List Int} {p : Int}, memFrom p l = true → ∀ n ∈ l, p < n ∧ n ≤ 7
 | [], p, _, n, h => by simp at h
 | x :: r, p, h, n, hn => by
  simp only [memFrom, Bool.and_eq_true, decide_eq_true_eq] at h
  rcases List.mem_cons.1 hn with rfl | hn
  ·exact h.1
  ·have := memFrom_all h.2 n hn; omega
theorem mL {l : List Int} (h : mB l = true) : 1 ≤ l.length ∧ l.length ≤ 7 ∧ ∀ n ∈ l, 1 ≤ n ∧ n ≤ 7 := by
 unfold mB at h
 simp only [Bool.and_eq_true] at h
 have h1 := memFrom_le h.2 (by omega)
 refine ⟨?_, by omega, fun n hn => by have := memFrom_all h.2 n hn; omega⟩
 cases l with
 | nil => simp at h
 | cons => simp
def prevOf (l : List Int) (k : Nat) : Int := if k = 0 then 0 else l.getD (k - 1) 0
theorem prevOf_succ {l : List Int} {k : Nat} {n : Int} (hk : l[k]? = some n) : prevOf l (k + 1) = n := by
 unfold prevOf
 rw [if_neg (by omega), Nat.add_sub_cancel, List.getD_eq_getElem?_getD, hk]
 rfl
section
variable (w : World) (a : Option Addr) (n cap : Nat) (l : List Int) (h : Sl intv w (.slice a n cap) l)
include h
theorem members_any : Calls Tryz.prog 81 #[.slice a n cap] w (Ret (.bool (mB l)) w) := by
 have H := hI h
 obtain ⟨a', cap', he, h1, h2, h3⟩ := h
 cases he
 unfold maxLen at h2
 have HLC := hI h1
 have hlm : l.length ≤ 9223372036854775807 := by omega
 clear h1
 go_enter Tryz.func81, Tryz.ntmps81
 go_wp2
 go_loop [7] (fun i => ∃ k : Nat, k ≤ l.length ∧ i = .int .i64 k ∧ memFrom 0 l = memFrom (prevOf l k) (l.drop k) ∧ 0 ≤ prevOf l k) (fun i => l.length - (intOf i).toNat)
 case atStart => exact ⟨0, by omega, rfl, by simp [prevOf], by simp [prevOf]⟩
 case round =>
  obtain ⟨k, hk, rfl, hm, hp⟩ := hrel
  by_cases hlt : k < l.length
  ·rcases h3 with ⟨rfl, rfl⟩ | ⟨b, o, rfl, hb, hc⟩
   ·have := HLC.out; omega
   ·have hk0 : l[k]? = some l[k] := List.getElem?_eq_getElem hlt
    have hcell : w.cell? ⟨b, o + k, none⟩ = some (.int .i64 l[k]) := hc k _ hk0
    have hst := memFrom_step (p := prevOf l k) hk0
    have hps := prevOf_succ hk0
    generalize l[k] = x at *
    generalize hpv : prevOf l k = pv at *
    have HM := hI hm
    have HST := hI hst
    have HPS := hI hps
    clear hm hst hps
    by_cases hk1 : 0 < k
    ·obtain ⟨j, rfl⟩ : ∃ j, k = j + 1 := ⟨k - 1, by omega⟩
     have hpc : w.cell? ⟨b, o + j, none⟩ = some (.int .i64 pv) := by
      have h1 : l[j]? = some pv := by
       rw [List.getElem?_eq_getElem (show j < l.length by omega), ← hpv]
       unfold prevOf
       rw [if_neg (by omega), List.getD_eq_getElem?_getD, Nat.add_sub_cancel, List.getElem?_eq_getElem (show j < l.length by omega)]
       rfl
      exact hc _ _ h1
     clear hpv hc hk0
     have hcs : x < 1 ∨ (¬ x < 1 ∧ 7 < x) ∨ (¬ x < 1 ∧ ¬ 7 < x ∧ x ≤ pv) ∨ (¬ x < 1 ∧ ¬ 7 < x ∧ pv < x) := by omega
     rcases hcs with c1 | ⟨c1, c2⟩ | ⟨c1, c2, c3⟩ | ⟨c1, c2, c3⟩
     rotate_right
     ·go_wp2
      go_round
      case rel => exact ⟨j + 1 + 1, by omega, by go_num, by rw [HM.out, HST.out, HPS.out]; simp; omega, by rw [HPS.out]; omega⟩
      case measure => simp [intOf]; omega
     all_goals
      go_wp2
      go_ret
      refine Ret.mk (bool_eq ?_)
      unfold mB
      rw [HM.out, HST.out, show decide (pv < x ∧ x ≤ 7) = false from decide_eq_false (by omega)]
      simp
    ·obtain rfl : k = 0 := by omega
     obtain rfl : pv = 0 := by rw [← hpv]; rfl
     rw [Nat.add_zero] at hcell
     clear hpv hc hk0
     have hcs : x < 1 ∨ (¬ x < 1 ∧ 7 < x) ∨ (¬ x < 1 ∧ ¬ 7 < x) := by omega
     rcases hcs with c1 | ⟨c1, c2⟩ | ⟨c1, c2⟩
     rotate_right
     ·go_wp2
      go_round
      case rel => exact ⟨1, by omega, by go_num, by rw [HM.out, HST.out, HPS.out]; simp; omega, by rw [HPS.out]; omega⟩
      case measure => simp [intOf]; omega
     all_goals
      go_wp2
      go_ret
      refine Ret.mk (bool_eq ?_)
      unfold mB
      rw [HM.out, HST.out, show decide ((0 : Int) < x ∧ x ≤ 7) = false from decide_eq_false (by omega)]
      simp
  ·obtain rfl : k = l.length := by omega
   have HM := hI hm
   clear hm h3
   go_wp2
   go_ret
   refine Ret.mk (bool_eq ?_)
   unfold mB
   rw [HM.out, List.drop_length]
   cases l <;> simp [memFrom]
end
end
section
open Go.RowKit
def numsB (l : List Int) : List UInt8 := (l.map fun n => numB n.toNat).flatten
def membB (l : List Int) : List UInt8 := numB l.length ++ numsB l
section
variable (w : World) (p : Nat) (r : Option Nat) (bs : List UInt8) (h : Wr w p r bs)
include h
theorem mem1_any (x : Int) (h0 : 0 ≤ x) (hx : x ≤ 7) (hl : bs.length + 10 ≤ 70368744177664) :
  Calls Tryz.prog 83 #[.pointer (some ⟨p, 0, none⟩), .int .i64 x] w (WroteB p w r (bs ++ numB x.toNat)) := by
 have hn := num_any w p r bs h x h0 (by omega) hl
 clear h hl
 go_enter Tryz.func83, Tryz.ntmps83
 go_wp2_with fail
 refine hn.mono ?_
 rintro e w1 ⟨rfl, r1, hW1, hk1⟩
 go_wp2_with fail
 go_end0
 exact ⟨rfl, r1, hW1, hk1⟩
end
theorem numsB_snoc (l : List Int) (x : Int) : numsB (l ++ [x]) = numsB l ++ numB x.toNat := by simp [numsB]
theorem numsB_len : ∀ {l : List Int}, (∀ n ∈ l, 0 ≤ n ∧ n ≤ 7) → (numsB l).length ≤ 10 * l.length
 | [], _ => by simp [numsB]
 | x :: r, h => by
  have h1 := numB_len10 (x := x.toNat) (by have := h x (by simp); omega)
  have h2 := numsB_len (l := r) fun n hn => h n (List.mem_cons_of_mem _ hn)
  simp only [numsB, List.map_cons, List.flatten_cons, List.length_append, List.length_cons] at *
  omega
theorem Sl.wrote {α : Type} {enc : α → Value} {w w' : World} {p : Nat} {r r' : Option Nat} {v : Value} {l : List α} (h : Sl enc w v l) (hk : Wrote p w r w' r') (hp : v.ownBlock ≠ some p) (hr : v.ownBlock = none ∨ v.ownBlock ≠ r) : Sl enc w' v l :=
 h.kept hk.keeps fun k hv => by
  rintro (rfl | e)
  ·exact hp hv
  ·rcases hr with h | h
   ·rw [h] at hv; cases hv
   ·exact h (hv.symm ▸ e)
theorem put_any (w : World) (p : Nat) (r : Option Nat) (bs : List UInt8) (h : Wr w p r bs) (a : Option Addr) (n cap : Nat) (l : List Int) (hs : Sl intv w (.slice a n cap) l) (hp : (Value.slice a n cap).ownBlock ≠ some p) (hr : (Value.slice a n cap).ownBlock = none ∨ (Value.slice a n cap).ownBlock ≠ r)
  (hm : ∀ x ∈ l, 0 ≤ x ∧ x ≤ 7) (hl7 : l.length ≤ 7) (hl : bs.length ≤ 60000) :
  Calls Tryz.prog 82 #[.pointer (some ⟨p, 0, none⟩), .slice a n cap, .func (Fn.func 83) #[] #[]] w (WroteB p w r (bs ++ membB l)) := by
 have hn := num_any w p r bs h l.length (by omega) (by omega) (by omega)
 have e1 : ((l.length : Int)).toNat = l.length := by omega
 rw [e1] at hn
 have HS := hI hs
 have HPP := hI hp
 have HRR := hI hr
 have HM := hI hm
 have HL := hI hl
 obtain ⟨a', cap', he, hl1, hl2, hx⟩ := hs
 cases he
 have HLC := hI hl1
 clear hl1 hp hr hm hl h hl2 e1
 go_enter Tryz.func82, Tryz.ntmps82
 go_wp2_with fail
 refine hn.mono ?_
 rintro e w1 ⟨rfl, r1, hW1, hk1⟩
 clear hn
 go_wp2_with fail
 go_loopw [15] (fun i wr => ∃ (k : Nat) (r' : Option Nat), k ≤ l.length ∧ i = .int .i64 k ∧ Wr wr p r' (bs ++ (numB l.length ++ numsB (l.take k))) ∧ Wrote p w r wr r') (fun i _ => l.length - (intOf i).toNat)
 case atStart => exact ⟨0, r1, by omega, rfl, by simpa [numsB] using hW1, hk1⟩
 case round =>
  obtain ⟨k, r', hk, rfl, hW, hkk⟩ := hrel
  have HW := hI hW
  have HKK := hI hkk
  clear hW hkk hW1 hk1
  by_cases hlt : k < l.length
  ·rcases hx with ⟨rfl, rfl⟩ | ⟨b, o, rfl, hb, hc⟩
   ·have := HLC.out; omega
   ·have hsw := HS.out.wrote HKK.out HPP.out HRR.out
    obtain ⟨_, _, he, _, _, hx2⟩ := hsw
    cases he
    rcases hx2 with ⟨h, _⟩ | ⟨b', o', he, hb', hc'⟩
    ·cases h
    ·cases he
     have hk0 : l[k]? = some l[k] := List.getElem?_eq_getElem hlt
     have hcell : wr.cell? ⟨b, o + k, none⟩ = some (.int .i64 l[k]) := hc' k _ hk0
     obtain ⟨hx0, hx1⟩ := HM.out l[k] (List.getElem_mem hlt)
     have htk : l.take (k + 1) = l.take k ++ [l[k]] := by rw [List.take_succ_eq_append_getElem hlt]
     generalize l[k] = x at *
     have HTK := hI htk
     clear hc hc' htk hk0
     have hlen : (bs ++ (numB l.length ++ numsB (l.take k))).length + 10 ≤ 70368744177664 := by
      have h1 := numB_len10 (x := l.length) (by omega)
      have h2 := numsB_len (l := l.take k) fun n hn => by have := HM.out n (List.mem_of_mem_take hn); omega
      have h3 : (l.take k).length ≤ 7 := by rw [List.length_take]; omega
      have h4 := HL.out
      simp only [List.length_append]
      omega
     have hnx := mem1_any wr p r' _ HW.out x hx0 hx1 hlen
     clear hlen
     go_wp2_with fail
     refine hnx.mono ?_
     rintro e w2 ⟨rfl, r2, hW2, hk2⟩
     go_wp2_with fail
     go_roundw
     case rel =>
      refine ⟨k + 1, r2, by omega, by go_num, ?_, HKK.out.trans hk2⟩
      rw [HTK.out, numsB_snoc, ← List.append_assoc (numB _), ← List.append_assoc bs]
      exact hW2
     case measure => simp [intOf]; omega
  ·obtain rfl : k = l.length := by omega
   clear hx
   go_wp2_with fail
   go_end0
   refine ⟨rfl, r', ?_, HKK.out⟩
   have := HW.out
   rw [List.take_length] at this
   exact this
def MembersR (l : List Int) (w : World) (e : Ending) (w' : World) : Prop :=
 if mB l = true then ∃ v, e = .returned (.tuple #[v, .int .i64 0]) ∧ Below w.heap.size w w' ∧ Sl u8v w' v (membB l) ∧ ∀ k, v.ownBlock = some k → w.heap.size ≤ k
 else e = .returned (.tuple #[.slice none 0 0, .int .i64 1]) ∧ w = w'
theorem Members_any (w : World) (a : Option Addr) (n cap : Nat) (l : List Int) (h : Sl intv w (.slice a n cap) l) :
  Calls Tryz.prog 53 #[.slice a n cap] w (MembersR l w) := by
 have hmm := fun W hW => members_any W a n cap l hW
 have H := hI h
 have hlt := hI h.row_lt
 clear h
 unfold MembersR
 cases hb : mB l
 ·rw [hb] at hmm
  simp only [Bool.false_eq_true, if_false]
  go_enter Tryz.func53, Tryz.ntmps53
  go_wp2_with (go_at_call 81; refine (hmm _ H.out).mono ?_; rintro e w' ⟨rfl, rfl⟩)
  go_ret2
  exact ⟨rfl, rfl⟩
 ·obtain ⟨h1, h7, hm⟩ := mL hb
  have HM := hI hm
  rw [hb] at hmm
  simp only [if_true]
  clear hb hm
  go_enter Tryz.func53, Tryz.ntmps53
  go_wp2_with (go_at_call 81; refine (hmm _ H.out).mono ?_; rintro e w' ⟨rfl, rfl⟩)
  have hW : Wr (w.alloc (.cells #[.slice none 0 0] 119)) w.heap.size none [] := ⟨.slice none 0 0, bW _ _, rfl, by simp, World.ownsRow_nil _ _ _ _⟩
  have hput := put_any _ _ _ _ hW a n cap l (H.out.alloc _) (fun e => by have := hlt.out _ e; omega) (by cases h : (Value.slice a n cap).ownBlock <;> simp) (fun x hx => by have := HM.out x hx; omega) h7 (by simp)
  clear hW
  refine hput.mono ?_
  rintro e w1 ⟨rfl, r1, hW1, hk1⟩
  have hlb : (membB l).length ≤ 70368744177664 := by
   unfold membB
   have h2 := numB_len10 (x := l.length) (by omega)
   have h3 := numsB_len (l := l) fun n hn => by have := HM.out n hn; omega
   rw [List.length_append]; omega
  have hby := wbytes_any w1 w.heap.size r1 (membB l) hW1 hlb
  clear hput hlb
  go_wp2_with fail
  refine hby.mono ?_
  rintro e w2 ⟨v, rfl, hb2, hs2, _, hn2⟩
  go_wp2_with fail
  go_ret2
  have hs1 := hk1.keeps.size
  simp at hs1
  refine ⟨v, rfl, ?_, hs2, fun k hk => by have := hn2 k hk; omega⟩
  have hk2 : Below w.heap.size w w1 := (((Keeps.refl (fun k => w.heap.size ≤ k) w).alloc _).trans (hk1.keeps.mono fun k _ hk => by
    rcases hk with rfl | hk
    · exact Nat.le_refl _
    · cases hk)).below nL (fun k hk => hk)
  exact hk2.trans (hb2.mono (by omega))
theorem right_any (w : World) (a : Option Addr) (n cap : Nat) (l : List Int) (h : Sl intv w (.slice a n cap) l) :
  Calls Tryz.prog 46 #[.slice a n cap] w (RetB (.bool (mB l)) w) := by
 have hm := Members_any w a n cap l h
 clear h
 unfold MembersR at hm
 cases hb : mB l
 ·rw [hb] at hm
  simp only [Bool.false_eq_true, if_false] at hm
  clear hb
  go_enter Tryz.func46, Tryz.ntmps46
  go_wp2_with fail
  refine hm.mono ?_
  rintro e w' ⟨rfl, rfl⟩
  go_wp2_with fail
  go_ret
  exact RetB.mk rfl bR
 ·rw [hb] at hm
  simp only [if_true] at hm
  clear hb
  go_enter Tryz.func46, Tryz.ntmps46
  go_wp2_with fail
  refine hm.mono ?_
  rintro e w1 ⟨v, rfl, hb, _⟩
  go_wp2_with fail
  go_ret
  exact RetB.mk rfl hb
end
end Go.Proofs.YtdjooojpcepleaaGreat

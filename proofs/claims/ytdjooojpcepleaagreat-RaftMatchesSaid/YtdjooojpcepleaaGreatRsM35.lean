/- The law's do, its parts: what is reached in the midst of a step; rows of messages as what is appended. -/
import Derived.Test.YtdjooojpcepleaaGreatRsM34
import Derived.Test.YtdjooojpcepleaaGreatRsM27
import Derived.Deep.DeepCutAuto
import Derived.Deep.CutBlock

namespace Go.Proofs.YtdjooojpcepleaaGreat
section
open Go.RowKit
def MidR (C0 : List Int) (g : Gh En) (N : Nat) (w : World) (M : Nat → Prop) (c : Cl) (w' : World) : Prop :=
 ∃ M' c' g', Cn w M c w' M' c' ∧ ClOk C0 g' N c' ∧ (∃ v, Grow v g g') ∧ c'.net.length ≤ 201 ∧ ∀ i, i < c.s → (c'.x i).out.length ≤ 14
section
variable {C0 : List Int} {g : Gh En} {n N : Nat} {w w1 w2 : World} {M M1 : Nat → Prop} {c c1 : Cl}
theorem mid_none (hC : Cn w M c w1 M1 c1) (ok : ClOk C0 g n c1) (hn : n ≤ N) (hnet : c1.net.length ≤ 201) (hout : ∀ i, i < c1.s → (c1.x i).out = []) : MidR C0 g N w M c w1 :=
 ⟨M1, c1, g, hC, ok.mono hn, ⟨0, Grow.refl _ _⟩, hnet, fun i hi => by rw [hout i (by rw [hC.same.s]; exact hi)]; exact Nat.zero_le _⟩
theorem mid_act (hC : Cn w M c w1 M1 c1) (ok : ClOk C0 g n c1) (hn : n ≤ N) (hnet : c1.net.length ≤ 201) (hout : ∀ i, i < c1.s → (c1.x i).out = []) {i : Nat} (hi : i < c1.s) (ha : ActTo C0 g N 14 w1 M1 (c1.F i) w2 (c1.P i) (c1.x i)) : MidR C0 g N w M c w2 := by
 obtain ⟨y, g', Y, hn', hA⟩ := ha
 obtain ⟨M2, G, hC2⟩ := hC.at_.act hi hA.stay.id hn'
 refine ⟨M2, _, g', hC.trans hC2, ok.act hC.at_.ids hi hn hA, ⟨_, hA.grow⟩, hnet, fun j hj => ?_⟩
 have hj' : j < c1.s := by rw [hC.same.s]; exact hj
 show (if j = i then y else c1.x j).out.length ≤ 14
 by_cases e : j = i
 ·rw [if_pos e]
  obtain ⟨l, h1, _, h3⟩ := hA.out
  rw [h1, hout i hi, List.nil_append]
  exact h3
 ·rw [if_neg e, hout j hj']; exact Nat.zero_le _
theorem ClAt.k0 (h : ClAt w M c) : w.cell? ⟨c.wd, 0, none⟩ = some (.slice (some ⟨c.nb, 0, none⟩) c.s c.ncap) := bC h.box 0 rfl
theorem ClAt.k1 (h : ClAt w M c) : w.cell? ⟨c.wd, 1, none⟩ = some (.slice (some ⟨c.cb, 0, none⟩) c.s c.ccap) := bC h.box 1 rfl
theorem ClAt.k2 (h : ClAt w M c) : w.cell? ⟨c.wd, 2, none⟩ = some c.nv := bC h.box 2 rfl
theorem ClAt.k3 (h : ClAt w M c) : w.cell? ⟨c.wd, 3, none⟩ = some (.map (some c.lm)) := bC h.box 3 rfl
theorem ClAt.k4 (h : ClAt w M c) : w.cell? ⟨c.wd, 4, none⟩ = some (.map (some c.am)) := bC h.box 4 rfl
theorem ClAt.f2 (h : ClAt w M c) : w.frozen? ⟨c.wd, 2, none⟩ = false := bF h.box 2
theorem ClAt.cn (h : ClAt w M c) {i : Nat} (hi : i < c.s) : w.cell? ⟨c.nb, i, none⟩ = some (.pointer (some ⟨c.P i, 0, none⟩)) := by
 obtain ⟨cur, n1, n2⟩ := h.nodes
 exact bC n1 i (n2 i hi)
theorem ClAt.fn (h : ClAt w M c) (i : Nat) : w.frozen? ⟨c.nb, i, none⟩ = false := by
 obtain ⟨cur, n1, n2⟩ := h.nodes
 exact bF n1 i
theorem ClAt.wdl (h : ClAt w M c) : c.wd < w.heap.size := heap_lt h.box
theorem Msg.one {m : Msg} (h : MsgOk w M m) : ∀ u ∈ m.cells, u.oneCell' = true := by
 obtain ⟨_, _, ea, ec, hev, _⟩ := h.ents
 obtain ⟨ma, mc, hmv, _⟩ := h.mem
 obtain ⟨d, hd, _⟩ := h.data
 obtain ⟨da, dc, hdv, _⟩ := hd
 intro u hu
 simp only [Msg.cells, List.mem_cons, List.not_mem_nil, or_false] at hu
 rcases hu with rfl | rfl | rfl | rfl | rfl | rfl | rfl | rfl | rfl | rfl | rfl <;> first | rfl | (rw [hev]; rfl) | (rw [hmv]; rfl) | (rw [hdv]; rfl)
theorem flat_one {l : List Msg} (h : ∀ m ∈ l, MsgOk w M m) : ∀ u ∈ flatM l, u.oneCell' = true := fun u hu => by
 obtain ⟨m, hm, hu⟩ := List.mem_flatMap.1 hu
 exact Msg.one (h m hm) u hu
theorem flat_at : ∀ {l : List Msg} {k : Nat} {m : Msg}, l[k]? = some m → ∀ {j : Nat} {v : Value}, m.cells[j]? = some v → (flatM l)[k * 11 + j]? = some v
 | x :: r, 0, e, h, j, v, hj => by
  simp at h
  subst h
  unfold flatM
  rw [List.flatMap_cons, List.getElem?_append_left (by have := (List.getElem?_eq_some_iff.1 hj).1; simp [Msg.cells] at this ⊢; omega)]
  simpa using hj
 | x :: r, k + 1, e, h, j, v, hj => by
  have := flat_at (l := r) (k := k) (m := e) (by simpa using h) hj
  unfold flatM at *
  rw [List.flatMap_cons, List.getElem?_append_right (by simp [Msg.cells]; omega)]
  have e : (k + 1) * 11 + j - x.cells.length = k * 11 + j := by simp [Msg.cells]; omega
  rw [e]
  exact this
theorem RowO.part {l : List Msg} {v : Value} (h : RowO w 54 11 v l.length (flatM l)) (hms : ∀ m ∈ l, MsgOk w M m) {g off cap : Nat} (hv : v = .slice (some ⟨g, off, none⟩) l.length cap) (k m : Nat) (hkm : k + m ≤ l.length) (cp : Nat) (o : Nat) (ho : o = off + k * 11) :
  SrcO w 11 (.slice (some ⟨g, o, none⟩) m cp) m (flatM ((l.drop k).take m)) := by
 have e : flatM l = flatM (l.take k) ++ flatM (l.drop k) := by rw [← flatM_app, List.take_append_drop]
 have e2 : flatM (l.drop k) = flatM ((l.drop k).take m) ++ flatM ((l.drop k).drop m) := by rw [← flatM_app, List.take_append_drop]
 have hl1 : (flatM (l.take k)).length = k * 11 := by rw [flatM_len, List.length_take, Nat.min_eq_left (by omega)]
 have hl2 : (flatM ((l.drop k).take m)).length = m * 11 := by rw [flatM_len, List.length_take, List.length_drop, Nat.min_eq_left (by omega)]
 refine ⟨_, cp, rfl, hl2, (fun e => by cases e), fun a ha j u hj => ?_, flat_one (w := w) (M := M) fun x hx => hms x (List.mem_of_mem_drop (List.mem_of_mem_take hx))⟩
 cases ha
 rw [add_lit', ho, Nat.add_assoc]
 refine h.cell hv ?_
 have hjl := (List.getElem?_eq_some_iff.1 hj).1
 rw [e, e2, List.getElem?_append_right (by omega), hl1, Nat.add_sub_cancel_left, List.getElem?_append_left hjl]
 exact hj
end
section
variable {w0 w : World} {M0 M : Nat → Prop} {c0 c : Cl}
theorem Cn.d0 (h : Cn w0 M0 c0 w M c) : w.cell? ⟨c0.wd, 0, none⟩ = some (.slice (some ⟨c0.nb, 0, none⟩) c0.s c.ncap) := by
 have := h.at_.k0
 rwa [h.same.wd, h.same.nb, h.same.s] at this
theorem Cn.d1 (h : Cn w0 M0 c0 w M c) : w.cell? ⟨c0.wd, 1, none⟩ = some (.slice (some ⟨c0.cb, 0, none⟩) c0.s c.ccap) := by
 have := h.at_.k1
 rwa [h.same.wd, h.same.cb, h.same.s] at this
theorem Cn.d2 (h : Cn w0 M0 c0 w M c) : w.cell? ⟨c0.wd, 2, none⟩ = some c.nv := by
 have := h.at_.k2
 rwa [h.same.wd] at this
theorem Cn.f2 (h : Cn w0 M0 c0 w M c) : w.frozen? ⟨c0.wd, 2, none⟩ = false := by
 have := h.at_.f2
 rwa [h.same.wd] at this
theorem Cn.dn (h : Cn w0 M0 c0 w M c) {i : Nat} (hi : i < c0.s) : w.cell? ⟨c0.nb, i, none⟩ = some (.pointer (some ⟨c.P i, 0, none⟩)) := by
 have := h.at_.cn (i := i) (by rw [h.same.s]; exact hi)
 rwa [h.same.nb] at this
theorem Cn.fn (h : Cn w0 M0 c0 w M c) (i : Nat) : w.frozen? ⟨c0.nb, i, none⟩ = false := by
 have := h.at_.fn i
 rwa [h.same.nb] at this
theorem Cn.dcfg (h : Cn w0 M0 c0 w M c) {i : Nat} (hi : i < c0.s) (k : Nat) {v : Value} (hv : (#[Value.int .i64 ((i : Int) + 1), .slice c.ma c0.s c.mcap, .int .i64 4, .int .i64 2] : Array Value)[k]? = some v) : w.cell? ⟨c0.cb, i * 4 + k, none⟩ = some v := by
 obtain ⟨cur, fr, h1, h2⟩ := h.at_.cfg
 obtain ⟨a, b, c', d⟩ := h2 i (by rw [h.same.s]; exact hi)
 rw [h.same.cb] at h1
 rw [h.same.s] at b
 match k, hv with
 | 0, hv => simp at hv; subst hv; exact bC h1 _ a
 | 1, hv => simp at hv; subst hv; exact bC h1 _ b
 | 2, hv => simp at hv; subst hv; exact bC h1 _ c'
 | 3, hv => simp at hv; subst hv; exact bC h1 _ d
 | k + 4, hv => simp at hv
theorem Cn.wdl (h : Cn w0 M0 c0 w M c) : c0.wd < w.heap.size := by
 have := h.at_.wdl
 rwa [h.same.wd] at this
theorem Cn.setNet (h : Cn w0 M0 c0 w M c) {w2 : World} {nv : Value} {net : List Msg} (hk : Keeps (fun k => c.nv.ownBlock = some k) w w2) (hrow : RowO w2 54 11 nv net.length (flatM net)) (hnv : ∀ k, nv.ownBlock = some k → c.nv.ownBlock = some k ∨ w.heap.size ≤ k) (hms : ∀ m ∈ net, MsgOk w M m) :
  ∃ M', Cn w0 M0 c0 (w2.setCell ⟨c0.wd, 2, none⟩ nv) M' { c with nv := nv, net := net } := by
 have := h.trans (h.at_.setNet hk hrow hnv hms)
 have e : w2.setCell ⟨c0.wd, 2, none⟩ nv = w2.setCell ⟨c.wd, 2, none⟩ nv := by rw [h.same.wd]
 rw [e]
 exact ⟨_, this⟩
theorem src_own {l : List Msg} {v : Value} {b : Nat} (h : w.ownsRow b 54 11 v l.length (flatM l)) (hms : ∀ m ∈ l, MsgOk w M m) : SrcO w 11 v l.length (flatM l) := by
 rcases h.2 with ⟨rfl, h0⟩ | ⟨g, cap, cur, rfl, _, hg, _⟩
 ·have hl : l = [] := List.eq_nil_of_length_eq_zero h0
  subst hl
  exact ⟨none, 0, rfl, rfl, fun _ => rfl, (fun a ha => by cases ha), fun u hu => by simp [flatM] at hu⟩
 ·refine ⟨_, cap, rfl, flatM_len l, (fun e => by cases e), fun a ha j u hj => ?_, flat_one hms⟩
  cases ha
  exact h.cells (g := g) rfl j u hj
theorem RowO.drop {e : TypeId} {size : Nat} {n : Nat} {xs : List Value} {g off cap : Nat} (h : RowO w e size (.slice (some ⟨g, off, none⟩) n cap) n xs) {q o : Nat} (hq : q ≤ n) (ho : o = off + q * size) : RowO w e size (.slice (some ⟨g, o, none⟩) (n - q) (cap - q)) (n - q) (xs.drop (q * size)) := by
 obtain ⟨h1, ⟨h2, _⟩ | ⟨g', off', cap', cur, hv, hg, h3, h4, h5, h6⟩⟩ := h
 ·cases h2
 ·injection hv with v1 v2 v3
  injection v1 with v1
  injection v1 with v1 v4 v5
  subst v1 v4 v3
  have hm : q * size ≤ n * size := Nat.mul_le_mul_right _ hq
  have hm2 : n * size ≤ cap * size := Nat.mul_le_mul_right _ h3
  refine ⟨by rw [List.length_drop, h1, Nat.sub_mul], .inr ⟨g, o, cap - q, cur, rfl, hg, by omega, by omega, by rw [ho, Nat.sub_mul]; omega, ?_⟩⟩
  rw [← h6, ho, List.drop_take, List.drop_drop, Nat.sub_mul]
end
def DoR (C0 : List Int) (g : Gh En) (N : Nat) (w : World) (M : Nat → Prop) (c : Cl) (e : Ending) (w' : World) : Prop :=
 e = .returned (.tuple #[]) ∧ ∃ M' c' g', Cn w M c w' M' c' ∧ ClOk C0 g' N c' ∧ (∃ v, Grow v g g') ∧ c'.net.length ≤ 200 ∧ ∀ i, i < c.s → (c'.x i).out = []
def LoopR (C0 : List Int) (g : Gh En) (N : Nat) (w : World) (M : Nat → Prop) (c : Cl) (k : Nat) (w' : World) : Prop :=
 ∃ M' c', Cn w M c w' M' c' ∧ ClOk C0 g N c' ∧ c'.net.length ≤ 201 + 14 * k ∧ (∀ i, i < k → (c'.x i).out = []) ∧ ∀ i, i < c.s → (c'.x i).out.length ≤ 14
theorem memS_ok {s : Nat} (h1 : 1 ≤ s) (h7 : s ≤ 7) : mB (memS s) = true := by
 have : s = 1 ∨ s = 2 ∨ s = 3 ∨ s = 4 ∨ s = 5 ∨ s = 6 ∨ s = 7 := by omega
 rcases this with rfl | rfl | rfl | rfl | rfl | rfl | rfl <;> decide
theorem u8_value (x : Int) (h0 : 0 ≤ x) (h1 : x < 256) : Value.int .u8 x = u8v (UInt8.ofNat x.toNat) := by
 unfold u8v
 congr 1
 rw [UInt8.toNat_ofNat', Nat.mod_eq_of_lt (by omega)]
 omega
end
section
open Go.RowKit
def StateR (w : World) (x : NodeS) (e : Ending) (w' : World) : Prop :=
 ∃ na nc ea ec d va l vc, e = .returned (.agg #[.int .u64 x.term, .int .i64 x.vote, .int .u64 x.ix, .int .u64 x.tm, .slice na x.mem.length nc, .slice ea d.length ec, .slice va l.length vc]) ∧ Below w.heap.size w w' ∧ d.length ≤ 1000 ∧ Sl intv w' (.slice na x.mem.length nc) x.mem ∧ Sl u8v w' (.slice ea d.length ec) d ∧
  (∀ k, (Value.slice na x.mem.length nc).ownBlock = some k → w.heap.size ≤ k) ∧ (∀ k, (Value.slice ea d.length ec).ownBlock = some k → w.heap.size ≤ k) ∧ RowN w w' (.slice va l.length vc) l ∧ l.map Ent.pl = x.es.map Ent.pl
set_option maxRecDepth 100000 in
set_option maxHeartbeats 3200000 in
theorem state_node (w : World) (M F : Nat → Prop) (p : Nat) (x : NodeS) (h : NodeAt w M F p x) (hix : x.ix + 1 ≤ 1000000) (hmem : x.mem.length ≤ 1000) : Calls Tryz.prog 10 #[.pointer (some ⟨p, 0, none⟩)] w (StateR w x) := by
 obtain ⟨S, hn⟩ := id h
 have hok := hn.ok
 have H := hI h
 have HBS : Hid (∀ W, Below w.heap.size w W → Calls Tryz.prog 26 #[.pointer (some ⟨x.lg, 0, none⟩)] W (RetD (.tuple #[.int .u64 x.ix, .int .u64 x.tm]) W)) := hI fun W hW => base_any W x.lg x.r x.ix x.tm x.es (hn.log.below hW)
 have HFR : Hid (∀ W, Below w.heap.size w W → Calls Tryz.prog 27 #[.pointer (some ⟨x.lg, 0, none⟩), .int .u64 (x.ix + 1), .int .i64 1024] W (FromR W ((x.es.drop 0).take 1024))) := hI fun W hW => from_all W x.lg x.r x.ix x.tm x.es (hn.log.below hW) hok hn.dl hn.len 0 (Nat.zero_le _) _ (by simp) 1024 (by omega)
 have d9 : w.cell? ⟨p, 9, none⟩ = some (.pointer (some ⟨x.lg, 0, none⟩)) := h.cell 9 rfl
 have hix0 := hok.lo
 have e1 : IntKind.u64.wrap (x.ix + 1) = x.ix + 1 := IntWalk.u64_in _ (by omega)
 have hpl := h.plt
 clear h hn hok
 go_enter Tryz.func10, Tryz.ntmps10
 go_wp2_with fail
 refine (HBS.out _ (bR.alloc nL _)).mono ?_
 rintro en w1 ⟨rfl, dn, rfl⟩
 have hfr := HFR.out _ (belowDN ((Below.refl _ w).alloc nL (.cells #[.int .u64 0, .int .i64 0, .int .u64 0, .int .u64 0, .slice none 0 0, .slice none 0 0, .slice none 0 0] 43)) dn)
 go_wp2_with fail
 refine hfr.mono ?_
 rintro en w2 ⟨ev, l, rfl, hrow, hb2, hpl2⟩
 obtain ⟨va, vc, rfl⟩ := own_form hrow.own
 have hb02 : Below w.heap.size w w2 := (belowDN ((Below.refl _ w).alloc nL (.cells #[.int .u64 0, .int .i64 0, .int .u64 0, .int .u64 0, .slice none 0 0, .slice none 0 0, .slice none 0 0] 43)) dn).trans (hb2.mono (by simp))
 have hxx : w2.heap[w.heap.size]? = some (.cells #[.int .u64 0, .int .i64 0, .int .u64 0, .int .u64 0, .slice none 0 0, .slice none 0 0, .slice none 0 0] 43 (0, 0)) := bH hb2 (show ((w.alloc _).drewN dn).heap[w.heap.size]? = _ from bW w _) (by simp)
 have H2 := hI (H.out.below hb02)
 obtain ⟨S2, hn2⟩ := H2.out
 obtain ⟨ma, mc, hmv, hms⟩ : ∃ ma mc, x.imv = .slice ma x.mem.length mc ∧ Sl intv w2 (.slice ma x.mem.length mc) x.mem := by
  obtain ⟨a, cap, h1, _⟩ := id hn2.mem
  exact ⟨a, cap, h1, h1 ▸ hn2.mem⟩
 obtain ⟨d, hd, hdl⟩ := hn2.dat
 obtain ⟨da, dc, hdv, hds⟩ : ∃ da dc, x.idv = .slice da d.length dc ∧ Sl u8v w2 (.slice da d.length dc) d := by
  obtain ⟨a, cap, h1, _⟩ := id hd
  exact ⟨a, cap, h1, h1 ▸ hd⟩
 have HCL := hI (clone_img w2.drew x.ix x.tm ma mc x.mem (hms.below (bD bR) hms.row_lt) hmem da dc d (hds.below (bD bR) hds.row_lt) (by omega))
 have HXX := hI hxx
 have HMV := hI hmv
 have HDV := hI hdv
 have c4 : w2.cell? ⟨p, 4, none⟩ = some (.int .u64 x.term) := H2.out.cell 4 rfl
 have c5 : w2.cell? ⟨p, 5, none⟩ = some (.int .i64 x.vote) := H2.out.cell 5 rfl
 have c10 : w2.cell? ⟨p, 10, none⟩ = some (.int .u64 x.ix) := H2.out.cell 10 rfl
 have c11 : w2.cell? ⟨p, 11, none⟩ = some (.int .u64 x.tm) := H2.out.cell 11 rfl
 have c12 : w2.cell? ⟨p, 12, none⟩ = some (.slice ma x.mem.length mc) := by rw [← hmv]; exact H2.out.cell 12 rfl
 have c13 : w2.cell? ⟨p, 13, none⟩ = some (.slice da d.length dc) := by rw [← hdv]; exact H2.out.cell 13 rfl
 have hp2 : p < w2.heap.size := H2.out.plt
 have HRW := hI hrow
 have HPL := hI hpl2
 have HB02 := hI hb02
 have HZ1 : Hid (w.heap.size < ((w.alloc (.cells #[.int .u64 0, .int .i64 0, .int .u64 0, .int .u64 0, .slice none 0 0, .slice none 0 0, .slice none 0 0] 43)).drewN dn).heap.size) := hI (by show w.heap.size < (w.alloc _).heap.size; simp)
 have HLE : Hid (x.es.length ≤ 1024) := hI hn2.len
 clear d9 hfr hrow hb2 hpl2 hxx hms hds hmv hdv hd hn2 hb02
 go_wp2_with fail
 go_region_law (first
   | (go_simp; go_at_call 28; refine HCL.out.mono ?_; rintro en w3 ⟨na, nc, ea, ec, rfl, hb3, hsm, hsd, hnm, hnd⟩; have hb23 : Below w2.heap.size w2 w3 := (bD (Below.refl _ w2)).trans (hb3.mono (by simp)); have HB23 := hI hb23; have HSM := hI hsm; have HSD := hI hsd; have HNM := hI hnm; have HND := hI hnd; have H3 := hI (H2.out.below hb23); have hx3 := bH hb23 HXX.out (heap_lt HXX.out); have y0 := bC hx3 0 rfl; have y1 := bC hx3 1 rfl; have y2 := bC hx3 2 rfl; have y3 := bC hx3 3 rfl; have y4 := bC hx3 4 rfl; have y5 := bC hx3 5 rfl; have y6 := bC hx3 6 rfl; have f0 := bF hx3 0; have f1 := bF hx3 1; have f2 := bF hx3 2; have f3 := bF hx3 3; have f4 := bF hx3 4; have f5 := bF hx3 5; have f6 := bF hx3 6; have k4 : w3.cell? ⟨p, 4, none⟩ = some (.int .u64 x.term) := H3.out.cell 4 rfl; have k5 : w3.cell? ⟨p, 5, none⟩ = some (.int .i64 x.vote) := H3.out.cell 5 rfl; clear hb3 hx3 hsm hsd hnm hnd))
 all_goals
  go_wp2_with fail
  have hz2 : w.heap.size < w2.heap.size := heap_lt HXX.out
  have i0 : (Value.slice na x.mem.length nc).ownBlock ≠ some w.heap.size := fun e => absurd (Nat.lt_of_lt_of_le hz2 (HNM.out _ e)) (Nat.lt_irrefl _)
  have j0 : (Value.slice ea d.length ec).ownBlock ≠ some w.heap.size := fun e => absurd (Nat.lt_of_lt_of_le hz2 (HND.out _ e)) (Nat.lt_irrefl _)
  have hb := HB02.out.trans (HB23.out.mono HB02.out.size)
  obtain ⟨r1, r2, r3⟩ := HRW.out.below HB23.out
  have hz1 := HZ1.out
  refine bodyPost_ret (v := .agg #[.int .u64 x.term, .int .i64 x.vote, .int .u64 x.ix, .int .u64 x.tm, .slice na x.mem.length nc, .slice ea d.length ec, .slice va l.length vc]) (by simp [results, Tryz.results10, go_sem, y0, y1, y2, y3, y4, y5, y6]) rfl ⟨na, nc, ea, ec, d, va, l, vc, rfl, ?_, hdl, ?_, ?_, fun k hk => Nat.le_trans (Nat.le_of_lt hz2) (HNM.out k hk), fun k hk => Nat.le_trans (Nat.le_of_lt hz2) (HND.out k hk), ?_, ?_⟩
  ·exact (((((((hb.setCell (by simp) _).setCell (by simp) _).setCell (by simp) _).setCell (by simp) _).setCell (by simp) _).setCell (by simp) _).setCell (by simp) _)
  ·exact (((((((HSM.out.setCell i0 _).setCell i0 _).setCell i0 _).setCell i0 _).setCell i0 _).setCell i0 _).setCell i0 _)
  ·exact (((((((HSD.out.setCell j0 _).setCell j0 _).setCell j0 _).setCell j0 _).setCell j0 _).setCell j0 _).setCell j0 _)
  ·have key : ∀ W, Keeps (fun k => k = w.heap.size) w3 W → RowN w W (.slice va l.length vc) l := fun W hks =>
    ⟨owns_kept r1 hks fun k hk e => by have := r2 k hk; omega, fun k hk => Nat.le_trans (Nat.le_of_lt hz1) (r2 k hk), fun e he => ⟨(r3 e he).1.kept hks fun k hk e' => by have := ((r3 e he).2 k hk).1; omega, fun k hk => ⟨Nat.le_trans (Nat.le_of_lt hz1) ((r3 e he).2 k hk).1, ((r3 e he).2 k hk).2⟩⟩⟩
   refine key _ ?_
   exact ((((((((Keeps.refl (fun k => k = w.heap.size) w3).setCell (.inl rfl) _).setCell (.inl rfl) _).setCell (.inl rfl) _).setCell (.inl rfl) _).setCell (.inl rfl) _).setCell (.inl rfl) _).setCell (.inl rfl) _)
  ·rw [HPL.out, List.drop_zero, List.take_of_length_le HLE.out]
end
section
open Go.RowKit
section
variable {C0 : List Int} {g : Gh En} {n : Nat} {x y : NodeS} {X : List En}
theorem anew_ok (h : OkN C0 g n x X) (e1 : y.id = x.id) (e2 : 1 ≤ y.el ∧ y.el ≤ 1000) (e3 : y.term = x.term) (e4 : y.vote = x.vote) (e5 : y.role = 0) (e6 : y.ix = x.ix) (e7 : y.tm = x.tm) (e8 : y.es.map Ent.pl = x.es.map Ent.pl) (e9 : y.mem = x.mem) (e10 : y.commit = x.ix) (e11 : y.pl = none) (e12 : y.tr = none) (hlo : 0 ≤ x.ix) : OkN C0 g n y X := by
 have ha := h.ni.anew
 have e : y.nd = { x.nd with role := 0, poll := none, trk := [], commit := x.nd.base } := by
  unfold NodeS.nd trkOf
  rw [e3, e4, e5, e6, e7, pl_en e8, e9, e10, e11, e12]
  rfl
 refine ⟨by rw [e, e1]; exact ha, by rw [e1]; exact h.i7, by rw [e3]; exact h.t0, by rw [e3]; exact h.tn, by rw [e10]; exact hlo, h.len, by rw [e9]; exact h.memb, by rw [e4]; exact h.v0, by rw [e4]; exact h.v7, (fun r => by rw [e5] at r; cases r), e2⟩
theorem renew_node (w : World) (M : Nat → Prop) (hM : ∀ k, M k → k < w.heap.size) (hN : OkN C0 g n x X) (hn6 : n ≤ 1000) (hok : LogOk x.ix x.tm x.es) (hdd : ∀ e ∈ x.es, e.d.length ≤ 900) (hlen : x.es.length ≤ 1024)
  (id el be : Int) (ca : Option Addr) (cc : Nat) (mem0 : List Int) (hs : Sl intv w (.slice ca mem0.length cc) mem0) (hm0 : mB mem0 = true) (i1 : 1 ≤ id) (i7 : id ≤ 7) (e1 : 1 ≤ el) (e2 : el ≤ 1000) (b1 : 1 ≤ be) (b2 : be ≤ el)
  (ia : Option Addr) (ic : Nat) (him : Sl intv w (.slice ia x.mem.length ic) x.mem) (da : Option Addr) (dc : Nat) (d : List UInt8) (hd : Sl u8v w (.slice da d.length dc) d) (hdl : d.length ≤ 1000) (va : Option Addr) (vc : Nat) (l : List Ent) (hl : RowE w (fun _ => False) (.slice va l.length vc) l) (hpl : l.map Ent.pl = x.es.map Ent.pl) :
  Calls Tryz.prog 22 #[.agg #[.int .i64 id, .slice ca mem0.length cc, .int .i64 el, .int .i64 be], .agg #[.int .u64 x.term, .int .i64 x.vote, .int .u64 x.ix, .int .u64 x.tm, .slice ia x.mem.length ic, .slice da d.length dc, .slice va l.length vc]] w (NewR w M id el be mem0 x.term x.vote x.ix x.tm x.mem l) := by
 have hnm := hN.nums hok
 have h1 := hnm.last
 have h2 := hN.len
 have htn := hN.tn
 have ht0 : termE x.ix x.tm x.es x.ix = some x.tm := by unfold termE; rw [if_pos rfl]
 have hte := hN.termE_ hok ht0
 have hf0 := hN.fol hok hdd (j := 0) (t := x.tm) (by simpa using ht0) x.es.length
 have hf : FolOk x.ix x.tm l := by
  refine FolOk.pl_ (k := x.es) ?_ hpl
  simpa using hf0
 have hlt : lT x.tm l ≤ x.term := by
  rw [pl_last hpl]
  have h3 := hN.last_term hok
  have h4 := hN.ni.last
  have h5 := hok.lastT
  rw [h3] at h4
  simp only [NodeS.nd] at h4
  have := hN.t0
  omega
 exact new_node w M hM id el be ca cc mem0 hs hm0 i1 i7 e1 e2 b1 b2 x.term x.vote x.ix x.tm ia ic x.mem him (.inr hN.memb) da dc d hd hdl va vc l hl hf hok.lo (by omega) hte.1 (by omega) (by rw [pl_len hpl]; omega) hN.v0 hN.v7 hlt (by omega)
end
end
section
open Go.RowKit
def DropR (w : World) (M : Nat → Prop) (c : Cl) (a mb : Nat) (m : Msg) (w' : World) : Prop :=
 ∃ M' nv, Cn w M c w' M' { c with nv := nv, net := c.net.take a ++ c.net.drop (a + 1) } ∧ w'.heap[mb]? = some (.cells m.cells.toArray 54 (0, 0))
theorem ClOk.cut {C0 : List Int} {g : Gh En} {n : Nat} {c : Cl} (h : ClOk C0 g n c) (a : Nat) (nv : Value) : ClOk C0 g n { c with nv := nv, net := c.net.take a ++ c.net.drop (a + 1) } :=
 ⟨h.gok, h.node, fun m hm => by
   rcases List.mem_append.1 hm with hm | hm
   · exact h.net m (List.mem_of_mem_take hm)
   · exact h.net m (List.mem_of_mem_drop hm), h.outs⟩
theorem act_cells {w w1 w2 : World} {M M1 : Nat → Prop} {c : Cl} {nv : Value} {net : List Msg} {C0 : List Int} {g : Gh En} {N mb : Nat} {o : Obj} (hC : Cn w M c w1 M1 { c with nv := nv, net := net }) (hmb : w.heap.size ≤ mb) (hx : w1.heap[mb]? = some o) (h0 : ClAt w M c) {j : Nat} (hj : j < c.s)
  (ha : ActTo C0 g N 14 w1 M1 (c.F j) w2 (c.P j) (c.x j)) : ∃ (_ : Nat → Prop) (_ : Nat → Prop) (_ : Cl), (w2.cell? ⟨c.wd, 0, none⟩ = some (.slice (some ⟨c.nb, 0, none⟩) c.s c.ncap) ∧ w2.cell? ⟨c.nb, j, none⟩ = some (.pointer (some ⟨c.P j, 0, none⟩))) ∧ w2.heap[mb]? = some o := by
 obtain ⟨y, g', Y, hn', hA⟩ := ha
 obtain ⟨M2, G, hC2⟩ := hC.at_.act (i := j) hj hA.stay.id hn'
 obtain ⟨_, _, hk, _⟩ := hn'
 refine ⟨M2, G, c, ⟨(hC.trans hC2).d0, (hC.trans hC2).dn hj⟩, hk.heap (fun e => ?_) hx⟩
 obtain ⟨S, hn⟩ := h0.node j hj
 have := hn.lt mb e
 omega
theorem msg_cell {w : World} {v : Value} {l : List Msg} (h : RowO w 54 11 v l.length (flatM l)) {gb off cap : Nat} (hv : v = .slice (some ⟨gb, off, none⟩) l.length cap) {a : Nat} {m : Msg} (hm : l[a]? = some m) (k : Nat) {u : Value} (hu : m.cells[k]? = some u) : w.cell? ⟨gb, off + a * 11 + k, none⟩ = some u := by
 have := h.cell hv (flat_at hm hu)
 rwa [← Nat.add_assoc] at this
theorem src_one {w W : World} {M : Nat → Prop} {b : Nat} {m : Msg} {T : TypeId} (hb : w.heap[b]? = some (.cells m.cells.toArray T (0, 0))) (hm : MsgOk W M m) : SrcO w.drew 11 (.slice (some ⟨b, 0, none⟩) 1 1) 1 (flatM [m]) := by
 have e : flatM [m] = m.cells := by simp [flatM]
 refine ⟨_, 1, rfl, by rw [flatM_len]; rfl, (fun e => by cases e), fun a ha j u hj => ?_, flat_one (w := W) (M := M) fun x hx => by obtain rfl := List.mem_singleton.1 hx; exact hm⟩
 cases ha
 rw [e] at hj
 rw [add_lit', Nat.zero_add]
 exact bC (w := w) hb j (by simpa using hj)
theorem src_zero {w : World} {size m : Nat} {xo : Option Addr} {c : Nat} {news : List Value} (h : m = 0) (hn : news = []) : SrcO w size (.slice xo m c) m news := by
 subst h hn
 exact ⟨xo, c, rfl, by simp, fun _ => rfl, (fun a _ j u hj => by simp at hj), fun u hu => by cases hu⟩
theorem flatM_drop (l : List Msg) (q : Nat) : (flatM l).drop (q * 11) = flatM (l.drop q) := by
 rcases Nat.lt_or_ge l.length q with h | h
 ·rw [List.drop_eq_nil_of_le (by rw [flatM_len]; omega), List.drop_eq_nil_of_le (by omega)]; rfl
 ·have e : flatM l = flatM (l.take q) ++ flatM (l.drop q) := by rw [← flatM_app, List.take_append_drop]
  rw [e, List.drop_append_of_le_length (by rw [flatM_len, List.length_take]; omega), List.drop_eq_nil_of_le (by rw [flatM_len, List.length_take]; omega), List.nil_append]
theorem belowDmv (w : World) (M : Nat → Prop) : Mv w M w.drew M := Mv.below M (bD (Below.refl _ w))
end
section
open Go.RowKit
set_option maxRecDepth 100000 in
theorem same_yes (w : World) (i t : Int) (cf : Bool) (d : List UInt8) (a1 : Option Addr) (c1 : Nat) (h1 : Sl u8v w (.slice a1 d.length c1) d) (a2 : Option Addr) (c2 : Nat) (h2 : Sl u8v w (.slice a2 d.length c2) d) :
  Calls Tryz.prog 11 #[.agg #[.int .u64 i, .int .u64 t, .bool cf, .slice a1 d.length c1], .agg #[.int .u64 i, .int .u64 t, .bool cf, .slice a2 d.length c2]] w (RetB (.bool true) w) := by
 have hb : Below w.heap.size w ((w.alloc (.cells #[.int .u64 i, .int .u64 t, .bool cf, .slice a1 d.length c1] 47)).alloc (.cells #[.int .u64 i, .int .u64 t, .bool cf, .slice a2 d.length c2] 47)) := (bR.alloc nL _).alloc (by simp) _
 have hs1 := sl_string (h1.below hb h1.row_lt) Tryz.underlying38
 have hs2 := sl_string (h2.below hb h2.row_lt) Tryz.underlying38
 have HB := hI hb
 clear h1 h2 hb
 go_enter Tryz.func11, Tryz.ntmps11
 go_wp2_with fail
 go_ret
 exact RetB.mk (by first | rfl | simp) HB.out
end
section
open Go.RowKit Go.Maps Go.ChangeMaps
def keyU (c : Int) : Value := .int .u64 c
def leadV (i : Int) : Value := .int .i64 i
def entV (e : Ent) : Value := .agg #[.int .u64 e.ix, .int .u64 e.tm, .bool e.cf, e.v]
theorem keyU_inj : ∀ a b : Int, keyU a = keyU b → a = b := by intro a b h; simpa [keyU] using h
theorem ukeyed : Keyed Tryz.prog 26 := int_keyed Tryz.underlying26
theorem ukey {c : Int} (h : (Lit.int .u64 c).wf = true) : keyOf Tryz.prog 26 (keyU c) = some (.int .u64 c) := keyOf_int_mk Tryz.underlying26 h
theorem lzero (w : World) : (zeroValue 3).run Tryz.prog w = .ok (.int .i64 0) w := by kernel_rfl
theorem ezero (w : World) : (zeroValue 47).run Tryz.prog w = .ok (.agg #[.int .u64 0, .int .u64 0, .bool false, .slice none 0 0]) w := by kernel_rfl
theorem u64_wf {c : Int} (h0 : 0 ≤ c) (h1 : c ≤ 18446744073709551615) : (Lit.int .u64 c).wf = true := by
 simp [Lit.wf, IntKind.min, IntKind.max, IntKind.signed, IntKind.bits]; omega
structure AgAt (w : World) (M : Nat → Prop) (lm am : Nat) (L : List (Int × Int)) (D : List (Int × Ent)) : Prop where
 lead : MapOf Tryz.prog 26 keyU leadV w lm L
 ag : MapOf Tryz.prog 26 keyU entV w am D
 row : ∀ p ∈ D, Sl u8v w p.2.v p.2.d ∧ im M p.2.v
theorem AgAt.mv {w w' : World} {M M' T : Nat → Prop} {lm am : Nat} {L : List (Int × Int)} {D : List (Int × Ent)} (h : AgAt w M lm am L D) (hm : Mv w M w' M') (hk : Keeps T w w') (h1 : ¬ T lm) (h2 : ¬ T am) : AgAt w' M' lm am L D :=
 ⟨h.lead.kept hk h1, h.ag.kept hk h2, fun p hp => ⟨hm.sl (h.row p hp).1 (h.row p hp).2, hm.im (h.row p hp).2 (h.row p hp).1.row_lt⟩⟩
theorem AgAt.below {w w' : World} {M : Nat → Prop} {lm am : Nat} {L : List (Int × Int)} {D : List (Int × Ent)} (h : AgAt w M lm am L D) (hb : Below w.heap.size w w') : AgAt w' M lm am L D :=
 h.mv (Mv.below M hb) (Keeps.of_belowS (S := fun _ => False) hb) id id
structure AgOk (C0 : List Int) (g : Gh En) (L : List (Int × Int)) (D : List (Int × Ent)) : Prop where
 lead : ∀ p ∈ L, 0 ≤ p.1 ∧ g.el p.1.toNat = some (p.2 + 1)
 ag : ∀ p ∈ D, 1 ≤ p.1 ∧ p.2.ix = p.1 ∧ 0 ≤ p.2.tm ∧ ∃ t X, Com g t X p.1.toNat ∧ X[p.1.toNat - 1]? = some p.2.en
section
variable {C0 : List Int} {g g' : Gh En} {n : Nat} {x : NodeS} {X : List En} {L : List (Int × Int)} {D : List (Int × Ent)}
theorem AgOk.nil : AgOk C0 g [] [] := ⟨(fun _ h => by cases h), fun _ h => by cases h⟩
theorem AgOk.grow {v : Int} (h : AgOk C0 g L D) (hg : OkG C0 g n) (hgr : Grow v g g') : AgOk C0 g' L D :=
 ⟨fun p hp => ⟨(h.lead p hp).1, hgr.el _ _ (h.lead p hp).2⟩, fun p hp => by
   obtain ⟨a, b, c, t, X, d, e⟩ := h.ag p hp
   exact ⟨a, b, c, t, X, d.grow hg.gi hgr, e⟩⟩
theorem AgOk.leader (h : AgOk C0 g L D) (hN : OkN C0 g n x X) (hr : x.role = 3) (i : Int) (hid : x.id = i + 1) : (∀ j, aget x.term L = some j → j = i) ∧ AgOk C0 g (aset x.term i L) D := by
 have hl := (hN.ni.lead hr).1
 have hl' : g.el x.term.toNat = some (i + 1) := by rw [← hid]; exact hl
 refine ⟨fun j hj => ?_, fun p hp => ?_, h.ag⟩
 ·have := (h.lead _ (aget_some_mem hj)).2
  rw [hl'] at this
  injection this with this
  omega
 ·rcases aset_mem hp with hp | rfl
  ·exact h.lead p hp
  ·exact ⟨hN.t0, hl'⟩
theorem OkN.ent_at (hN : OkN C0 g n x X) (hok : LogOk x.ix x.tm x.es) {k : Nat} {e : Ent} (he : x.es[k]? = some e) : e.ix = x.ix + (k : Int) + 1 ∧ X[e.ix.toNat - 1]? = some e.en ∧ 1 ≤ e.ix ∧ e.ix ≤ X.length ∧ 0 ≤ e.tm ∧ e.tm ≤ 18446744073709551615 := by
 have h1 := hok.ixs k e he
 have h2 := hok.lo
 have h3 := hN.ni.ents
 have h4 := hok.tms e (List.mem_of_getElem? he)
 have h5 : X[x.ix.toNat + k]? = some e.en := by
  rw [← List.getElem?_drop]
  have : X.drop x.ix.toNat = x.es.map Ent.en := h3
  rw [this, List.getElem?_map, he]; rfl
 have h6 := (List.getElem?_eq_some_iff.1 h5).1
 refine ⟨h1, ?_, by omega, by omega, h4.1, h4.2⟩
 rw [show e.ix.toNat - 1 = x.ix.toNat + k by omega]
 exact h5
theorem pl_at {l es : List Ent} (hpl : l.map Ent.pl = es.map Ent.pl) {k : Nat} {e : Ent} (he : l[k]? = some e) : ∃ e', es[k]? = some e' ∧ e'.ix = e.ix ∧ e'.tm = e.tm ∧ e'.cf = e.cf ∧ e'.d = e.d := by
 have h1 : (es.map Ent.pl)[k]? = some e.pl := by rw [← hpl, List.getElem?_map, he]; rfl
 rw [List.getElem?_map] at h1
 cases h2 : es[k]? with
 | none => rw [h2] at h1; cases h1
 | some e' =>
  rw [h2] at h1
  have h3 : e'.pl = e.pl := by simpa using h1
  unfold Ent.pl at h3
  simp only [Prod.mk.injEq] at h3
  exact ⟨e', rfl, h3.1, h3.2.1, h3.2.2.1, h3.2.2.2⟩
theorem OkN.state_at (hN : OkN C0 g n x X) (hok : LogOk x.ix x.tm x.es) {l : List Ent} (hpl : l.map Ent.pl = x.es.map Ent.pl) {k : Nat} {e : Ent} (he : l[k]? = some e) : e.ix = x.ix + (k : Int) + 1 ∧ X[e.ix.toNat - 1]? = some e.en ∧ 1 ≤ e.ix ∧ e.ix ≤ X.length ∧ 0 ≤ e.tm ∧ e.tm ≤ 18446744073709551615 := by
 obtain ⟨e', h1, h2, h3, h4, h5⟩ := pl_at hpl he
 have := hN.ent_at hok h1
 rw [h2, h3] at this
 have he' : e'.en = e.en := by unfold Ent.en; rw [h3, h4, h5]
 rw [he'] at this
 exact this
theorem en_same {e y : Ent} (he : e.en = y.en) (h1 : 0 ≤ e.tm) (h2 : 0 ≤ y.tm) : e.tm = y.tm ∧ e.cf = y.cf ∧ e.d = y.d := by
 unfold Ent.en at he
 injection he with a b c
 exact ⟨by omega, b, c⟩
theorem AgOk.entry (h : AgOk C0 g L D) (hg : OkG C0 g n) (hN : OkN C0 g n x X) (hok : LogOk x.ix x.tm x.es) {l : List Ent} (hpl : l.map Ent.pl = x.es.map Ent.pl) {k : Nat} {e : Ent} (he : l[k]? = some e) (hc : e.ix ≤ x.commit) :
  (∀ y, aget e.ix D = some y → y.ix = e.ix ∧ y.tm = e.tm ∧ y.cf = e.cf ∧ y.d = e.d) ∧ AgOk C0 g L (aset e.ix e D) := by
 obtain ⟨_, h2, h3, h4, h5, _⟩ := hN.state_at hok hpl he
 have hcom : Com g x.term.toNat X e.ix.toNat := Com.mono hN.ni.com nL (by show _ ≤ x.commit.toNat; omega)
 refine ⟨fun y hy => ?_, h.lead, fun p hp => ?_⟩
 ·obtain ⟨_, y2, y3, t, Y, y4, y5⟩ := h.ag _ (aget_some_mem hy)
  have hs := (com_same hg.gi hcom y4 nL nL).get (k := e.ix.toNat - 1) (by omega)
  have y5' : Y[e.ix.toNat - 1]? = some y.en := y5
  rw [h2, y5'] at hs
  injection hs with hs
  obtain ⟨a, b, c⟩ := en_same hs h5 y3
  exact ⟨y2, a.symm, b.symm, c.symm⟩
 ·rcases aset_mem hp with hp | rfl
  ·exact h.ag p hp
  ·exact ⟨h3, rfl, h5, _, X, hcom, h2⟩
end
theorem ClAt.maps {w w' : World} {M : Nat → Prop} {c : Cl} (h : ClAt w M c) (hk : Keeps (fun k => k = c.lm ∨ k = c.am) w w') : ClAt w' M c := by
 have hm : Mv w M w' M := Mv.keep hk fun k hk => h.own k (hk.elim (fun e => .inr (.inr (.inr (.inr (.inl e))))) fun e => .inr (.inr (.inr (.inr (.inr e)))))
 have hd := h.d0
 obtain ⟨cur, n1, n2⟩ := h.nodes
 obtain ⟨cur', fr, c1, c2⟩ := h.cfg
 exact ⟨hk.heap (fun e => by omega) h.box, ⟨cur, hk.heap (fun e => by omega) n1, n2⟩, ⟨cur', fr, hk.heap (fun e => by omega) c1, c2⟩, hm.sl h.mem h.imm, hm.im h.imm h.mem.row_lt,
   fun i hi => (h.node i hi).mv hm (fun _ h => h) hk fun k hf e => h.fo i k hi hf (e.elim (fun e => .inr (.inr (.inr (.inr (.inl e))))) fun e => .inr (.inr (.inr (.inr (.inr e))))), h.apart,
   h.net.kept hk fun k hk e => by have := h.dn k hk; omega, fun m hm' => (h.msgs m hm').mv_ hm, fun k hk => h.own k hk, h.fo, h.d0, h.dn, fun k hk' => Nat.lt_of_lt_of_le (h.lt k hk') hk.size, h.ids, h.s1, h.s7, h.nc⟩
theorem ClAt.lml {w : World} {M : Nat → Prop} {c : Cl} (h : ClAt w M c) : c.lm < w.heap.size ∧ c.am < w.heap.size := ⟨h.lt _ (h.own _ (.inr (.inr (.inr (.inr (.inl rfl)))))), h.lt _ (h.own _ (.inr (.inr (.inr (.inr (.inr rfl))))))⟩
def SafeR (C0 : List Int) (g : Gh En) (w : World) (M : Nat → Prop) (c : Cl) (e : Ending) (w' : World) : Prop :=
 e = .returned (.bool true) ∧ ∃ L D, ClAt w' M c ∧ AgAt w' M c.lm c.am L D ∧ AgOk C0 g L D ∧ Keeps (fun k => k = c.lm ∨ k = c.am) w w'
end
end Go.Proofs.YtdjooojpcepleaaGreat

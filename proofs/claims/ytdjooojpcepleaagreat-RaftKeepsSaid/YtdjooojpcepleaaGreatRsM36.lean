/- The law's safe: nobody leads beside another one, and what is committed is the same everywhere. -/
import Derived.Test.YtdjooojpcepleaaGreatRsM35
import Derived.Deep.DeepCutAuto
import Derived.Deep.CutBlock

namespace Go.Proofs.YtdjooojpcepleaaGreat
open Go.RowKit Go.Maps Go.ChangeMaps
def SafeL (C0 : List Int) (g : Gh En) (w : World) (M : Nat → Prop) (c : Cl) (w' : World) : Prop :=
 ∃ L D, ClAt w' M c ∧ AgAt w' M c.lm c.am L D ∧ AgOk C0 g L D ∧ Keeps (fun k => k = c.lm ∨ k = c.am) w w'
section
variable {C0 : List Int} {g : Gh En} {w wr w' : World} {M : Nat → Prop} {c : Cl}
theorem SafeL.below (h : SafeL C0 g w M c wr) (hb : Below wr.heap.size wr w') : SafeL C0 g w M c w' := by
 obtain ⟨L, D, a, b, d, e⟩ := h
 exact ⟨L, D, a.below hb, b.below hb, d, e.trans (Keeps.of_belowS hb)⟩
theorem SafeL.cl (h : SafeL C0 g w M c wr) : ClAt wr M c := by
 obtain ⟨L, D, a, _⟩ := h
 exact a
theorem keeps_lm (c : Cl) (w : World) (ob : Obj) : Keeps (fun k => k = c.lm ∨ k = c.am) w (setBlock w c.lm ob) := (Keeps.refl _ _).setBlock (.inl (.inl rfl)) ob
theorem keeps_am (c : Cl) (w : World) (ob : Obj) : Keeps (fun k => k = c.lm ∨ k = c.am) w (setBlock w c.am ob) := (Keeps.refl _ _).setBlock (.inl (.inr rfl)) ob
theorem SafeL.led {L L' : List (Int × Int)} {D : List (Int × Ent)} (hC : ClAt wr M c) (hA : AgAt wr M c.lm c.am L D) (hK : Keeps (fun k => k = c.lm ∨ k = c.am) w wr) {ob : Obj} (hM : MapOf Tryz.prog 26 keyU leadV (setBlock wr c.lm ob) c.lm L') (hO : AgOk C0 g L' D) : SafeL C0 g w M c (setBlock wr c.lm ob) := by
 have hk : Keeps (fun k => k = c.lm) wr (setBlock wr c.lm ob) := (Keeps.refl (fun k => k = c.lm) wr).setBlock (p := c.lm) (.inl rfl) ob
 have hne : c.am ≠ c.lm := by have := hC.d0; omega
 have hm : Mv wr M (setBlock wr c.lm ob) M := Mv.keep hk fun k e => hC.own k (.inr (.inr (.inr (.inr (.inl e)))))
 exact ⟨L', D, hC.maps (keeps_lm c wr ob), ⟨hM, hA.ag.kept hk hne, fun p hp => ⟨hm.sl (hA.row p hp).1 (hA.row p hp).2, (hA.row p hp).2⟩⟩, hO, hK.trans (keeps_lm c wr ob)⟩
theorem safe_look {n : Nat} {x : NodeS} {X : List En} (h : SafeL C0 g w M c wr) (hg : OkG C0 g n) (hn6 : n ≤ 1000) (hN : OkN C0 g n x X) (hok : LogOk x.ix x.tm x.es) {l : List Ent} (hpl : l.map Ent.pl = x.es.map Ent.pl) {k : Nat} {e : Ent} (he : l[k]? = some e) (hc : e.ix ≤ x.commit) {p8 : Nat} (q0 : wr.cell? ⟨p8, 0, none⟩ = some (.int .u64 e.ix)) :
  ∃ (yix ytm : Int) (ycf : Bool) (ya : Option Addr) (yn yc : Nat) (yb : Bool), Hid (∀ W, Below wr.heap.size wr W → W.cell? ⟨c.wd, 4, none⟩ = some (.map (some c.am)) ∧ W.cell? ⟨p8, 0, none⟩ = some (.int .u64 e.ix) ∧ (Instr.lookup 34 (.map (some c.am)) (.int .u64 e.ix) true).run Tryz.prog W = .ok (.tuple #[.agg #[.int .u64 yix, .int .u64 ytm, .bool ycf, .slice ya yn yc], .bool yb]) W) ∧
   Hid (yb = true → yix = e.ix ∧ ytm = e.tm ∧ ycf = e.cf ∧ yn = e.d.length ∧ Sl u8v wr (.slice ya e.d.length yc) e.d) := by
 obtain ⟨L, D, hC, hA, hO, _⟩ := h
 obtain ⟨_, _, h1, _, _, _⟩ := hN.state_at hok hpl he
 have hix : 0 ≤ e.ix ∧ e.ix ≤ 18446744073709551615 := by
  have h2 := (hN.state_at hok hpl he).2.2.2.1
  have h3 := hN.len
  omega
 have hsame := (hO.entry hg hN hok hpl he hc).1
 have key : ∀ W, Below wr.heap.size wr W → (Instr.lookup 34 (.map (some c.am)) (.int .u64 e.ix) true).run Tryz.prog W = .ok (.tuple #[((aget e.ix D).map entV).getD (.agg #[.int .u64 0, .int .u64 0, .bool false, .slice none 0 0]), .bool (aget e.ix D).isSome]) W := fun W hW => by
  have := (hA.below hW).ag.run_lookup ukeyed keyU_inj Tryz.underlying34 (ezero W) (ukey (u64_wf hix.1 hix.2)) (key := e.ix) true
  exact this
 have hcell : ∀ W, Below wr.heap.size wr W → W.cell? ⟨c.wd, 4, none⟩ = some (.map (some c.am)) ∧ W.cell? ⟨p8, 0, none⟩ = some (.int .u64 e.ix) := fun W hW => ⟨(hC.below hW).k4, by rw [hW.cell (cell_lt q0)]; exact q0⟩
 cases hy : aget e.ix D with
 | none =>
  rw [hy] at key
  exact ⟨0, 0, false, none, 0, 0, false, hI fun W hW => ⟨(hcell W hW).1, (hcell W hW).2, key W hW⟩, hI fun e => by cases e⟩
 | some y =>
  rw [hy] at key
  obtain ⟨s1, s2, s3, s4⟩ := hsame y hy
  have hr := (hA.row _ (aget_some_mem hy)).1
  have hr' : Sl u8v wr y.v y.d := hr
  obtain ⟨ya, yc, hyv, _⟩ := id hr'
  rw [hyv, s4] at hr'
  refine ⟨e.ix, e.tm, e.cf, ya, e.d.length, yc, true, hI fun W hW => ⟨(hcell W hW).1, (hcell W hW).2, ?_⟩, hI fun _ => ⟨rfl, rfl, rfl, rfl, hr'⟩⟩
  have := key W hW
  rw [show ((some y).map entV).getD (.agg #[.int .u64 0, .int .u64 0, .bool false, .slice none 0 0]) = .agg #[.int .u64 e.ix, .int .u64 e.tm, .bool e.cf, .slice ya e.d.length yc] by show entV y = _; unfold entV; rw [s1, s2, s3, hyv, s4]] at this
  exact this
theorem SafeL.agreed {L : List (Int × Int)} {D : List (Int × Ent)} (hC : ClAt wr M c) (hA : AgAt wr M c.lm c.am L D) (hK : Keeps (fun k => k = c.lm ∨ k = c.am) w wr) {ob : Obj} {k : Int} {e : Ent} (hM : MapOf Tryz.prog 26 keyU entV (setBlock wr c.am ob) c.am (aset k e D)) (he : Sl u8v wr e.v e.d ∧ im M e.v) (hO : AgOk C0 g L (aset k e D)) : SafeL C0 g w M c (setBlock wr c.am ob) := by
 have hk : Keeps (fun k => k = c.am) wr (setBlock wr c.am ob) := (Keeps.refl (fun k => k = c.am) wr).setBlock (p := c.am) (.inl rfl) ob
 have hne : c.lm ≠ c.am := by have := hC.d0; omega
 have hm : Mv wr M (setBlock wr c.am ob) M := Mv.keep hk fun k e => hC.own k (.inr (.inr (.inr (.inr (.inr e)))))
 refine ⟨L, _, hC.maps (keeps_am c wr ob), ⟨hA.lead.kept hk hne, hM, fun p hp => ?_⟩, hO, hK.trans (keeps_am c wr ob)⟩
 rcases aset_mem hp with hp | rfl
 ·exact ⟨hm.sl (hA.row p hp).1 (hA.row p hp).2, (hA.row p hp).2⟩
 ·exact ⟨hm.sl he.1 he.2, he.2⟩
theorem safe_put {n : Nat} {x : NodeS} {X : List En} (h : SafeL C0 g w M c wr) (hg : OkG C0 g n) (hn6 : n ≤ 1000) (hN : OkN C0 g n x X) (hok : LogOk x.ix x.tm x.es) {l : List Ent} (hpl : l.map Ent.pl = x.es.map Ent.pl) {k : Nat} {e : Ent} (he : l[k]? = some e) (hc : e.ix ≤ x.commit) (hs : Sl u8v wr e.v e.d ∧ im M e.v) {da : Option Addr} {dc : Nat} (hv : e.v = .slice da e.d.length dc)
  {p8 : Nat} (h8 : wr.heap[p8]? = some (.cells #[.int .u64 e.ix, .int .u64 e.tm, .bool e.cf, .slice da e.d.length dc] 47 (0, 0))) (hne : p8 ≠ c.am) :
  ∃ ob, (Instr.mapUpdate 34 (.map (some c.am)) (.int .u64 e.ix) (.agg #[.int .u64 e.ix, .int .u64 e.tm, .bool e.cf, .slice da e.d.length dc])).run Tryz.prog wr = .ok () (setBlock wr c.am ob) ∧ Hid (SafeL C0 g w M c (setBlock wr c.am ob)) ∧
   (wr.cell? ⟨c.wd, 4, none⟩ = some (.map (some c.am)) ∧ wr.cell? ⟨p8, 0, none⟩ = some (.int .u64 e.ix) ∧ wr.cell? ⟨p8, 1, none⟩ = some (.int .u64 e.tm) ∧ wr.cell? ⟨p8, 2, none⟩ = some (.bool e.cf) ∧ wr.cell? ⟨p8, 3, none⟩ = some (.slice da e.d.length dc)) ∧
   ((setBlock wr c.am ob).cell? ⟨c.wd, 4, none⟩ = some (.map (some c.am)) ∧ (setBlock wr c.am ob).cell? ⟨p8, 0, none⟩ = some (.int .u64 e.ix) ∧ (setBlock wr c.am ob).cell? ⟨p8, 1, none⟩ = some (.int .u64 e.tm) ∧ (setBlock wr c.am ob).cell? ⟨p8, 2, none⟩ = some (.bool e.cf) ∧ (setBlock wr c.am ob).cell? ⟨p8, 3, none⟩ = some (.slice da e.d.length dc)) := by
 obtain ⟨L, D, hC, hA, hO, hK⟩ := h
 obtain ⟨_, _, h1, _, _, _⟩ := hN.state_at hok hpl he
 have hix : 0 ≤ e.ix ∧ e.ix ≤ 18446744073709551615 := by
  have h2 := (hN.state_at hok hpl he).2.2.2.1
  have h3 := hN.len
  omega
 have hput := (hO.entry hg hN hok hpl he hc).2
 obtain ⟨ob, hup, hM⟩ := hA.ag.run_update ukeyed keyU_inj Tryz.underlying34 (ukey (u64_wf hix.1 hix.2)) (key := e.ix) e
 have hSL := SafeL.agreed hC hA hK hM hs hput
 have hk : Keeps (fun k => k = c.am) wr (setBlock wr c.am ob) := (Keeps.refl (fun k => k = c.am) wr).setBlock (p := c.am) (.inl rfl) ob
 have h8' := hk.heap hne h8
 refine ⟨ob, ?_, hI hSL, ⟨hC.k4, bC h8 0 rfl, bC h8 1 rfl, bC h8 2 rfl, bC h8 3 rfl⟩, hSL.cl.k4, bC h8' 0 rfl, bC h8' 1 rfl, bC h8' 2 rfl, bC h8' 3 rfl⟩
 have : entV e = .agg #[.int .u64 e.ix, .int .u64 e.tm, .bool e.cf, .slice da e.d.length dc] := by unfold entV; rw [hv]
 rw [← this]
 exact hup
end
set_option maxRecDepth 100000 in
set_option maxHeartbeats 4000000 in
theorem safe_any (w : World) (M : Nat → Prop) (c : Cl) (h : ClAt w M c) (C0 : List Int) (g : Gh En) (n : Nat) (ok : ClOk C0 g n c) (hn6 : n ≤ 1000) (L : List (Int × Int)) (D : List (Int × Ent)) (hat : AgAt w M c.lm c.am L D) (hok : AgOk C0 g L D) :
  Calls Tryz.prog 12 #[.pointer (some ⟨c.wd, 0, none⟩)] w (SafeR C0 g w M c) := by
 have hs1 := h.s1
 have hs7 := h.s7
 have HL : Hid (SafeL C0 g w M c w) := hI ⟨L, D, h, hat, hok, Keeps.refl _ _⟩
 have HOK := hI ok
 have k0 := h.k0
 have HID := hI h.ids
 clear h ok hat hok
 go_enter Tryz.func12, Tryz.ntmps12
 go_wp2_with fail
 clear k0
 go_loopw [17] (fun iv wr => ∃ k : Nat, iv = .int .i64 k ∧ k ≤ c.s ∧ Hid (SafeL C0 g w M c wr)) (fun iv _ => c.s - (intOf iv).toNat)
 case atStart => exact ⟨0, rfl, Nat.zero_le _, HL⟩
 case round =>
  obtain ⟨k, rfl, hk, HLK⟩ := hrel
  clear HL L D
  by_cases hlt : k < c.s
  ·obtain ⟨L, D, hC, hA, hAO, hKp⟩ := HLK.out
   obtain ⟨X, hX⟩ := HOK.out.node k hlt
   have hnd := hC.node k hlt
   have zk : (k : Int) < (c.s : Int) := by omega
   have m0 : wr.cell? ⟨c.nb, k, none⟩ = some (.pointer (some ⟨c.P k, 0, none⟩)) := hC.cn hlt
   have HRO := hI (role_node wr M (c.F k) (c.P k) (c.x k) hnd)
   have HC := hI hC
   have HA := hI hA
   have HAO := hI hAO
   have HKP := hI hKp
   have HX := hI hX
   have HID2 := hI (HID.out k hlt)
   have HT0 := hI (u64_wf hX.t0 (by have := hX.tn; omega))
   clear hC hA hAO hKp hX hnd HLK
   go_wp2_with fail
   refine HRO.out.mono ?_
   rintro en w' ⟨rfl, rfl⟩
   clear HRO m0
   by_cases hr : (c.x k).role = 3
   ·rw [hr]
    have HTM := hI (term_node wr M (c.F k) (c.P k) (c.x k) (HC.out.node k hlt))
    have HTD := hI (term_node wr.drew M (c.F k) (c.P k) (c.x k) ((HC.out.below (bD bR)).node k hlt))
    have HAD := hI (HA.out.below (bD (Below.refl _ wr)))
    have d3 : wr.cell? ⟨c.wd, 3, none⟩ = some (.map (some c.lm)) := HC.out.k3
    obtain ⟨hlead, hput⟩ := HAO.out.leader HX.out hr (k : Int) HID2.out
    have HPUT := hI hput
    obtain ⟨lv, hlv, hlv2⟩ : ∃ lv, aget (c.x k).term L = lv ∧ ∀ j, lv = some j → j = (k : Int) := ⟨_, rfl, hlead⟩
    have HLV := hI hlv
    clear hput hlead hlv
    obtain ⟨lw, lb, hval, hlb⟩ : ∃ (lw : Int) (lb : Bool), Value.tuple #[(lv.map leadV).getD (.int .i64 0), .bool lv.isSome] = .tuple #[.int .i64 lw, .bool lb] ∧ (lb = false ∨ lb = true ∧ lw = (k : Int)) := by
     cases lv with
     | none => exact ⟨0, false, rfl, .inl rfl⟩
     | some j => exact ⟨j, true, rfl, .inr ⟨rfl, hlv2 j rfl⟩⟩
    have HVAL := hI hval
    clear hval hlv2
    have hlk : (Instr.lookup 33 (.map (some c.lm)) (.int .u64 (c.x k).term) true).run Tryz.prog wr.drew = .ok (.tuple #[.int .i64 lw, .bool lb]) wr.drew := by
     have := HAD.out.lead.run_lookup ukeyed keyU_inj Tryz.underlying33 (lzero wr.drew) (ukey HT0.out) (key := (c.x k).term) true
     rw [HLV.out] at this
     rw [← HVAL.out]
     exact this
    have HBD : Hid (Below wr.heap.size wr wr.drew.drew) := hI (bD (bD (Below.refl _ wr)))
    have HCD := hI (HC.out.below HBD.out)
    have HA2 := hI (HA.out.below HBD.out)
    have HTE := hI (term_node wr.drew.drew M (c.F k) (c.P k) (c.x k) (HCD.out.node k hlt))
    obtain ⟨ob, hup, hM⟩ := HA2.out.lead.run_update ukeyed keyU_inj Tryz.underlying33 (ukey HT0.out) (key := (c.x k).term) (k : Int)
    have HM := hI hM
    have hup' : (Instr.mapUpdate 33 (.map (some c.lm)) (.int .u64 (c.x k).term) (.int .i64 (k : Int))).run Tryz.prog wr.drew.drew = .ok () (setBlock wr.drew.drew c.lm ob) := hup
    have HSL := hI (SafeL.led HCD.out HA2.out (HKP.out.trans (Keeps.of_belowS HBD.out)) HM.out HPUT.out)
    have d3e : (setBlock wr.drew.drew c.lm ob).cell? ⟨c.wd, 3, none⟩ = some (.map (some c.lm)) := by
     obtain ⟨_, _, h, _⟩ := HSL.out
     exact h.k3
    clear hup hM
    go_wp2_with fail
    go_region_held3 (fun w' => w'.cell? ⟨c.wd, 3, none⟩ = some (.map (some c.lm)) ∧ (Instr.lookup 33 (.map (some c.lm)) (.int .u64 (c.x k).term) true).run Tryz.prog w' = .ok (.tuple #[.int .i64 lw, .bool lb]) w') (exact ⟨d3, hlk⟩) (first
      | (go_at_call 20; refine HTD.out.mono ?_; rintro en w' ⟨rfl, rfl⟩))
    obtain ⟨W, hW⟩ : ∃ W, W = setBlock wr.drew.drew c.lm ob := ⟨_, rfl⟩
    rcases hlb with rfl | ⟨rfl, rfl⟩
    all_goals
     go_wp2_with fail
     go_region_held3 (fun w' => w'.cell? ⟨c.wd, 3, none⟩ = some (.map (some c.lm))) (first | exact d3 | exact d3e) (first
       | (go_at_call 20; refine HTE.out.mono ?_; rintro en w' ⟨rfl, rfl⟩))
     rw [← hW]
     rw [← hW] at HSL
     clear hW hup' d3e d3 HM HTE HA2 HCD HBD HPUT HAD HTD HTM hlk HVAL HLV
     obtain ⟨L5, D5, hC5, hA5, hO5, hK5⟩ := HSL.out
     obtain ⟨S5, hnd⟩ := hC5.node k hlt
     have hixn : (c.x k).ix + 1 ≤ 1000000 := by have h1 := (HX.out.nums hnd.ok).last; have h2 := HX.out.len; omega
     have hml := (mL HX.out.memb).2.1
     have HST := hI (state_node W M (c.F k) (c.P k) (c.x k) ⟨S5, hnd⟩ hixn (by omega))
     have HLO := hI hnd.ok
     have HLT := hI hC5.lt
     clear hC5 hA5 hO5 hK5 hnd hixn hml
     go_wp2_with fail
     refine HST.out.mono ?_
     rintro en w6 ⟨na, nc, ea, ec, dd, va, l, vc, rfl, hb6, _, _, _, _, _, hrn, hpl⟩
     have HS6 := hI (HSL.out.below hb6)
     have HRE := hI (hrn.rowE HLT.out)
     have HPL := hI hpl
     clear hb6 hrn hpl HSL HST HLT
     go_wp2_with fail
     obtain ⟨WA, hWA⟩ : ∃ WA, WA = w6.alloc (.cells #[.int .u64 (c.x k).term, .int .i64 (c.x k).vote, .int .u64 (c.x k).ix, .int .u64 (c.x k).tm, .slice na (c.x k).mem.length nc, .slice ea dd.length ec, .slice va l.length vc] 43) := ⟨_, rfl⟩
     have HBA : Hid (Below w6.heap.size w6 WA) := hI (by rw [hWA]; exact bR.alloc nL _)
     rw [← hWA]
     have HSA := hI (HS6.out.below HBA.out)
     have HRA := hI (HRE.out.mv (Mv.below M HBA.out))
     clear hWA HS6 HRE HBA
     go_loopw [53] (fun iv wr2 => ∃ j : Nat, iv = .int .i64 j ∧ j ≤ l.length ∧ Hid (SafeL C0 g w M c wr2) ∧ Hid (RowE wr2 M (.slice va l.length vc) l)) (fun iv _ => l.length - (intOf iv).toNat)
     case atStart => exact ⟨0, rfl, Nat.zero_le _, HSA, HRA⟩
     case round =>
      clear HSA HRA
      obtain ⟨j, rfl, hjl, HSB, HRB⟩ := hrel
      by_cases hjt : j < l.length
      ·obtain ⟨e, he⟩ : ∃ e, l[j]? = some e := ⟨l[j], List.getElem?_eq_getElem hjt⟩
       obtain ⟨b, o, cap, hv, hc1, hc2, hbl, e0, e1, e2, e3⟩ := HRB.out.at he
       have zl : (l.length : Int) ≤ 9223372036854775807 := by unfold maxLen at hc2; omega
       clear hc1 hc2
       injection hv with hva hlen hvc
       subst hva hvc
       have HDE := hI (HRB.out.2.1 e (List.mem_of_getElem? he))
       obtain ⟨da, dc, hdv, _⟩ := id HDE.out.1
       have HDV := hI hdv
       rw [hdv] at e3
       clear hdv
       have HST2 := hI (HX.out.state_at HLO.out HPL.out he)
       have zj : (j : Int) < (l.length : Int) := by omega
       have HE := hI he
       clear he hlen hbl
       go_wp2_with fail
       obtain ⟨WX, hWX⟩ : ∃ WX, WX = wr.alloc (.cells #[.int .u64 e.ix, .int .u64 e.tm, .bool e.cf, .slice da e.d.length dc] 47) := ⟨_, rfl⟩
       obtain ⟨p8, hp8⟩ : ∃ p, p = wr.heap.size := ⟨_, rfl⟩
       have HX8 : Hid (WX.heap[p8]? = some (.cells #[.int .u64 e.ix, .int .u64 e.tm, .bool e.cf, .slice da e.d.length dc] 47 (0, 0))) := hI (by rw [hWX, hp8]; exact bW wr _)
       have HBX : Hid (Below wr.heap.size wr WX) := hI (by rw [hWX]; exact bR.alloc nL _)
       have HSX : Hid (SafeL C0 g w M c WX) := hI (HSB.out.below HBX.out)
       have HRX := hI (HRB.out.mv (Mv.below M HBX.out))
       have HDX := hI (HDE.out.1.below HBX.out HDE.out.1.row_lt)
       rw [← hWX, ← hp8]
       have HNE8 : Hid (p8 ≠ c.am) := hI (by have := HSB.out.cl.lml.2; omega)
       clear hWX hp8 HBX HSB HRB
       have q0 : WX.cell? ⟨p8, 0, none⟩ = some (.int .u64 e.ix) := bC HX8.out 0 rfl
       have HCM := hI (commit_node WX.drew M (c.F k) (c.P k) (c.x k) ((HSX.out.cl.below (bD bR)).node k hlt))
       clear e0 e1 e2 e3
       by_cases hgt : (c.x k).commit < e.ix
       ·have g1 : decide ((c.x k).commit < e.ix) = true := decide_eq_true hgt
        go_region_held3 (fun w' => w'.cell? ⟨p8, 0, none⟩ = some (.int .u64 e.ix)) (first | exact q0) (first
          | (go_at_call 19; refine HCM.out.mono ?_; rintro en w' ⟨rfl, rfl⟩))
        have HEND := hI (HSX.out.below (bD bR))
        go_wp2_with fail
        go_roundw
        case rel => exact ⟨k + 1, by go_num, by omega, HEND⟩
        case measure => exact k_meas hlt
       ·have g1 : decide ((c.x k).commit < e.ix) = false := decide_eq_false hgt
        have HGT := hI (show e.ix ≤ (c.x k).commit by omega)
        go_region_held3 (fun w' => w'.cell? ⟨p8, 0, none⟩ = some (.int .u64 e.ix)) (first | exact q0) (first
          | (go_at_call 19; refine HCM.out.mono ?_; rintro en w' ⟨rfl, rfl⟩))
        obtain ⟨yix, ytm, ycf, ya, yn, yc, yb, HS14, HYB⟩ := safe_look HSX.out HOK.out.gok hn6 HX.out HLO.out HPL.out HE.out HGT.out (p8 := p8) q0
        obtain ⟨q4, q0', hl14⟩ := HS14.out WX.drew.drew (bD (bD bR))
        clear hgt g1 HCM
        go_wp2_with fail
        go_region_held3 (fun w' => w'.cell? ⟨c.wd, 4, none⟩ = some (.map (some c.am)) ∧ w'.cell? ⟨p8, 0, none⟩ = some (.int .u64 e.ix) ∧ (Instr.lookup 34 (.map (some c.am)) (.int .u64 e.ix) true).run Tryz.prog w' = .ok (.tuple #[.agg #[.int .u64 yix, .int .u64 ytm, .bool ycf, .slice ya yn yc], .bool yb]) w') (first | exact ⟨q4, q0', hl14⟩ | exact HS14.out _ ((bD (bD bR)).alloc (by simp) _)) (fail)
        clear q0 q0' q4 hl14
        all_goals
         obtain ⟨p9, hp9⟩ : ∃ p, p = WX.heap.size := ⟨_, rfl⟩
         obtain ⟨WY, hWY⟩ : ∃ WY, WY = (WX.alloc (.cells #[.int .u64 yix, .int .u64 ytm, .bool ycf, .slice ya yn yc] 47)).drew.drew := ⟨_, rfl⟩
         have HY9 : Hid (WY.heap[p9]? = some (.cells #[.int .u64 yix, .int .u64 ytm, .bool ycf, .slice ya yn yc] 47 (0, 0))) := hI (by rw [hWY, hp9]; exact bW WX _)
         have HBY : Hid (Below WX.heap.size WX WY) := hI (by rw [hWY]; exact bD (bD (bR.alloc nL _)))
         rw [← hWY, ← hp9]
         clear hWY hp9 HS14
         cases yb
         ·have HBZ := HBY
          generalize WY = WZ at *
          obtain ⟨ob, hup, HSE, ⟨c4, x0, x1, x2, x3⟩, ⟨c4e, x0e, x1e, x2e, x3e⟩⟩ := safe_put (HSX.out.below (bD HBZ.out)) HOK.out.gok hn6 HX.out HLO.out HPL.out HE.out HGT.out ⟨HDX.out.below (bD HBZ.out) HDX.out.row_lt, HDE.out.2⟩ HDV.out (bH (bD HBZ.out) HX8.out (heap_lt HX8.out)) HNE8.out
          have HRE : Hid (RowE (setBlock WZ.drew c.am ob) M (.slice (some ⟨b, o, none⟩) l.length vc) l) := hI ((HRX.out.mv (Mv.below M (bD HBZ.out))).mv (Mv.keep ((Keeps.refl (fun k => k = c.am) _).setBlock (p := c.am) (.inl rfl) ob) fun q e => by rw [e]; exact HSX.out.cl.own _ (.inr (.inr (.inr (.inr (.inr rfl)))))))
          clear HBY HYB HY9 HBZ HDE HDX HST2
          go_wp2_with fail
          go_region_held3 (fun w' => w'.cell? ⟨c.wd, 4, none⟩ = some (.map (some c.am)) ∧ w'.cell? ⟨p8, 0, none⟩ = some (.int .u64 e.ix) ∧ w'.cell? ⟨p8, 1, none⟩ = some (.int .u64 e.tm) ∧ w'.cell? ⟨p8, 2, none⟩ = some (.bool e.cf) ∧ w'.cell? ⟨p8, 3, none⟩ = some (.slice da e.d.length dc)) (first | exact ⟨c4, x0, x1, x2, x3⟩ | exact ⟨c4e, x0e, x1e, x2e, x3e⟩) (fail)
          go_wp2_with fail
          go_roundw
          case rel => exact ⟨j + 1, by go_num, by omega, HSE, HRE⟩
          case measure => exact k_meas hjt
         ·obtain ⟨rfl, rfl, rfl, rfl, hys⟩ := HYB.out rfl
          have HSM : Hid (∀ W, Below WX.heap.size WX W → Calls Tryz.prog 11 #[.agg #[.int .u64 e.ix, .int .u64 e.tm, .bool e.cf, .slice da e.d.length dc], .agg #[.int .u64 e.ix, .int .u64 e.tm, .bool e.cf, .slice ya e.d.length yc]] W (RetB (.bool true) W)) := hI fun W hW => same_yes W e.ix e.tm e.cf e.d da dc (by have := HDX.out.below hW HDX.out.row_lt; rw [HDV.out] at this; exact this) ya yc (hys.below hW hys.row_lt)
          clear hys
          have hx8 := bH HBY.out HX8.out (heap_lt HX8.out)
          have x0 := bC hx8 0 rfl
          have x1 := bC hx8 1 rfl
          have x2 := bC hx8 2 rfl
          have x3 := bC hx8 3 rfl
          have y0 := bC HY9.out 0 rfl
          have y1 := bC HY9.out 1 rfl
          have y2 := bC HY9.out 2 rfl
          have y3 := bC HY9.out 3 rfl
          clear hx8
          go_wp2_with fail
          refine (HSM.out WY HBY.out).mono ?_
          rintro en WZ ⟨rfl, hbz⟩
          have HBZ : Hid (Below WX.heap.size WX WZ) := hI (HBY.out.trans (hbz.mono HBY.out.size))
          clear hbz x0 x1 x2 x3 y0 y1 y2 y3 HSM
          obtain ⟨ob, hup, HSE, ⟨c4, x0, x1, x2, x3⟩, ⟨c4e, x0e, x1e, x2e, x3e⟩⟩ := safe_put (HSX.out.below (bD HBZ.out)) HOK.out.gok hn6 HX.out HLO.out HPL.out HE.out HGT.out ⟨HDX.out.below (bD HBZ.out) HDX.out.row_lt, HDE.out.2⟩ HDV.out (bH (bD HBZ.out) HX8.out (heap_lt HX8.out)) HNE8.out
          have HRE : Hid (RowE (setBlock WZ.drew c.am ob) M (.slice (some ⟨b, o, none⟩) l.length vc) l) := hI ((HRX.out.mv (Mv.below M (bD HBZ.out))).mv (Mv.keep ((Keeps.refl (fun k => k = c.am) _).setBlock (p := c.am) (.inl rfl) ob) fun q e => by rw [e]; exact HSX.out.cl.own _ (.inr (.inr (.inr (.inr (.inr rfl)))))))
          clear HBY HYB HY9 HBZ HDE HDX HST2
          go_wp2_with fail
          go_region_held3 (fun w' => w'.cell? ⟨c.wd, 4, none⟩ = some (.map (some c.am)) ∧ w'.cell? ⟨p8, 0, none⟩ = some (.int .u64 e.ix) ∧ w'.cell? ⟨p8, 1, none⟩ = some (.int .u64 e.tm) ∧ w'.cell? ⟨p8, 2, none⟩ = some (.bool e.cf) ∧ w'.cell? ⟨p8, 3, none⟩ = some (.slice da e.d.length dc)) (first | exact ⟨c4, x0, x1, x2, x3⟩ | exact ⟨c4e, x0e, x1e, x2e, x3e⟩) (fail)
          go_wp2_with fail
          go_roundw
          case rel => exact ⟨j + 1, by go_num, by omega, HSE, HRE⟩
          case measure => exact k_meas hjt
      ·obtain rfl : j = l.length := by omega
       go_wp2_with fail
       go_roundw
       case rel => exact ⟨k + 1, by go_num, by omega, HSB⟩
       case measure => exact k_meas hlt
   ·have q3 : ((c.x k).role == 3) = false := by simpa using hr
    have q4 : ¬ ((c.x k).role = 3) := hr
    have HSL := hI (show SafeL C0 g w M c wr from ⟨L, D, HC.out, HA.out, HAO.out, HKP.out⟩)
    obtain ⟨W, hW⟩ : ∃ W, W = wr := ⟨_, rfl⟩
    rw [← hW]
    rw [← hW] at HSL
    clear hW
    obtain ⟨L5, D5, hC5, hA5, hO5, hK5⟩ := HSL.out
    obtain ⟨S5, hnd⟩ := hC5.node k hlt
    have hixn : (c.x k).ix + 1 ≤ 1000000 := by have h1 := (HX.out.nums hnd.ok).last; have h2 := HX.out.len; omega
    have hml := (mL HX.out.memb).2.1
    have HST := hI (state_node W M (c.F k) (c.P k) (c.x k) ⟨S5, hnd⟩ hixn (by omega))
    have HLO := hI hnd.ok
    have HLT := hI hC5.lt
    clear hC5 hA5 hO5 hK5 hnd hixn hml
    go_wp2_with fail
    refine HST.out.mono ?_
    rintro en w6 ⟨na, nc, ea, ec, dd, va, l, vc, rfl, hb6, _, _, _, _, _, hrn, hpl⟩
    have HS6 := hI (HSL.out.below hb6)
    have HRE := hI (hrn.rowE HLT.out)
    have HPL := hI hpl
    clear hb6 hrn hpl HSL HST HLT
    go_wp2_with fail
    obtain ⟨WA, hWA⟩ : ∃ WA, WA = w6.alloc (.cells #[.int .u64 (c.x k).term, .int .i64 (c.x k).vote, .int .u64 (c.x k).ix, .int .u64 (c.x k).tm, .slice na (c.x k).mem.length nc, .slice ea dd.length ec, .slice va l.length vc] 43) := ⟨_, rfl⟩
    have HBA : Hid (Below w6.heap.size w6 WA) := hI (by rw [hWA]; exact bR.alloc nL _)
    rw [← hWA]
    have HSA := hI (HS6.out.below HBA.out)
    have HRA := hI (HRE.out.mv (Mv.below M HBA.out))
    clear hWA HS6 HRE HBA
    go_loopw [53] (fun iv wr2 => ∃ j : Nat, iv = .int .i64 j ∧ j ≤ l.length ∧ Hid (SafeL C0 g w M c wr2) ∧ Hid (RowE wr2 M (.slice va l.length vc) l)) (fun iv _ => l.length - (intOf iv).toNat)
    case atStart => exact ⟨0, rfl, Nat.zero_le _, HSA, HRA⟩
    case round =>
     clear HSA HRA
     obtain ⟨j, rfl, hjl, HSB, HRB⟩ := hrel
     by_cases hjt : j < l.length
     ·obtain ⟨e, he⟩ : ∃ e, l[j]? = some e := ⟨l[j], List.getElem?_eq_getElem hjt⟩
      obtain ⟨b, o, cap, hv, hc1, hc2, hbl, e0, e1, e2, e3⟩ := HRB.out.at he
      have zl : (l.length : Int) ≤ 9223372036854775807 := by unfold maxLen at hc2; omega
      clear hc1 hc2
      injection hv with hva hlen hvc
      subst hva hvc
      have HDE := hI (HRB.out.2.1 e (List.mem_of_getElem? he))
      obtain ⟨da, dc, hdv, _⟩ := id HDE.out.1
      have HDV := hI hdv
      rw [hdv] at e3
      clear hdv
      have HST2 := hI (HX.out.state_at HLO.out HPL.out he)
      have zj : (j : Int) < (l.length : Int) := by omega
      have HE := hI he
      clear he hlen hbl
      go_wp2_with fail
      obtain ⟨WX, hWX⟩ : ∃ WX, WX = wr.alloc (.cells #[.int .u64 e.ix, .int .u64 e.tm, .bool e.cf, .slice da e.d.length dc] 47) := ⟨_, rfl⟩
      obtain ⟨p8, hp8⟩ : ∃ p, p = wr.heap.size := ⟨_, rfl⟩
      have HX8 : Hid (WX.heap[p8]? = some (.cells #[.int .u64 e.ix, .int .u64 e.tm, .bool e.cf, .slice da e.d.length dc] 47 (0, 0))) := hI (by rw [hWX, hp8]; exact bW wr _)
      have HBX : Hid (Below wr.heap.size wr WX) := hI (by rw [hWX]; exact bR.alloc nL _)
      have HSX : Hid (SafeL C0 g w M c WX) := hI (HSB.out.below HBX.out)
      have HRX := hI (HRB.out.mv (Mv.below M HBX.out))
      have HDX := hI (HDE.out.1.below HBX.out HDE.out.1.row_lt)
      rw [← hWX, ← hp8]
      have HNE8 : Hid (p8 ≠ c.am) := hI (by have := HSB.out.cl.lml.2; omega)
      clear hWX hp8 HBX HSB HRB
      have q0 : WX.cell? ⟨p8, 0, none⟩ = some (.int .u64 e.ix) := bC HX8.out 0 rfl
      have HCM := hI (commit_node WX.drew M (c.F k) (c.P k) (c.x k) ((HSX.out.cl.below (bD bR)).node k hlt))
      clear e0 e1 e2 e3
      by_cases hgt : (c.x k).commit < e.ix
      ·have g1 : decide ((c.x k).commit < e.ix) = true := decide_eq_true hgt
       go_region_held3 (fun w' => w'.cell? ⟨p8, 0, none⟩ = some (.int .u64 e.ix)) (first | exact q0) (first
         | (go_at_call 19; refine HCM.out.mono ?_; rintro en w' ⟨rfl, rfl⟩))
       have HEND := hI (HSX.out.below (bD bR))
       go_wp2_with fail
       go_roundw
       case rel => exact ⟨k + 1, by go_num, by omega, HEND⟩
       case measure => exact k_meas hlt
      ·have g1 : decide ((c.x k).commit < e.ix) = false := decide_eq_false hgt
       have HGT := hI (show e.ix ≤ (c.x k).commit by omega)
       go_region_held3 (fun w' => w'.cell? ⟨p8, 0, none⟩ = some (.int .u64 e.ix)) (first | exact q0) (first
         | (go_at_call 19; refine HCM.out.mono ?_; rintro en w' ⟨rfl, rfl⟩))
       obtain ⟨yix, ytm, ycf, ya, yn, yc, yb, HS14, HYB⟩ := safe_look HSX.out HOK.out.gok hn6 HX.out HLO.out HPL.out HE.out HGT.out (p8 := p8) q0
       obtain ⟨q4, q0', hl14⟩ := HS14.out WX.drew.drew (bD (bD bR))
       clear hgt g1 HCM
       go_wp2_with fail
       go_region_held3 (fun w' => w'.cell? ⟨c.wd, 4, none⟩ = some (.map (some c.am)) ∧ w'.cell? ⟨p8, 0, none⟩ = some (.int .u64 e.ix) ∧ (Instr.lookup 34 (.map (some c.am)) (.int .u64 e.ix) true).run Tryz.prog w' = .ok (.tuple #[.agg #[.int .u64 yix, .int .u64 ytm, .bool ycf, .slice ya yn yc], .bool yb]) w') (first | exact ⟨q4, q0', hl14⟩ | exact HS14.out _ ((bD (bD bR)).alloc (by simp) _)) (fail)
       clear q0 q0' q4 hl14
       all_goals
        obtain ⟨p9, hp9⟩ : ∃ p, p = WX.heap.size := ⟨_, rfl⟩
        obtain ⟨WY, hWY⟩ : ∃ WY, WY = (WX.alloc (.cells #[.int .u64 yix, .int .u64 ytm, .bool ycf, .slice ya yn yc] 47)).drew.drew := ⟨_, rfl⟩
        have HY9 : Hid (WY.heap[p9]? = some (.cells #[.int .u64 yix, .int .u64 ytm, .bool ycf, .slice ya yn yc] 47 (0, 0))) := hI (by rw [hWY, hp9]; exact bW WX _)
        have HBY : Hid (Below WX.heap.size WX WY) := hI (by rw [hWY]; exact bD (bD (bR.alloc nL _)))
        rw [← hWY, ← hp9]
        clear hWY hp9 HS14
        cases yb
        ·have HBZ := HBY
         generalize WY = WZ at *
         obtain ⟨ob, hup, HSE, ⟨c4, x0, x1, x2, x3⟩, ⟨c4e, x0e, x1e, x2e, x3e⟩⟩ := safe_put (HSX.out.below (bD HBZ.out)) HOK.out.gok hn6 HX.out HLO.out HPL.out HE.out HGT.out ⟨HDX.out.below (bD HBZ.out) HDX.out.row_lt, HDE.out.2⟩ HDV.out (bH (bD HBZ.out) HX8.out (heap_lt HX8.out)) HNE8.out
         have HRE : Hid (RowE (setBlock WZ.drew c.am ob) M (.slice (some ⟨b, o, none⟩) l.length vc) l) := hI ((HRX.out.mv (Mv.below M (bD HBZ.out))).mv (Mv.keep ((Keeps.refl (fun k => k = c.am) _).setBlock (p := c.am) (.inl rfl) ob) fun q e => by rw [e]; exact HSX.out.cl.own _ (.inr (.inr (.inr (.inr (.inr rfl)))))))
         clear HBY HYB HY9 HBZ HDE HDX HST2
         go_wp2_with fail
         go_region_held3 (fun w' => w'.cell? ⟨c.wd, 4, none⟩ = some (.map (some c.am)) ∧ w'.cell? ⟨p8, 0, none⟩ = some (.int .u64 e.ix) ∧ w'.cell? ⟨p8, 1, none⟩ = some (.int .u64 e.tm) ∧ w'.cell? ⟨p8, 2, none⟩ = some (.bool e.cf) ∧ w'.cell? ⟨p8, 3, none⟩ = some (.slice da e.d.length dc)) (first | exact ⟨c4, x0, x1, x2, x3⟩ | exact ⟨c4e, x0e, x1e, x2e, x3e⟩) (fail)
         go_wp2_with fail
         go_roundw
         case rel => exact ⟨j + 1, by go_num, by omega, HSE, HRE⟩
         case measure => exact k_meas hjt
        ·obtain ⟨rfl, rfl, rfl, rfl, hys⟩ := HYB.out rfl
         have HSM : Hid (∀ W, Below WX.heap.size WX W → Calls Tryz.prog 11 #[.agg #[.int .u64 e.ix, .int .u64 e.tm, .bool e.cf, .slice da e.d.length dc], .agg #[.int .u64 e.ix, .int .u64 e.tm, .bool e.cf, .slice ya e.d.length yc]] W (RetB (.bool true) W)) := hI fun W hW => same_yes W e.ix e.tm e.cf e.d da dc (by have := HDX.out.below hW HDX.out.row_lt; rw [HDV.out] at this; exact this) ya yc (hys.below hW hys.row_lt)
         clear hys
         have hx8 := bH HBY.out HX8.out (heap_lt HX8.out)
         have x0 := bC hx8 0 rfl
         have x1 := bC hx8 1 rfl
         have x2 := bC hx8 2 rfl
         have x3 := bC hx8 3 rfl
         have y0 := bC HY9.out 0 rfl
         have y1 := bC HY9.out 1 rfl
         have y2 := bC HY9.out 2 rfl
         have y3 := bC HY9.out 3 rfl
         clear hx8
         go_wp2_with fail
         refine (HSM.out WY HBY.out).mono ?_
         rintro en WZ ⟨rfl, hbz⟩
         have HBZ : Hid (Below WX.heap.size WX WZ) := hI (HBY.out.trans (hbz.mono HBY.out.size))
         clear hbz x0 x1 x2 x3 y0 y1 y2 y3 HSM
         obtain ⟨ob, hup, HSE, ⟨c4, x0, x1, x2, x3⟩, ⟨c4e, x0e, x1e, x2e, x3e⟩⟩ := safe_put (HSX.out.below (bD HBZ.out)) HOK.out.gok hn6 HX.out HLO.out HPL.out HE.out HGT.out ⟨HDX.out.below (bD HBZ.out) HDX.out.row_lt, HDE.out.2⟩ HDV.out (bH (bD HBZ.out) HX8.out (heap_lt HX8.out)) HNE8.out
         have HRE : Hid (RowE (setBlock WZ.drew c.am ob) M (.slice (some ⟨b, o, none⟩) l.length vc) l) := hI ((HRX.out.mv (Mv.below M (bD HBZ.out))).mv (Mv.keep ((Keeps.refl (fun k => k = c.am) _).setBlock (p := c.am) (.inl rfl) ob) fun q e => by rw [e]; exact HSX.out.cl.own _ (.inr (.inr (.inr (.inr (.inr rfl)))))))
         clear HBY HYB HY9 HBZ HDE HDX HST2
         go_wp2_with fail
         go_region_held3 (fun w' => w'.cell? ⟨c.wd, 4, none⟩ = some (.map (some c.am)) ∧ w'.cell? ⟨p8, 0, none⟩ = some (.int .u64 e.ix) ∧ w'.cell? ⟨p8, 1, none⟩ = some (.int .u64 e.tm) ∧ w'.cell? ⟨p8, 2, none⟩ = some (.bool e.cf) ∧ w'.cell? ⟨p8, 3, none⟩ = some (.slice da e.d.length dc)) (first | exact ⟨c4, x0, x1, x2, x3⟩ | exact ⟨c4e, x0e, x1e, x2e, x3e⟩) (fail)
         go_wp2_with fail
         go_roundw
         case rel => exact ⟨j + 1, by go_num, by omega, HSE, HRE⟩
         case measure => exact k_meas hjt
     ·obtain rfl : j = l.length := by omega
      go_wp2_with fail
      go_roundw
      case rel => exact ⟨k + 1, by go_num, by omega, HSB⟩
      case measure => exact k_meas hlt
  ·obtain rfl : k = c.s := by omega
   obtain ⟨L1, D1, r1, r2, r3, r4⟩ := HLK.out
   have HFIN : Hid (SafeR C0 g w M c (.returned (.bool true)) wr) := hI ⟨rfl, L1, D1, r1, r2, r3, r4⟩
   clear r1 r2 r3 r4 HLK
   go_wp2_with fail
   go_ret
   exact HFIN.out
end Go.Proofs.YtdjooojpcepleaaGreat

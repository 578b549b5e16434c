/- The statement RaftKeeps: the walk. -/
import Derived.Test.YtdjooojpcepleaaGreatKpA
import Derived.Test.YtdjooojpcepleaaGreatRsM49
namespace Go.Proofs.YtdjooojpcepleaaGreat
open Go.RowKit Go.Maps Go.ChangeMaps
section
variable {s b n k : Nat} {w0 w : World} {M : Nat → Prop} {c : Cl} {g : Gh En} {L : List (Int × Int)} {D : List (Int × Ent)}
theorem keeps_look (h : RunAt s w0 b n w M c g L D) (hn6 : n ≤ 1000) (hk : k < s) {mo inn : Int} (kp : KpOk g mo inn) {X : List En} (hN : OkN (memS s) g n (c.x k) X) (hr : (c.x k).role = 3) (ht : inn < (c.x k).term) {l : List Ent} (hpl : l.map Ent.pl = (c.x k).es.map Ent.pl) {j : Nat} {e : Ent} (he : l[j]? = some e) {p8 : Nat} (q0 : w.cell? ⟨p8, 0, none⟩ = some (.int .u64 e.ix)) :
  ∃ (yix ytm : Int) (ycf : Bool) (ya : Option Addr) (yn yc : Nat) (yb : Bool), Hid (∀ W, Below w.heap.size w W → W.cell? ⟨b, 4, none⟩ = some (.map (some c.am)) ∧ W.cell? ⟨p8, 0, none⟩ = some (.int .u64 e.ix) ∧ (Instr.lookup 34 (.map (some c.am)) (.int .u64 e.ix) true).run Tryz.prog W = .ok (.tuple #[.agg #[.int .u64 yix, .int .u64 ytm, .bool ycf, .slice ya yn yc], .bool yb]) W) ∧
   Hid (yb = true → yix = e.ix ∧ (e.ix ≤ mo → ytm = e.tm ∧ ycf = e.cf ∧ yn = e.d.length ∧ Sl u8v w (.slice ya e.d.length yc) e.d)) := by
 have hok := h.logok hk
 have hst := hN.state_at hok hpl he
 have hix : 0 ≤ e.ix ∧ e.ix ≤ 18446744073709551615 := by have := hN.len; have := h.net; omega
 have key : ∀ W, Below w.heap.size w W → (Instr.lookup 34 (.map (some c.am)) (.int .u64 e.ix) true).run Tryz.prog W = .ok (.tuple #[((aget e.ix D).map entV).getD (.agg #[.int .u64 0, .int .u64 0, .bool false, .slice none 0 0]), .bool (aget e.ix D).isSome]) W := fun W hW => by
  have := (h.ag.below hW).ag.run_lookup ukeyed keyU_inj Tryz.underlying34 (ezero W) (ukey (u64_wf hix.1 hix.2)) (key := e.ix) true
  exact this
 have hcell : ∀ W, Below w.heap.size w W → W.cell? ⟨b, 4, none⟩ = some (.map (some c.am)) ∧ W.cell? ⟨p8, 0, none⟩ = some (.int .u64 e.ix) := fun W hW => ⟨by have := (h.at_.below hW).k4; rwa [h.wd] at this, by rw [hW.cell (cell_lt q0)]; exact q0⟩
 cases hy : aget e.ix D with
 | none =>
  rw [hy] at key
  exact ⟨0, 0, false, none, 0, 0, false, hI fun W hW => ⟨(hcell W hW).1, (hcell W hW).2, key W hW⟩, hI fun e => nomatch e⟩
 | some y =>
  rw [hy] at key
  have hyix : y.ix = e.ix := (h.agok.ag _ (aget_some_mem hy)).2.1
  have hr' : Sl u8v w y.v y.d := (h.ag.row _ (aget_some_mem hy)).1
  obtain ⟨ya, yc, hyv, _⟩ := id hr'
  rw [hyv] at hr'
  refine ⟨y.ix, y.tm, y.cf, ya, y.d.length, yc, true, hI fun W hW => ⟨(hcell W hW).1, (hcell W hW).2, ?_⟩, hI fun _ => ⟨hyix, fun hle => ?_⟩⟩
  ·have := key W hW
   rw [show ((some y).map entV).getD (.agg #[.int .u64 0, .int .u64 0, .bool false, .slice none 0 0]) = .agg #[.int .u64 y.ix, .int .u64 y.tm, .bool y.cf, .slice ya y.d.length yc] by show entV y = _; unfold entV; rw [hyv]] at this
   exact this
  ·obtain ⟨_, s2, s3, s4⟩ := kp.entry h.agok h.ok.gok hN hok hr ht hpl he hle hy
   rw [s4] at hr'
   exact ⟨s2, s3, by rw [s4], hr'⟩
end
theorem field_st (W : World) (t v ix tm : Int) (a1 : Option Addr) (n1 c1 : Nat) (a2 : Option Addr) (n2 c2 : Nat) (a3 : Option Addr) (n3 c3 : Nat) : (Instr.field 43 (.agg #[.int .u64 t, .int .i64 v, .int .u64 ix, .int .u64 tm, .slice a1 n1 c1, .slice a2 n2 c2, .slice a3 n3 c3]) 3).run Tryz.prog W = .ok (.slice a3 n3 c3) W := by kernel_rfl
theorem keeps_long (w : World) (size : Int) (a : Option Addr) (len cap : Nat) (hl : ¬ len ≤ 300) :
  Calls Tryz.prog 6 #[.int .u8 size, .slice a len cap] w (RetB (.bool true) w) := by
 have hbig : (300 : Int) < (len : Int) := by omega
 clear hl
 go_enter Tryz.func6, Tryz.ntmps6
 go_wp2_with fail
 refine (L8.lives26 _).mono ?_
 rintro e w1 ⟨rfl, hb1⟩
 have HB1 := hI hb1
 clear hb1
 go_wp2_with fail
 refine (L8.lives26 _).mono ?_
 rintro e w2 ⟨rfl, hb2⟩
 have HB2 := hI (HB1.out.trans (hb2.mono HB1.out.size))
 clear hb2
 go_wp2_with fail
 go_ret
 exact RetB.mk rfl HB2.out
set_option maxRecDepth 100000 in
set_option maxHeartbeats 3200000 in
theorem keeps_main (hbg : BeginOk) (hdo : DoOk) (w : World) (size : Int) (he0 : 0 ≤ size) (_ : size < 256) (a : Option Addr) (len cap : Nat) (xs : Nat → StpV) (hr : StpRow w a len cap xs) (hl : len ≤ 300) :
  Calls Tryz.prog 6 #[.int .u8 size, .slice a len cap] w (RetB (.bool true) w) := by
 have HR := hI hr
 have hm0 := Int.emod_nonneg size (show (7 : Int) ≠ 0 by omega)
 have hm1 := Int.emod_lt_of_pos size (show (0 : Int) < 7 by omega)
 have t1 : Int.tmod size 7 = size % 7 := Int.tmod_eq_emod_of_nonneg he0
 have t2 : IntKind.i64.wrap (size % 7) = size % 7 := IntWalk.i64_in _ (by omega)
 have t4 : IntKind.u8.wrap (size % 7) = size % 7 := by unfold IntKind.wrap; simp [IntKind.bits, IntKind.signed]; omega
 have t3 : IntKind.i64.wrap (1 + size % 7) = 1 + size % 7 := IntWalk.i64_in _ (by omega)
 have hs60 : decide ((300 : Int) < (len : Int)) = false := decide_eq_false (by omega)
 obtain ⟨s, hs⟩ : ∃ s : Nat, (s : Int) = 1 + size % 7 := ⟨(1 + size % 7).toNat, by omega⟩
 have hs1 : 1 ≤ s := by omega
 have hs7 : s ≤ 7 := by omega
 have HS := hI hs
 clear hr hs
 go_enter Tryz.func6, Tryz.ntmps6
 go_wp2_with fail
 refine (L8.lives26 _).mono ?_
 rintro e w1 ⟨rfl, hb1⟩
 have HB1 := hI hb1
 clear hb1
 go_wp2_with fail
 rw [← HS.out]
 clear t1 t2 t3 t4 hm0 hm1
 refine (run_begin hbg HB1.out s hs1 hs7).mono ?_
 rintro e w2 ⟨b, M0, c0, rfl, hrun⟩
 have HRUN := hI hrun
 clear hrun HB1
 go_wp2_with fail
 go_loopw [6, 7, 35] (fun mv inv iv wr => ∃ (mo inn : Int) (i : Nat), mv = .int .u64 mo ∧ inv = .int .u64 inn ∧ iv = .int .i64 i ∧ i ≤ len ∧ Hid (∃ M c g L D, RunAt s w b i wr M c g L D ∧ KpOk g mo inn)) (fun _ _ iv _ => len - (intOf iv).toNat)
 case atStart => exact ⟨0, 0, 0, rfl, rfl, rfl, Nat.zero_le _, hI ⟨M0, c0, _, _, _, HRUN.out, KpOk.zero⟩⟩
 case round =>
  obtain ⟨mo, inn, i, rfl, rfl, rfl, hi, HL⟩ := hrel
  clear HRUN
  by_cases hilt : i < len
  ·obtain ⟨M, c, g, L, D, hrun, hkp⟩ := HL.out
   obtain ⟨b8, off, rfl, hbl, ⟨x0, x1, x2⟩, hd, hn⟩ := HR.out.at hilt
   generalize xs i = x at *
   obtain ⟨kind, node, draw⟩ := x
   have y0 : wr.cell? ⟨b8, off + i * 3, none⟩ = some (.int .i64 kind) := (bcell hrun.bel b8 _ hbl).trans x0
   have y1 : wr.cell? ⟨b8, off + i * 3 + 1, none⟩ = some (.int .i64 node) := (bcell hrun.bel b8 _ hbl).trans x1
   have y2 : wr.cell? ⟨b8, off + i * 3 + 2, none⟩ = some (.int .u64 draw) := (bcell hrun.bel b8 _ hbl).trans x2
   have HGO := hI hrun.ok.gok
   have HKP := hI hkp
   have HDO : Hid (∀ W, Below wr.heap.size wr W → Calls Tryz.prog 9 #[.pointer (some ⟨b, 0, none⟩), .agg #[.int .i64 kind, .int .i64 node, .int .u64 draw]] W fun e w' => e = .returned (.tuple #[]) ∧ ∃ M' c' g', RunAt s w b (i + 1) w' M' c' g' L D ∧ (∃ v, Grow v g g')) := hI fun W hW => run_do hdo (hrun.below hW) (by omega) kind node draw hd.1 hd.2 hn.1 hn.2
   have zi : (i : Int) < (len : Int) := by omega
   clear hrun hd hn x0 x1 x2 HL hkp
   go_wp2_with fail
   refine (HDO.out _ (bR.alloc nL _)).mono ?_
   rintro e w3 ⟨rfl, M3, c3, g3, hr3, v3, hv3⟩
   have HR3 := hI hr3
   have HK0 := hI (HKP.out.grow HGO.out hv3)
   have HG3 := hI hr3.ok.gok
   have k0 := hr3.k0
   clear hr3 HDO y0 y1 y2 hv3 HKP HGO g c M
   obtain ⟨M, c, g, hM, hc, hg⟩ : ∃ M c g, M = M3 ∧ c = c3 ∧ g = g3 := ⟨_, _, _, rfl, rfl, rfl⟩
   subst hM hc hg
   go_wp2_with fail
   go_loopw [6, 7, 49] (fun mv inv kv wr => ∃ (mo inn : Int) (k : Nat), mv = .int .u64 mo ∧ inv = .int .u64 inn ∧ kv = .int .i64 k ∧ k ≤ s ∧ Hid (RunAt s w b (i + 1) wr M c g L D ∧ KpOk g mo inn)) (fun _ _ kv _ => s - (intOf kv).toNat)
   case atStart => exact ⟨_, _, 0, rfl, rfl, rfl, Nat.zero_le _, hI ⟨HR3.out, HK0.out⟩⟩
   case round =>
    obtain ⟨mo1, in1, k, rfl, rfl, rfl, hk, HL1⟩ := hrel
    clear HR3 k0
    by_cases hks : k < s
    ·have zk : (k : Int) < (s : Int) := by omega
     have HRK := hI HL1.out.1
     have ck := HRK.out.cn hks
     obtain ⟨X, hX⟩ := HRK.out.nok hks
     have HX := hI hX
     have HCM : Hid (∀ W, Below wr.heap.size wr W → Calls Tryz.prog 19 #[.pointer (some ⟨c.P k, 0, none⟩)] W (Ret (.int .u64 (c.x k).commit) W)) := hI fun W hW => run_commit (HRK.out.below hW) hks
     have HTM : Hid (∀ W, Below wr.heap.size wr W → Calls Tryz.prog 20 #[.pointer (some ⟨c.P k, 0, none⟩)] W (Ret (.int .u64 (c.x k).term) W)) := hI fun W hW => run_term (HRK.out.below hW) hks
     clear hX
     by_cases hgt : mo1 < (c.x k).commit
     ·have g1 : decide (mo1 < (c.x k).commit) = true := decide_eq_true hgt
      clear hgt
      go_wp2_with (first | (go_at_call 19; refine (HCM.out _ bR).mono ?_; rintro en w' ⟨rfl, rfl⟩) | (go_at_call 20; refine (HTM.out _ bR).mono ?_; rintro en w' ⟨rfl, rfl⟩))
      go_roundw
      case rel => exact ⟨_, _, k + 1, rfl, rfl, by go_num, by omega, hI ⟨HRK.out, HL1.out.2.put HX.out⟩⟩
      case measure => exact k_meas hks
     ·have g1 : decide (mo1 < (c.x k).commit) = false := decide_eq_false hgt
      clear hgt
      go_wp2_with (first | (go_at_call 19; refine (HCM.out _ bR).mono ?_; rintro en w' ⟨rfl, rfl⟩) | (go_at_call 20; refine (HTM.out _ bR).mono ?_; rintro en w' ⟨rfl, rfl⟩))
      go_roundw
      case rel => exact ⟨mo1, in1, k + 1, rfl, rfl, by go_num, by omega, hI ⟨HRK.out, HL1.out.2⟩⟩
      case measure => exact k_meas hks
    ·have zk : ¬ (k : Int) < (s : Int) := by omega
     have HR4 := hI HL1.out.1
     have HK4 := hI HL1.out.2
     have k0 := HR4.out.k0
     clear HL1 hks
     go_wp2_with fail
     go_loopw [69] (fun kv wr => ∃ k : Nat, kv = .int .i64 k ∧ k ≤ s ∧ Hid (RunAt s w b (i + 1) wr M c g L D)) (fun kv _ => s - (intOf kv).toNat)
     case atStart => exact ⟨0, rfl, Nat.zero_le _, HR4⟩
     case round =>
      obtain ⟨k, rfl, hk2, HRK⟩ := hrel
      clear HR4 k0
      by_cases hks : k < s
      ·have zk : (k : Int) < (s : Int) := by omega
       have ck := HRK.out.cn hks
       obtain ⟨X, hX⟩ := HRK.out.nok hks
       have HX := hI hX
       clear hX
       by_cases hr : (c.x k).role = 3
       ·have HRL := hI hr
        have HRO : Hid (∀ W, Below wr.heap.size wr W → Calls Tryz.prog 17 #[.pointer (some ⟨c.P k, 0, none⟩)] W (Ret (.int .i64 3) W)) := hI fun W hW => by have := run_role (HRK.out.below hW) hks; rw [hr] at this; exact this
        have HTM : Hid (∀ W, Below wr.heap.size wr W → Calls Tryz.prog 20 #[.pointer (some ⟨c.P k, 0, none⟩)] W (Ret (.int .u64 (c.x k).term) W)) := hI fun W hW => run_term (HRK.out.below hW) hks
        clear hr
        by_cases hgt : inn < (c.x k).term
        ·have g1 : decide ((c.x k).term ≤ inn) = false := decide_eq_false (by omega)
         have HTL := hI hgt
         clear hgt
         have hlast : (c.x k).ix + ((c.x k).es.length : Int) = X.length := HRK.out.lastx hks HX.out
         have hkl := HK0.out.last HG3.out HX.out HRL.out HTL.out
         have g2 : decide ((c.x k).ix + ((c.x k).es.length : Int) < mo) = false := decide_eq_false (by omega)
         have HLA : Hid (∀ W, Below wr.heap.size wr W → Calls Tryz.prog 21 #[.pointer (some ⟨c.P k, 0, none⟩)] W (RetB (.int .u64 ((c.x k).ix + (c.x k).es.length)) W)) := hI fun W hW => run_last (HRK.out.below hW) hks
         have HSTA : Hid (∀ W, Below wr.heap.size wr W → Calls Tryz.prog 10 #[.pointer (some ⟨c.P k, 0, none⟩)] W (StateR W (c.x k))) := hI fun W hW => run_state (HRK.out.below hW) hks (by omega)
         clear hlast hkl
         go_wp2_with (first | (go_at_call 17; refine (HRO.out _ bR).mono ?_; rintro en w' ⟨rfl, rfl⟩) | (go_at_call 20; refine (HTM.out _ bR).mono ?_; rintro en w' ⟨rfl, rfl⟩))
         refine (HLA.out _ bR).mono ?_
         rintro en w5 ⟨rfl, hb5⟩
         have HB5 := hI hb5
         clear hb5
         go_wp2_with fail
         refine (HSTA.out _ HB5.out).mono ?_
         rintro en w6 ⟨na, nc, ea, ec, dd, va, l, vc, rfl, hb6, _, _, _, _, _, hrn, hpl⟩
         have HR5 := hI (HRK.out.below HB5.out)
         have HR6 := hI (HR5.out.below hb6)
         have HRE : Hid (RowE w6 M (.slice va l.length vc) l) := hI (state_row HR5.out hrn)
         have HPL := hI hpl
         clear hb6 hrn hpl HRK HR5 HB5 HSTA HLA g1 g2
         have hf := field_st w6 (c.x k).term (c.x k).vote (c.x k).ix (c.x k).tm na (c.x k).mem.length nc ea dd.length ec va l.length vc
         go_wp2_with fail
         clear hf
         obtain ⟨l6, hl6⟩ : ∃ q, q = w6.heap.size := ⟨_, rfl⟩
         go_loopw [90] (fun jv wr => ∃ j : Nat, jv = .int .i64 j ∧ j ≤ l.length ∧ Hid (Below w6.heap.size w6 wr)) (fun jv _ => l.length - (intOf jv).toNat)
         case atStart => exact ⟨0, rfl, Nat.zero_le _, hI bR⟩
         case round =>
          obtain ⟨j, rfl, hjl, HB⟩ := hrel
          by_cases hjt : j < l.length
          ·obtain ⟨e, he⟩ : ∃ e, l[j]? = some e := ⟨l[j], List.getElem?_eq_getElem hjt⟩
           have hrw := HRE.out.mv (Mv.below M HB.out)
           obtain ⟨ba, o, cap, hv, hc1, hc2, hbl, e0, e1, e2, e3⟩ := hrw.at he
           have zl : (l.length : Int) ≤ 9223372036854775807 := by unfold maxLen at hc2; omega
           injection hv with hva hlen hvc
           subst hva hvc
           have hde := (hrw.2.1 e (List.mem_of_getElem? he)).1
           obtain ⟨da, dc, hdv, _⟩ := id hde
           rw [hdv] at e3 hde
           have HDE := hI hde
           have zj : (j : Int) < (l.length : Int) := by omega
           have HE := hI he
           clear he hlen hbl hrw hc1 hc2 hdv hde
           go_wp2_with fail
           obtain ⟨WX, hWX⟩ : ∃ WX, WX = wr.alloc (.cells #[.int .u64 e.ix, .int .u64 e.tm, .bool e.cf, .slice da e.d.length dc] 47) := ⟨_, rfl⟩
           obtain ⟨p8, hp8⟩ : ∃ p, p = wr.heap.size := ⟨_, rfl⟩
           have HX8 : Hid (WX.heap[p8]? = some (.cells #[.int .u64 e.ix, .int .u64 e.tm, .bool e.cf, .slice da e.d.length dc] 47 (0, 0))) := hI (by rw [hWX, hp8]; exact bW wr _)
           have HBX0 : Hid (Below wr.heap.size wr WX) := hI (by rw [hWX]; exact bR.alloc nL _)
           have HBX : Hid (Below w6.heap.size w6 WX) := hI (HB.out.trans (HBX0.out.mono HB.out.size))
           have HDX := hI (HDE.out.below HBX0.out HDE.out.row_lt)
           rw [← hWX, ← hp8]
           clear hWX hp8 HBX0 HB HDE e0 e1 e2 e3
           obtain ⟨yix, ytm, ycf, ya, yn, yc, yb, HLK, HYB⟩ := keeps_look (HR6.out.below HBX.out) (by omega) hks HK0.out HX.out HRL.out HTL.out HPL.out HE.out (bC HX8.out 0 rfl)
           obtain ⟨q4, q0, hlk⟩ := HLK.out WX.drew (bD bR)
           go_wp2_with fail
           go_region_held3 (fun w' => w'.cell? ⟨b, 4, none⟩ = some (.map (some c.am)) ∧ w'.cell? ⟨p8, 0, none⟩ = some (.int .u64 e.ix) ∧ (Instr.lookup 34 (.map (some c.am)) (.int .u64 e.ix) true).run Tryz.prog w' = .ok (.tuple #[.agg #[.int .u64 yix, .int .u64 ytm, .bool ycf, .slice ya yn yc], .bool yb]) w') (first | exact ⟨q4, q0, hlk⟩ | exact HLK.out _ ((bD bR).alloc (by simp) _)) (fail)
           clear q4 q0 hlk
           all_goals
            obtain ⟨p9, hp9⟩ : ∃ p, p = WX.heap.size := ⟨_, rfl⟩
            obtain ⟨WY, hWY⟩ : ∃ WY, WY = (WX.alloc (.cells #[.int .u64 yix, .int .u64 ytm, .bool ycf, .slice ya yn yc] 47)).drew := ⟨_, rfl⟩
            have HY9 : Hid (WY.heap[p9]? = some (.cells #[.int .u64 yix, .int .u64 ytm, .bool ycf, .slice ya yn yc] 47 (0, 0))) := hI (by rw [hWY, hp9]; exact bW WX _)
            have HBY : Hid (Below WX.heap.size WX WY) := hI (by rw [hWY]; exact bD (bR.alloc nL _))
            rw [← hWY, ← hp9]
            clear hWY hp9 HLK
            cases yb
            ·go_wp2_with fail
             go_roundw
             case rel => exact ⟨j + 1, by go_num, by omega, hI (HBX.out.trans (HBY.out.mono HBX.out.size))⟩
             case measure => exact k_meas hjt
            ·obtain ⟨rfl, hys⟩ := HYB.out rfl
             have hx8 := bH HBY.out HX8.out (heap_lt HX8.out)
             have x0 := bC hx8 0 rfl
             have x1 := bC hx8 1 rfl
             have x2 := bC hx8 2 rfl
             have x3 := bC hx8 3 rfl
             have y0 := bC HY9.out 0 rfl
             have y1 := bC HY9.out 1 rfl
             have y2 := bC HY9.out 2 rfl
             have y3 := bC HY9.out 3 rfl
             clear hx8
             by_cases hle : e.ix ≤ mo
             ·obtain ⟨rfl, rfl, rfl, hs⟩ := hys hle
              have g3 : decide (e.ix ≤ mo) = true := decide_eq_true hle
              have HSM : Hid (∀ W, Below WX.heap.size WX W → Calls Tryz.prog 11 #[.agg #[.int .u64 e.ix, .int .u64 e.tm, .bool e.cf, .slice da e.d.length dc], .agg #[.int .u64 e.ix, .int .u64 e.tm, .bool e.cf, .slice ya e.d.length yc]] W (RetB (.bool true) W)) := hI fun W hW => same_yes W e.ix e.tm e.cf e.d da dc (HDX.out.below hW HDX.out.row_lt) ya yc (hs.below hW hs.row_lt)
              clear hys hle hs
              go_wp2_with fail
              refine (HSM.out _ HBY.out).mono ?_
              rintro en WZ ⟨rfl, hbz⟩
              have HBZ : Hid (Below WY.heap.size WY WZ) := hI hbz
              clear hbz
              go_wp2_with fail
              go_roundw
              case rel => exact ⟨j + 1, by go_num, by omega, hI (HBX.out.trans ((HBY.out.trans (HBZ.out.mono HBY.out.size)).mono HBX.out.size))⟩
              case measure => exact k_meas hjt
             ·have g3 : decide (e.ix ≤ mo) = false := decide_eq_false hle
              have HLE := hI hle
              clear hys hle
              go_wp2_with fail
              go_roundw
              case rel => exact ⟨j + 1, by go_num, by omega, hI (HBX.out.trans (HBY.out.mono HBX.out.size))⟩
              case measure => exact k_meas hjt
          ·have zj : ¬ (j : Int) < (l.length : Int) := by omega
           have HR7 := hI (HR6.out.below HB.out)
           clear HB
           go_wp2_with fail
           go_roundw
           case rel => exact ⟨k + 1, by go_num, by omega, HR7⟩
           case measure => exact k_meas hks
        ·have g1 : decide ((c.x k).term ≤ inn) = true := decide_eq_true (by omega)
         clear hgt
         go_wp2_with (first | (go_at_call 17; refine (HRO.out _ bR).mono ?_; rintro en w' ⟨rfl, rfl⟩) | (go_at_call 20; refine (HTM.out _ bR).mono ?_; rintro en w' ⟨rfl, rfl⟩))
         go_roundw
         case rel => exact ⟨k + 1, by go_num, by omega, HRK⟩
         case measure => exact k_meas hks
       ·have q3 : ((c.x k).role == 3) = false := by simpa using hr
        have HRO : Hid (∀ W, Below wr.heap.size wr W → Calls Tryz.prog 17 #[.pointer (some ⟨c.P k, 0, none⟩)] W (Ret (.int .i64 (c.x k).role) W)) := hI fun W hW => run_role (HRK.out.below hW) hks
        obtain ⟨ro, hro⟩ : ∃ ro, ro = (c.x k).role := ⟨_, rfl⟩
        rw [← hro] at HRO q3 hr
        clear hro
        go_wp2_with (first | (go_at_call 17; refine (HRO.out _ bR).mono ?_; rintro en w' ⟨rfl, rfl⟩))
        go_roundw
        case rel => exact ⟨k + 1, by go_num, by omega, HRK⟩
        case measure => exact k_meas hks
      ·have zk : ¬ (k : Int) < (s : Int) := by omega
       have HSF := hI (run_safe HRK.out (by omega))
       clear HRK hks
       go_wp2_with fail
       refine HSF.out.mono ?_
       rintro e w4 ⟨rfl, L4, D4, hr4⟩
       have HR5 := hI hr4
       clear hr4 HSF
       go_wp2_with fail
       go_roundw
       case rel => exact ⟨mo1, in1, i + 1, rfl, rfl, by go_num, by omega, hI ⟨M, c, g, L4, D4, HR5.out, HK4.out⟩⟩
       case measure => exact k_meas hilt
  ·obtain rfl : i = len := by omega
   obtain ⟨M, c, g, L, D, hrun, _⟩ := HL.out
   have HB := hI hrun.bel
   clear hrun HL hilt
   go_wp2_with fail
   go_ret
   exact RetB.mk rfl HB.out
theorem keeps_walk (hbg : BeginOk) (hdo : DoOk) (size : Int) (a : Option Addr) (len cap : Nat) (xs : Nat → StpV) (w : World) (h0 : (Lit.int .u8 size).wf = true) (hr : StpRow w a len cap xs) :
  Calls Tryz.prog 6 #[.int .u8 size, .slice a len cap] w (RetB (.bool true) w) := by
 simp [Lit.wf, IntKind.min, IntKind.max, IntKind.signed, IntKind.bits] at h0
 by_cases hl : len ≤ 300
 ·exact keeps_main hbg hdo w size (by omega) (by omega) a len cap xs hr hl
 ·exact keeps_long w size a len cap hl
end Go.Proofs.YtdjooojpcepleaaGreat

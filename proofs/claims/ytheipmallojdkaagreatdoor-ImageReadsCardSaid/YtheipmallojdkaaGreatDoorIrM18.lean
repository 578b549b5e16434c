/- Texts as they are read, one behind the other (package octet's Get at texts; package spec's text). slices.Clone of texts; spec.Clone. -/
import Derived.Test.YtheipmallojdkaaGreatDoorIrM15
import Derived.Test.YtheipmallojdkaaGreatDoorIrM17
import Derived.Test.YtheipmallojdkaaGreatDoorIrM02

namespace Go.Proofs.YtheipmallojdkaaGreatDoor
open Go.RowKit Go.ChangeMaps

theorem text_any (w : World) (p : Nat) (s : RS) (h : RdAt w p s) : Calls Tryz.prog 36 #[.pointer (some ⟨p, 0, none⟩)] w (RetR (.string (texR s).1) p (texR s).2 w) := by
  have ht := rtext_any w p s h 255 (by omega)
  unfold texR
  generalize textR 255 s = x at *
  clear h
  go_enter Tryz.func36, Tryz.ntmps36
  go_wp2_with fail
  refine ht.mono ?_
  rintro e w1 ⟨rfl, h1, k1⟩
  have H1 := Lib.hid h1
  have K1 := Lib.hid k1
  clear ht h1 k1
  go_wp2_with fail
  go_ret
  exact RetR.mk rfl H1.out K1.out

/-- Texts' cells. -/
def flatS (xs : List ByteArray) : List Value := xs.map strv
theorem info_str3 : (Tryz.prog.info? 9).map (fun i => (i.zero, i.size, i.bytes)) = some (some (.string ⟨#[]⟩), 1, 16) := by kernel_rfl

/-- What Get leaves. -/
def GotS (p : Nat) (xs : List ByteArray) (s : RS) (w : World) (e : Ending) (w' : World) : Prop :=
  ∃ v, e = .returned v ∧ RdAt w' p s ∧ w'.ownsRow 0 9 1 v xs.length (flatS xs) ∧ (∀ j, v.ownBlock = some j → w.heap.size ≤ j) ∧ Keeps (fun k => k = p) w w'

set_option maxRecDepth 100000 in
set_option maxHeartbeats 1600000 in
theorem getS_any (w : World) (p : Nat) (s : RS) (h : RdAt w p s) :
    Calls Tryz.prog 55 #[.pointer (some ⟨p, 0, none⟩), .int .i64 255, .func (Fn.func 36) #[] #[]] w (GotS p (depsR s).1 (depsR s).2 w) := by
  have hc := count_any w p s h 255 (by omega)
  have hc7 : (countR 255 s).1 ≤ 255 := countR_le _ _
  have hpl := h.lt
  obtain ⟨i0, hi, hz0, hz1, hz2⟩ := info_parts info_str3
  obtain ⟨n, hn⟩ : ∃ n, n = (countR 255 s).1 := ⟨_, rfl⟩
  have hG : depsR s = rdG texR n (countR 255 s).2 [] := by rw [hn]; rfl
  rw [← hn] at hc hc7
  have HG := Lib.hid hG
  clear h hn hG
  go_enter Tryz.func55, Tryz.ntmps55
  go_wp2_with fail
  refine hc.mono ?_
  rintro e w1 ⟨rfl, h1, k1⟩
  have HR1 := Lib.hid h1
  have HK1 := Lib.hid k1
  clear hc h1 k1
  go_wp2_with fail
  go_loopw [7, 12] (fun ov i wr => ∃ (k : Nat) (s' : RS) (acc : List ByteArray), k ≤ n ∧ i = .int .i64 k ∧ acc.length = k ∧ rdG texR (n - k) s' acc = depsR s ∧ RdAt wr p s' ∧ wr.ownsRow 0 9 1 ov acc.length (flatS acc) ∧ (∀ j, ov.ownBlock = some j → w.heap.size ≤ j) ∧ Keeps (fun k => k = p) w wr) (fun _ i _ => n - (intOf i).toNat)
  case atStart => exact ⟨0, (countR 255 s).2, [], by omega, rfl, rfl, HG.out.symm, HR1.out, World.ownsRow_nil _ _ _ _, by simp [Value.ownBlock], HK1.out⟩
  case round =>
    obtain ⟨k, s', acc, hk, rfl, hacc, hrd, hR, hown, hnew, hkp⟩ := hrel
    have HA := Lib.hid hacc
    have HD := Lib.hid hrd
    have HR := Lib.hid hR
    have HO := Lib.hid hown
    have HN := Lib.hid hnew
    have HK := Lib.hid hkp
    clear hrd hown hnew hkp
    by_cases hlt : k < n
    · have hm1 := text_any wr p s' hR
      have HS := Lib.hid (show rdG texR (n - k) s' acc = if (texR s').2.e = 0 then rdG texR (n - (k + 1)) (texR s').2 (acc ++ [(texR s').1]) else ([], (texR s').2) by
        rw [show n - k = (n - (k + 1)) + 1 by omega, rdG])
      obtain ⟨s2, hs2⟩ : ∃ s2, s2 = (texR s').2 := ⟨_, rfl⟩
      obtain ⟨x, hx⟩ : ∃ x : ByteArray, x = (texR s').1 := ⟨_, rfl⟩
      rw [← hs2, ← hx] at hm1
      have hS2 := HS.out
      rw [← hs2, ← hx] at hS2
      have HS2 := Lib.hid hS2
      clear hS2 hs2 hx hR HS hacc
      go_wp2_with fail
      refine hm1.mono ?_
      rintro e w2 ⟨rfl, h2, k2⟩
      have H2 := Lib.hid h2
      have K2 := Lib.hid k2
      clear hm1 h2 k2
      go_wp2_with fail
      have he2 := err_any w2 p s2 H2.out
      cases h0 : (s2.e == 0)
      · have h0' : (s2.e != 0) = true := by rw [bne, h0]; rfl
        have H0 := Lib.hid h0
        clear h0
        refine he2.mono ?_
        rintro e w' ⟨rfl, rfl⟩
        go_wp2_with fail
        go_ret
        have hS := HS2.out
        rw [HD.out, if_neg (by simpa using H0.out)] at hS
        rw [hS]
        exact ⟨_, rfl, H2.out, World.ownsRow_nil _ _ _ _, by simp [Value.ownBlock], HK.out.trans K2.out⟩
      · have h0' : (s2.e != 0) = false := by rw [bne, h0]; rfl
        have H0 := Lib.hid h0
        have HM0 := Lib.hid (show acc.length + 1 ≤ maxLen by have := HA.out; unfold maxLen; omega)
        have HM1 := Lib.hid (show (acc.length + 1) * 16 ≤ 140737488355328 by have := HA.out; omega)
        have HO2 := Lib.hid (owns_kept HO.out K2.out fun j hj e => by have := HN.out j hj; have e' : j = p := e; omega)
        clear h0
        refine he2.mono ?_
        rintro e w' ⟨rfl, rfl⟩
        go_wp2_with (first | (at_builtin; go_loud (refine wpList_append_one w2 rfl _ _ 38 rfl 9 i0 (.string ⟨#[]⟩) 16 Tryz.underlying38 hi hz0 hz1 hz2 rfl u7 acc.length (flatS acc) rfl HO2.out (.string x) 9 rfl rfl HM0.out HM1.out ?_; intro v' w3 hown3 hg3 hrow3; have HO3 := Lib.hid hown3; have HG3 := Lib.hid hg3; have HR3 := Lib.hid hrow3; clear hown3 hg3 hrow3)))
        go_roundw
        case rel =>
          have hsz2 : w.heap.size ≤ w2.heap.size := Nat.le_trans HK.out.size K2.out.size
          have hk3 : Keeps (fun k => w.heap.size ≤ k) w2 w3 := ((Keeps.refl (fun k => w.heap.size ≤ k) w2).alloc _).trans (grown_keeps HG3.out fun j hj => HN.out j hj.symm)
          have hS := HS2.out
          rw [if_pos (by simpa using H0.out)] at hS
          refine ⟨k + 1, s2, acc ++ [x], by omega, by go_num, by rw [List.length_append, HA.out]; rfl, by rw [← hS]; exact HD.out, H2.out.kept hk3 fun j hj => by omega, ?_, fun j hj => ?_, ?_⟩
          · rw [List.length_append]; unfold flatS; rw [List.map_append]; exact HO3.out
          · rcases HR3.out with h1 | ⟨i, h1, h2, _⟩
            · exact HN.out j (h1 ▸ hj)
            · rw [h1] at hj; cases hj; simp at h2; omega
          · exact keeps_after (HK.out.trans K2.out) hk3 (fun j hj => hj)
        case measure => simp [intOf]; omega
    · obtain rfl : k = n := by omega
      go_wp2_with fail
      go_ret
      have hD := HD.out
      rw [Nat.sub_self, rdG] at hD
      rw [← hD]
      exact ⟨_, rfl, HR.out, HO.out, HN.out, HK.out⟩

end Go.Proofs.YtheipmallojdkaaGreatDoor

namespace Go.Proofs.YtheipmallojdkaaGreatDoor
open Go.RowKit

theorem strv_one (c : ByteArray) : (strv c).oneCell' = true := rfl

/-- What is cloned: the same bytes, in a row of its own. -/
def ClonedS (w : World) (l : List ByteArray) (e : Ending) (w' : World) : Prop :=
  ∃ v, e = .returned v ∧ Below w.heap.size w w' ∧ Sl strv w' v l ∧ w'.ownsRow 0 9 1 v l.length (l.map strv) ∧ ∀ k, v.ownBlock = some k → w.heap.size ≤ k

set_option maxRecDepth 100000 in
theorem cloneS_any (w : World) (ad : Option Addr) (n cp : Nat) (l : List ByteArray) (hu : Sl strv w (.slice ad n cp) l) (hl : l.length ≤ 70368744177) :
    Calls Tryz.prog 58 #[.slice ad n cp] w (ClonedS w l) := by
  have HU := Lib.hid hu
  have HL := Lib.hid hl
  clear hl
  cases ad with
  | none =>
    obtain ⟨rfl, rfl, rfl⟩ := hu.none_nil
    clear hu
    have hnil := fun w => Lib.run_eql_slice_nil (P := Tryz.prog) w 38 9 none 0 0 0 0 Tryz.underlying38
    go_enter Tryz.func58, Tryz.ntmps58
    go_wp2
    go_ret
    exact ⟨_, rfl, Below.refl _ _, Sl.nil _ _, World.ownsRow_nil _ _ _ _, fun k hk => by simp [Value.ownBlock] at hk⟩
  | some x =>
    obtain ⟨b, o, rfl, hb, rfl, hn, hc⟩ := hu.some_row
    clear hu hc hn
    have hnil := fun w => Lib.run_eql_slice_nil (P := Tryz.prog) w 38 9 (some ⟨b, o, none⟩) l.length cp 0 0 Tryz.underlying38
    obtain ⟨i0, hi, hz0, hz1, hz2⟩ := info_parts info_str3
    go_enter Tryz.func58, Tryz.ntmps58
    have how : (w.alloc (.cells #[] 9)).ownsRow 0 9 1 (.slice (some ⟨w.heap.size, 0, none⟩) 0 0) 0 [] := World.ownsRow_made w #[] 0 (Nat.zero_le _) (Nat.zero_le _) rfl
    have hus : Sl strv (w.alloc (.cells #[] 9)) (.slice (some ⟨b, o, none⟩) l.length cp) l := HU.out.alloc _
    have HM0 := Lib.hid (show 0 + l.length ≤ maxLen by unfold maxLen; have := HL.out; omega)
    have HM1 := Lib.hid (show (0 + l.length) * 16 ≤ 140737488355328 by have := HL.out; omega)
    have HO0 := Lib.hid how
    have HU0 := Lib.hid hus
    clear how hus
    go_wp2_with (at_builtin; refine wpList_append_sl (w.alloc (.cells #[] 9)) rfl _ _ _ rfl 9 i0 (.string ⟨#[]⟩) 16 Tryz.underlying38 hi hz0 hz1 hz2 rfl (.slice (some ⟨w.heap.size, 0, none⟩) 0 0) 0 [] rfl HO0.out (.slice (some ⟨b, o, none⟩) l.length cp) l rfl HU0.out strv_one HM0.out HM1.out ?_; intro v' w1 hown hg hrow; have HO := Lib.hid hown; have HG := Lib.hid hg; have HR := Lib.hid hrow; clear hown hg hrow)
    go_ret
    have hown : w1.ownsRow 0 9 1 v' l.length (l.map strv) := by have := HO.out; rwa [Nat.zero_add, List.nil_append] at this
    refine ⟨v', rfl, ?_, owns_sl hown, hown, fun k hk => ?_⟩
    · have h1 : Keeps (fun k => w.heap.size ≤ k) w w1 := ((Keeps.refl _ w).alloc _).trans (grown_keeps HG.out (fun k hk => by simp [Value.ownBlock] at hk; omega))
      exact h1.below (Nat.le_refl _) (fun k hk => hk)
    · rcases HR.out with h1 | ⟨j, h1, h2, _⟩
      · rw [h1] at hk; simp [Value.ownBlock] at hk; omega
      · rw [h1] at hk; cases hk; simp at h2; omega

theorem info_specC : (Tryz.prog.info? 40).map (·.size) = some 11 := by kernel_rfl

/-- A spec, its row new. -/
def ClonedP (w : World) (s : Sp) (e : Ending) (w' : World) : Prop :=
  ∃ v, e = .returned (s.v v) ∧ Below w.heap.size w w' ∧ Sl strv w' v s.deps ∧ ∀ k, v.ownBlock = some k → w.heap.size ≤ k

set_option maxRecDepth 100000 in
theorem sclone_any (w : World) (s : Sp) (ad : Option Addr) (n cp : Nat) (hu : Sl strv w (.slice ad n cp) s.deps) (hl : s.deps.length ≤ 70368744177) :
    Calls Tryz.prog 39 #[s.v (.slice ad n cp)] w (ClonedP w s) := by
  obtain ⟨nm, te, pri, de, dp, ba, ca, att, le, cr, ct⟩ := s
  simp only at hu hl
  have HC := Lib.hid (fun W hW => cloneS_any W ad n cp dp hW hl)
  have HU := Lib.hid hu
  clear hu hl
  unfold Sp.v Sp.cells
  simp only
  go_enter Tryz.func39, Tryz.ntmps39
  go_wp2_with fail
  obtain ⟨W0, hW⟩ : ∃ W0, W0 = (w.alloc (.cells #[.string nm, .string te, .int .i64 pri, .int .i64 de, .slice ad n cp, .int .i64 ba, .int .i64 ca, .int .i64 att, .int .i64 le, .string cr, .int .i64 ct] 40)).alloc (.cells #[.string ⟨#[]⟩, .string ⟨#[]⟩, .int .i64 0, .int .i64 0, .slice none 0 0, .int .i64 0, .int .i64 0, .int .i64 0, .int .i64 0, .string ⟨#[]⟩, .int .i64 0] 40) := ⟨_, rfl⟩
  rw [← hW]
  have HX : Hid (W0.heap[w.heap.size]? = some (.cells #[.string nm, .string te, .int .i64 pri, .int .i64 de, .slice ad n cp, .int .i64 ba, .int .i64 ca, .int .i64 att, .int .i64 le, .string cr, .int .i64 ct] 40 (0, 0))) := Lib.hid (by rw [hW]; exact aheap (heap_new _ _) _)
  have HZ : Hid (W0.heap[w.heap.size + 1]? = some (.cells #[.string ⟨#[]⟩, .string ⟨#[]⟩, .int .i64 0, .int .i64 0, .slice none 0 0, .int .i64 0, .int .i64 0, .int .i64 0, .int .i64 0, .string ⟨#[]⟩, .int .i64 0] 40 (0, 0))) := Lib.hid (by
    rw [hW]
    have := heap_new (w.alloc (.cells #[.string nm, .string te, .int .i64 pri, .int .i64 de, .slice ad n cp, .int .i64 ba, .int .i64 ca, .int .i64 att, .int .i64 le, .string cr, .int .i64 ct] 40)) (.cells #[.string ⟨#[]⟩, .string ⟨#[]⟩, .int .i64 0, .int .i64 0, .slice none 0 0, .int .i64 0, .int .i64 0, .int .i64 0, .int .i64 0, .string ⟨#[]⟩, .int .i64 0] 40)
    rwa [World.size_alloc] at this)
  have HB : Hid (Below w.heap.size w W0) := Lib.hid (by rw [hW]; exact ((Below.refl _ _).alloc (Nat.le_refl _) _).alloc (by simp) _)
  have HU0 : Hid (Sl strv W0 (.slice ad n cp) dp) := Lib.hid (by rw [hW]; exact (HU.out.alloc _).alloc _)
  have hsz : w.heap.size + 2 ≤ W0.heap.size := by rw [hW]; simp
  have c4 : W0.cell? ⟨w.heap.size, 4, none⟩ = some (.slice ad n cp) := blk_cell HX.out 4 rfl
  clear hW
  go_wp2_with fail
  refine (HC.out W0 HU0.out).mono ?_
  rintro e w1 ⟨v, rfl, hb1, hs1, hown1, hn1⟩
  obtain ⟨a1, cp1, rfl, _⟩ := id hs1
  obtain ⟨dn, hdn⟩ : ∃ dn, dn = dp.length := ⟨_, rfl⟩
  rw [← hdn] at hs1 hn1
  have hx1 := bheap hb1 HX.out (heap_lt HX.out)
  have HX1 := Lib.hid hx1
  have HZ1 := Lib.hid (bheap hb1 HZ.out (heap_lt HZ.out))
  have HB1 := Lib.hid (HB.out.trans (hb1.mono (by omega)))
  have HS1 := Lib.hid hs1
  have HN1 := Lib.hid hn1
  have hs2 := hb1.size
  have l1 := heap_lt hx1
  have f1 := blk_free hx1 4
  have c1 : w1.cell? ⟨w.heap.size, 4, none⟩ = some (.slice ad n cp) := blk_cell hx1 4 rfl
  have HDN := Lib.hid hdn
  rw [← hdn]
  clear hb1 hs1 hown1 hn1 hx1 c4 hdn
  go_wp2_with (first | (refine wpList_load_all _ rfl _ _ rfl _ rfl _ #[.string nm, .string te, .int .i64 pri, .int .i64 de, .slice a1 dn cp1, .int .i64 ba, .int .i64 ca, .int .i64 att, .int .i64 le, .string cr, .int .i64 ct] _ _ (blk_set HX1.out 4 _) rfl _ Tryz.underlying40 rfl info_specC ?_) | (refine wpList_store_all _ rfl _ _ _ rfl _ rfl _ rfl _ _ (blk_set_other HZ1.out (a := ⟨w.heap.size, 4, none⟩) (by simp) (.slice a1 dn cp1)) ?_ ?_ info_specC ?_ ?_; (focus (simp; done)); (focus (simp; done)); (focus (simp [OneCells, Value.oneCell']; done)); rintro W9 hz9 hk9 hs9) | fail)
  refine bodyPost_ret (results_blk rfl _ _ _ _ _ _ rfl hz9 _ Tryz.underlying40 rfl info_specC) rfl ?_
  have hset : Keeps (fun k => w.heap.size ≤ k) w1 (w1.setCell ⟨w.heap.size, 4, none⟩ (.slice a1 dn cp1)) := (Keeps.refl _ w1).setCell (p := ⟨w.heap.size, 4, none⟩) (.inl (Nat.le_refl _)) _
  have hk : Keeps (fun k => k = w.heap.size ∨ k = w.heap.size + 1) w1 W9 := ((Keeps.refl (fun k => k = w.heap.size ∨ k = w.heap.size + 1) w1).setCell (p := ⟨w.heap.size, 4, none⟩) (.inl (.inl rfl)) (.slice a1 dn cp1)).trans (hk9.mono fun k _ e => .inr e)
  refine ⟨.slice a1 dn cp1, rfl, ?_, ?_, fun k hk => ?_⟩
  · exact ((Keeps.of_below HB1.out).trans (hk.mono (T := fun k => w.heap.size ≤ k) (fun k _ e => by omega))).below (Nat.le_refl _) fun k h => h
  · refine HS1.out.kept hk fun k hk' e => ?_
    have := HN1.out k hk'
    omega
  · have := HN1.out k hk
    omega

end Go.Proofs.YtheipmallojdkaaGreatDoor

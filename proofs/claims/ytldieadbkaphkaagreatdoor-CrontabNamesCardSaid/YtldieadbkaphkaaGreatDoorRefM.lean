/- The reference for package cron: Parse: of each field a map of its values. -/
import Derived.Test.YtldieadbkaphkaaGreatDoorRefQ
import Derived.Test.YtldieadbkaphkaaGreatDoorCronS
namespace Go.Proofs.YtldieadbkaphkaaGreatDoor
open Go.RowKit Go.Maps Go.ChangeMaps

def boolE (b : Bool) : Value := .bool b
def mapE (b : Nat) : Value := .map (some b)
theorem intE_inj : ∀ a b : Int, intE a = intE b → a = b := by intro a b h; simpa [intE] using h
theorem ikeyed : Keyed Tryz.prog 3 := int_keyed Tryz.underlying3
theorem ikey {c : Int} (h : (Lit.int .i64 c).wf = true) : keyOf Tryz.prog 3 (intE c) = some (.int .i64 c) := keyOf_int_mk Tryz.underlying3 h
theorem small_wf {c : Int} (h0 : 0 ≤ c) (h1 : c ≤ 1000) : (Lit.int .i64 c).wf = true := by
  simp [Lit.wf, IntKind.min, IntKind.max, IntKind.bits, IntKind.signed]; omega
abbrev MapB (w : World) (b : Nat) (m : List (Int × Bool)) : Prop := MapOf Tryz.prog 3 intE boolE w b m
/-- Block b is a map in which just these values are true. -/
def BitMap (w : World) (b : Nat) (vals : List Int) : Prop := ∃ m, MapB w b m ∧ ∀ x, (aget x m).getD false = decide (x ∈ vals)
theorem BitMap.made (w : World) : BitMap (w.alloc (.map #[] 0)) w.heap.size [] := ⟨[], MapOf.made _ _ _ _ w, fun x => by simp [aget]⟩
theorem bits_set {vals : List Int} {m : List (Int × Bool)} (h : ∀ x, (aget x m).getD false = decide (x ∈ vals)) (y : Int) : ∀ x, (aget x (aset y true m)).getD false = decide (x ∈ vals ++ [y]) := fun x => by
  by_cases e : x = y
  · subst e; rw [aget_aset_same]; simp
  · rw [aget_aset_other e, h x]; simp [e]
theorem BitMap.lt {w : World} {b : Nat} {vals : List Int} (h : BitMap w b vals) : b < w.heap.size := by obtain ⟨m, h, _⟩ := h; exact h.lt
theorem BitMap.kept {S : Nat → Prop} {w w' : World} {b : Nat} {vals : List Int} (h : BitMap w b vals) (hk : Keeps S w w') (hn : ¬ S b) : BitMap w' b vals := by
  obtain ⟨m, h, hv⟩ := h; exact ⟨m, h.kept hk hn, hv⟩
theorem BitMap.below {B : Nat} {w w' : World} {b : Nat} {vals : List Int} (h : BitMap w b vals) (hk : Below B w w') (hn : b < B) : BitMap w' b vals :=
  h.kept (Keeps.of_below hk) (by omega)
theorem BitMap.ne_own {w : World} {b : Nat} {vals : List Int} (h : BitMap w b vals) {e : TypeId} {v : Value} {n : Nat} {xs : List Value} (ho : w.ownsRow 0 e 1 v n xs) : v.ownBlock ≠ some b := by
  obtain ⟨m, ⟨es, clock, hb, _⟩, _⟩ := h
  rcases ho.2 with ⟨rfl, _⟩ | ⟨g, cap, cur, rfl, _, hg, _⟩
  · simp [Value.ownBlock]
  · intro hh
    simp [Value.ownBlock] at hh
    subst hh
    rw [hb] at hg; cases hg
def nrm (k : Nat) (x : Int) : Int := if k = 4 ∧ x = 7 then 0 else x
theorem info_map : (Tryz.prog.info? 60).map (fun i => (i.zero, i.size, i.bytes)) = some (some (.map none), 1, 8) := by kernel_rfl

def ParsePost (w : World) (s : Bs) (e : Ending) (w' : World) : Prop :=
  Below w.heap.size w w' ∧ (((parseF s).2 ≠ 0 ∧ e = .returned (.tuple #[.slice none 0 0, .slice none 0 0, .int .i64 (parseF s).2])) ∨
    ((parseF s).2 = 0 ∧ ∃ v l bs, e = .returned (.tuple #[v, l, .int .i64 0]) ∧ Sl mapE w' v bs ∧ bs.length = 5 ∧ Sl strE w' l (splitL 32 s) ∧
      ∀ k b, bs[k]? = some b → BitMap w' b (((parseF s).1.getD k []).map (nrm k))))

theorem partsF_pref (f : Fld) (L : List Bs) (q : Nat) (p : Bs) (h : (partsF f (L.take q)).2 = 0) (hp : L[q]? = some p) (hne : (partF f p).2 ≠ 0) : (partsF f L).2 = (partF f p).2 := by
  obtain ⟨hlt, he⟩ := List.getElem?_eq_some_iff.1 hp
  have e : L = L.take q ++ p :: L.drop (q + 1) := by
    rw [← he, List.getElem_cons_drop, List.take_append_drop]
  have h2 := partsF_err f (L.take q) p (L.drop (q + 1)) h hne
  rw [← e] at h2
  rw [h2]

set_option maxRecDepth 100000 in
set_option maxHeartbeats 8000000 in
theorem refParse_main (w : World) (s : Bs) (hs : s.length ≤ 128) (h5 : (splitL 32 s).length = 5) :
    Calls Tryz.prog 10 #[.string ⟨s.toArray⟩] w (ParsePost w s) := by
  obtain ⟨i0, hi0, hz0, hz1, hz2⟩ := info_parts info_map
  have hmm := @run_makeMap Tryz.prog
  have hsp := refSplit_any w 32 s (by omega)
  have HPF : Hid (parseF s = fieldsF 0 (splitL 32 s)) := Lib.hid (by unfold parseF; rw [if_neg (by omega), if_neg (by simp [h5])])
  have HLEN := Lib.hid (splitL_mem_len 32 s)
  have HGET : Hid ((parseF s).2 = 0 → ∀ k, k < 5 → (parseF s).1.getD k [] = (valuesF (fld k) ((splitL 32 s).getD k [])).1) := Lib.hid fun h k hk => (parseF_get h hk).1
  have HPOST : Hid (∀ e w', Below w.heap.size w w' → (((parseF s).2 ≠ 0 ∧ e = .returned (.tuple #[.slice none 0 0, .slice none 0 0, .int .i64 (parseF s).2])) ∨
    ((parseF s).2 = 0 ∧ ∃ v l bs, e = .returned (.tuple #[v, l, .int .i64 0]) ∧ Sl mapE w' v bs ∧ bs.length = 5 ∧ Sl strE w' l (splitL 32 s) ∧
      ∀ k b, bs[k]? = some b → BitMap w' b (((parseF s).1.getD k []).map (nrm k)))) → ParsePost w s e w') := Lib.hid fun _ _ h1 h2 => ⟨h1, h2⟩
  obtain ⟨PP, hPP⟩ : ∃ PP, PP = ParsePost w s := ⟨_, rfl⟩
  rw [← hPP] at HPOST ⊢
  clear hPP
  generalize parseF s = PF at *
  generalize splitL 32 s = L at *
  go_enter Tryz.func10, Tryz.ntmps10
  go_wp2_with fail
  refine hsp.mono ?_
  rintro e w1 ⟨tv, rfl, hsl, hb1, _⟩
  have HSL := Lib.hid hsl
  obtain ⟨a, cap, rfl, hc1, hc2, hx⟩ := hsl
  have HB1 := Lib.hid hb1
  rcases hx with ⟨_, h0⟩ | ⟨tb, to_, rfl, htb, hcell⟩
  · exfalso; omega
  have HC := Lib.hid hcell
  have H5 := Lib.hid h5
  rw [h5] at hc1 ⊢
  clear hsp hb1 hcell
  go_wp2_with fail
  go_loopw [6, 26] (fun v ix wr => ∃ (k : Nat) (bs : List Nat), k ≤ 5 ∧ ix = .int .i64 k ∧ bs.length = k ∧ wr.ownsRow 0 60 1 v k (bs.map mapE) ∧ Below w1.heap.size w1 wr ∧ (∀ j, v.ownBlock = some j → w1.heap.size ≤ j) ∧ (∀ j b, bs[j]? = some b → w1.heap.size ≤ b ∧ BitMap wr b ((valuesF (fld j) (L.getD j [])).1.map (nrm j))) ∧ ∀ j, j < k → (valuesF (fld j) (L.getD j [])).2 = 0) (fun _ ix _ => 5 - (intOf ix).toNat)
  case atStart => exact ⟨0, [], by omega, rfl, rfl, World.ownsRow_nil _ _ _ _, Below.refl _ _, by simp [Value.ownBlock], by simp, fun j hj => by omega⟩
  case round =>
    obtain ⟨k, bs, hk, rfl, hbl, hown, hbw, hnew, hmaps, hall⟩ := hrel
    obtain ⟨wo, rfl⟩ : ∃ wo : World, wo = wr := ⟨_, rfl⟩
    have HO := Lib.hid hown
    have HBW := Lib.hid hbw
    have HNW := Lib.hid hnew
    have HMP := Lib.hid hmaps
    have HAL := Lib.hid hall
    have HBL := Lib.hid hbl
    clear hown hbw hnew hmaps hall hbl
    by_cases hlt : k < 5
    · obtain ⟨p, hp⟩ : ∃ p, L[k]? = some p := ⟨L[k]'(by have := H5.out; omega), List.getElem?_eq_getElem _⟩
      have c0 : wo.cell? ⟨tb, to_ + k, none⟩ = some (.string ⟨p.toArray⟩) := by
        rw [World.cell?_of_block (HBW.out.block tb htb)]; exact HC.out k p hp
      have hpl : p.length ≤ 200 := by have := HLEN.out p (List.mem_of_getElem? hp); omega
      have HP : Hid (L.getD k [] = p) := Lib.hid (by rw [List.getD_eq_getElem?_getD, hp]; rfl)
      have HSP2 := Lib.hid (refSplit_any (wo.alloc (.map #[] 0)) 44 p hpl)
      have HVF : Hid (valuesF (fld k) p = partsF (fld k) (splitL 44 p)) := Lib.hid rfl
      have HPL := Lib.hid (splitL_mem_len 44 p)
      have hll := splitL_le 44 p
      clear hp
      go_wp2_with fail
      refine HSP2.out.mono ?_
      rintro e w2 ⟨pv, rfl, hps, hb2, hpn⟩
      generalize splitL 44 p = LP at *
      obtain ⟨pa, pcap, rfl, hpc1, hpc2, hpx⟩ := hps
      have HPX := Lib.hid hpx
      have HB2 := Lib.hid hb2
      have HPN := Lib.hid hpn
      have hpc3 : pcap ≤ 9223372036854775807 := hpc2
      have hbm : wo.heap.size < w2.heap.size := by have := hb2.size; simp at this; omega
      have HBM0 : Hid (BitMap w2 wo.heap.size []) := Lib.hid ((BitMap.made wo).below hb2 (by simp))
      clear HSP2 hpx hb2 hpn hpc2
      go_wp2_with fail
      go_loopw [35] (fun ix w' => ∃ q : Nat, q ≤ LP.length ∧ ix = .int .i64 q ∧ (partsF (fld k) (LP.take q)).2 = 0 ∧ BitMap w' wo.heap.size ((partsF (fld k) (LP.take q)).1.map (nrm k)) ∧ Keeps (fun j => j = wo.heap.size) w2 w') (fun ix _ => LP.length - (intOf ix).toNat)
      case atStart => exact ⟨0, by omega, rfl, rfl, HBM0.out, Keeps.refl _ _⟩
      case round =>
        obtain ⟨q, hq, rfl, hok, hbmq, hkq⟩ := hrel
        obtain ⟨wp, rfl⟩ : ∃ wp : World, wp = wr := ⟨_, rfl⟩
        have HOK := Lib.hid hok
        have HBMQ := Lib.hid hbmq
        have HKQ := Lib.hid hkq
        have hszp := hkq.size
        clear hok hbmq hkq
        by_cases hlq : q < LP.length
        · obtain ⟨t, ht⟩ : ∃ t, LP[q]? = some t := ⟨LP[q], List.getElem?_eq_getElem _⟩
          rcases HPX.out with ⟨_, h0⟩ | ⟨pb, po, rfl, hpb, hpc⟩
          · exfalso; omega
          have hpne : pb ≠ wo.heap.size := by have := HPN.out pb rfl; simp at this; omega
          have c1 : wp.cell? ⟨pb, po + q, none⟩ = some (.string ⟨t.toArray⟩) := by
            rw [World.cell?_of_block (HKQ.out.block pb hpb hpne)]; exact hpc q t ht
          have htl : t.length ≤ 200 := by have := HPL.out t (List.mem_of_getElem? ht); omega
          have hpart := refPart_any wp k (by omega) t htl
          have HSN : Hid ((partF (fld k) t).2 = 0 → partsF (fld k) (LP.take (q + 1)) = ((partsF (fld k) (LP.take q)).1 ++ (partF (fld k) t).1, 0)) := Lib.hid fun h => by
            rw [List.take_succ_eq_append_getElem hlq, (List.getElem?_eq_some_iff.1 ht).2]
            exact partsF_snoc (fld k) _ t HOK.out h
          have HER : Hid ((partF (fld k) t).2 ≠ 0 → (partsF (fld k) LP).2 = (partF (fld k) t).2) := Lib.hid fun h => partsF_pref (fld k) LP q t HOK.out ht h
          have HIN : Hid (∀ x ∈ (partF (fld k) t).1, 0 ≤ x ∧ x ≤ 59) := Lib.hid fun x hx => by
            have h1 := partF_in k t x hx
            have h2 := fld_low k
            have h3 := fld_high k
            omega
          clear hpc ht htl
          generalize partF (fld k) t = R at *
          obtain ⟨vals, er⟩ := R
          simp only at HSN HER HIN
          go_wp2_with fail
          refine hpart.mono ?_
          rintro e w3 ⟨vv, rfl, hvs, hb3, hvn⟩
          simp only at hvs
          have HB3 := Lib.hid hb3
          have HVN := Lib.hid hvn
          clear hpart hb3 hvn c0 c1
          by_cases he : er = 0
          · subst he
            obtain ⟨va, vcap, rfl, hvc1, hvc2, hvx⟩ := hvs
            have HVX := Lib.hid hvx
            have hvc3 : vcap ≤ 9223372036854775807 := hvc2
            clear hvx hvc2
            go_wp2_with fail
            go_loopw [50] (fun ix w' => ∃ r : Nat, r ≤ vals.length ∧ ix = .int .i64 r ∧ BitMap w' wo.heap.size (((partsF (fld k) (LP.take q)).1 ++ vals.take r).map (nrm k)) ∧ Keeps (fun j => j = wo.heap.size) w3 w') (fun ix _ => vals.length - (intOf ix).toNat)
            case atStart => exact ⟨0, by omega, rfl, by simpa using (HBMQ.out.below HB3.out HBMQ.out.lt), Keeps.refl _ _⟩
            case round =>
              obtain ⟨r, hr, rfl, hbr, hk3⟩ := hrel
              have HBR := Lib.hid hbr
              have HK3 := Lib.hid hk3
              clear hbr hk3
              by_cases hlr : r < vals.length
              · obtain ⟨m, hM, hmv⟩ := HBR.out
                have HMM := Lib.hid hM
                have HMV := Lib.hid hmv
                rcases HVX.out with ⟨_, h0⟩ | ⟨vb, vo, rfl, hvb, hvc⟩
                · exfalso; omega
                have hvne : vb ≠ wo.heap.size := by have := HVN.out vb rfl; omega
                have c2 : wr.cell? ⟨vb, vo + r, none⟩ = some (.int .i64 vals[r]) := by
                  rw [World.cell?_of_block (HK3.out.block vb hvb hvne)]; exact hvc r vals[r] (List.getElem?_eq_getElem hlr)
                have HTV := Lib.hid (show vals.take (r + 1) = vals.take r ++ [vals[r]] by rw [List.take_succ_eq_append_getElem hlr])
                obtain ⟨x0, x1⟩ := HIN.out vals[r] (List.getElem_mem hlr)
                generalize vals[r] = x at *
                clear hvc hM hmv HBR
                by_cases h4 : k = 4
                · have hk4 : ((k : Int) == 4) = true := by simp; omega
                  by_cases h7 : x = 7
                  · subst h7
                    have HNX : Hid (nrm k 7 = 0) := Lib.hid (by unfold nrm; rw [if_pos ⟨h4, rfl⟩])
                    have HWF : Hid ((Lit.int .i64 0).wf = true) := Lib.hid (small_wf (by decide) (by decide))
                    clear h4
                    go_wp2_with (first | (refine wpList_map_update wr rfl _ _ _ _ rfl _ ikeyed intE_inj Tryz.underlying60 wo.heap.size m rfl HMM.out 0 _ rfl (ikey HWF.out) true rfl ?_; intro ob hM2; have HM2 := Lib.hid hM2; clear hM2))
                    go_roundw
                    case rel =>
                      refine ⟨r + 1, by omega, by go_num, ⟨_, HM2.out, ?_⟩, HK3.out.setBlock (.inl rfl) ob⟩
                      intro z
                      rw [bits_set HMV.out 0 z, HTV.out, ← List.append_assoc, List.map_append, List.map_append, List.map_append]
                      simp only [List.map_cons, List.map_nil]
                      rw [HNX.out]
                    case measure => simp [intOf]; omega
                  · have hx7 : (x == 7) = false := by simpa using h7
                    have HNX : Hid (nrm k x = x) := Lib.hid (by unfold nrm; rw [if_neg (by rintro ⟨_, h⟩; exact h7 h)])
                    have HWF : Hid ((Lit.int .i64 x).wf = true) := Lib.hid (small_wf x0 (by omega))
                    clear h4 h7
                    go_wp2_with (first | (refine wpList_map_update wr rfl _ _ _ _ rfl _ ikeyed intE_inj Tryz.underlying60 wo.heap.size m rfl HMM.out x _ rfl (ikey HWF.out) true rfl ?_; intro ob hM2; have HM2 := Lib.hid hM2; clear hM2))
                    go_roundw
                    case rel =>
                      refine ⟨r + 1, by omega, by go_num, ⟨_, HM2.out, ?_⟩, HK3.out.setBlock (.inl rfl) ob⟩
                      intro z
                      rw [bits_set HMV.out x z, HTV.out, ← List.append_assoc, List.map_append, List.map_append, List.map_append]
                      simp only [List.map_cons, List.map_nil]
                      rw [HNX.out]
                    case measure => simp [intOf]; omega
                · have hk4 : ((k : Int) == 4) = false := by simp; omega
                  have HNX : Hid (nrm k x = x) := Lib.hid (by unfold nrm; rw [if_neg (by rintro ⟨h, _⟩; exact h4 h)])
                  have HWF : Hid ((Lit.int .i64 x).wf = true) := Lib.hid (small_wf x0 (by omega))
                  clear h4
                  go_wp2_with (first | (refine wpList_map_update wr rfl _ _ _ _ rfl _ ikeyed intE_inj Tryz.underlying60 wo.heap.size m rfl HMM.out x _ rfl (ikey HWF.out) true rfl ?_; intro ob hM2; have HM2 := Lib.hid hM2; clear hM2))
                  go_roundw
                  case rel =>
                    refine ⟨r + 1, by omega, by go_num, ⟨_, HM2.out, ?_⟩, HK3.out.setBlock (.inl rfl) ob⟩
                    intro z
                    rw [bits_set HMV.out x z, HTV.out, ← List.append_assoc, List.map_append, List.map_append, List.map_append]
                    simp only [List.map_cons, List.map_nil]
                    rw [HNX.out]
                  case measure => simp [intOf]; omega
              · have HRR := Lib.hid (show vals.take r = vals from List.take_of_length_le (by omega))
                clear HVX
                go_wp2_with fail
                go_roundw
                case rel =>
                  have hb := HBR.out
                  rw [HRR.out] at hb
                  refine ⟨q + 1, by omega, by go_num, by rw [HSN.out (by simp)], by rw [HSN.out (by simp)]; exact hb, ?_⟩
                  exact HKQ.out.trans ((Keeps.of_belowS HB3.out).trans (HK3.out.mono (fun _ _ h => h)))
                case measure => simp [intOf]; omega
          · have heb : (er != 0) = true := by simpa using he
            have HE := Lib.hid he
            clear he
            go_wp2_with fail
            go_ret3
            have hv : (valuesF (fld k) p).2 = er := by rw [HVF.out, HER.out HE.out]
            have hff := fieldsF_first L 0 k (by have := H5.out; omega) (fun j hj => by rw [Nat.zero_add]; exact HAL.out j hj) (by rw [Nat.zero_add, HP.out, hv]; exact HE.out)
            rw [Nat.zero_add, HP.out, hv] at hff
            have hP2 : PF.2 = er := by rw [HPF.out, hff]
            refine HPOST.out _ _ ?_ (.inl ⟨by rw [hP2]; exact HE.out, by rw [hP2]; rfl⟩)
            have hw2 : Below w1.heap.size w1 w2 := (HBW.out.alloc HBW.out.size _).trans (HB2.out.mono (by have := HBW.out.size; simp; omega))
            have hwp := hw2.trans (HKQ.out.below hw2.size (fun j hj => by have := HBW.out.size; omega))
            exact HB1.out.trans ((hwp.trans (HB3.out.mono hwp.size)).mono HB1.out.size)
        · have HRR := Lib.hid (show LP.take q = LP from List.take_of_length_le (by omega))
          have hw2 : Below w1.heap.size w1 w2 := (HBW.out.alloc HBW.out.size _).trans (HB2.out.mono (by have := HBW.out.size; simp; omega))
          have HWP := Lib.hid (hw2.trans (HKQ.out.below hw2.size (fun j hj => by have := HBW.out.size; omega)))
          have HKW : Hid (Keeps (fun j => j = wo.heap.size) wo wp) := Lib.hid (((Keeps.refl _ wo).alloc (.map #[] 0)).trans ((Keeps.of_below HB2.out).mono (fun j h1 h2 => by simp at h1 h2; omega) |>.trans HKQ.out))
          have HOP : Hid (wp.ownsRow 0 60 1 u6 k (bs.map mapE)) := Lib.hid (owns_kept HO.out HKW.out (fun j hj => by
            have h1 : j < wo.heap.size := by
              rcases HO.out.2 with ⟨rfl, _⟩ | ⟨g, cap, cur, rfl, _, hg, _⟩
              · simp [Value.ownBlock] at hj
              · simp [Value.ownBlock] at hj; subst hj; exact heap_lt hg
            omega))
          have HM0 := Lib.hid (show k + 1 ≤ maxLen by unfold maxLen; omega)
          have HM1 := Lib.hid (show (k + 1) * 8 ≤ 140737488355328 by omega)
          clear hw2 c0
          go_wp2_with (at_builtin; refine wpList_append_one wp rfl _ _ _ rfl 60 i0 (.map none) 8 Tryz.underlying32 hi0 hz0 hz1 hz2 rfl u6 k (bs.map mapE) rfl HOP.out (.map (some wo.heap.size)) _ rfl rfl HM0.out HM1.out ?_; intro v5 w5 hown5 hg5 hrow5; have HO5 := Lib.hid hown5; have HG5 := Lib.hid hg5; have HR5 := Lib.hid hrow5; clear hown5 hg5 hrow5)
          go_roundw
          case rel =>
            have hkeep : ∀ b vals, BitMap wp b vals → BitMap w5 b vals := fun b vals hb =>
              (hb.kept ((Keeps.refl (fun _ => False) wp).alloc _) (fun h => h)).kept (grown_keeps (S := fun j => u6.ownBlock = some j) HG5.out (fun j hj => hj.symm)) (hb.ne_own HOP.out)
            refine ⟨k + 1, bs ++ [wo.heap.size], by omega, by go_num, by simp [HBL.out], ?_, ?_, ?_, ?_, ?_⟩
            · have := HO5.out
              simpa [mapE] using this
            · have h1 : Keeps (fun j => w1.heap.size ≤ j) w1 w5 := ((Keeps.of_below HWP.out).alloc _).trans (grown_keeps HG5.out fun j hj => HNW.out j hj.symm)
              exact h1.below (Nat.le_refl _) (fun j hj => hj)
            · intro j hj
              rcases HR5.out with h1 | ⟨i, h1, h2, _⟩
              · exact HNW.out j (h1 ▸ hj)
              · rw [h1] at hj; cases hj; have := HWP.out.size; simp at h2; omega
            · intro j b hjb
              by_cases hjk : j < k
              · rw [List.getElem?_append_left (by rw [HBL.out]; exact hjk)] at hjb
                obtain ⟨g1, g2⟩ := HMP.out j b hjb
                exact ⟨g1, hkeep _ _ (g2.kept HKW.out (by have := g2.lt; omega))⟩
              · have hj : j = k := by
                  have := (List.getElem?_eq_some_iff.1 hjb).1
                  simp [HBL.out] at this; omega
                subst hj
                have hb : wo.heap.size = b := by
                  rw [List.getElem?_append_right (by rw [HBL.out]; exact Nat.le_refl _), HBL.out, Nat.sub_self] at hjb
                  exact Option.some.inj hjb
                rw [← hb, HP.out, HVF.out]
                have h := HBMQ.out
                rw [HRR.out] at h
                exact ⟨HBW.out.size, hkeep _ _ h⟩
            · intro j hj
              by_cases hjk : j < k
              · exact HAL.out j hjk
              · obtain rfl : j = k := by omega
                have h := HOK.out
                rw [HRR.out] at h
                rw [HP.out, HVF.out]; exact h
          case measure => simp [intOf]; omega
    · obtain rfl : k = 5 := by omega
      have hP0 : PF.2 = 0 := by
        rw [HPF.out]
        exact fieldsF_all L 0 fun j hj => by rw [Nat.zero_add]; exact HAL.out j (by have := H5.out; omega)
      have HP0 := Lib.hid hP0
      clear hP0
      go_wp2_with fail
      go_ret3
      refine HPOST.out _ _ (HB1.out.trans (HBW.out.mono HB1.out.size)) (.inr ⟨HP0.out, _, _, bs, rfl, ?_, HBL.out, ?_, fun j b hjb => ?_⟩)
      · have h := HO.out
        have hl := HBL.out
        rw [← hl] at h
        exact owns_sl h
      · have h := HSL.out.below HBW.out (fun j hj => by simp [Value.ownBlock] at hj; omega)
        rw [H5.out] at h
        exact h
      · have hj : j < 5 := by have := (List.getElem?_eq_some_iff.1 hjb).1; rw [HBL.out] at this; exact this
        rw [HGET.out HP0.out j hj]
        exact (HMP.out j b hjb).2

end Go.Proofs.YtldieadbkaphkaaGreatDoor

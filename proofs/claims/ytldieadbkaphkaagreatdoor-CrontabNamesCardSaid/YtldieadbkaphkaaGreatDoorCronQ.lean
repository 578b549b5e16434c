/- Package cron: values, bounds, Parse. -/
import Derived.Test.YtldieadbkaphkaaGreatDoorCronP
namespace Go.Proofs.YtldieadbkaphkaaGreatDoor
open Go.RowKit

theorem partsF_err (f : Fld) : ∀ (l : List Bs) (p : Bs) (r : List Bs), (partsF f l).2 = 0 → (partF f p).2 ≠ 0 → partsF f (l ++ p :: r) = ([], (partF f p).2)
  | [], p, r, _, hp => by simp [partsF, hp]
  | x :: l, p, r, hl, hp => by
    have ih := partsF_err f l p r
    simp only [partsF] at hl
    split at hl
    · rename_i h; exact absurd hl h
    · rename_i h
      split at hl
      · rename_i h2; exact absurd hl h2
      · rename_i h2
        have ih' := ih (by simpa using h2) hp
        simp only [List.cons_append, partsF, ih']
        simp [h, hp]
theorem partsF_snoc (f : Fld) : ∀ (l : List Bs) (p : Bs), (partsF f l).2 = 0 → (partF f p).2 = 0 → partsF f (l ++ [p]) = ((partsF f l).1 ++ (partF f p).1, 0)
  | [], p, _, hp => by simp [partsF, hp]
  | x :: l, p, hl, hp => by
    have ih := partsF_snoc f l p
    simp only [partsF] at hl
    split at hl
    · rename_i h; exact absurd hl h
    · rename_i h
      split at hl
      · rename_i h2; exact absurd hl h2
      · rename_i h2
        have ih' := ih (by simpa using h2) hp
        simp only [List.cons_append, partsF, ih']
        simp [h, h2]

def valuesV (f : Fld) (s : Bs) : Value := .tuple #[.int .u64 (orBits (valuesF f s).1), .int .i64 (valuesF f s).2]

theorem or_or (a b : Nat) (ha : a < 18446744073709551616) (hb : b < 18446744073709551616) : bits .or .u64 (a : Int) (b : Int) = ((a ||| b : Nat) : Int) :=
  (bits_nat .u64 64 (by decide) (fun n a b => IntWalk.u64_in n (by omega)) a b ha hb).2

theorem piece_cell {w : World} {b : Nat} {L : List Bs} {T : TypeId} {fr : Nat × Nat} (hb : w.heap[b]? = some (.cells (L.map fun p => Value.string ⟨p.toArray⟩).toArray T fr)) {k : Nat} {p : Bs} (hp : L[k]? = some p) :
    w.cell? ⟨b, k, none⟩ = some (.string ⟨p.toArray⟩) := blk_cell hb k (by simp [hp])

set_option maxRecDepth 100000 in
set_option maxHeartbeats 4000000 in
theorem cronValues_any (w : World) (i : Nat) (s : Bs) (hm : MaxL w) (hs : s.length ≤ 200) :
    Calls Tryz.prog 36 #[(fld i).v, .string ⟨s.toArray⟩] w (RetB (valuesV (fld i) s) w) := by
  have hsp := strSplit_any (w.alloc (.cells #[.int .i64 (fld i).low, .int .i64 (fld i).high, .string ⟨(fld i).names.toArray⟩] 79)) 44 s (hm.alloc _) (by omega)
  have HP : Hid (∀ W p, MaxL W → p ∈ splitL 44 s → Calls Tryz.prog 51 #[.agg #[.int .i64 (fld i).low, .int .i64 (fld i).high, .string ⟨(fld i).names.toArray⟩], .string ⟨p.toArray⟩] W (RetB (partV (fld i) p) W)) :=
    Lib.hid fun W p hW hp => cronPart_any W i p hW (by have := splitL_mem_len 44 s p hp; omega)
  have HV := Lib.hid (show valuesF (fld i) s = partsF (fld i) (splitL 44 s) from rfl)
  have hlen := splitL_le 44 s
  have HIN := Lib.hid (partF_in i)
  have HFL := Lib.hid (And.intro (fld_low i) (fld_high i))
  have HPS := Lib.hid (partsF_in i)
  have HM := Lib.hid hm
  clear hm
  unfold Fld.v valuesV
  rw [HV.out]
  generalize fld i = f at *
  generalize splitL 44 s = L at *
  go_enter Tryz.func36, Tryz.ntmps36
  go_wp2_with fail
  refine hsp.mono ?_
  rintro en w1 ⟨rfl, hw1⟩
  have hbel : Below w.heap.size w w1 := by rw [hw1]; exact ((Below.refl _ _).alloc (Nat.le_refl _) _).alloc (by simp) _
  have hx : w1.heap[w.heap.size]? = some (.cells #[.int .i64 f.low, .int .i64 f.high, .string ⟨f.names.toArray⟩] 79) := by rw [hw1]; exact aheap (heap_new w _) _
  have hy := heap_new (w.alloc (.cells #[.int .i64 f.low, .int .i64 f.high, .string ⟨f.names.toArray⟩] 79)) (.cells (L.map fun p => Value.string ⟨p.toArray⟩).toArray 9)
  rw [← hw1] at hy
  obtain ⟨b1, hb1⟩ : ∃ b1, b1 = (w.alloc (.cells #[.int .i64 f.low, .int .i64 f.high, .string ⟨f.names.toArray⟩] 79)).heap.size := ⟨_, rfl⟩
  rw [← hb1] at hy ⊢
  have HBEL := Lib.hid hbel
  have HX := Lib.hid hx
  have HY := Lib.hid hy
  clear hbel hx hy hw1 hsp
  have hb1' : b1 = w.heap.size + 1 := by rw [hb1]; simp
  clear hb1
  subst hb1'
  go_wp2_with fail
  go_loopw [6, 14] (fun o ix wr => ∃ k : Nat, k ≤ L.length ∧ ix = .int .i64 k ∧ o = .int .u64 (orBits (partsF f (L.take k)).1) ∧ (partsF f (L.take k)).2 = 0 ∧ Below w1.heap.size w1 wr) (fun _ ix _ => L.length - (intOf ix).toNat)
  case atStart => exact ⟨0, by omega, rfl, rfl, rfl, Below.refl _ _⟩
  case round =>
    obtain ⟨k, hk, rfl, rfl, h0, hb⟩ := hrel
    obtain ⟨wo, rfl⟩ : ∃ wo : World, wo = wr := ⟨_, rfl⟩
    have H0 := Lib.hid h0
    have HB := Lib.hid hb
    have hbw := HBEL.out.trans (hb.mono HBEL.out.size)
    have HBW := Lib.hid hbw
    have hx := bheap hb HX.out (heap_lt HX.out)
    have hy := bheap hb HY.out (heap_lt HY.out)
    have hfl := HFL.out
    have hin : ∀ z ∈ (partsF f (L.take k)).1, 0 ≤ z ∧ z ≤ 63 := fun z hz => by have := HPS.out _ z hz; omega
    have hlt := orBits_lt _ hin
    clear h0 hb hbw hfl hin
    by_cases hlt2 : k < L.length
    · obtain ⟨p, hp⟩ : ∃ p, L[k]? = some p := ⟨L[k], List.getElem?_eq_getElem hlt2⟩
      have hpm := List.mem_of_getElem? hp
      have hcell := piece_cell hy hp
      have c0 := blk_cell hx 0 rfl
      have c1 := blk_cell hx 1 rfl
      have c2 := blk_cell hx 2 rfl
      have hpc := HP.out wo p (HM.out.step HBW.out) hpm
      have htk : L.take (k + 1) = L.take k ++ [p] := by rw [List.take_add_one, hp]; rfl
      have hdr : L = L.take k ++ p :: L.drop (k + 1) := by
        conv => lhs; rw [← List.take_append_drop k L]
        congr 1
        rw [List.drop_eq_getElem_cons hlt2]
        congr 1
        rw [List.getElem?_eq_getElem hlt2] at hp
        exact Option.some.inj hp
      have hpin : ∀ z ∈ (partF f p).1, 0 ≤ z ∧ z ≤ 63 := fun z hz => by have := HIN.out p z hz; have := HFL.out; omega
      have hltp := orBits_lt _ hpin
      have HE := Lib.hid (partsF_err f (L.take k) p (L.drop (k + 1)) H0.out)
      have HS := Lib.hid (partsF_snoc f (L.take k) p H0.out)
      rw [← hdr] at HE
      rw [← htk] at HS
      have HOA := Lib.hid (orBits_append (partsF f (L.take k)).1 (partF f p).1)
      unfold partV at hpc
      clear hx hy hp hpm htk hdr hpin
      generalize partF f p = r at *
      obtain ⟨vs, e⟩ := r
      obtain ⟨o, ho⟩ : ∃ o, o = orBits (partsF f (L.take k)).1 := ⟨_, rfl⟩
      rw [← ho] at hlt HOA ⊢
      simp only at *
      obtain ⟨o2, ho2⟩ : ∃ o2, o2 = orBits vs := ⟨_, rfl⟩
      rw [← ho2] at hltp HOA hpc
      have HOO := Lib.hid (or_or o o2 hlt hltp)
      clear ho ho2
      by_cases he : e = 0
      · subst he
        have HSS := Lib.hid (HS.out rfl)
        clear HS HE
        go_wp2_with fail
        refine hpc.mono ?_
        rintro en w2 ⟨rfl, hb2⟩
        clear hpc
        go_wp2_with fail
        go_roundw
        case rel => exact ⟨k + 1, by omega, by go_num, by rw [HSS.out, HOO.out, HOA.out], by rw [HSS.out], HB.out.trans (hb2.mono HB.out.size)⟩
        case measure => simp [intOf]; omega
      · have heb : (e != 0) = true := by simpa using he
        have HEE := Lib.hid (HE.out he)
        clear he
        go_wp2_with fail
        refine hpc.mono ?_
        rintro en w2 ⟨rfl, hb2⟩
        clear hpc
        go_wp2_with fail
        go_ret2
        exact RetB.mk (by rw [HEE.out]; rfl) (HBW.out.trans (hb2.mono HBW.out.size))
    · obtain rfl : k = L.length := by omega
      have HT := Lib.hid (List.take_length (l := L))
      rw [HT.out] at H0 ⊢
      clear hx hy
      go_wp2_with fail
      go_ret2
      exact RetB.mk (by rw [H0.out]; rfl) HBW.out

end Go.Proofs.YtldieadbkaphkaaGreatDoor

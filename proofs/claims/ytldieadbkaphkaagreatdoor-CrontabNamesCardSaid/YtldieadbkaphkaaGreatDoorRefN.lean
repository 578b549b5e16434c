/- The reference for package cron: names, Bounds, number. -/
import Derived.Test.YtldieadbkaphkaaGreatDoorRefS
import Derived.Lib.IndexMore
namespace Go.Proofs.YtldieadbkaphkaaGreatDoor
open Go.RowKit Go.ChangeMaps

def names3 : List Bs := [[], [106, 97, 110], [102, 101, 98], [109, 97, 114], [97, 112, 114], [109, 97, 121], [106, 117, 110], [106, 117, 108], [97, 117, 103], [115, 101, 112], [111, 99, 116], [110, 111, 118], [100, 101, 99]]
def names4 : List Bs := [[115, 117, 110], [109, 111, 110], [116, 117, 101], [119, 101, 100], [116, 104, 117], [102, 114, 105], [115, 97, 116]]
def refNames : Nat → List Bs
  | 3 => names3
  | 4 => names4
  | _ => []
/-- The reference's number: below 0: none. -/
def refNumF (i : Nat) (s : Bs) : Int := if (numF (fld i) s).2 = true then (numF (fld i) s).1 else -1

theorem num_found3 : ∀ k : Fin 13, k.val = 0 ∨ refNumF 3 (names3.getD k.val []) = k.val := by decide +kernel
theorem num_found4 : ∀ k : Fin 7, refNumF 4 (names4.getD k.val []) = k.val := by decide +kernel
theorem num_found {i k : Nat} {s : Bs} (h : (refNames i)[k]? = some s) (hne : s ≠ []) : refNumF i s = k := by
  unfold refNames at h
  split at h
  · have hk : k < 13 := (List.getElem?_eq_some_iff.1 h).1
    rcases num_found3 ⟨k, hk⟩ with h0 | h1
    · simp only at h0; subst h0; exact absurd (Option.some.inj h).symm hne
    · simp only [List.getD_eq_getElem?_getD, h, Option.getD_some] at h1; exact h1
  · have hk : k < 7 := (List.getElem?_eq_some_iff.1 h).1
    have h1 := num_found4 ⟨k, hk⟩
    simp only [List.getD_eq_getElem?_getD, h, Option.getD_some] at h1; exact h1
  · simp at h
theorem occ3 {l s : Bs} {j : Nat} (h3 : s.length = 3) (h : Lib.occAt l s j = true) : s = (l.drop j).take 3 := by
  have : s <+: l.drop j := by simpa [Lib.occAt, List.isPrefixOf_iff_prefix] using h
  rw [← h3]
  exact (List.prefix_iff_eq_take.1 this)
theorem num_none {i : Nat} {s : Bs} (hi : i ≤ 4) (h : ∀ (k : Nat) (n : Bs), (refNames i)[k]? = some n → n = [] ∨ n ≠ s) : refNumF i s = if s.length < 1 ∨ 2 < s.length ∨ s.all digB = false then -1 else decV s := by
  unfold refNumF numF
  by_cases h3 : s.length = 3 ∧ (fld i).names ≠ []
  · rw [if_pos h3]
    have hno : ¬ (0 ≤ Lib.index (fld i).names s ∧ Lib.index (fld i).names s % 3 = 0) := by
      rintro ⟨h0, hz⟩
      have hroom := Lib.index_room (fld i).names s h0
      rcases Lib.index_spec (fld i).names s with ⟨h1, _⟩ | ⟨j, hj, _, ho, _⟩
      · omega
      · have hs := occ3 h3.1 ho
        rw [hj] at hz hroom
        have hii : i = 3 ∨ i = 4 := by
          have : i = 0 ∨ i = 1 ∨ i = 2 ∨ i = 3 ∨ i = 4 := by omega
          rcases this with rfl | rfl | rfl | rfl | rfl
          · exact absurd rfl h3.2
          · exact absurd rfl h3.2
          · exact absurd rfl h3.2
          · exact .inl rfl
          · exact .inr rfl
        rcases hii with rfl | rfl
        · have hl : (fld 3).names.length = 36 := rfl
          rw [hl, h3.1] at hroom
          have : j = 0 ∨ j = 3 ∨ j = 6 ∨ j = 9 ∨ j = 12 ∨ j = 15 ∨ j = 18 ∨ j = 21 ∨ j = 24 ∨ j = 27 ∨ j = 30 ∨ j = 33 := by omega
          rcases this with rfl | rfl | rfl | rfl | rfl | rfl | rfl | rfl | rfl | rfl | rfl | rfl
          all_goals first
            | exact (h 1 s (by rw [hs]; rfl)).elim (fun e => by rw [e] at h3; exact absurd h3.1 (by decide)) (fun e => e rfl)
            | exact (h 2 s (by rw [hs]; rfl)).elim (fun e => by rw [e] at h3; exact absurd h3.1 (by decide)) (fun e => e rfl)
            | exact (h 3 s (by rw [hs]; rfl)).elim (fun e => by rw [e] at h3; exact absurd h3.1 (by decide)) (fun e => e rfl)
            | exact (h 4 s (by rw [hs]; rfl)).elim (fun e => by rw [e] at h3; exact absurd h3.1 (by decide)) (fun e => e rfl)
            | exact (h 5 s (by rw [hs]; rfl)).elim (fun e => by rw [e] at h3; exact absurd h3.1 (by decide)) (fun e => e rfl)
            | exact (h 6 s (by rw [hs]; rfl)).elim (fun e => by rw [e] at h3; exact absurd h3.1 (by decide)) (fun e => e rfl)
            | exact (h 7 s (by rw [hs]; rfl)).elim (fun e => by rw [e] at h3; exact absurd h3.1 (by decide)) (fun e => e rfl)
            | exact (h 8 s (by rw [hs]; rfl)).elim (fun e => by rw [e] at h3; exact absurd h3.1 (by decide)) (fun e => e rfl)
            | exact (h 9 s (by rw [hs]; rfl)).elim (fun e => by rw [e] at h3; exact absurd h3.1 (by decide)) (fun e => e rfl)
            | exact (h 10 s (by rw [hs]; rfl)).elim (fun e => by rw [e] at h3; exact absurd h3.1 (by decide)) (fun e => e rfl)
            | exact (h 11 s (by rw [hs]; rfl)).elim (fun e => by rw [e] at h3; exact absurd h3.1 (by decide)) (fun e => e rfl)
            | exact (h 12 s (by rw [hs]; rfl)).elim (fun e => by rw [e] at h3; exact absurd h3.1 (by decide)) (fun e => e rfl)
        · have hl : (fld 4).names.length = 21 := rfl
          rw [hl, h3.1] at hroom
          have : j = 0 ∨ j = 3 ∨ j = 6 ∨ j = 9 ∨ j = 12 ∨ j = 15 ∨ j = 18 := by omega
          rcases this with rfl | rfl | rfl | rfl | rfl | rfl | rfl
          all_goals first
            | exact (h 0 s (by rw [hs]; rfl)).elim (fun e => by rw [e] at h3; exact absurd h3.1 (by decide)) (fun e => e rfl)
            | exact (h 1 s (by rw [hs]; rfl)).elim (fun e => by rw [e] at h3; exact absurd h3.1 (by decide)) (fun e => e rfl)
            | exact (h 2 s (by rw [hs]; rfl)).elim (fun e => by rw [e] at h3; exact absurd h3.1 (by decide)) (fun e => e rfl)
            | exact (h 3 s (by rw [hs]; rfl)).elim (fun e => by rw [e] at h3; exact absurd h3.1 (by decide)) (fun e => e rfl)
            | exact (h 4 s (by rw [hs]; rfl)).elim (fun e => by rw [e] at h3; exact absurd h3.1 (by decide)) (fun e => e rfl)
            | exact (h 5 s (by rw [hs]; rfl)).elim (fun e => by rw [e] at h3; exact absurd h3.1 (by decide)) (fun e => e rfl)
            | exact (h 6 s (by rw [hs]; rfl)).elim (fun e => by rw [e] at h3; exact absurd h3.1 (by decide)) (fun e => e rfl)
    have hR : (if s.length < 1 ∨ 2 < s.length ∨ s.all digB = false then (-1 : Int) else decV s) = -1 := if_pos (.inr (.inl (by omega)))
    rw [if_neg hno, hR]
    rfl
  · rw [if_neg h3]
    by_cases hc : s.length < 1 ∨ 2 < s.length ∨ s.all digB = false
    · rw [if_pos hc, if_pos hc]; rfl
    · rw [if_neg hc, if_neg hc]; rfl

set_option maxHeartbeats 4000000 in
theorem refNames_any (w : World) (i : Nat) (hi : i ≤ 4) : Calls Tryz.prog 53 #[.int .i64 i] w (SplitPost w (refNames i)) := by
  have : i = 0 ∨ i = 1 ∨ i = 2 ∨ i = 3 ∨ i = 4 := by omega
  rcases this with rfl | rfl | rfl | rfl | rfl
  case inr.inr.inr.inl =>
    go_enter Tryz.func53, Tryz.ntmps53
    go_wp2_with fail
    go_ret
    refine ⟨_, rfl, ⟨some ⟨w.heap.size, 0, none⟩, 13, rfl, by decide, by decide, .inr ⟨w.heap.size, 0, rfl, by simp, fun j c hj => ?_⟩⟩, (Below.refl _ _).alloc (Nat.le_refl _) _, fun k hk => by simp [Value.ownBlock] at hk; omega⟩
    refine blk_cell (heap_new w _) _ ?_
    have : ((names3.map strE).toArray)[j]? = some (strE c) := by simp [show (refNames 3) = names3 from rfl] at hj; simp [hj]
    rw [Nat.zero_add]
    exact this
  case inr.inr.inr.inr =>
    go_enter Tryz.func53, Tryz.ntmps53
    go_wp2_with fail
    go_ret
    refine ⟨_, rfl, ⟨some ⟨w.heap.size, 0, none⟩, 7, rfl, by decide, by decide, .inr ⟨w.heap.size, 0, rfl, by simp, fun j c hj => ?_⟩⟩, (Below.refl _ _).alloc (Nat.le_refl _) _, fun k hk => by simp [Value.ownBlock] at hk; omega⟩
    refine blk_cell (heap_new w _) _ ?_
    have : ((names4.map strE).toArray)[j]? = some (strE c) := by simp [show (refNames 4) = names4 from rfl] at hj; simp [hj]
    rw [Nat.zero_add]
    exact this
  all_goals
    go_enter Tryz.func53, Tryz.ntmps53
    go_wp2_with fail
    go_ret
    exact ⟨_, rfl, Sl.nil _ _, Below.refl _ _, fun k hk => by simp [Value.ownBlock] at hk⟩

set_option maxHeartbeats 4000000 in
theorem refBounds_any (w : World) (i : Nat) (hi : i ≤ 4) : Calls Tryz.prog 39 #[.int .i64 i] w (RetB (.tuple #[.int .i64 (fld i).low, .int .i64 (fld i).high]) w) := by
  have : i = 0 ∨ i = 1 ∨ i = 2 ∨ i = 3 ∨ i = 4 := by omega
  rcases this with rfl | rfl | rfl | rfl | rfl
  all_goals
    go_enter Tryz.func39, Tryz.ntmps39
    go_wp2_with fail
    go_quiet (fail)
    go_wp2_with fail
    go_ret2
    exact RetB.mk rfl (bel_drewN (((Below.refl _ _).alloc (Nat.le_refl _) _).alloc (by simp) _) _)

theorem decV_snoc (l : Bs) (c : UInt8) : decV (l ++ [c]) = decV l * 10 + ((c.toNat : Int) - 48) := by
  unfold decV; rw [List.foldl_append]; rfl

set_option maxRecDepth 100000 in
set_option maxHeartbeats 4000000 in
theorem refNumber_any (w : World) (i : Nat) (hi : i ≤ 4) (s : Bs) (hs : s.length ≤ 200) :
    Calls Tryz.prog 41 #[.int .i64 i, .string ⟨s.toArray⟩] w (RetB (.int .i64 (refNumF i s)) w) := by
  have hn := refNames_any w i hi
  have HF : Hid (∀ (k : Nat) (n : Bs), (refNames i)[k]? = some n → n ≠ [] → n = s → refNumF i s = k) := Lib.hid fun k n h1 h2 h3 => by subst h3; exact num_found h1 h2
  have HN := Lib.hid (num_none (s := s) hi)
  have HSG : Hid (∀ k (h : k < s.length), s.take (k + 1) = s.take k ++ [s[k]]) := Lib.hid fun k h => by rw [List.take_succ_eq_append_getElem h]
  clear hi
  generalize refNames i = L at *
  generalize refNumF i s = R at *
  go_enter Tryz.func41, Tryz.ntmps41
  go_wp2_with fail
  refine hn.mono ?_
  rintro en w1 ⟨v, rfl, hsl, hb, _⟩
  have HB := Lib.hid hb
  obtain ⟨a, cap, rfl, hc1, hc2, hx⟩ := hsl
  have HX := Lib.hid hx
  have HC : Hid (L.length ≤ cap ∧ cap ≤ maxLen) := Lib.hid ⟨hc1, hc2⟩
  have hlen : L.length ≤ 9223372036854775807 := by have : maxLen = 9223372036854775807 := rfl; omega
  clear hn hx hb hc1 hc2
  go_wp2_with fail
  go_loop [12] (fun ix => ∃ k : Nat, k ≤ L.length ∧ ix = .int .i64 k ∧ ∀ (j : Nat) (n : Bs), j < k → L[j]? = some n → n = [] ∨ n ≠ s) (fun ix => L.length - (intOf ix).toNat)
  case atStart => exact ⟨0, by omega, rfl, fun j n hj => by omega⟩
  case round =>
    obtain ⟨k, hk, rfl, hno⟩ := hrel
    have HNO := Lib.hid hno
    clear hno
    by_cases hlt : k < L.length
    · obtain ⟨n, hkn⟩ : ∃ n, L[k]? = some n := ⟨_, List.getElem?_eq_getElem hlt⟩
      rcases HX.out with ⟨rfl, h0⟩ | ⟨b, o, rfl, hbl, hcell⟩
      · have := HC.out; omega
      · have c0 : w1.cell? ⟨b, o + k, none⟩ = some (.string ⟨n.toArray⟩) := hcell k n hkn
        have HKN := Lib.hid hkn
        have hcap := HC.out.1
        clear hcell hkn
        by_cases hne : n = []
        · subst hne
          go_wp2_with fail
          go_round
          case rel => exact ⟨k + 1, by omega, by go_num, fun j n hj hjn => by
            by_cases e : j = k
            · subst e; rw [HKN.out] at hjn; cases hjn; exact .inl rfl
            · exact HNO.out j n (by omega) hjn⟩
          case measure => simp [intOf]; omega
        · have hb1 : (n == []) = false := by simpa using hne
          have hb2 : (n != []) = true := by simpa using hne
          have HNE := Lib.hid hne
          clear hne
          by_cases heq : n = s
          · have HR := Lib.hid (HF.out k n HKN.out HNE.out heq)
            subst heq
            go_wp2_with fail
            go_ret
            exact RetB.mk (by rw [HR.out]; rfl) HB.out
          · have hb3 : (n == s) = false := by simpa using heq
            have HQ := Lib.hid heq
            clear heq
            go_wp2_with fail
            go_round
            case rel => exact ⟨k + 1, by omega, by go_num, fun j n hj hjn => by
              by_cases e : j = k
              · subst e; rw [HKN.out] at hjn; cases hjn; exact .inr HQ.out
              · exact HNO.out j n (by omega) hjn⟩
            case measure => simp [intOf]; omega
    · have HR := Lib.hid (HN.out fun k n h => HNO.out k n (by have := (List.getElem?_eq_some_iff.1 h).1; omega) h)
      clear HN HF HX HNO
      by_cases hl : s.length < 1 ∨ 2 < s.length
      · have HR2 := Lib.hid (show R = -1 by rw [HR.out, if_pos (by rcases hl with h | h; exact .inl h; exact .inr (.inl h))])
        by_cases h1 : s.length < 1
        · go_wp2_with fail
          go_ret
          exact RetB.mk (by rw [HR2.out]; rfl) HB.out
        · have h2 : 2 < s.length := by omega
          go_wp2_with fail
          go_ret
          exact RetB.mk (by rw [HR2.out]; rfl) HB.out
      · have l1 : 1 ≤ s.length := by omega
        have l2 : s.length ≤ 2 := by omega
        have HR2 := Lib.hid (show R = if s.all digB = false then -1 else decV s by rw [HR.out]; by_cases hd : s.all digB = false; rw [if_pos hd, if_pos (.inr (.inr hd))]; rw [if_neg hd, if_neg (by rintro (h | h | h); omega; omega; exact hd h)])
        clear HR hl
        go_wp2_with fail
        go_loop [7, 8] (fun o ix => ∃ k : Nat, k ≤ s.length ∧ ix = .int .i64 k ∧ o = .int .i64 (decV (s.take k)) ∧ (s.take k).all digB = true ∧ 0 ≤ decV (s.take k) ∧ decV (s.take k) ≤ 99) (fun _ ix => s.length - (intOf ix).toNat)
        case atStart => exact ⟨0, by omega, rfl, rfl, rfl, Int.le_refl 0, show (0 : Int) ≤ 99 by decide⟩
        case round =>
          obtain ⟨k, hk, rfl, rfl, hall, hd0, hd1⟩ := hrel
          have HALL := Lib.hid hall
          clear hall
          by_cases hlt : k < s.length
          · have HT := Lib.hid (HSG.out k hlt)
            have hp : k < (⟨s.toArray⟩ : ByteArray).size := hlt
            have hxe : Hid ((⟨s.toArray⟩ : ByteArray)[k] = s[k]) := Lib.hid rfl
            have hbad : Hid (digB s[k] = false → R = -1) := Lib.hid fun h => by
              have hall : s.all digB = false := by
                rw [List.all_eq_false]
                exact ⟨s[k], List.getElem_mem _, by rw [h]; decide⟩
              rw [HR2.out, if_pos hall]
            have HDR := Lib.hid (decV_range (s.take (k + 1)))
            by_cases hlow : (((⟨s.toArray⟩ : ByteArray)[k]).toNat : Int) < 48
            · have HR3 := Lib.hid (hbad.out (by unfold digB; rw [← hxe.out]; simp; omega))
              go_wp2_with fail
              go_ret
              exact RetB.mk (by rw [HR3.out]; rfl) HB.out
            · by_cases hhigh : 57 < (((⟨s.toArray⟩ : ByteArray)[k]).toNat : Int)
              · have HR3 := Lib.hid (hbad.out (by unfold digB; rw [← hxe.out]; simp; omega))
                go_wp2_with fail
                go_ret
                exact RetB.mk (by rw [HR3.out]; rfl) HB.out
              · have HDG : Hid (digB s[k] = true) := Lib.hid (by unfold digB; rw [← hxe.out]; simp; omega)
                have hge : 48 ≤ (((⟨s.toArray⟩ : ByteArray)[k]).toNat : Int) := by omega
                have hle : (((⟨s.toArray⟩ : ByteArray)[k]).toNat : Int) ≤ 57 := by omega
                clear HR2 hbad
                go_wp2_with fail
                go_roundw
                case rel =>
                  have hall2 : (s.take (k + 1)).all digB = true := by rw [HT.out, List.all_append, HALL.out]; simp [HDG.out]
                  have hdr := HDR.out hall2 (by have := List.length_take_le (k + 1) s; omega)
                  refine ⟨k + 1, by omega, by go_num, ?_, hall2, hdr.1, hdr.2⟩
                  rw [HT.out, decV_snoc, hxe.out]
                case measure => simp [intOf]; omega
          · have HR3 := Lib.hid (show R = decV s by rw [HR2.out, if_neg (by have := HALL.out; rw [List.take_of_length_le (by omega)] at this; rw [this]; decide)])
            have HT2 : Hid (decV (s.take k) = decV s) := Lib.hid (by rw [List.take_of_length_le (by omega)])
            rw [HT2.out] at hd0 hd1 ⊢
            go_wp2_with fail
            go_ret
            exact RetB.mk (by rw [HR3.out]; rfl) HB.out

end Go.Proofs.YtldieadbkaphkaaGreatDoor

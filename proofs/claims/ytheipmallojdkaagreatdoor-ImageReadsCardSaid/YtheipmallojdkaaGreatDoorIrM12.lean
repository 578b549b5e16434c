/- Package heap: down (what it writes): printed by wip/tools/gen_down.py. Package heap: New, Rank, Put (what they write). -/
import Derived.Test.YtheipmallojdkaaGreatDoorIrM11

namespace Go.Proofs.YtheipmallojdkaaGreatDoor
open Go.RowKit Go.Maps Go.ChangeMaps

theorem HeapN.row {w : World} {h : Nat} {S : Nat → Prop} {v : Value} {m n : Nat} (H : HeapN w h S v m n) (hn : 0 < n) : ∃ g cap, v = .slice (some ⟨g, 0, none⟩) n cap ∧ n ≤ cap ∧ cap ≤ 9223372036854775807 := by
  obtain ⟨xs, ats, H, rfl⟩ := H
  obtain ⟨g, cap, cur, e, _, h1, h2, _⟩ := H.row_of hn
  exact ⟨g, cap, e, h1, h2⟩

section
variable {w : World} {h g cap : Nat} {S : Nat → Prop} {m n : Nat} (H : HeapN w h S (.slice (some ⟨g, 0, none⟩) n cap) m n)
include H
theorem HeapN.head : w.cell? ⟨h, 0, none⟩ = some (.slice (some ⟨g, 0, none⟩) n cap) := by
  obtain ⟨xs, ats, H, hl⟩ := H
  exact blk_cell H.box 0 rfl
theorem HeapN.lts : h < w.heap.size := by
  obtain ⟨xs, ats, H, hl⟩ := H
  exact heap_lt H.box
theorem HeapN.item (i : Nat) (hi : i < n) : ∃ (a : ByteArray) (r : Int), w.cell? ⟨g, i * 2, none⟩ = some (.string a) ∧ w.cell? ⟨g, i * 2 + 1, none⟩ = some (.int .u64 r) ∧ g < w.heap.size := by
  obtain ⟨xs, ats, H, hl⟩ := H
  obtain ⟨g', cap', cur, e, hg, _, _, _, h4, _⟩ := H.row_of (by omega)
  injection e with e1 _ _
  injection e1 with e1
  injection e1 with e1 _ _
  subst e1
  obtain ⟨c0, c1⟩ := it_cell hg h4 (i := i) (x := xs[i]'(by omega)) (by simp)
  exact ⟨_, _, c0, c1, heap_lt hg⟩
end

def DownP (w : World) (h : Nat) (S : Nat → Prop) (v : Value) (m n : Nat) (e : Ending) (w' : World) : Prop := e = .returned (.tuple #[]) ∧ HeapN w' h S v m n ∧ Keeps S w w'

set_option maxRecDepth 100000 in
set_option maxHeartbeats 6400000 in
theorem down_any (w : World) (h : Nat) (S : Nat → Prop) (v : Value) (m n : Nat) (H : HeapN w h S v m n) (i0 : Nat) (hi0 : i0 < n) (hl : n ≤ 1000000) :
    Calls Tryz.prog 102 #[.pointer (some ⟨h, 0, none⟩), .int .i64 i0] w (DownP w h S v m n) := by
  obtain ⟨g, cap, rfl, h1, h2⟩ := H.row (by omega)
  have HH := Lib.hid H
  clear H
  go_enter Tryz.func102, Tryz.ntmps102
  go_wp2
  go_loopw [1] (fun iv wr => ∃ i : Nat, iv = .int .i64 i ∧ i < n ∧ Hid (HeapN wr h S (.slice (some ⟨g, 0, none⟩) n cap) m n) ∧ Hid (Keeps S w wr)) (fun iv _ => n - (intOf iv).toNat)
  case atStart => exact ⟨i0, rfl, hi0, HH, Lib.hid (Keeps.refl _ _)⟩
  case round =>
    obtain ⟨i, rfl, hi, HN, HK⟩ := hrel
    clear HH
    obtain ⟨k, hk⟩ : ∃ k, k = 2 * i + 1 := ⟨_, rfl⟩
    have w1 : (2 * (i : Int)) + 1 = (k : Int) := by omega
    have z0 : (0 : Int) ≤ (k : Int) := by omega
    have z1 : IntKind.i64.wrap ((k : Int) + 1) = ((k + 1 : Nat) : Int) := by rw [IntKind.wrap_i64]; omega
    have z1c : ((k + 1 : Nat) : Int) = (k : Int) + 1 := by omega
    have z5 : (i : Int) < (n : Int) := by omega
    have hik : i < k := by omega
    have hk2 : k ≤ 2000001 := by omega
    have c0 := HN.out.head
    have l0 := HN.out.lts
    clear hk

    by_cases hkn : k + 1 < n
    · obtain ⟨a, r, a0, a1, lg⟩ := HN.out.item (k + 1) (by omega)
      obtain ⟨b, q, b0, b1, _⟩ := HN.out.item k (by omega)
      have y1 : decide ((k : Int) + 1 < (n : Int)) = true := by simp; omega
      have y1' : (k : Int) + 1 < (n : Int) := by omega
      have y2 : (k : Int) < (n : Int) := by omega
      have y3 : (0 : Int) ≤ (k : Int) + 1 := by omega
      have hO := fun W => order_any W (a, r) (b, q)
      unfold itV at hO
      simp only at hO
      obtain ⟨o, ho⟩ : ∃ o, o = orderF (a, r) (b, q) := ⟨_, rfl⟩
      rw [← ho] at hO
      have HO := Lib.hid hO
      clear hO ho
      go_wp2_with fail
      go_region_held3 (fun w' => w'.cell? ⟨h, 0, none⟩ = some (.slice (some ⟨g, 0, none⟩) n cap) ∧ w'.cell? ⟨g, (k + 1) * 2, none⟩ = some (.string a) ∧ w'.cell? ⟨g, (k + 1) * 2 + 1, none⟩ = some (.int .u64 r) ∧ w'.cell? ⟨g, k * 2, none⟩ = some (.string b) ∧ w'.cell? ⟨g, k * 2 + 1, none⟩ = some (.int .u64 q)) (first | exact ⟨c0, a0, a1, b0, b1⟩ | exact ⟨e0, e1, e2, e3, e4⟩)
        (first | (go_at_call 114; refine (HO.out _).mono ?_; rintro en w5 ⟨rfl, hb5⟩; have HB5 := Lib.hid hb5; have e0 := bcell2 hb5 c0; have e1 := bcell2 hb5 a0; have e2 := bcell2 hb5 a1; have e3 := bcell2 hb5 b0; have e4 := bcell2 hb5 b1; clear hb5))
      have H5 := Lib.hid (HeapN.below (w' := w5) (HN.out.below (w' := wr.drew) (below_drewN' (Below.refl _ _) 1)) HB5.out)
      have K5 := Lib.hid (HK.out.trans (Keeps.of_belowS (show Below wr.heap.size wr w5 from ⟨HB5.out.os, HB5.out.tape, HB5.out.output, HB5.out.size, HB5.out.block⟩)))
      clear e0 e1 e2 e3 e4 c0 a0 a1 b0 b1 l0 lg HN HB5 HK HO y3
      by_cases ho : o < 0
      · have dd : decide (o < 0) = true := by simpa using ho
        simp only [dd]
        clear ho dd
        have c0 := H5.out.head
        have l0 := H5.out.lts
        obtain ⟨a, r, a0, a1, lg⟩ := H5.out.item (k + 1) (by omega)
        obtain ⟨b, q, b0, b1, _⟩ := H5.out.item i (by omega)
        have y4 : ((k : Int) + 1) < (n : Int) := by omega
        have y8 : ¬ (n : Int) ≤ ((k : Int) + 1) := by omega
        have y5 : (0 : Int) ≤ ((k : Int) + 1) := by omega
        have y6 : decide ((n : Int) ≤ ((k : Int) + 1)) = false := by simp; omega
        have y7 : ¬ n ≤ k + 1 := by omega
        have hO := fun W => order_any W (a, r) (b, q)
        unfold itV at hO
        simp only at hO
        obtain ⟨p, hp⟩ : ∃ p, p = orderF (a, r) (b, q) := ⟨_, rfl⟩
        rw [← hp] at hO
        have HO := Lib.hid hO
        clear hO hp
        go_wp2_with fail
        go_region_held3 (fun w' => w'.cell? ⟨h, 0, none⟩ = some (.slice (some ⟨g, 0, none⟩) n cap) ∧ w'.cell? ⟨g, (k + 1) * 2, none⟩ = some (.string a) ∧ w'.cell? ⟨g, (k + 1) * 2 + 1, none⟩ = some (.int .u64 r) ∧ w'.cell? ⟨g, i * 2, none⟩ = some (.string b) ∧ w'.cell? ⟨g, i * 2 + 1, none⟩ = some (.int .u64 q)) (first | exact ⟨c0, a0, a1, b0, b1⟩ | exact ⟨e0, e1, e2, e3, e4⟩)
          (first | (go_at_call 114; refine (HO.out _).mono ?_; rintro en w7 ⟨rfl, hb7⟩; have HB7 := Lib.hid hb7; have e0 := bcell2 hb7 c0; have e1 := bcell2 hb7 a0; have e2 := bcell2 hb7 a1; have e3 := bcell2 hb7 b0; have e4 := bcell2 hb7 b1; clear hb7))
        have H7 := Lib.hid (HeapN.below (w' := w7) (H5.out.below (w' := w5.drew) (below_drewN' (Below.refl _ _) 1)) HB7.out)
        have K7 := Lib.hid (K5.out.trans (Keeps.of_belowS (show Below w5.heap.size w5 w7 from ⟨HB7.out.os, HB7.out.tape, HB7.out.output, HB7.out.size, HB7.out.block⟩)))
        clear e0 e1 e2 e3 e4 c0 a0 a1 b0 b1 l0 lg H5 HB7 K5 HO
        by_cases hp : 0 ≤ p
        · have dd : decide (0 ≤ p) = true := by simpa using hp
          simp only [dd]
          clear hp
          go_wp2_with fail
          go_end0
          exact ⟨rfl, H7.out, K7.out⟩
        · have dd : decide (0 ≤ p) = false := by simpa using hp
          simp only [dd]
          clear hp
          go_wp2_with fail
          obtain ⟨ys, bts, hY, hyl⟩ := H7.out
          have hsw := swap_any w7 h S _ m ys bts hY i (k + 1) (by omega) (by omega) (by omega) (by omega)
          try rw [z1c] at hsw
          refine hsw.mono ?_
          rintro en w8 ⟨rfl, hY8, hk8⟩
          have H8 : Hid (HeapN w8 h S (.slice (some ⟨g, 0, none⟩) n cap) m n) := Lib.hid (by rw [hyl] at hY8; exact hY8)
          have K8 := Lib.hid (K7.out.trans hk8)
          clear hY hY8 hk8 hsw
          go_wp2_with fail
          go_roundw
          case rel => exact ⟨k + 1, by go_num, by omega, H8, K8⟩
          case measure => simp [intOf]; omega
      · have dd : decide (o < 0) = false := by simpa using ho
        simp only [dd]
        clear ho dd
        have c0 := H5.out.head
        have l0 := H5.out.lts
        obtain ⟨a, r, a0, a1, lg⟩ := H5.out.item (k) (by omega)
        obtain ⟨b, q, b0, b1, _⟩ := H5.out.item i (by omega)
        have y4 : (k : Int) < (n : Int) := by omega
        have y8 : ¬ (n : Int) ≤ (k : Int) := by omega
        have y5 : (0 : Int) ≤ (k : Int) := by omega
        have y6 : decide ((n : Int) ≤ (k : Int)) = false := by simp; omega
        have y7 : ¬ n ≤ k := by omega
        have hO := fun W => order_any W (a, r) (b, q)
        unfold itV at hO
        simp only at hO
        obtain ⟨p, hp⟩ : ∃ p, p = orderF (a, r) (b, q) := ⟨_, rfl⟩
        rw [← hp] at hO
        have HO := Lib.hid hO
        clear hO hp
        go_wp2_with fail
        go_region_held3 (fun w' => w'.cell? ⟨h, 0, none⟩ = some (.slice (some ⟨g, 0, none⟩) n cap) ∧ w'.cell? ⟨g, (k) * 2, none⟩ = some (.string a) ∧ w'.cell? ⟨g, (k) * 2 + 1, none⟩ = some (.int .u64 r) ∧ w'.cell? ⟨g, i * 2, none⟩ = some (.string b) ∧ w'.cell? ⟨g, i * 2 + 1, none⟩ = some (.int .u64 q)) (first | exact ⟨c0, a0, a1, b0, b1⟩ | exact ⟨e0, e1, e2, e3, e4⟩)
          (first | (go_at_call 114; refine (HO.out _).mono ?_; rintro en w7 ⟨rfl, hb7⟩; have HB7 := Lib.hid hb7; have e0 := bcell2 hb7 c0; have e1 := bcell2 hb7 a0; have e2 := bcell2 hb7 a1; have e3 := bcell2 hb7 b0; have e4 := bcell2 hb7 b1; clear hb7))
        have H7 := Lib.hid (HeapN.below (w' := w7) (H5.out.below (w' := w5.drew) (below_drewN' (Below.refl _ _) 1)) HB7.out)
        have K7 := Lib.hid (K5.out.trans (Keeps.of_belowS (show Below w5.heap.size w5 w7 from ⟨HB7.out.os, HB7.out.tape, HB7.out.output, HB7.out.size, HB7.out.block⟩)))
        clear e0 e1 e2 e3 e4 c0 a0 a1 b0 b1 l0 lg H5 HB7 K5 HO
        by_cases hp : 0 ≤ p
        · have dd : decide (0 ≤ p) = true := by simpa using hp
          simp only [dd]
          clear hp
          go_wp2_with fail
          go_end0
          exact ⟨rfl, H7.out, K7.out⟩
        · have dd : decide (0 ≤ p) = false := by simpa using hp
          simp only [dd]
          clear hp
          go_wp2_with fail
          obtain ⟨ys, bts, hY, hyl⟩ := H7.out
          have hsw := swap_any w7 h S _ m ys bts hY i (k) (by omega) (by omega) (by omega) (by omega)
          try rw [z1c] at hsw
          refine hsw.mono ?_
          rintro en w8 ⟨rfl, hY8, hk8⟩
          have H8 : Hid (HeapN w8 h S (.slice (some ⟨g, 0, none⟩) n cap) m n) := Lib.hid (by rw [hyl] at hY8; exact hY8)
          have K8 := Lib.hid (K7.out.trans hk8)
          clear hY hY8 hk8 hsw
          go_wp2_with fail
          go_roundw
          case rel => exact ⟨k, by go_num, by omega, H8, K8⟩
          case measure => simp [intOf]; omega
    · have y1 : decide ((k : Int) + 1 < (n : Int)) = false := by simp; omega
      go_wp2_with fail
      go_region
      all_goals
        have H5 : Hid (HeapN wr.drew h S (.slice (some ⟨g, 0, none⟩) n cap) m n) := Lib.hid (HN.out.below (w' := wr.drew) (below_drewN' (Below.refl _ _) 1))
        have K5 : Hid (Keeps S w wr.drew) := Lib.hid HK.out.drew
        obtain ⟨w5, hw5⟩ : ∃ w5, w5 = wr.drew := ⟨_, rfl⟩
        rw [← hw5] at H5 K5 ⊢
        clear hw5 c0 l0 HN HK
        by_cases hke : k < n
        · have c0 := H5.out.head
          have l0 := H5.out.lts
          obtain ⟨a, r, a0, a1, lg⟩ := H5.out.item (k) (by omega)
          obtain ⟨b, q, b0, b1, _⟩ := H5.out.item i (by omega)
          have y4 : (k : Int) < (n : Int) := by omega
          have y8 : ¬ (n : Int) ≤ (k : Int) := by omega
          have y5 : (0 : Int) ≤ (k : Int) := by omega
          have y6 : decide ((n : Int) ≤ (k : Int)) = false := by simp; omega
          have y7 : ¬ n ≤ k := by omega
          have hO := fun W => order_any W (a, r) (b, q)
          unfold itV at hO
          simp only at hO
          obtain ⟨p, hp⟩ : ∃ p, p = orderF (a, r) (b, q) := ⟨_, rfl⟩
          rw [← hp] at hO
          have HO := Lib.hid hO
          clear hO hp
          go_wp2_with fail
          go_region_held3 (fun w' => w'.cell? ⟨h, 0, none⟩ = some (.slice (some ⟨g, 0, none⟩) n cap) ∧ w'.cell? ⟨g, (k) * 2, none⟩ = some (.string a) ∧ w'.cell? ⟨g, (k) * 2 + 1, none⟩ = some (.int .u64 r) ∧ w'.cell? ⟨g, i * 2, none⟩ = some (.string b) ∧ w'.cell? ⟨g, i * 2 + 1, none⟩ = some (.int .u64 q)) (first | exact ⟨c0, a0, a1, b0, b1⟩ | exact ⟨e0, e1, e2, e3, e4⟩)
            (first | (go_at_call 114; refine (HO.out _).mono ?_; rintro en w7 ⟨rfl, hb7⟩; have HB7 := Lib.hid hb7; have e0 := bcell2 hb7 c0; have e1 := bcell2 hb7 a0; have e2 := bcell2 hb7 a1; have e3 := bcell2 hb7 b0; have e4 := bcell2 hb7 b1; clear hb7))
          have H7 := Lib.hid (HeapN.below (w' := w7) (H5.out.below (w' := w5.drew) (below_drewN' (Below.refl _ _) 1)) HB7.out)
          have K7 := Lib.hid (K5.out.trans (Keeps.of_belowS (show Below w5.heap.size w5 w7 from ⟨HB7.out.os, HB7.out.tape, HB7.out.output, HB7.out.size, HB7.out.block⟩)))
          clear e0 e1 e2 e3 e4 c0 a0 a1 b0 b1 l0 lg H5 HB7 K5 HO
          by_cases hp : 0 ≤ p
          · have dd : decide (0 ≤ p) = true := by simpa using hp
            simp only [dd]
            clear hp
            go_wp2_with fail
            go_end0
            exact ⟨rfl, H7.out, K7.out⟩
          · have dd : decide (0 ≤ p) = false := by simpa using hp
            simp only [dd]
            clear hp
            go_wp2_with fail
            obtain ⟨ys, bts, hY, hyl⟩ := H7.out
            have hsw := swap_any w7 h S _ m ys bts hY i (k) (by omega) (by omega) (by omega) (by omega)
            try rw [z1c] at hsw
            refine hsw.mono ?_
            rintro en w8 ⟨rfl, hY8, hk8⟩
            have H8 : Hid (HeapN w8 h S (.slice (some ⟨g, 0, none⟩) n cap) m n) := Lib.hid (by rw [hyl] at hY8; exact hY8)
            have K8 := Lib.hid (K7.out.trans hk8)
            clear hY hY8 hk8 hsw
            go_wp2_with fail
            go_roundw
            case rel => exact ⟨k, by go_num, by omega, H8, K8⟩
            case measure => simp [intOf]; omega
        · have c0 := H5.out.head
          have l0 := H5.out.lts
          have y2 : decide ((n : Int) ≤ (k : Int)) = true := by simp; omega
          have y3 : n ≤ k := by omega
          go_wp2_with fail
          go_region
          all_goals
            go_wp2_with fail
            go_end0
            exact ⟨rfl, H5.out.below (w' := w5.drew) (below_drewN' (Below.refl _ _) 1), K5.out.drew⟩

end Go.Proofs.YtheipmallojdkaaGreatDoor

namespace Go.Proofs.YtheipmallojdkaaGreatDoor
open Go.RowKit Go.Maps Go.ChangeMaps

/-- What New leaves. -/
def HNewP (w : World) (e : Ending) (w' : World) : Prop := ∃ h, e = .returned (.pointer (some ⟨h, 0, none⟩)) ∧ Heap w' h (fun k => w.heap.size ≤ k ∧ k < w'.heap.size) 0 ∧ Below w.heap.size w w'

theorem hnew_any (w : World) : Calls Tryz.prog 54 #[] w (HNewP w) := by
  have hmm := @run_makeMap Tryz.prog
  go_enter Tryz.func54, Tryz.ntmps54
  go_wp2
  go_ret
  refine ⟨w.heap.size + 1, rfl, ⟨.slice none 0 0, w.heap.size, [], [], ⟨?_, World.ownsRow_nil _ _ _ _, (MapOf.made _ _ _ _ w).alloc _, by simp, by simp, ?_, ?_, by simp [Value.ownBlock], fun k hk => hk.2⟩, Nat.le_refl _⟩, ((Below.refl _ w).alloc (Nat.le_refl _) _).alloc (by simp) _⟩
  · have := heap_new (w.alloc (.map #[] 0)) (.cells #[.slice none 0 0, .map (some w.heap.size)] 137)
    rwa [World.size_alloc] at this
  · constructor <;> simp <;> omega
  · constructor <;> simp <;> omega

theorem hlook {w : World} {m : Nat} {l : List (ByteArray × Int)} (h : SMap intV w m l) {key : ByteArray} (hkey : key.size ≤ maxLen) : (Instr.lookup 100 (.map (some m)) (.string key) true).run Tryz.prog w = .ok (.tuple #[.int .i64 ((aget key l).getD 0), .bool (aget key l).isSome]) w := by
  have := h.run_lookup skeyed keyS_inj Tryz.underlying100 (zero_int w) (skey hkey) true
  cases e : aget key l <;> rw [e] at this <;> exact this

def RankP (w : World) (e : Ending) (w' : World) : Prop := (∃ (x : Int) (b : Bool), e = .returned (.tuple #[.int .u64 x, .bool b])) ∧ w = w'

set_option maxRecDepth 100000 in
theorem rank_any (w : World) (h : Nat) (S : Nat → Prop) (n : Nat) (H : Heap w h S n) (hn : n ≤ 1000000) (key : ByteArray) (hkey : key.size ≤ maxLen) :
    Calls Tryz.prog 101 #[.pointer (some ⟨h, 0, none⟩), .string key] w (RankP w) := by
  obtain ⟨v, m, xs, ats, H, hl⟩ := H
  have hr := hlook H.map hkey
  have c1 := blk_cell H.box 1 rfl
  have l0 := heap_lt H.box
  cases hg : aget key ats with
  | none =>
    rw [hg] at hr
    simp only [Option.getD_none, Option.isSome_none] at hr
    clear H hg
    go_enter Tryz.func101, Tryz.ntmps101
    go_wp2
    go_ret2
    exact ⟨⟨_, _, rfl⟩, rfl⟩
  | some x =>
    rw [hg] at hr
    simp only [Option.getD_some, Option.isSome_some] at hr
    have hx := H.ins _ (aget_some_mem hg)
    simp only at hx
    obtain ⟨i, rfl⟩ : ∃ i : Nat, x = (i : Int) := ⟨x.toNat, by omega⟩
    have hi : i < xs.length := by omega
    obtain ⟨g, cap, cur, rfl, hgg, h1, h2, h3, h4, h5, h6⟩ := H.row_of (by omega)
    obtain ⟨q0, q1⟩ := it_cell hgg h4 (i := i) (x := xs[i]'hi) (by simp)
    have lg := heap_lt hgg
    generalize (xs[i]'hi).1 = a at q0
    generalize (xs[i]'hi).2 = r at q1
    obtain ⟨k, hk⟩ : ∃ k, k = xs.length := ⟨_, rfl⟩
    have c0 : w.cell? ⟨h, 0, none⟩ = some (.slice (some ⟨g, 0, none⟩) k cap) := by rw [hk]; exact blk_cell H.box 0 rfl
    have z1 : (i : Int) < (k : Int) := by omega
    have z2 : i < k := by omega
    rw [← hk] at h1
    clear H hg hgg h3 h4 h5 h6 hx hi hk
    go_enter Tryz.func101, Tryz.ntmps101
    go_wp2
    go_ret2
    exact ⟨⟨_, _, rfl⟩, rfl⟩

theorem flatI_set1 : ∀ (xs : List (ByteArray × Int)) (i : Nat) (a : ByteArray) (p r : Int), xs[i]? = some (a, p) → (flatI xs).set (i * 2 + 1) (.int .u64 r) = flatI (xs.set i (a, r))
  | [], i, a, p, r, h => by simp at h
  | y :: xs, 0, a, p, r, h => by simp at h; subst h; simp [flatI]
  | y :: xs, i + 1, a, p, r, h => by
    rw [show (i + 1) * 2 + 1 = (i * 2 + 1) + 1 + 1 by omega]
    simp only [flatI, List.set_cons_succ, flatI_set1 xs i a p r (by simpa using h)]

/-- A rank is another one now. -/
theorem HeapAt.rank {S : Nat → Prop} {w : World} {h g cap : Nat} {m : Nat} {xs ats : List (ByteArray × Int)} (H : HeapAt w h S (.slice (some ⟨g, 0, none⟩) xs.length cap) m xs ats) (i : Nat) (hi : i < xs.length) (r : Int) :
    HeapN (w.setCell ⟨g, i * 2 + 1, none⟩ (.int .u64 r)) h S (.slice (some ⟨g, 0, none⟩) xs.length cap) m xs.length ∧ Keeps S w (w.setCell ⟨g, i * 2 + 1, none⟩ (.int .u64 r)) := by
  obtain ⟨g', cap', cur, e1, hg, h1, h2, h3, h4, h5, h6⟩ := H.row_of (by omega)
  cases e1
  have hk : Keeps (fun k => k = g) w (w.setCell ⟨g, i * 2 + 1, none⟩ (.int .u64 r)) := (Keeps.refl (fun k => k = g) w).setCell (p := ⟨g, i * 2 + 1, none⟩) (.inl rfl) _
  have hlen : (xs.set i ((xs[i]'hi).1, r)).length = xs.length := List.length_set
  have hW := blk_set hg (i * 2 + 1) (.int .u64 r)
  refine ⟨⟨xs.set i ((xs[i]'hi).1, r), ats, ⟨hk.heap (fun e => h6 e.symm) H.box, ⟨by rw [flatI_len], .inr ⟨g, cap, _, by rw [hlen], Nat.zero_le _, hW, by rw [hlen]; exact h1, h2, by simpa using h3, ?_⟩⟩, H.map.kept hk (fun e => map_ne_cells H.map hg e.symm), by rw [hlen]; exact H.ins, fun y hy => ?_, H.sh, H.sm, fun k hk' => H.row k hk', fun k hs => Nat.lt_of_lt_of_le (H.lt k hs) hk.size⟩, hlen⟩, hk.mono fun k _ e => by rw [e]; exact h5⟩
  · rw [hlen, Array.toList_setIfInBounds, List.take_set, h4]
    exact flatI_set1 xs i _ (xs[i]'hi).2 r (List.getElem?_eq_getElem hi)
  · rcases List.mem_or_eq_of_mem_set hy with hy | rfl
    · exact H.nms y hy
    · exact H.nms (xs[i]'hi) (List.getElem_mem hi)

/-- One item more. -/
theorem HeapAt.push {S : Nat → Prop} {w w0 w1 : World} {h : Nat} {v v' : Value} {m : Nat} {xs ats : List (ByteArray × Int)} (H : HeapAt w h S v m xs ats) (a : ByteArray) (r : Int) (ha : a.size ≤ maxLen) (h0 : Below w.heap.size w w0)
    (hown : w1.ownsRow 0 178 2 v' (xs.length + 1) (flatI xs ++ [.string a, .int .u64 r])) (hg : w0.grownBy w1 v.ownBlock) (hrow : v'.ownBlock = v.ownBlock ∨ ∃ k, v'.ownBlock = some k ∧ w0.heap.size ≤ k ∧ k < w1.heap.size) :
    HeapAt (w1.setCell ⟨h, 0, none⟩ v') h (gr S w (w1.setCell ⟨h, 0, none⟩ v')) v' m (xs ++ [(a, r)]) ats ∧ Keeps S w (w1.setCell ⟨h, 0, none⟩ v') := by
  have hs0 := h0.size
  have hk1 : Keeps (fun k => v.ownBlock = some k) w w1 := (Keeps.of_belowS h0).trans (grown_keeps hg fun k hk => hk.symm)
  have hh : v.ownBlock ≠ some h := by
    intro e
    rcases H.own.2 with ⟨rfl, _⟩ | ⟨g, cap, cur, rfl, _, hgg, _⟩
    · simp [Value.ownBlock] at e
    · simp [Value.ownBlock] at e
      subst e
      have := H.box
      rw [hgg] at this
      simp at this
  have hm : v.ownBlock ≠ some m := by
    intro e
    rcases H.own.2 with ⟨rfl, _⟩ | ⟨g, cap, cur, rfl, _, hgg, _⟩
    · simp [Value.ownBlock] at e
    · simp [Value.ownBlock] at e
      exact map_ne_cells H.map hgg e
  have hb1 : w1.heap[h]? = some (.cells #[v, .map (some m)] 137 (0, 0)) := hk1.heap hh H.box
  have hv' : ∀ k, v'.ownBlock = some k → k ≠ h := by
    intro k hk e
    subst e
    rcases hown.2 with ⟨rfl, _⟩ | ⟨g, cap, cur, rfl, _, hgg, _⟩
    · simp [Value.ownBlock] at hk
    · simp [Value.ownBlock] at hk
      subst hk
      rw [hb1] at hgg
      simp at hgg
  have hk2 : Keeps (fun k => k = h) w1 (w1.setCell ⟨h, 0, none⟩ v') := (Keeps.refl (fun k => k = h) w1).setCell (p := ⟨h, 0, none⟩) (.inl rfl) _
  have hsz : (w1.setCell ⟨h, 0, none⟩ v').heap.size = w1.heap.size := by simp
  have hz := hk1.size
  refine ⟨⟨blk_set hb1 0 v', ?_, (H.map.kept hk1 (fun e => hm e)).kept hk2 (fun e => map_ne_cells H.map H.box e.symm), fun p hp => ?_, fun y hy => ?_, .inl H.sh, .inl H.sm, fun k hk => ?_, fun k hk => ?_⟩, ?_⟩
  · rw [List.length_append, flatI_snoc]
    exact owns_kept hown hk2 hv'
  · have := H.ins p hp
    rw [List.length_append, List.length_singleton]
    omega
  · rcases List.mem_append.1 hy with hy | hy
    · exact H.nms y hy
    · simp at hy; subst hy; exact ha
  · rcases hrow with e | ⟨j, e, hj1, hj2⟩
    · exact .inl (H.row k (e ▸ hk))
    · rw [e] at hk
      cases hk
      exact .inr ⟨by omega, by rw [hsz]; exact hj2⟩
  · rcases hk with hk | hk
    · have := H.lt k hk
      rw [hsz]; omega
    · exact hk.2
  · exact (hk1.mono (fun k _ e => H.row k e)).trans (hk2.mono fun k _ e => by rw [e]; exact H.sh)

/-- Between append and the store of its answer. -/
theorem HeapAt.mid {S : Nat → Prop} {w w0 w1 : World} {h : Nat} {v : Value} {m : Nat} {xs ats : List (ByteArray × Int)} (H : HeapAt w h S v m xs ats) (h0 : Below w.heap.size w w0) (hg : w0.grownBy w1 v.ownBlock) : w1.heap[h]? = some (.cells #[v, .map (some m)] 137 (0, 0)) := by
  have hk1 : Keeps (fun k => v.ownBlock = some k) w w1 := (Keeps.of_belowS h0).trans (grown_keeps hg fun k hk => hk.symm)
  refine hk1.heap ?_ H.box
  intro e
  rcases H.own.2 with ⟨rfl, _⟩ | ⟨g, cap, cur, rfl, _, hgg, _⟩
  · simp [Value.ownBlock] at e
  · simp [Value.ownBlock] at e
    subst e
    have := H.box
    rw [hgg] at this
    simp at this

theorem info_it3 : (Tryz.prog.info? 178).map (fun i => (i.zero, i.size, i.bytes)) = some (some (.agg #[.string ⟨#[]⟩, .int .u64 0]), 2, 24) := by kernel_rfl
theorem cells2_new (w : World) (a b : Value) (t : TypeId) : ∀ j u, [a, b][j]? = some u → (w.alloc (.cells #[a, b] t)).cell? ((⟨w.heap.size, 0, none⟩ : Addr).add j) = some u := by
  intro j u hj
  rw [addr_add, Nat.zero_add]
  have hz := heap_new w (.cells #[a, b] t)
  simp only [World.cell?, hz]
  simpa using hj

end Go.Proofs.YtheipmallojdkaaGreatDoor

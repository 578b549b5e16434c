/- Package heap: Put (what it writes). Package ready: a row's blocks; Has, Put, New (what they write). Package ready: New (what it writes). -/
import Derived.Test.YtheipmallojdkaaGreatDoorIrM12

namespace Go.Proofs.YtheipmallojdkaaGreatDoor
open Go.RowKit Go.Maps Go.ChangeMaps

def HPutP (w : World) (h : Nat) (S : Nat → Prop) (n : Nat) (e : Ending) (w' : World) : Prop := (∃ b : Bool, e = .returned (.bool b)) ∧ Heap w' h (gr S w w') n ∧ Keeps S w w'

theorem row_succ2 {w : World} {base : Nat} {e : TypeId} {size n : Nat} {v : Value} {xs : List Value} (h : w.ownsRow base e size v (n + 1) xs) : ∃ g cap, v = .slice (some ⟨g, 0, none⟩) (n + 1) cap := by
  rcases h.2 with ⟨_, h0⟩ | ⟨g, cap, cur, rfl, _⟩
  · omega
  · exact ⟨g, cap, rfl⟩

theorem HeapAt.newat {S : Nat → Prop} {w : World} {h : Nat} {v : Value} {m : Nat} {xs ats : List (ByteArray × Int)} (H : HeapAt w h S v m xs ats) {ob : Obj} {key : ByteArray} {k : Nat} (hk : k < xs.length) (hM : SMap intV (setBlock w m ob) m (aset key (k : Int) ats)) : HeapAt (setBlock w m ob) h S v m xs (aset key (k : Int) ats) :=
  H.at_ hM fun p hp => by
    rcases aset_mem hp with hp | rfl
    · exact H.ins p hp
    · show (0 : Int) ≤ (k : Int) ∧ (k : Int) < (xs.length : Int)
      omega

section
variable {w : World} {h g cap : Nat} {S : Nat → Prop} {m n : Nat} (H : HeapN w h S (.slice (some ⟨g, 0, none⟩) n cap) m n)
include H
theorem HeapN.free (i : Nat) (hn : 0 < n) : w.frozen? ⟨g, i, none⟩ = false := by
  obtain ⟨xs, ats, H, hl⟩ := H
  obtain ⟨g', cap', cur, e, hg, _⟩ := H.row_of (by omega)
  injection e with e1 _ _
  injection e1 with e1
  injection e1 with e1 _ _
  subst e1
  exact blk_free hg i
theorem HeapN.caps (hn : 0 < n) : n ≤ cap ∧ cap ≤ 9223372036854775807 := by
  obtain ⟨g', cap', e, h1, h2⟩ := H.row hn
  injection e with e1 _ e2
  subst e2
  exact ⟨h1, h2⟩
theorem HeapN.rank (i : Nat) (hi : i < n) (r : Int) : HeapN (w.setCell ⟨g, i * 2 + 1, none⟩ (.int .u64 r)) h S (.slice (some ⟨g, 0, none⟩) n cap) m n ∧ Keeps S w (w.setCell ⟨g, i * 2 + 1, none⟩ (.int .u64 r)) := by
  obtain ⟨xs, ats, H, rfl⟩ := H
  exact H.rank i hi r
end

theorem HeapN.heap {w w' : World} {h : Nat} {S S' : Nat → Prop} {v : Value} {m n k : Nat} (H : HeapN w' h S' v m k) (hk : k ≤ n) (hs : ∀ j, S' j → gr S w w' j) (hl : ∀ j, S j → j < w'.heap.size) : Heap w' h (gr S w w') n := by
  obtain ⟨xs, ats, H, hx⟩ := H
  exact ⟨v, m, xs, ats, H.wider hs (fun j hj => hj.elim (hl j) And.right), by omega⟩

set_option maxRecDepth 100000 in
set_option maxHeartbeats 3200000 in
theorem hput_any (w : World) (h : Nat) (S : Nat → Prop) (n : Nat) (H : Heap w h S n) (hn : n + 1 ≤ 1000000) (key : ByteArray) (hkey : key.size ≤ maxLen) (r : Int) :
    Calls Tryz.prog 82 #[.pointer (some ⟨h, 0, none⟩), .string key, .int .u64 r] w (HPutP w h S (n + 1)) := by
  obtain ⟨v, m, xs, ats, H, hl⟩ := H
  have hr := hlook H.map hkey
  have c1 : w.cell? ⟨h, 1, none⟩ = some (.map (some m)) := blk_cell H.box 1 rfl
  have l0 := heap_lt H.box
  cases hg : aget key ats with
  | none =>
    rw [hg] at hr
    simp only [Option.getD_none, Option.isSome_none] at hr
    obtain ⟨va, vc, rfl⟩ : ∃ va vc, v = .slice va xs.length vc := by
      rcases H.own.2 with ⟨e1, e2⟩ | ⟨g, c, cur, e1, _⟩
      · exact ⟨none, 0, by rw [e1, e2]⟩
      · exact ⟨_, _, e1⟩
    obtain ⟨k, hk⟩ : ∃ k, k = xs.length := ⟨_, rfl⟩
    have c0 : w.cell? ⟨h, 0, none⟩ = some (.slice va k vc) := by rw [hk]; exact blk_cell H.box 0 rfl
    obtain ⟨i0, hi, hz0, hz1, hz2⟩ := info_parts info_it3
    have HM0 : Hid (k + 1 ≤ maxLen) := Lib.hid (by unfold maxLen; omega)
    have HM1 : Hid ((k + 1) * 24 ≤ 140737488355328) := Lib.hid (by omega)
    have HH : Hid (HeapAt w h S (.slice va k vc) m xs ats) := Lib.hid (by rw [hk]; exact H)
    have HO : Hid (w.ownsRow 0 178 2 (.slice va k vc) k (flatI xs)) := Lib.hid (by rw [hk]; exact H.own)
    have HK := Lib.hid hkey
    have HKX := Lib.hid hk
    have hkn : k ≤ n := by omega
    clear H hg hkey hl hk
    go_enter Tryz.func82, Tryz.ntmps82
    go_wp2_with (first
      | (at_builtin; go_loud (refine wpList_append_more _ rfl _ _ _ rfl 178 i0 _ 2 24 Tryz.underlying135 hi hz0 hz1 hz2 rfl (by decide) (.slice va k vc) k (flatI xs) rfl (HO.out.alloc _) ⟨w.heap.size, 0, none⟩ 1 1 [.string key, .int .u64 r] rfl rfl (cells2_new _ _ _ _) (by simp [Value.oneCell']) HM0.out HM1.out ?_; intro v' w3 hown3 hg3 hrow3; obtain ⟨g, cap, rfl⟩ := row_succ2 hown3; have X3 := HH.out.mid ((Below.refl w.heap.size w).alloc (Nat.le_refl _) _) hg3; have HP := Lib.hid (HH.out.push key r HK.out ((Below.refl w.heap.size w).alloc (Nat.le_refl _) _) (by rw [← HKX.out]; exact hown3) hg3 hrow3); have c3 := blk_cell X3 0 rfl; have f3 := blk_free X3 0; have l3 := heap_lt X3; have e3 := blk_cell X3 1 rfl; clear X3 hown3 hg3 hrow3))
      | (refine wpList_map_update _ rfl _ _ _ _ rfl _ skeyed keyS_inj Tryz.underlying100 m ats rfl HP.out.1.map key _ rfl (skey HK.out) (k : Int) rfl ?_; intro ob hM; have hN5 := HP.out.1.newat (k := k) (by simp; have := HKX.out; omega) hM; have H5 : Hid (HeapN _ h _ _ m (k + 1)) := Lib.hid ⟨_, _, hN5, by simp; have := HKX.out; omega⟩; have K5 := Lib.hid (HP.out.2.setBlock (p := m) (.inl HH.out.sm) ob); obtain ⟨S5, hS5⟩ : ∃ S5, S5 = gr S w (w3.setCell ⟨h, 0, none⟩ (.slice (some ⟨g, 0, none⟩) (k + 1) cap)) := ⟨_, rfl⟩; obtain ⟨W5, hW5⟩ : ∃ W5, W5 = setBlock (w3.setCell ⟨h, 0, none⟩ (.slice (some ⟨g, 0, none⟩) (k + 1) cap)) m ob := ⟨_, rfl⟩; have HSS : Hid (∀ x, S5 x → gr S w W5 x) := Lib.hid (by rw [hS5, hW5]; intro x hx; exact hx.imp id fun ⟨a, b⟩ => ⟨a, by simpa [setBlock] using b⟩); rw [← hS5, ← hW5] at H5; rw [← hW5] at K5 ⊢; clear hM hN5 hS5 hW5 c3 f3 l3 e3 HP HO c1 c0 l0 hr hi hz0 hz1 hz2; have d0 := H5.out.head; have e0 := H5.out.lts; obtain ⟨_, _, _, q1, lg⟩ := H5.out.item k (by omega); have f1 := H5.out.free (k * 2 + 1) (by omega); have hcap := H5.out.caps (by omega))
      | fail)
    obtain ⟨HRK, KRK⟩ := H5.out.rank k (by omega) r
    have HRK' := Lib.hid HRK
    have KRK' := Lib.hid KRK
    obtain ⟨W6, hW6⟩ : ∃ W6, W6 = W5.setCell ⟨g, k * 2 + 1, none⟩ (.int .u64 r) := ⟨_, rfl⟩
    rw [← hW6] at HRK' KRK' ⊢
    clear hW6 HRK KRK d0 e0 q1 lg f1
    refine (up_any W6 h S5 _ m (k + 1) HRK'.out k (by omega) (by omega)).mono ?_
    rintro e w6 ⟨⟨j, hj, rfl⟩, h6, k6⟩
    have H6 := Lib.hid h6
    have K6 := Lib.hid k6
    clear h6 k6
    go_wp2_with fail
    refine (down_any w6 h S5 _ m (k + 1) H6.out j hj (by omega)).mono ?_
    rintro e w7 ⟨rfl, h7, k7⟩
    have H7 := Lib.hid h7
    have K7 := Lib.hid k7
    clear h7 k7
    go_wp2_with fail
    go_ret
    have K := (KRK'.out.trans K6.out).trans K7.out
    have hz := K5.out.size
    have hz2 := K.size
    refine ⟨⟨_, rfl⟩, H7.out.heap (by omega) (fun j hj => ?_) (fun j hj => by have := HH.out.lt j hj; omega), ?_⟩
    · rcases HSS.out j hj with h' | h'
      · exact .inl h'
      · exact .inr ⟨h'.1, by omega⟩
    · refine K5.out.gr (K.mono fun j _ hj => HSS.out j hj)
  | some x =>
    rw [hg] at hr
    simp only [Option.getD_some, Option.isSome_some] at hr
    have hx := H.ins _ (aget_some_mem hg)
    simp only at hx
    obtain ⟨i, rfl⟩ : ∃ i : Nat, x = (i : Int) := ⟨x.toNat, by omega⟩
    have hi : i < xs.length := by omega
    obtain ⟨g, cap, cur, rfl, hgg, h1, h2, h3, h4, h5, h6⟩ := H.row_of (by omega)
    obtain ⟨q0, q1⟩ := it_cell hgg h4 (i := i) (x := xs[i]'hi) (by simp)
    have f1 := blk_free hgg (i * 2 + 1)
    have lg := heap_lt hgg
    have HRK := Lib.hid (H.rank i hi r)
    generalize (xs[i]'hi).1 = a at q0
    generalize (xs[i]'hi).2 = p at q1
    obtain ⟨k, hk⟩ : ∃ k, k = xs.length := ⟨_, rfl⟩
    have c0 : w.cell? ⟨h, 0, none⟩ = some (.slice (some ⟨g, 0, none⟩) k cap) := by rw [hk]; exact blk_cell H.box 0 rfl
    have z1 : (i : Int) < (k : Int) := by omega
    have z2 : i < k := by omega
    rw [← hk] at h1 HRK hl
    have HLT := Lib.hid H.lt
    clear H hg hgg h3 h4 h5 h6 hx hi hk hkey
    go_enter Tryz.func82, Tryz.ntmps82
    go_wp2_with fail
    obtain ⟨W5, hW5⟩ : ∃ W5, W5 = w.setCell ⟨g, i * 2 + 1, none⟩ (.int .u64 r) := ⟨_, rfl⟩
    rw [← hW5] at HRK ⊢
    clear hW5 c0 c1 q0 q1 f1 lg l0 hr
    refine (up_any W5 h S _ m k HRK.out.1 i z2 (by omega)).mono ?_
    rintro e w6 ⟨⟨j, hj, rfl⟩, h6, k6⟩
    have H6 := Lib.hid h6
    have K6 := Lib.hid k6
    clear h6 k6
    go_wp2_with fail
    refine (down_any w6 h S _ m k H6.out j hj (by omega)).mono ?_
    rintro e w7 ⟨rfl, h7, k7⟩
    have H7 := Lib.hid h7
    have K7 := Lib.hid k7
    clear h7 k7
    go_wp2_with fail
    go_ret
    have K := (HRK.out.2.trans K6.out).trans K7.out
    exact ⟨⟨_, rfl⟩, H7.out.heap (by omega) (fun j hj => .inl hj) (fun j hj => Nat.lt_of_lt_of_le (HLT.out j hj) K.size), K⟩

end Go.Proofs.YtheipmallojdkaaGreatDoor

namespace Go.Proofs.YtheipmallojdkaaGreatDoor
open Go.RowKit Go.Maps Go.ChangeMaps

/-- A pointer to a block's first cell. -/
def ptrP (b : Nat) : Value := .pointer (some ⟨b, 0, none⟩)

structure RowAt (w : World) (r : Nat) (S : Nat → Prop) (n : Nat) (hs : Nat → Nat) (T : Nat → Nat → Prop) : Prop where
  box : w.heap[r]? = some (.cells #[.pointer (some ⟨hs 0, 0, none⟩), .pointer (some ⟨hs 1, 0, none⟩), .pointer (some ⟨hs 2, 0, none⟩), .pointer (some ⟨hs 3, 0, none⟩)] 117 (0, 0))
  heaps : ∀ i, i < 4 → Heap w (hs i) (T i) n
  apart : ∀ i j k, i < 4 → j < 4 → T i k → T j k → i = j
  sub : ∀ i k, i < 4 → T i k → S k ∧ k ≠ r
  sr : S r
  lt : ∀ k, S k → k < w.heap.size
def Row (w : World) (r : Nat) (S : Nat → Prop) (n : Nat) : Prop := ∃ hs T, RowAt w r S n hs T

theorem Heap.kept {S T : Nat → Prop} {w w' : World} {h n : Nat} (H : Heap w h S n) (hk : Keeps T w w') (hn : ∀ k, S k → ¬ T k) : Heap w' h S n := by
  obtain ⟨v, m, xs, ats, H, hl⟩ := H
  exact ⟨v, m, xs, ats, H.kept hk hn, hl⟩
theorem Heap.mono {S : Nat → Prop} {w : World} {h n n' : Nat} (H : Heap w h S n) (hn : n ≤ n') : Heap w h S n' := by
  obtain ⟨v, m, xs, ats, H, hl⟩ := H
  exact ⟨v, m, xs, ats, H, Nat.le_trans hl hn⟩
theorem Heap.lt {S : Nat → Prop} {w : World} {h n : Nat} (H : Heap w h S n) : ∀ k, S k → k < w.heap.size := by
  obtain ⟨v, m, xs, ats, H, hl⟩ := H
  exact H.lt
theorem Row.lt {S : Nat → Prop} {w : World} {r n : Nat} (H : Row w r S n) : ∀ k, S k → k < w.heap.size := by
  obtain ⟨hs, T, H⟩ := H
  exact H.lt
theorem Row.kept {S T : Nat → Prop} {w w' : World} {r n : Nat} (H : Row w r S n) (hk : Keeps T w w') (hn : ∀ k, S k → ¬ T k) : Row w' r S n := by
  obtain ⟨hs, U, H⟩ := H
  exact ⟨hs, U, hk.heap (hn r H.sr) H.box, fun i hi => (H.heaps i hi).kept hk fun k hk' => hn k (H.sub i k hi hk').1, H.apart, H.sub, H.sr, fun k hs => Nat.lt_of_lt_of_le (H.lt k hs) hk.size⟩

/-- One of its heaps has been put to. -/
theorem RowAt.put {S : Nat → Prop} {w w' : World} {r n : Nat} {hs : Nat → Nat} {T : Nat → Nat → Prop} (H : RowAt w r S n hs T) (i : Nat) (hi : i < 4) (hh : Heap w' (hs i) (gr (T i) w w') (n + 1)) (hk : Keeps (T i) w w') : Row w' r (gr S w w') (n + 1) ∧ Keeps S w w' := by
  have hz := hk.size
  refine ⟨⟨hs, fun j => if j = i then gr (T i) w w' else T j, hk.heap (fun e => (H.sub i r hi e).2 rfl) H.box, fun j hj => ?_, fun j j' k hj hj' h1 h2 => ?_, fun j k hj h => ?_, .inl H.sr, fun k h => ?_⟩, hk.mono fun k _ e => (H.sub i k hi e).1⟩
  · by_cases e : j = i
    · subst e; simp only [if_pos]; exact hh
    · simp only [if_neg e]
      exact ((H.heaps j hj).kept hk fun k h1 h2 => e (H.apart j i k hj hi h1 h2)).mono (by omega)
  · have hl := fun j hj => (H.heaps j hj).lt
    by_cases e : j = i
    · by_cases e' : j' = i
      · omega
      · simp only [if_pos e] at h1
        simp only [if_neg e'] at h2
        rcases h1 with h1 | h1
        · exact absurd (H.apart j' i k hj' hi h2 h1) e'
        · have := hl j' hj' k h2; omega
    · by_cases e' : j' = i
      · simp only [if_neg e] at h1
        simp only [if_pos e'] at h2
        rcases h2 with h2 | h2
        · exact absurd (H.apart j i k hj hi h1 h2) e
        · have := hl j hj k h1; omega
      · simp only [if_neg e] at h1
        simp only [if_neg e'] at h2
        exact H.apart j j' k hj hj' h1 h2
  · by_cases e : j = i
    · simp only [if_pos e] at h
      rcases h with h | h
      · exact ⟨.inl (H.sub i k hi h).1, (H.sub i k hi h).2⟩
      · refine ⟨.inr h, ?_⟩
        rintro rfl
        have := H.lt k H.sr
        omega
    · simp only [if_neg e] at h
      exact ⟨.inl (H.sub j k hj h).1, (H.sub j k hj h).2⟩
  · rcases h with h | h
    · have := H.lt k h; omega
    · exact h.2

theorem idx4_0 (a b c d : Nat) (w : World) : (Instr.index 115 (.agg #[.pointer (some ⟨a, 0, none⟩), .pointer (some ⟨b, 0, none⟩), .pointer (some ⟨c, 0, none⟩), .pointer (some ⟨d, 0, none⟩)]) (.int .i64 0)).run Tryz.prog w = .ok (.pointer (some ⟨a, 0, none⟩)) w := by kernel_rfl
theorem idx4_1 (a b c d : Nat) (w : World) : (Instr.index 115 (.agg #[.pointer (some ⟨a, 0, none⟩), .pointer (some ⟨b, 0, none⟩), .pointer (some ⟨c, 0, none⟩), .pointer (some ⟨d, 0, none⟩)]) (.int .i64 1)).run Tryz.prog w = .ok (.pointer (some ⟨b, 0, none⟩)) w := by kernel_rfl
theorem idx4_2 (a b c d : Nat) (w : World) : (Instr.index 115 (.agg #[.pointer (some ⟨a, 0, none⟩), .pointer (some ⟨b, 0, none⟩), .pointer (some ⟨c, 0, none⟩), .pointer (some ⟨d, 0, none⟩)]) (.int .i64 2)).run Tryz.prog w = .ok (.pointer (some ⟨c, 0, none⟩)) w := by kernel_rfl
theorem idx4_3 (a b c d : Nat) (w : World) : (Instr.index 115 (.agg #[.pointer (some ⟨a, 0, none⟩), .pointer (some ⟨b, 0, none⟩), .pointer (some ⟨c, 0, none⟩), .pointer (some ⟨d, 0, none⟩)]) (.int .i64 3)).run Tryz.prog w = .ok (.pointer (some ⟨d, 0, none⟩)) w := by kernel_rfl

def HasP (w : World) (e : Ending) (w' : World) : Prop := (∃ b : Bool, e = .returned (.bool b)) ∧ w = w'

set_option maxRecDepth 100000 in
set_option maxHeartbeats 1600000 in
theorem rhas_any (w : World) (r : Nat) (S : Nat → Prop) (n : Nat) (H : Row w r S n) (hn : n ≤ 1000000) (key : ByteArray) (hkey : key.size ≤ maxLen) :
    Calls Tryz.prog 81 #[.pointer (some ⟨r, 0, none⟩), .string key] w (HasP w) := by
  obtain ⟨hs, T, H⟩ := H
  have HR : Hid (∀ i, i < 4 → Calls Tryz.prog 101 #[.pointer (some ⟨hs i, 0, none⟩), .string key] w (RankP w)) := Lib.hid fun i hi => rank_any w (hs i) (T i) n (H.heaps i hi) hn key hkey
  have c0 : w.cell? ⟨r, 0, none⟩ = some (.pointer (some ⟨hs 0, 0, none⟩)) := blk_cell H.box 0 rfl
  have c1 : w.cell? ⟨r, 1, none⟩ = some (.pointer (some ⟨hs 1, 0, none⟩)) := blk_cell H.box 1 rfl
  have c2 : w.cell? ⟨r, 2, none⟩ = some (.pointer (some ⟨hs 2, 0, none⟩)) := blk_cell H.box 2 rfl
  have c3 : w.cell? ⟨r, 3, none⟩ = some (.pointer (some ⟨hs 3, 0, none⟩)) := blk_cell H.box 3 rfl
  have l0 := heap_lt H.box
  clear H
  go_enter Tryz.func81, Tryz.ntmps81
  go_wp2
  go_loopw [15] (fun iv wr => wr = w ∧ ∃ i : Nat, iv = .int .i64 i ∧ i ≤ 4) (fun iv _ => 4 - (intOf iv).toNat)
  case atStart => exact ⟨rfl, 0, rfl, by omega⟩
  case round =>
    obtain ⟨rfl, i, rfl, hi⟩ := hrel
    have hcase : i = 0 ∨ i = 1 ∨ i = 2 ∨ i = 3 ∨ i = 4 := by omega
    rcases hcase with rfl | rfl | rfl | rfl | rfl
    · have hidx := idx4_0 (hs 0) (hs 1) (hs 2) (hs 3) wr
      go_wp2_with fail
      refine (HR.out 0 (by omega)).mono ?_
      rintro e w1 ⟨⟨x, b, rfl⟩, rfl⟩
      cases b
      · go_wp2_with fail
        go_roundw
        case rel => exact ⟨trivial, 1, by go_num, by omega⟩
        case measure => simp [intOf]
      · go_wp2_with fail
        go_ret
        exact ⟨⟨_, rfl⟩, rfl⟩
    · have hidx := idx4_1 (hs 0) (hs 1) (hs 2) (hs 3) wr
      go_wp2_with fail
      refine (HR.out 1 (by omega)).mono ?_
      rintro e w1 ⟨⟨x, b, rfl⟩, rfl⟩
      cases b
      · go_wp2_with fail
        go_roundw
        case rel => exact ⟨trivial, 2, by go_num, by omega⟩
        case measure => simp [intOf]
      · go_wp2_with fail
        go_ret
        exact ⟨⟨_, rfl⟩, rfl⟩
    · have hidx := idx4_2 (hs 0) (hs 1) (hs 2) (hs 3) wr
      go_wp2_with fail
      refine (HR.out 2 (by omega)).mono ?_
      rintro e w1 ⟨⟨x, b, rfl⟩, rfl⟩
      cases b
      · go_wp2_with fail
        go_roundw
        case rel => exact ⟨trivial, 3, by go_num, by omega⟩
        case measure => simp [intOf]
      · go_wp2_with fail
        go_ret
        exact ⟨⟨_, rfl⟩, rfl⟩
    · have hidx := idx4_3 (hs 0) (hs 1) (hs 2) (hs 3) wr
      go_wp2_with fail
      refine (HR.out 3 (by omega)).mono ?_
      rintro e w1 ⟨⟨x, b, rfl⟩, rfl⟩
      cases b
      · go_wp2_with fail
        go_roundw
        case rel => exact ⟨trivial, 4, by go_num, by omega⟩
        case measure => simp [intOf]
      · go_wp2_with fail
        go_ret
        exact ⟨⟨_, rfl⟩, rfl⟩
    · go_wp2
      go_ret
      exact ⟨⟨_, rfl⟩, rfl⟩

def RPutP (w : World) (r : Nat) (S : Nat → Prop) (n : Nat) (e : Ending) (w' : World) : Prop := (∃ x : Int, e = .returned (.int .i64 x)) ∧ Row w' r (gr S w w') n ∧ Keeps S w w'

theorem Row.stays {w : World} {r : Nat} {S : Nat → Prop} {n : Nat} (H : Row w r S n) : Row w r (gr S w w) (n + 1) := by
  obtain ⟨hs, T, H⟩ := H
  exact ⟨hs, T, H.box, fun i hi => (H.heaps i hi).mono (by omega), H.apart, fun i k hi h => ⟨.inl (H.sub i k hi h).1, (H.sub i k hi h).2⟩, .inl H.sr, fun k h => h.elim (H.lt k) fun h => by omega⟩

set_option maxRecDepth 100000 in
set_option maxHeartbeats 1600000 in
theorem rput_any (w : World) (r : Nat) (S : Nat → Prop) (n : Nat) (H : Row w r S n) (hn : n + 1 ≤ 1000000) (key : ByteArray) (hkey : key.size ≤ maxLen) (p o : Int) :
    Calls Tryz.prog 68 #[.pointer (some ⟨r, 0, none⟩), .string key, .int .i64 p, .int .u64 o] w (RPutP w r S (n + 1)) := by
  have H0 := Lib.hid H.stays
  by_cases h0 : p < 0
  · clear H
    go_enter Tryz.func68, Tryz.ntmps68
    go_wp2
    go_ret
    exact ⟨⟨_, rfl⟩, H0.out, Keeps.refl _ _⟩
  by_cases h4 : 4 ≤ p
  · clear H
    go_enter Tryz.func68, Tryz.ntmps68
    go_wp2
    go_ret
    exact ⟨⟨_, rfl⟩, H0.out, Keeps.refl _ _⟩
  have hh := rhas_any w r S n H (by omega) key hkey
  obtain ⟨hs, T, H⟩ := H
  have HR : Hid (∀ i, i < 4 → Calls Tryz.prog 82 #[.pointer (some ⟨hs i, 0, none⟩), .string key, .int .u64 o] w (HPutP w (hs i) (T i) (n + 1))) := Lib.hid fun i hi => hput_any w (hs i) (T i) n (H.heaps i hi) hn key hkey o
  have c0 : w.cell? ⟨r, 0, none⟩ = some (.pointer (some ⟨hs 0, 0, none⟩)) := blk_cell H.box 0 rfl
  have c1 : w.cell? ⟨r, 1, none⟩ = some (.pointer (some ⟨hs 1, 0, none⟩)) := blk_cell H.box 1 rfl
  have c2 : w.cell? ⟨r, 2, none⟩ = some (.pointer (some ⟨hs 2, 0, none⟩)) := blk_cell H.box 2 rfl
  have c3 : w.cell? ⟨r, 3, none⟩ = some (.pointer (some ⟨hs 3, 0, none⟩)) := blk_cell H.box 3 rfl
  have l0 := heap_lt H.box
  have HH := Lib.hid H
  clear H
  have hcase : p = 0 ∨ p = 1 ∨ p = 2 ∨ p = 3 := by omega
  rcases hcase with rfl | rfl | rfl | rfl
  · go_enter Tryz.func68, Tryz.ntmps68
    go_wp2_with fail
    refine hh.mono ?_
    rintro e w1 ⟨⟨b, rfl⟩, rfl⟩
    cases b
    · go_wp2_with fail
      refine (HR.out 0 (by omega)).mono ?_
      rintro e w2 ⟨⟨b, rfl⟩, hp, hk⟩
      have HF := Lib.hid (HH.out.put 0 (by omega) hp hk)
      clear hp hk
      go_wp2_with fail
      go_ret
      exact ⟨⟨_, rfl⟩, HF.out⟩
    · go_wp2_with fail
      go_ret
      exact ⟨⟨_, rfl⟩, H0.out, Keeps.refl _ _⟩
  · go_enter Tryz.func68, Tryz.ntmps68
    go_wp2_with fail
    refine hh.mono ?_
    rintro e w1 ⟨⟨b, rfl⟩, rfl⟩
    cases b
    · go_wp2_with fail
      refine (HR.out 1 (by omega)).mono ?_
      rintro e w2 ⟨⟨b, rfl⟩, hp, hk⟩
      have HF := Lib.hid (HH.out.put 1 (by omega) hp hk)
      clear hp hk
      go_wp2_with fail
      go_ret
      exact ⟨⟨_, rfl⟩, HF.out⟩
    · go_wp2_with fail
      go_ret
      exact ⟨⟨_, rfl⟩, H0.out, Keeps.refl _ _⟩
  · go_enter Tryz.func68, Tryz.ntmps68
    go_wp2_with fail
    refine hh.mono ?_
    rintro e w1 ⟨⟨b, rfl⟩, rfl⟩
    cases b
    · go_wp2_with fail
      refine (HR.out 2 (by omega)).mono ?_
      rintro e w2 ⟨⟨b, rfl⟩, hp, hk⟩
      have HF := Lib.hid (HH.out.put 2 (by omega) hp hk)
      clear hp hk
      go_wp2_with fail
      go_ret
      exact ⟨⟨_, rfl⟩, HF.out⟩
    · go_wp2_with fail
      go_ret
      exact ⟨⟨_, rfl⟩, H0.out, Keeps.refl _ _⟩
  · go_enter Tryz.func68, Tryz.ntmps68
    go_wp2_with fail
    refine hh.mono ?_
    rintro e w1 ⟨⟨b, rfl⟩, rfl⟩
    cases b
    · go_wp2_with fail
      refine (HR.out 3 (by omega)).mono ?_
      rintro e w2 ⟨⟨b, rfl⟩, hp, hk⟩
      have HF := Lib.hid (HH.out.put 3 (by omega) hp hk)
      clear hp hk
      go_wp2_with fail
      go_ret
      exact ⟨⟨_, rfl⟩, HF.out⟩
    · go_wp2_with fail
      go_ret
      exact ⟨⟨_, rfl⟩, H0.out, Keeps.refl _ _⟩
end Go.Proofs.YtheipmallojdkaaGreatDoor

namespace Go.Proofs.YtheipmallojdkaaGreatDoor
open Go.RowKit Go.Maps Go.ChangeMaps

/-- A row whose first i heaps are made. -/
structure RMid (w0 : World) (i : Nat) (w : World) : Prop where
  below : Below w0.heap.size w0 w
  box : ∃ (C : Array Value) (hs : Nat → Nat) (T : Nat → Nat → Prop), w.heap[w0.heap.size]? = some (.cells C 117 (0, 0)) ∧ C.size = 4 ∧ (∀ j, j < i → C[j]? = some (.pointer (some ⟨hs j, 0, none⟩)) ∧ Heap w (hs j) (T j) 0 ∧ ∀ k, T j k → w0.heap.size < k) ∧ ∀ a b k, a < i → b < i → T a k → T b k → a = b

theorem RMid.start (w0 : World) : RMid w0 0 (w0.alloc (.cells #[.pointer none, .pointer none, .pointer none, .pointer none] 117)) :=
  ⟨(Below.refl _ _).alloc (Nat.le_refl _) _, _, fun _ => 0, fun _ _ => False, heap_new _ _, rfl, fun j hj => by omega, fun a b k h => by omega⟩

theorem RMid.next {w0 w w1 : World} {i : Nat} (h : RMid w0 i w) (hi : i < 4) {b : Nat} (hb : Below w.heap.size w w1) (hh : Heap w1 b (fun k => w.heap.size ≤ k ∧ k < w1.heap.size) 0) : RMid w0 (i + 1) (w1.setCell ⟨w0.heap.size, i, none⟩ (.pointer (some ⟨b, 0, none⟩))) := by
  obtain ⟨hb0, C, hs, T, h1, h2, h3, h4⟩ := h
  have hlt := heap_lt h1
  have hz := hb0.size
  have hk : Keeps (fun k => k = w0.heap.size) w1 (w1.setCell ⟨w0.heap.size, i, none⟩ (.pointer (some ⟨b, 0, none⟩))) := (Keeps.refl (fun k => k = w0.heap.size) w1).setCell (p := ⟨w0.heap.size, i, none⟩) (.inl rfl) _
  have hT : ∀ j, j < i → ∀ k, T j k → k < w.heap.size := fun j hj => (h3 j hj).2.1.lt
  refine ⟨((Keeps.of_below (hb0.trans (hb.mono hz))).trans (hk.mono fun k _ e => by show w0.heap.size ≤ k; omega)).below (Nat.le_refl _) fun k h => h, C.setIfInBounds i (.pointer (some ⟨b, 0, none⟩)), fun j => if j = i then b else hs j, fun j => if j = i then (fun k => w.heap.size ≤ k ∧ k < w1.heap.size) else T j, blk_set (bheap hb h1 hlt) _ _, by simpa using h2, fun j hj => ?_, fun a a' k ha ha' hk1 hk2 => ?_⟩
  · by_cases e : j = i
    · subst e
      simp only [if_pos]
      refine ⟨by rw [Array.getElem?_setIfInBounds, if_pos rfl, if_pos (by omega)], hh.kept hk fun k hk' e => ?_, fun k hk' => ?_⟩
      · have e' : k = w0.heap.size := e
        omega
      · omega
    · simp only [if_neg e]
      obtain ⟨q1, q2, q3⟩ := h3 j (by omega)
      refine ⟨by rw [Array.getElem?_setIfInBounds, if_neg (fun e' => e e'.symm)]; exact q1, (q2.kept (Keeps.of_belowS (S := fun _ => False) hb) fun _ _ h => h).kept hk fun k hk' e => ?_, q3⟩
      have := q3 k hk'
      have e' : k = w0.heap.size := e
      omega
  · by_cases e : a = i <;> by_cases e' : a' = i
    · omega
    · simp only [if_pos e] at hk1
      simp only [if_neg e'] at hk2
      have := hT a' (by omega) k hk2
      omega
    · simp only [if_neg e] at hk1
      simp only [if_pos e'] at hk2
      have := hT a (by omega) k hk1
      omega
    · simp only [if_neg e] at hk1
      simp only [if_neg e'] at hk2
      exact h4 a a' k (by omega) (by omega) hk1 hk2

theorem RMid.row {w0 w : World} (h : RMid w0 4 w) : Row w w0.heap.size (fun k => w0.heap.size ≤ k ∧ k < w.heap.size) 0 := by
  obtain ⟨hb0, C, hs, T, h1, h2, h3, h4⟩ := h
  have hC : C = #[.pointer (some ⟨hs 0, 0, none⟩), .pointer (some ⟨hs 1, 0, none⟩), .pointer (some ⟨hs 2, 0, none⟩), .pointer (some ⟨hs 3, 0, none⟩)] := by
    apply Array.ext_getElem?
    intro j
    rcases Nat.lt_or_ge j 4 with hj | hj
    · rw [(h3 j hj).1]
      have hc : j = 0 ∨ j = 1 ∨ j = 2 ∨ j = 3 := by omega
      rcases hc with rfl | rfl | rfl | rfl <;> rfl
    · rw [Array.getElem?_eq_none (by omega), Array.getElem?_eq_none (by simpa using hj)]
  rw [hC] at h1
  exact ⟨hs, T, h1, fun i hi => (h3 i hi).2.1, fun i j k hi hj => h4 i j k hi hj, fun i k hi hk => ⟨⟨by have := (h3 i hi).2.2 k hk; omega, (h3 i hi).2.1.lt k hk⟩, by have := (h3 i hi).2.2 k hk; omega⟩, ⟨Nat.le_refl _, heap_lt h1⟩, fun k hk => hk.2⟩

/-- What New leaves. -/
def RNewP (w : World) (e : Ending) (w' : World) : Prop := ∃ r, e = .returned (.pointer (some ⟨r, 0, none⟩)) ∧ Row w' r (fun k => w.heap.size ≤ k ∧ k < w'.heap.size) 0 ∧ Below w.heap.size w w'

set_option maxRecDepth 100000 in
set_option maxHeartbeats 1600000 in
theorem rnew_any (w : World) : Calls Tryz.prog 29 #[] w (RNewP w) := by
  have HN := Lib.hid hnew_any
  go_enter Tryz.func29, Tryz.ntmps29
  go_wp2
  obtain ⟨W0, hW⟩ : ∃ W0, W0 = w.alloc (.cells #[.pointer none, .pointer none, .pointer none, .pointer none] 117) := ⟨_, rfl⟩
  rw [← hW]
  have HM0 : Hid (RMid w 0 W0) := Lib.hid (by rw [hW]; exact RMid.start w)
  clear hW
  go_loopw [5] (fun iv wr => ∃ i : Nat, iv = .int .i64 i ∧ i ≤ 4 ∧ Hid (RMid w i wr)) (fun iv _ => 4 - (intOf iv).toNat)
  case atStart => exact ⟨0, rfl, by omega, HM0⟩
  case round =>
    obtain ⟨i, rfl, hi, HM⟩ := hrel
    clear HM0
    by_cases hlt : i < 4
    · have z1 : (i : Int) < 4 := by omega
      have z0 : (0 : Int) ≤ (i : Int) := by omega
      go_wp2_with fail
      go_region_held3 (fun w' => True) (exact trivial)
        (first | (go_at_call 54; refine (HN.out _).mono ?_; rintro en w5 ⟨b, rfl, hh, hb5⟩; have HX := Lib.hid (HM.out.next (w1 := w5) hlt (show Below wr.heap.size wr w5 from ⟨hb5.os, hb5.tape, hb5.output, hb5.size, hb5.block⟩) hh); have hq := HM.out.box; obtain ⟨C, _, _, hc, hcs, _⟩ := hq; have ht : ∃ v, C[i]? = some v := ⟨C[i]'(by omega), by simp⟩; obtain ⟨v, hv⟩ := ht; have hc5 := bheap (show Below wr.heap.size wr w5 from ⟨hb5.os, hb5.tape, hb5.output, hb5.size, hb5.block⟩) hc (heap_lt hc); have k1 : w5.cell? ⟨w.heap.size, i, none⟩ = some v := blk_cell hc5 _ hv; have f1 := blk_free hc5 i; have l1 := heap_lt hc5; clear hc hcs hv hc5 hh hb5))
      go_wp2_with fail
      go_roundw
      case rel => exact ⟨i + 1, by go_num, by omega, HX⟩
      case measure => simp [intOf]; omega
    · obtain rfl : i = 4 := by omega
      go_wp2
      go_ret
      exact ⟨_, rfl, HM.out.row, HM.out.below⟩

end Go.Proofs.YtheipmallojdkaaGreatDoor

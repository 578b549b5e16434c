/- Package wheel: New, and when it makes one. What a scheduler keeps beside its jobs: a graph, a row, a wheel, a ledger, apart from one another; each call writes their blocks alone. Numbers and texts as bytes, in plain words: what is written, what is read, and that each undoes the other. Of no program. -/
import Derived.Test.YtheipmallojdkaaGreatDoorIrM08
import Derived.Test.YtheipmallojdkaaGreatDoorIrM07
import Derived.Test.YtheipmallojdkaaGreatDoorIrM13
import Derived.Test.YtheipmallojdkaaGreatDoorIrM01

namespace Go.Proofs.YtheipmallojdkaaGreatDoor
open Go.RowKit Go.Maps Go.ChangeMaps

/-- What New leaves. -/
def WNewQ (w : World) (now : Int) (e : Ending) (w' : World) : Prop :=
  Below w.heap.size w w' ∧ ((¬ (0 ≤ now ∧ now ≤ 1099511627776) ∧ e = .returned (.tuple #[.pointer none, .int .i64 1])) ∨ ((0 ≤ now ∧ now ≤ 1099511627776) ∧ ∃ u, e = .returned (.tuple #[.pointer (some ⟨u, 0, none⟩), .int .i64 0]) ∧ Wheel w' u (fun k => w.heap.size ≤ k ∧ k < w'.heap.size)))


set_option maxRecDepth 100000 in
set_option maxHeartbeats 1600000 in
theorem wnew_sure (w : World) (now : Int) : Calls Tryz.prog 27 #[.int .i64 now, .int .i64 128] w (WNewQ w now) := by
  have hmm := @run_makeMap Tryz.prog
  by_cases h1 : now < 0
  · go_enter Tryz.func27, Tryz.ntmps27
    go_wp2
    go_ret2
    exact ⟨Below.refl _ _, .inl ⟨by omega, rfl⟩⟩
  by_cases h2 : 1099511627776 < now
  · go_enter Tryz.func27, Tryz.ntmps27
    go_wp2
    go_ret2
    exact ⟨Below.refl _ _, .inl ⟨by omega, rfl⟩⟩
  go_enter Tryz.func27, Tryz.ntmps27
  go_wp2_with (first | (refine wpList_build_as rfl _ _ rfl [(0, .int .i64 now), (1, .int .i64 128), (3, .map (some w.heap.size)), (4, .map (some (w.heap.size + 1))), (5, .map (some (w.heap.size + 2)))] rfl (whC now 128 w.heap.size (w.heap.size + 1) (w.heap.size + 2)) (built_wh ..) ?_) | (refine wpList_box_agg rfl _ _ rfl (whC now 128 w.heap.size (w.heap.size + 1) (w.heap.size + 2)) rfl ?_) | fail)
  obtain ⟨W0, hW⟩ : ∃ W0, W0 = ((((w.alloc (.map #[] 0)).alloc (.map #[] 0)).alloc (.map #[] 0)).alloc (.cells (whC now 128 w.heap.size (w.heap.size + 1) (w.heap.size + 2)) 110)) := ⟨_, rfl⟩
  rw [← hW]
  have HM0 : Hid (WMid w now 128 0 W0) := Lib.hid (by rw [hW]; exact WMid.start w now 128)
  clear hW
  go_loopw [30] (fun iv wr => ∃ i : Nat, iv = .int .i64 i ∧ i ≤ 4 ∧ Hid (WMid w now 128 (i * 64) wr)) (fun iv _ => 4 - (intOf iv).toNat)
  case atStart => exact ⟨0, rfl, by omega, HM0⟩
  case round =>
    obtain ⟨i, rfl, hi, HM⟩ := hrel
    clear HM0
    by_cases hlt : i < 4
    · go_wp2
      go_loopw [33] (fun kv wk => ∃ k : Nat, kv = .int .i64 k ∧ k ≤ 64 ∧ Hid (WMid w now 128 (i * 64 + k) wk)) (fun kv _ => 64 - (intOf kv).toNat)
      case atStart => exact ⟨0, rfl, by omega, HM⟩
      case round =>
        obtain ⟨k, rfl, hk, HN⟩ := hrel
        clear HM
        by_cases hkt : k < 64
        · have HX := Lib.hid (HN.out.next (by omega))
          have hb := HN.out.box
          obtain ⟨C, hc, hcs, _⟩ := hb
          have ht : ∃ v, C[2 + (i * 64 + k)]? = some v := ⟨C[2 + (i * 64 + k)]'(by omega), by simp⟩
          obtain ⟨v, hv⟩ := ht
          have c1 : wr.cell? ⟨w.heap.size + 3, 2 + (i * 64 + k), none⟩ = some v := blk_cell hc _ hv
          have f1 := blk_free hc (2 + (i * 64 + k))
          have l1 := heap_lt hc
          clear hc hcs hv
          rw [show 2 + (i * 64 + k) = 2 + i * 64 + k by omega] at c1 f1 HX
          go_wp2
          go_roundw
          case rel => exact ⟨k + 1, by go_num, by omega, Lib.hid (by have := HX.out; rwa [show i * 64 + k + 1 = i * 64 + (k + 1) by omega] at this)⟩
          case measure => simp [intOf]; omega
        · obtain rfl : k = 64 := by omega
          go_wp2
          go_roundw
          case rel => exact ⟨i + 1, by go_num, by omega, Lib.hid (by have := HN.out; rwa [show i * 64 + 64 = (i + 1) * 64 by omega] at this)⟩
          case measure => simp [intOf]; omega
    · obtain rfl : i = 4 := by omega
      go_wp2
      go_ret2
      exact ⟨HM.out.below, .inr ⟨by omega, _, rfl, HM.out.wheel⟩⟩

end Go.Proofs.YtheipmallojdkaaGreatDoor

namespace Go.Proofs.YtheipmallojdkaaGreatDoor
open Go.RowKit Go.Maps Go.ChangeMaps

structure EngAt (w : World) (g r u q : Nat) (S : Nat → Nat → Prop) (n : Nat) : Prop where
  gr : Graph w g (S 0) n
  ro : Row w r (S 1) n
  wh : Wheel w u (S 2)
  qu : Ledger w q (S 3)
  apart : ∀ i j k, i < 4 → j < 4 → S i k → S j k → i = j

/-- .. all of whose blocks lie in F. -/
def Eng (w : World) (g r u q : Nat) (F : Nat → Prop) (n : Nat) : Prop := ∃ S, EngAt w g r u q S n ∧ (∀ i k, i < 4 → S i k → F k) ∧ ∀ k, F k → k < w.heap.size

theorem EngAt.lt {w : World} {g r u q n : Nat} {S : Nat → Nat → Prop} (h : EngAt w g r u q S n) : ∀ i, i < 4 → ∀ k, S i k → k < w.heap.size := fun i hi k hk => by
  have hc : i = 0 ∨ i = 1 ∨ i = 2 ∨ i = 3 := by omega
  rcases hc with rfl | rfl | rfl | rfl
  · exact h.gr.lt k hk
  · exact h.ro.lt k hk
  · exact h.wh.lt k hk
  · exact h.qu.lt k hk

theorem Row.mono {w : World} {r n n' : Nat} {S : Nat → Prop} (h : Row w r S n) (hn : n ≤ n') : Row w r S n' := by
  obtain ⟨hs, T, h⟩ := h
  exact ⟨hs, T, h.box, fun i hi => (h.heaps i hi).mono hn, h.apart, h.sub, h.sr, h.lt⟩

theorem Eng.kept {w w' : World} {g r u q n : Nat} {F T : Nat → Prop} (h : Eng w g r u q F n) (hk : Keeps T w w') (hn : ∀ k, F k → ¬ T k) : Eng w' g r u q F n := by
  obtain ⟨S, h, hs, hl⟩ := h
  exact ⟨S, ⟨h.gr.kept hk fun k hk' => hn k (hs 0 k (by omega) hk'), h.ro.kept hk fun k hk' => hn k (hs 1 k (by omega) hk'), h.wh.kept hk fun k hk' => hn k (hs 2 k (by omega) hk'), h.qu.kept hk fun k hk' => hn k (hs 3 k (by omega) hk'), h.apart⟩, hs, fun k hk' => Nat.lt_of_lt_of_le (hl k hk') hk.size⟩
theorem Eng.mono {w : World} {g r u q n n' : Nat} {F : Nat → Prop} (h : Eng w g r u q F n) (hn : n ≤ n') : Eng w g r u q F n' := by
  obtain ⟨S, h, hs, hl⟩ := h
  exact ⟨S, ⟨h.gr.mono hn, h.ro.mono hn, h.wh, h.qu, h.apart⟩, hs, hl⟩

/-- Part i owns T now. -/
def upd (S : Nat → Nat → Prop) (i : Nat) (T : Nat → Prop) : Nat → Nat → Prop := fun j => if j = i then T else S j
theorem upd_same (S : Nat → Nat → Prop) (i : Nat) (T : Nat → Prop) : upd S i T i = T := by simp [upd]
theorem upd_other (S : Nat → Nat → Prop) {i j : Nat} (T : Nat → Prop) (h : j ≠ i) : upd S i T j = S j := by simp [upd, h]

theorem upd_apart {w : World} {g r u q n : Nat} {S : Nat → Nat → Prop} (h : EngAt w g r u q S n) {i : Nat} (hi : i < 4) {T : Nat → Prop} (hT : ∀ k, T k → S i k ∨ w.heap.size ≤ k) : ∀ a b k, a < 4 → b < 4 → upd S i T a k → upd S i T b k → a = b := fun a b k ha hb h1 h2 => by
  by_cases ea : a = i <;> by_cases eb : b = i
  · omega
  · subst ea
    rw [upd_same] at h1
    rw [upd_other S T eb] at h2
    rcases hT k h1 with h1 | h1
    · exact h.apart a b k ha hb h1 h2
    · have := h.lt b hb k h2; omega
  · subst eb
    rw [upd_same] at h2
    rw [upd_other S T ea] at h1
    rcases hT k h2 with h2 | h2
    · exact h.apart a b k ha hb h1 h2
    · have := h.lt a ha k h1; omega
  · rw [upd_other S T ea] at h1
    rw [upd_other S T eb] at h2
    exact h.apart a b k ha hb h1 h2

theorem upd_sub {w w' : World} {S : Nat → Nat → Prop} {F : Nat → Prop} (hs : ∀ i k, i < 4 → S i k → F k) {i : Nat} (hi : i < 4) {T : Nat → Prop} (hT : ∀ k, T k → gr (S i) w w' k) : ∀ j k, j < 4 → upd S i T j k → gr F w w' k := fun j k hj h => by
  by_cases e : j = i
  · subst e
    rw [upd_same] at h
    exact (hT k h).imp (hs j k hj) id
  · rw [upd_other S T e] at h
    exact .inl (hs j k hj h)

section
variable {w w' : World} {g r u q n n' : Nat} {F : Nat → Prop} (h : Eng w g r u q F n)
include h
theorem Eng.lt_gr (hz : w.heap.size ≤ w'.heap.size) : ∀ k, gr F w w' k → k < w'.heap.size := by
  obtain ⟨S, _, _, hl⟩ := h
  exact fun k hk => hk.elim (fun hk => Nat.lt_of_lt_of_le (hl k hk) hz) And.right
end

/-- A call on the engine answered some number, and wrote its blocks alone. -/
def EngP (w : World) (g r u q : Nat) (F : Nat → Prop) (n : Nat) (e : Ending) (w' : World) : Prop := (∃ x : Int, e = .returned (.int .i64 x)) ∧ Eng w' g r u q (gr F w w') n ∧ Keeps F w w'

theorem eng_add {w : World} {g r u q n : Nat} {F : Nat → Prop} (h : Eng w g r u q F n) (key : ByteArray) (hkey : key.size ≤ maxLen) : Calls Tryz.prog 40 #[.pointer (some ⟨g, 0, none⟩), .string key, .slice none 0 0] w (EngP w g r u q F (n + 1)) := by
  have h0 := h
  obtain ⟨S, h, hs, hl⟩ := h
  refine (gadd_any w g (S 0) n h.gr key hkey).mono ?_
  rintro e w' ⟨hx, hg, hk⟩
  have hn : ∀ j, j < 4 → j ≠ 0 → ∀ k, S j k → ¬ S 0 k := fun j hj hne k h1 h2 => hne (h.apart j 0 k hj (by omega) h1 h2)
  refine ⟨hx, ⟨upd S 0 (gr (S 0) w w'), ⟨by rw [upd_same]; exact hg, ?_, ?_, ?_, upd_apart h (by omega) fun k hk' => hk'.imp id And.left⟩, upd_sub hs (by omega) fun k h => h, h0.lt_gr hk.size⟩, hk.mono fun k _ e => hs 0 k (by omega) e⟩
  · rw [upd_other S _ (by omega)]; exact (h.ro.kept hk (hn 1 (by omega) (by omega))).mono (by omega)
  · rw [upd_other S _ (by omega)]; exact h.wh.kept hk (hn 2 (by omega) (by omega))
  · rw [upd_other S _ (by omega)]; exact h.qu.kept hk (hn 3 (by omega) (by omega))

theorem eng_link {w : World} {g r u q n : Nat} {F : Nat → Prop} (h : Eng w g r u q F n) (hn1 : n ≤ 100000) (k on : ByteArray) (hks : k.size ≤ maxLen) (hos : on.size ≤ maxLen) : Calls Tryz.prog 67 #[.pointer (some ⟨g, 0, none⟩), .string k, .string on] w (EngP w g r u q F n) := by
  have h0 := h
  obtain ⟨S, h, hs, hl⟩ := h
  refine (glink_any w g (S 0) n h.gr hn1 k on hks hos).mono ?_
  rintro e w' ⟨hx, hg, hk⟩
  have hn : ∀ j, j < 4 → j ≠ 0 → ∀ k, S j k → ¬ S 0 k := fun j hj hne k h1 h2 => hne (h.apart j 0 k hj (by omega) h1 h2)
  exact ⟨hx, ⟨S, ⟨hg, h.ro.kept hk (hn 1 (by omega) (by omega)), h.wh.kept hk (hn 2 (by omega) (by omega)), h.qu.kept hk (hn 3 (by omega) (by omega)), h.apart⟩, fun i k hi hk' => .inl (hs i k hi hk'), h0.lt_gr hk.size⟩, hk.mono fun k _ e => hs 0 k (by omega) e⟩

theorem eng_put {w : World} {g r u q n : Nat} {F : Nat → Prop} (h : Eng w g r u q F n) (hn1 : n + 1 ≤ 1000000) (key : ByteArray) (hkey : key.size ≤ maxLen) (p o : Int) : Calls Tryz.prog 68 #[.pointer (some ⟨r, 0, none⟩), .string key, .int .i64 p, .int .u64 o] w (EngP w g r u q F (n + 1)) := by
  have h0 := h
  obtain ⟨S, h, hs, hl⟩ := h
  refine (rput_any w r (S 1) n h.ro hn1 key hkey p o).mono ?_
  rintro e w' ⟨hx, hg, hk⟩
  have hn : ∀ j, j < 4 → j ≠ 1 → ∀ k, S j k → ¬ S 1 k := fun j hj hne k h1 h2 => hne (h.apart j 1 k hj (by omega) h1 h2)
  refine ⟨hx, ⟨upd S 1 (gr (S 1) w w'), ⟨?_, by rw [upd_same]; exact hg, ?_, ?_, upd_apart h (by omega) fun k hk' => hk'.imp id And.left⟩, upd_sub hs (by omega) fun k h => h, h0.lt_gr hk.size⟩, hk.mono fun k _ e => hs 1 k (by omega) e⟩
  · rw [upd_other S _ (by omega)]; exact (h.gr.kept hk (hn 0 (by omega) (by omega))).mono (by omega)
  · rw [upd_other S _ (by omega)]; exact h.wh.kept hk (hn 2 (by omega) (by omega))
  · rw [upd_other S _ (by omega)]; exact h.qu.kept hk (hn 3 (by omega) (by omega))

theorem eng_due {w : World} {g r u q n : Nat} {F : Nat → Prop} (h : Eng w g r u q F n) (key : ByteArray) (hkey : key.size ≤ maxLen) (t : Int) : Calls Tryz.prog 69 #[.pointer (some ⟨u, 0, none⟩), .string key, .int .i64 t] w (EngP w g r u q F n) := by
  have h0 := h
  obtain ⟨S, h, hs, hl⟩ := h
  refine (wadd_any w u (S 2) h.wh key hkey t).mono ?_
  rintro e w' ⟨x, rfl, hg, hk⟩
  have hn : ∀ j, j < 4 → j ≠ 2 → ∀ k, S j k → ¬ S 2 k := fun j hj hne k h1 h2 => hne (h.apart j 2 k hj (by omega) h1 h2)
  exact ⟨⟨x, rfl⟩, ⟨S, ⟨h.gr.kept hk (hn 0 (by omega) (by omega)), h.ro.kept hk (hn 1 (by omega) (by omega)), hg, h.qu.kept hk (hn 3 (by omega) (by omega)), h.apart⟩, fun i k hi hk' => .inl (hs i k hi hk'), h0.lt_gr hk.size⟩, hk.mono fun k _ e => hs 2 k (by omega) e⟩

theorem eng_take {w : World} {g r u q n : Nat} {F : Nat → Prop} (h : Eng w g r u q F n) (key : ByteArray) (hkey : key.size ≤ maxLen) : Calls Tryz.prog 42 #[.pointer (some ⟨q, 0, none⟩), .string key] w (EngP w g r u q F n) := by
  have h0 := h
  obtain ⟨S, h, hs, hl⟩ := h
  refine (qtake_any w q (S 3) h.qu key hkey).mono ?_
  rintro e w' ⟨x, rfl, hg, hk⟩
  have hn : ∀ j, j < 4 → j ≠ 3 → ∀ k, S j k → ¬ S 3 k := fun j hj hne k h1 h2 => hne (h.apart j 3 k hj (by omega) h1 h2)
  exact ⟨⟨x, rfl⟩, ⟨S, ⟨h.gr.kept hk (hn 0 (by omega) (by omega)), h.ro.kept hk (hn 1 (by omega) (by omega)), h.wh.kept hk (hn 2 (by omega) (by omega)), hg, h.apart⟩, fun i k hi hk' => .inl (hs i k hi hk'), h0.lt_gr hk.size⟩, hk.mono fun k _ e => hs 3 k (by omega) e⟩

end Go.Proofs.YtheipmallojdkaaGreatDoor

namespace Go.Proofs.YtheipmallojdkaaGreatDoor

/-- A number's bytes. -/
def numB (x : Nat) : List UInt8 := if h : x < 128 then [UInt8.ofNat x] else UInt8.ofNat (x % 128 + 128) :: numB (x / 128)
termination_by x
decreasing_by omega

theorem numB_lt {x : Nat} (h : x < 128) : numB x = [UInt8.ofNat x] := by rw [numB, dif_pos h]
theorem numB_ge {x : Nat} (h : 128 ≤ x) : numB x = UInt8.ofNat (x % 128 + 128) :: numB (x / 128) := by rw [numB, dif_neg (by omega)]

theorem numB_len (n : Nat) : ∀ x, x < 128 ^ (n + 1) → (numB x).length ≤ n + 1 := by
  induction n with
  | zero => intro x h; rw [numB_lt (by simpa using h)]; simp
  | succ n ih =>
    intro x h
    rcases Nat.lt_or_ge x 128 with h1 | h1
    · rw [numB_lt h1]; simp
    · rw [numB_ge h1]
      have := ih (x / 128) (by rw [Nat.div_lt_iff_lt_mul (by omega)]; rw [Nat.pow_succ] at h; exact h)
      simp only [List.length_cons]; omega
theorem numB_len10 {x : Nat} (h : x < 18446744073709551616) : (numB x).length ≤ 10 := numB_len 9 x (by omega)
theorem numB_pos (x : Nat) : 1 ≤ (numB x).length := by
  rcases Nat.lt_or_ge x 128 with h | h
  · rw [numB_lt h]; simp
  · rw [numB_ge h]; simp

/-- What reading the bytes of a number comes to, from the i-th byte on: an error, or the number and what is left. -/
def dec : Nat → Nat → List UInt8 → Int ⊕ (Nat × List UInt8)
  | _, _, [] => .inl 4
  | i, x, c :: r => if 9 < i ∨ (i = 9 ∧ 1 < c.toNat) ∨ (c.toNat = 0 ∧ 0 < i) then .inl 2 else
    if c.toNat < 128 then .inr (x + c.toNat % 128 * 128 ^ i, r) else dec (i + 1) (x + c.toNat % 128 * 128 ^ i) r

theorem toNat_ofNat {x : Nat} (h : x < 256) : (UInt8.ofNat x).toNat = x := by simp; omega

theorem dec_numB (r : List UInt8) : ∀ (n i : Nat) (x y : Nat), i + n = 9 → y < 2 * 128 ^ n → (0 < y ∨ i = 0) → dec i x (numB y ++ r) = .inr (x + y * 128 ^ i, r) := by
  intro n
  induction n with
  | zero =>
    intro i x y hi hy h0
    rw [numB_lt (by simp at hy; omega)]
    simp only [List.cons_append, List.nil_append, dec]
    rw [toNat_ofNat (by simp at hy; omega)]
    simp only [Nat.pow_zero] at hy
    rw [if_neg (by omega), if_pos (by omega), Nat.mod_eq_of_lt (by omega)]
  | succ n ih =>
    intro i x y hi hy h0
    rcases Nat.lt_or_ge y 128 with h1 | h1
    · rw [numB_lt h1]
      simp only [List.cons_append, List.nil_append, dec]
      rw [toNat_ofNat (by omega), if_neg (by omega), if_pos h1, Nat.mod_eq_of_lt h1]
    · rw [numB_ge h1]
      simp only [List.cons_append, dec]
      rw [toNat_ofNat (by omega), if_neg (by omega), if_neg (by omega)]
      rw [ih (i + 1) _ (y / 128) (by omega) (by rw [Nat.div_lt_iff_lt_mul (by omega)]; rw [Nat.pow_succ] at hy; omega) (by omega)]
      have e1 : (y % 128 + 128) % 128 = y % 128 := by omega
      rw [e1, Nat.pow_succ, Nat.add_assoc, ← Nat.mul_assoc, Nat.mul_right_comm, ← Nat.add_mul]
      have e2 : y % 128 + y / 128 * 128 = y := by omega
      rw [e2]

theorem dec_num {y : Nat} (h : y < 18446744073709551616) (r : List UInt8) : dec 0 0 (numB y ++ r) = .inr (y, r) := by
  have := dec_numB r 9 0 0 y (by omega) (by omega) (.inr rfl)
  simpa using this

theorem dec_back : ∀ (l : List UInt8) (i x : Nat) (z : Nat) (r : List UInt8), dec i x l = .inr (z, r) → i ≤ 9 ∧ ∃ y, z = x + y * 128 ^ i ∧ l = numB y ++ r ∧ y < 2 * 128 ^ (9 - i) ∧ (0 < y ∨ i = 0) := by
  intro l
  induction l with
  | nil => intro i x z r h; simp [dec] at h
  | cons c l ih =>
    intro i x z r h
    have hc := c.toNat_lt
    simp only [dec] at h
    split at h
    · cases h
    · rename_i hn
      have hi : i ≤ 9 := by omega
      split at h
      · rename_i h1
        simp only [Sum.inr.injEq, Prod.mk.injEq] at h
        obtain ⟨rfl, rfl⟩ := h
        refine ⟨hi, c.toNat, by rw [Nat.mod_eq_of_lt h1], ?_, ?_, by omega⟩
        · rw [numB_lt h1]; simp
        · rcases Nat.lt_or_ge i 9 with h9 | h9
          · have : 128 ^ 1 ≤ 128 ^ (9 - i) := Nat.pow_le_pow_right (by omega) (by omega)
            omega
          · obtain rfl : i = 9 := by omega
            simp; omega
      · rename_i h1
        obtain ⟨hi2, y, rfl, rfl, hy, h0⟩ := ih _ _ _ _ h
        have hy0 : 0 < y := by omega
        refine ⟨hi, c.toNat % 128 + y * 128, ?_, ?_, ?_, by omega⟩
        · rw [Nat.pow_succ, Nat.add_mul, Nat.mul_assoc, Nat.mul_comm 128, Nat.add_assoc]
        · have h128 : 128 ≤ c.toNat % 128 + y * 128 := by omega
          rw [numB_ge h128]
          have e1 : (c.toNat % 128 + y * 128) % 128 + 128 = c.toNat := by omega
          have e2 : (c.toNat % 128 + y * 128) / 128 = y := by omega
          rw [e1, e2]
          simp
        · obtain ⟨k, hk⟩ : ∃ k, 9 - i = k + 1 := ⟨8 - i, by omega⟩
          rw [show 9 - (i + 1) = k by omega] at hy
          rw [hk, Nat.pow_succ]
          omega

theorem dec_of {l : List UInt8} {z : Nat} {r : List UInt8} (h : dec 0 0 l = .inr (z, r)) : l = numB z ++ r ∧ z < 18446744073709551616 := by
  obtain ⟨_, y, rfl, rfl, hy, _⟩ := dec_back l 0 0 z r h
  simp at hy ⊢
  omega

/-- A reader: what is left, and the first error. -/
structure RS where
  b : List UInt8
  e : Int
deriving DecidableEq

def RS.fail (s : RS) (e : Int) : RS := if s.e = 0 then ⟨[], e⟩ else s
/-- A reader that may be. -/
def RS.ok (s : RS) : Prop := s.e ≠ 0 → s.b = []

def numR (s : RS) : Nat × RS := if s.e = 0 then (match dec 0 0 s.b with | .inl e => (0, ⟨[], e⟩) | .inr (x, r) => (x, ⟨r, 0⟩)) else (0, s)
def countR (most : Nat) (s : RS) : Nat × RS := if most < (numR s).1 then (0, (numR s).2.fail 15) else numR s
def textR (most : Nat) (s : RS) : List UInt8 × RS :=
  if (countR most s).2.e = 0 then
    (if (countR most s).2.b.length < (countR most s).1 then ([], ⟨[], 4⟩) else ((countR most s).2.b.take (countR most s).1, ⟨(countR most s).2.b.drop (countR most s).1, 0⟩))
  else ([], (countR most s).2)
def endR (s : RS) : Int := if s.e = 0 then (if s.b.length = 0 then 0 else 15) else s.e

theorem RS.fail_ok {s : RS} (e : Int) (h : s.ok) : (s.fail e).ok := by
  unfold RS.fail; split
  · intro _; rfl
  · exact h
theorem numR_ok {s : RS} (h : s.ok) : (numR s).2.ok := by
  unfold numR; split
  · split
    · intro _; rfl
    · intro h; exact absurd rfl h
  · exact h
theorem countR_ok {s : RS} (m : Nat) (h : s.ok) : (countR m s).2.ok := by
  unfold countR; split
  · exact RS.fail_ok _ (numR_ok h)
  · exact numR_ok h
theorem textR_ok {s : RS} (m : Nat) (h : s.ok) : (textR m s).2.ok := by
  unfold textR; split
  · split
    · intro _; rfl
    · intro h; exact absurd rfl h
  · exact countR_ok m h

theorem dec_err : ∀ (l : List UInt8) (i x : Nat) (e : Int), dec i x l = .inl e → e = 2 ∨ e = 4
  | [], i, x, e, h => by simp [dec] at h; omega
  | c :: r, i, x, e, h => by
    simp only [dec] at h
    split at h
    · simp at h; omega
    · split at h
      · cases h
      · exact dec_err r _ _ e h

theorem numR_lt (s : RS) : (numR s).1 < 18446744073709551616 := by
  unfold numR
  split
  · split
    · simp
    · rename_i h; exact (dec_of h).2
  · simp

/-- What a read leaves without an error has been there, without one. -/
theorem numR_back {s : RS} (h : (numR s).2.e = 0) : s = ⟨numB (numR s).1 ++ (numR s).2.b, 0⟩ := by
  obtain ⟨b, e⟩ := s
  unfold numR at *
  by_cases h0 : e = 0
  · subst h0
    simp only [if_true] at *
    cases hd : dec 0 0 b with
    | inl e' =>
      rw [hd] at h
      simp only at h
      rcases dec_err _ _ _ _ hd with h1 | h1 <;> omega
    | inr p =>
      obtain ⟨x, r⟩ := p
      simp only
      rw [← (dec_of hd).1]
  · simp only [if_neg h0] at h
    exact absurd h h0
theorem numR_num {x : Nat} (hx : x < 18446744073709551616) (r : List UInt8) : numR ⟨numB x ++ r, 0⟩ = (x, ⟨r, 0⟩) := by
  simp [numR, dec_num hx]

theorem countR_back {m : Nat} {s : RS} (h : (countR m s).2.e = 0) : s = ⟨numB (countR m s).1 ++ (countR m s).2.b, 0⟩ ∧ (countR m s).1 ≤ m := by
  unfold countR at *
  by_cases h1 : m < (numR s).1
  · rw [if_pos h1] at h
    simp only [RS.fail] at h
    split at h
    · simp at h
    · rename_i h2; exact absurd h h2
  · rw [if_neg h1] at *
    exact ⟨numR_back h, by omega⟩
theorem countR_num {x m : Nat} (hx : x < 18446744073709551616) (hm : x ≤ m) (r : List UInt8) : countR m ⟨numB x ++ r, 0⟩ = (x, ⟨r, 0⟩) := by
  unfold countR
  rw [numR_num hx, if_neg (by simp; omega)]

/-- A text's bytes. -/
def textB (l : List UInt8) : List UInt8 := numB l.length ++ l

theorem textR_back {m : Nat} {s : RS} (h : (textR m s).2.e = 0) : s = ⟨textB (textR m s).1 ++ (textR m s).2.b, 0⟩ ∧ (textR m s).1.length ≤ m := by
  unfold textR at *
  by_cases h1 : (countR m s).2.e = 0
  · rw [if_pos h1] at *
    by_cases h2 : (countR m s).2.b.length < (countR m s).1
    · rw [if_pos h2] at h; simp at h
    · rw [if_neg h2] at *
      obtain ⟨hb, hm⟩ := countR_back h1
      simp only
      have hl : ((countR m s).2.b.take (countR m s).1).length = (countR m s).1 := by rw [List.length_take]; omega
      refine ⟨?_, by omega⟩
      unfold textB
      rw [hl, List.append_assoc, List.take_append_drop]
      exact hb
  · rw [if_neg h1] at h; exact absurd h h1
theorem textR_text {m : Nat} {l : List UInt8} (hm : l.length ≤ m) (h64 : l.length < 18446744073709551616) (r : List UInt8) : textR m ⟨textB l ++ r, 0⟩ = (l, ⟨r, 0⟩) := by
  unfold textR textB
  rw [List.append_assoc, countR_num h64 hm]
  simp

/-- A signed number as a number, and back. -/
def zig (x : Int) : Nat := if x < 0 then (2 * (-(x + 1)) + 1).toNat else (2 * x).toNat
def zag (n : Nat) : Int := if n % 2 = 0 then ((n / 2 : Nat) : Int) else -(((n / 2 : Nat) : Int)) - 1
theorem zag_zig (x : Int) : zag (zig x) = x := by unfold zag zig; split <;> split <;> omega
theorem zig_zag (n : Nat) : zig (zag n) = n := by unfold zag zig; split <;> split <;> omega
theorem zig_lt {x : Int} (h1 : -9223372036854775808 ≤ x) (h2 : x ≤ 9223372036854775807) : zig x < 18446744073709551616 := by unfold zig; split <;> omega
theorem zag_bd {n : Nat} (h : n < 18446744073709551616) : -9223372036854775808 ≤ zag n ∧ zag n ≤ 9223372036854775807 := by unfold zag; split <;> omega

def intB (x : Int) : List UInt8 := numB (zig x)
def intR (s : RS) : Int × RS := (zag (numR s).1, (numR s).2)
theorem intR_back {s : RS} (h : (intR s).2.e = 0) : s = ⟨intB (intR s).1 ++ (intR s).2.b, 0⟩ := by
  unfold intB intR
  rw [zig_zag]
  exact numR_back h
theorem intR_int {x : Int} (h1 : -9223372036854775808 ≤ x) (h2 : x ≤ 9223372036854775807) (r : List UInt8) : intR ⟨intB x ++ r, 0⟩ = (x, ⟨r, 0⟩) := by
  unfold intB intR
  rw [numR_num (zig_lt h1 h2), zag_zig]
theorem intR_ok {s : RS} (h : s.ok) : (intR s).2.ok := numR_ok h

/-- An error stays the first one. -/
theorem numR_err {s : RS} (h : s.e ≠ 0) : numR s = (0, s) := by unfold numR; rw [if_neg h]
theorem countR_err {m : Nat} {s : RS} (h : s.e ≠ 0) : countR m s = (0, s) := by unfold countR; rw [numR_err h, if_neg (by simp)]
theorem textR_err {m : Nat} {s : RS} (h : s.e ≠ 0) : textR m s = ([], s) := by unfold textR; rw [countR_err h, if_neg h]
theorem intR_err {s : RS} (h : s.e ≠ 0) : intR s = (0, s) := by unfold intR; rw [numR_err h]; simp [zag]

end Go.Proofs.YtheipmallojdkaaGreatDoor

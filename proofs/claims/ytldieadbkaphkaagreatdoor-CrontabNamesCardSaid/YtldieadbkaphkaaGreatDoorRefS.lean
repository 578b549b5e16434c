/- The reference for package cron: split, at. -/
import Derived.Test.YtldieadbkaphkaaGreatDoorApp
import Derived.Test.YtldieadbkaphkaaGreatDoorBlk
import Derived.Test.YtldieadbkaphkaaGreatDoorCronK
import Derived.StillTailTactics
namespace Go.Proofs.YtldieadbkaphkaaGreatDoor
open Go.RowKit Go.ChangeMaps

/-- A text as a value. -/
def strE (p : Bs) : Value := .string ⟨p.toArray⟩
theorem strE_one (p : Bs) : (strE p).oneCell' = true := rfl

/-- One element of an own row is written anew. -/
theorem owns_set {w : World} {e : TypeId} {g n cap : Nat} {xs : List Value} (h : w.ownsRow 0 e 1 (.slice (some ⟨g, 0, none⟩) n cap) n xs) (k : Nat) (hk : k < n) (u : Value) :
    (w.setCell ⟨g, k, none⟩ u).ownsRow 0 e 1 (.slice (some ⟨g, 0, none⟩) n cap) n (xs.set k u) := by
  obtain ⟨h1, h2⟩ := h
  refine ⟨by simpa using h1, ?_⟩
  rcases h2 with ⟨h, _⟩ | ⟨g', cap', cur, he, hb, hg, hn, hm, hc, ht⟩
  · cases h
  · cases he
    refine .inr ⟨g, cap, cur.setIfInBounds k u, rfl, hb, blk_set hg k u, hn, hm, by simpa using hc, ?_⟩
    rw [← ht, Array.toList_setIfInBounds, List.take_set]
theorem owns_cell {w : World} {e : TypeId} {g n cap : Nat} {xs : List Value} (h : w.ownsRow 0 e 1 (.slice (some ⟨g, 0, none⟩) n cap) n xs) {k : Nat} {u : Value} (hk : xs[k]? = some u) :
    w.cell? ⟨g, k, none⟩ = some u ∧ w.frozen? ⟨g, k, none⟩ = false := by
  obtain ⟨h1, h2⟩ := h
  rcases h2 with ⟨h, _⟩ | ⟨g', cap', cur, he, hb, hg, hn, hm, hc, ht⟩
  · cases h
  · cases he
    refine ⟨blk_cell hg k ?_, blk_free hg k⟩
    rw [← ht, List.getElem?_take] at hk
    split at hk
    · simpa using hk
    · cases hk

theorem strSnoc (p : Bs) (S : ByteArray) (k : Nat) (h : k < S.size) : (⟨p.toArray⟩ : ByteArray) ++ S.extract k (k + 1) = ⟨(p ++ [S[k]]).toArray⟩ := by
  have e : S.extract k (k + 1) = ⟨#[S[k]]⟩ := by
    apply ByteArray.ext
    simp only [ByteArray.data_extract]
    apply Array.ext
    · have : S.data.size = S.size := rfl
      simp; omega
    · intro i h1 h2
      simp at h2
      subst h2
      simp
      rfl
  rw [e]
  apply ByteArray.ext
  simp [ByteArray.data_append]

theorem info_str : (Tryz.prog.info? 9).map (fun i => (i.zero, i.size, i.bytes)) = some (some (.string ⟨#[]⟩), 1, 16) := by kernel_rfl

theorem last_of {α : Type} (L : List α) (m : Nat) (p d : α) (h : L.length = m + 1) (hp : L[m]? = some p) : L.getLastD d = p ∧ ∀ q, L.dropLast ++ [q] = L.set m q := by
  rcases List.eq_nil_or_concat L with rfl | ⟨I, x, rfl⟩
  · simp at h
  · have hm : I.length = m := by simpa using h
    subst hm
    have hx : x = p := by simpa using hp
    subst hx
    refine ⟨by simp [List.getLastD_eq_getLast?], fun q => by simp⟩

def SplitPost (w : World) (l : List Bs) (e : Ending) (w' : World) : Prop := ∃ v, e = .returned v ∧ Sl strE w' v l ∧ Below w.heap.size w w' ∧ ∀ k, v.ownBlock = some k → w.heap.size ≤ k

set_option maxRecDepth 100000 in
set_option maxHeartbeats 4000000 in
theorem refSplit_any (w : World) (c : UInt8) (s : Bs) (hs : s.length ≤ 200) :
    Calls Tryz.prog 22 #[.string ⟨s.toArray⟩, .int .u8 c.toNat] w (SplitPost w (splitL c s)) := by
  obtain ⟨i0, hi, hz0, hz1, hz2⟩ := info_parts info_str
  obtain ⟨S, hSS⟩ : ∃ S : ByteArray, S = ⟨s.toArray⟩ := ⟨_, rfl⟩
  rw [← hSS]
  have HSZ : Hid (S.size = s.length) := Lib.hid (by rw [hSS]; show s.toArray.size = _; simp)
  have HTK : Hid (∀ k (h : k < S.size), s.take (k + 1) = s.take k ++ [S[k]]) := Lib.hid fun k h => by
    subst hSS
    have h2 : k < s.length := by have : k < s.toArray.size := h; simpa using this
    rw [List.take_succ_eq_append_getElem h2]
    rfl
  have hsz : S.size ≤ 200 := by rw [HSZ.out]; omega
  clear hSS
  go_enter Tryz.func22, Tryz.ntmps22
  go_wp2_with fail
  go_loopw [5, 6] (fun v i wr => ∃ k m : Nat, k ≤ S.size ∧ i = .int .i64 k ∧ (splitL c (s.take k)).length = m + 1 ∧ m ≤ k ∧ wr.ownsRow 0 9 1 v (m + 1) ((splitL c (s.take k)).map strE) ∧ Below w.heap.size w wr ∧ (∀ j, v.ownBlock = some j → w.heap.size ≤ j)) (fun _ i _ => S.size - (intOf i).toNat)
  case atStart =>
    refine ⟨0, 0, by omega, rfl, rfl, by omega, ⟨rfl, .inr ⟨w.heap.size, 1, #[.string ⟨#[]⟩], rfl, Nat.zero_le _, heap_new w _, by omega, by decide, rfl, rfl⟩⟩, (Below.refl _ _).alloc (Nat.le_refl _) _, ?_⟩
    intro j hj
    simp [Value.ownBlock] at hj
    omega
  case round =>
    obtain ⟨k, m, hk, rfl, hm, hmk, hown, hb, hnew⟩ := hrel
    obtain ⟨g, cap, rfl⟩ : ∃ g cap, u5 = .slice (some ⟨g, 0, none⟩) (m + 1) cap := by
      rcases hown.2 with ⟨_, h⟩ | ⟨g, cap, cur, he, _⟩
      · omega
      · exact ⟨g, cap, he⟩
    have HO := Lib.hid hown
    have HB := Lib.hid hb
    have HM := Lib.hid hm
    have hge : w.heap.size ≤ g := hnew g rfl
    clear hown hb hnew hm
    by_cases hlt : k < S.size
    · have HSN := Lib.hid (splitL_snoc c S[k] (s.take k))
      have HTKk := Lib.hid (HTK.out k hlt)
      by_cases hc : S[k] = c
      · have hcb : ((S[k].toNat : Int) == (c.toNat : Int)) = true := by rw [hc]; simp
        have HC := Lib.hid hc
        have HM0 := Lib.hid (show m + 1 + 1 ≤ maxLen by unfold maxLen; omega)
        have HM1 := Lib.hid (show (m + 1 + 1) * 16 ≤ 140737488355328 by omega)
        clear hc
        go_wp2_with (at_builtin; refine wpList_append_one wr rfl _ _ _ rfl 9 i0 (.string ⟨#[]⟩) 16 Tryz.underlying22 hi hz0 hz1 hz2 rfl (.slice (some ⟨g, 0, none⟩) (m + 1) cap) (m + 1) _ rfl HO.out (.string ⟨#[]⟩) _ rfl rfl HM0.out HM1.out ?_; intro v5 w5 hown5 hg5 hrow5; have HO5 := Lib.hid hown5; have HG5 := Lib.hid hg5; have HR5 := Lib.hid hrow5; clear hown5 hg5 hrow5)
        go_roundw
        case rel =>
          refine ⟨k + 1, m + 1, by omega, by go_num, ?_, by omega, ?_, ?_, ?_⟩
          · rw [HTKk.out, HSN.out, if_pos HC.out, List.length_append, HM.out]; rfl
          · have := HO5.out
            rw [HTKk.out, HSN.out, if_pos HC.out, List.map_append]
            exact this
          · have h1 : Keeps (fun k => w.heap.size ≤ k) w w5 := ((Keeps.of_below HB.out).alloc _).trans (grown_keeps HG5.out fun k hk => by simp [Value.ownBlock] at hk; omega)
            exact h1.below (Nat.le_refl _) (fun k hk => hk)
          · intro j hj
            rcases HR5.out with h1 | ⟨i, h1, h2, _⟩
            · rw [h1] at hj; simp [Value.ownBlock] at hj; omega
            · rw [h1] at hj; cases hj; have := HB.out.size; simp at h2; omega
        case measure => simp [intOf]; omega
      · have hcb : ((S[k].toNat : Int) == (c.toNat : Int)) = false := by
          have : S[k].toNat ≠ c.toNat := fun e => hc (UInt8.toNat_inj.1 e)
          simp; omega
        have HC := Lib.hid hc
        obtain ⟨p, hp⟩ : ∃ p, (splitL c (s.take k))[m]? = some p := ⟨_, List.getElem?_eq_getElem (by have := HM.out; omega)⟩
        have HP := Lib.hid hp
        have hpl : p.length ≤ 200 := by have h1 := splitL_mem_len c (s.take k) p (List.mem_of_getElem? hp); have h2 := List.length_take_le k s; omega
        have hcat : ¬ 9223372036854775807 < p.length + (min (k + 1) S.size - k) := by omega
        have HSS := Lib.hid (strSnoc p S k hlt)
        clear hc hp
        have hml : (m : Int) < (m : Int) + 1 := by omega
        have hkl : (k : Int) ≤ (k : Int) + 1 := by omega
        have hks : (k : Int) + 1 ≤ (S.size : Int) := by omega
        have hwm : IntKind.i64.wrap (m : Int) = m := IntWalk.i64_in _ (by omega)
        have hwk : IntKind.i64.wrap ((k : Int) + 1) = k + 1 := IntWalk.i64_in _ (by omega)
        go_upto_region 7 with (fail)
        refine still_tail 17 (by kernel_rfl) (by kernel_rfl) ?_
        intro W hW
        have hcf := owns_cell HO.out (k := m) (u := strE p) (by rw [List.getElem?_map, HP.out]; rfl)
        have c0 : W.cell? ⟨g, m, none⟩ = some (.string ⟨p.toArray⟩) := by rw [hW]; exact hcf.1
        have f0 : W.frozen? ⟨g, m, none⟩ = false := by rw [hW]; exact hcf.2
        have HOW : Hid (W.ownsRow 0 9 1 (.slice (some ⟨g, 0, none⟩) (m + 1) cap) (m + 1) ((splitL c (s.take k)).map strE)) := Lib.hid (by rw [hW]; exact HO.out)
        have HBW : Hid (Below w.heap.size w W) := Lib.hid (by rw [hW]; exact bel_drew HB.out)
        clear hW hcf
        simp only [List.take_succ_cons, List.take_zero, List.drop_succ_cons, List.drop_zero]
        repeat still_step
        refine wpStill_nil ?_
        go_wp2_with fail
        go_roundw
        case rel =>
          refine ⟨k + 1, m, by omega, by go_num, ?_, by omega, ?_, ?_, ?_⟩
          · rw [HTKk.out, HSN.out, if_neg HC.out]
            have := HM.out
            simp; omega
          · have h := owns_set HOW.out m (by omega) (.string (⟨p.toArray⟩ ++ S.extract k (k + 1)))
            obtain ⟨h1, h2⟩ := last_of (splitL c (s.take k)) m p [] HM.out HP.out
            rw [HTKk.out, HSN.out, if_neg HC.out, h1, h2, List.map_set]
            rw [HSS.out] at h ⊢
            exact h
          · exact HBW.out.setCell hge _
          · intro j hj
            simp [Value.ownBlock] at hj
            omega
        case measure => simp [intOf]; omega
    · have HALL : Hid (s.take k = s) := Lib.hid (List.take_of_length_le (by have := HSZ.out; omega))
      clear HTK
      go_wp2_with fail
      go_ret
      refine ⟨_, rfl, ?_, HB.out, ?_⟩
      · have h := HO.out
        have hm := HM.out
        rw [HALL.out] at h hm
        rw [← hm] at h
        rw [← hm]
        exact owns_sl h
      · intro j hj
        simp [Value.ownBlock] at hj
        omega

/-- Where a byte is first; -1: nowhere. -/
theorem index_take (c : UInt8) : ∀ (s : Bs) (k : Nat), (∀ j, j < k → s[j]? ≠ some c) → s[k]? = some c → Lib.index s [c] = k
  | [], k, _, h => by simp at h
  | x :: r, 0, _, h => by
    have hx : x = c := by simpa using h
    rw [indexByte_cons, if_pos hx]; rfl
  | x :: r, k + 1, hj, h => by
    have hx : ¬ x = c := fun e => hj 0 (by omega) (by simp [e])
    have ih := index_take c r k (fun j hj' => by have := hj (j + 1) (by omega); simpa using this) (by simpa using h)
    rw [indexByte_cons, if_neg hx, ih, if_neg (by simp)]
    omega
theorem index_nowhere (c : UInt8) : ∀ (s : Bs), (∀ j, j < s.length → s[j]? ≠ some c) → Lib.index s [c] = -1
  | [], _ => rfl
  | x :: r, hj => by
    have hx : ¬ x = c := fun e => hj 0 (by simp) (by simp [e])
    have ih := index_nowhere c r (fun j hj' => by have := hj (j + 1) (by simp; omega); simpa using this)
    rw [indexByte_cons, if_neg hx, ih]
    rfl

set_option maxRecDepth 100000 in
set_option maxHeartbeats 4000000 in
theorem refAt_any (w : World) (c : UInt8) (s : Bs) (hs : s.length ≤ 200) :
    Calls Tryz.prog 40 #[.string ⟨s.toArray⟩, .int .u8 c.toNat] w (Ret (.int .i64 (Lib.index s [c])) w) := by
  obtain ⟨S, hSS⟩ : ∃ S : ByteArray, S = ⟨s.toArray⟩ := ⟨_, rfl⟩
  rw [← hSS]
  have HSZ : Hid (S.size = s.length) := Lib.hid (by rw [hSS]; show s.toArray.size = _; simp)
  have HGET : Hid (∀ k (h : k < S.size), s[k]? = some S[k]) := Lib.hid fun k h => by
    subst hSS
    have h2 : k < s.length := by have : k < s.toArray.size := h; simpa using this
    exact List.getElem?_eq_getElem h2
  have HI := Lib.hid (index_take c s)
  have HN := Lib.hid (index_nowhere c s)
  have hsz : S.size ≤ 200 := by rw [HSZ.out]; omega
  clear hSS
  generalize Lib.index s [c] = R at *
  go_enter Tryz.func40, Tryz.ntmps40
  go_wp2_with fail
  go_loop [5] (fun i => ∃ k : Nat, k ≤ S.size ∧ i = .int .i64 k ∧ ∀ j, j < k → s[j]? ≠ some c) (fun i => S.size - (intOf i).toNat)
  case atStart => exact ⟨0, by omega, rfl, fun j hj => by omega⟩
  case round =>
    obtain ⟨k, hk, rfl, hno⟩ := hrel
    have HNO := Lib.hid hno
    clear hno
    by_cases hlt : k < S.size
    · have HG := Lib.hid (HGET.out k hlt)
      by_cases hc : S[k] = c
      · have hcb : ((S[k].toNat : Int) == (c.toNat : Int)) = true := by rw [hc]; simp
        have HR := Lib.hid (HI.out k HNO.out (by rw [HG.out, hc]))
        clear hc
        go_wp2_with fail
        go_ret
        exact Ret.mk (by rw [HR.out]; rfl)
      · have hcb : ((S[k].toNat : Int) == (c.toNat : Int)) = false := by
          have : S[k].toNat ≠ c.toNat := fun e => hc (UInt8.toNat_inj.1 e)
          simp; omega
        have HC := Lib.hid hc
        clear hc
        go_wp2_with fail
        go_round
        case rel => exact ⟨k + 1, by omega, by go_num, fun j hj => by
          by_cases e : j = k
          · subst e; rw [HG.out]; intro h; exact HC.out (Option.some.inj h)
          · exact HNO.out j (by omega)⟩
        case measure => simp [intOf]; omega
    · have HR := Lib.hid (HN.out fun j hj => HNO.out j (by have := HSZ.out; omega))
      go_wp2_with fail
      go_ret
      exact Ret.mk (by rw [HR.out]; rfl)

end Go.Proofs.YtldieadbkaphkaaGreatDoor

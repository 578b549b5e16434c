/- command.MembersOf: the members whose bytes these are. -/
import Derived.Test.YtbfhgljmopgejaaGreatConfC
import Derived.Test.YtbfhgljmopgejaaGreatConfA
import Derived.Test.YtbfhgljmopgejaaGreatRule
namespace Go.Proofs.YtbfhgljmopgejaaGreat
open Go.RowKit Go.Sort

/-- So many numbers, one behind the other; nothing, if one is none. -/
def rdL : Nat → RS → List Int → List Int × RS
  | 0, s, acc => (acc, s)
  | n + 1, s, acc => if (numR s).2.e = 0 then rdL n (numR s).2 (acc ++ [min ((numR s).1 : Int) 8]) else ([], (numR s).2)

def getI (s : RS) : List Int × RS := rdL (countR 7 s).1 (countR 7 s).2 []

theorem countR_le (m : Nat) (s : RS) : (countR m s).1 ≤ m := by
  unfold countR
  split
  · exact Nat.zero_le _
  · omega

theorem rdL_back : ∀ (n : Nat) (s : RS) (acc : List Int), (rdL n s acc).2.e = 0 → ∃ xs : List Nat, xs.length = n ∧ (rdL n s acc).1 = acc ++ xs.map (fun x : Nat => min (x : Int) 8) ∧ s = ⟨(xs.map numB).flatten ++ (rdL n s acc).2.b, 0⟩
  | 0, s, acc, h => ⟨[], rfl, by simp [rdL], by simp [rdL] at h ⊢; cases s; simp_all⟩
  | n + 1, s, acc, h => by
    by_cases h0 : (numR s).2.e = 0
    · simp only [rdL, if_pos h0] at h ⊢
      obtain ⟨xs, h1, h2, h3⟩ := rdL_back n _ _ h
      refine ⟨(numR s).1 :: xs, by simp [h1], by rw [h2]; simp, ?_⟩
      have hb := numR_back h0
      rw [h3] at hb
      simp only [List.map_cons, List.flatten_cons, List.append_assoc]
      exact hb
    · simp only [rdL, if_neg h0] at h
      exact absurd h h0

theorem rdL_num (r : List UInt8) : ∀ (l : List Int) (acc : List Int), (∀ n ∈ l, 0 ≤ n ∧ n ≤ 7) → rdL l.length ⟨numsB l ++ r, 0⟩ acc = (acc ++ l, ⟨r, 0⟩)
  | [], acc, _ => by simp [rdL, numsB]
  | x :: l, acc, h => by
    have hx := h x (by simp)
    have e : numsB (x :: l) ++ r = numB x.toNat ++ (numsB l ++ r) := by simp [numsB]
    have hn := numR_num (x := x.toNat) (by omega) (numsB l ++ r)
    rw [List.length_cons, rdL, e, hn]
    simp only [if_true]
    rw [rdL_num r l _ fun n hn => h n (List.mem_cons_of_mem _ hn)]
    have e2 : min ((x.toNat : Nat) : Int) 8 = x := by omega
    rw [e2, List.append_assoc]
    rfl

/-- The members that bytes tell. -/
def membersOf (d : List UInt8) : Option (List Int) := if endR (getI ⟨d, 0⟩).2 = 0 ∧ membersB (getI ⟨d, 0⟩).1 = true then some (getI ⟨d, 0⟩).1 else none

theorem membersOf_some {d : List UInt8} {l : List Int} (h : membersOf d = some l) : membersB l = true ∧ d = membB l := by
  unfold membersOf at h
  split at h
  · rename_i hc
    obtain ⟨he, hm⟩ := hc
    simp only [Option.some.injEq] at h
    subst h
    refine ⟨hm, ?_⟩
    have hz : (getI ⟨d, 0⟩).2.e = 0 ∧ (getI ⟨d, 0⟩).2.b = [] := by
      unfold endR at he
      split at he
      · rename_i h0
        split at he
        · exact ⟨h0, List.eq_nil_of_length_eq_zero (by assumption)⟩
        · cases he
      · rename_i h0; exact absurd he h0
    obtain ⟨xs, h1, h2, h3⟩ := rdL_back _ _ _ hz.1
    change (getI ⟨d, 0⟩).1 = _ at h2
    change _ = (⟨(xs.map numB).flatten ++ (getI ⟨d, 0⟩).2.b, 0⟩ : RS) at h3
    rw [hz.2, List.append_nil] at h3
    have hce : (countR 7 (⟨d, 0⟩ : RS)).2.e = 0 := by rw [h3]
    obtain ⟨hb, hle⟩ := countR_back hce
    rw [List.nil_append] at h2
    have hxs : ∀ x ∈ xs, (x : Int) ≤ 7 := by
      intro x hx
      have := (members_len hm).2.2 (min (x : Int) 8) (by rw [h2]; exact List.mem_map.2 ⟨x, hx, rfl⟩)
      omega
    have hmap : numsB (getI ⟨d, 0⟩).1 = (xs.map numB).flatten := by
      rw [h2]
      unfold numsB
      rw [List.map_map]
      congr 1
      refine List.map_congr_left fun x hx => ?_
      have := hxs x hx
      show numB (min (x : Int) 8).toNat = numB x
      rw [show (min (x : Int) 8).toNat = x by omega]
    have hd := congrArg RS.b hb
    simp only at hd
    have hlen : (getI ⟨d, 0⟩).1.length = (countR 7 (⟨d, 0⟩ : RS)).1 := by rw [h2, List.length_map, h1]
    refine hd.trans ?_
    unfold membB
    rw [hmap, hlen, h3]
  · cases h

theorem membersOf_membB {l : List Int} (h : membersB l = true) : membersOf (membB l) = some l := by
  obtain ⟨h1, h7, hm⟩ := members_len h
  have e : getI ⟨membB l, 0⟩ = (l, ⟨[], 0⟩) := by
    unfold getI membB
    rw [countR_num (m := 7) (by omega) h7]
    have := rdL_num [] l [] fun n hn => by have := hm n hn; omega
    rw [List.append_nil, List.nil_append] at this
    exact this
  unfold membersOf
  rw [e, if_pos ⟨rfl, h⟩]

theorem memOf1_any (w : World) (p : Nat) (s : RS) (h : RdAt w p s) : Calls Tryz.prog 70 #[.pointer (some ⟨p, 0, none⟩)] w (RetR (.int .i64 (min ((numR s).1 : Int) 8)) p (numR s).2 w) := by
  have hn := rnum_any w p s h
  clear h
  go_enter Tryz.func70, Tryz.ntmps70
  go_wp2_with fail
  refine hn.mono ?_
  rintro e w1 ⟨rfl, h1, k1⟩
  clear hn
  obtain ⟨x, hx⟩ : ∃ x, x = (numR s).1 := ⟨_, rfl⟩
  rw [← hx]
  have HX := Lib.hid hx
  clear hx
  by_cases hx : (x : Int) ≤ 8
  all_goals
    go_wp2_with fail
    go_ret
    exact RetR.mk (int_eq (by rw [← HX.out]; omega)) h1 k1

theorem getInt_any (w : World) (p : Nat) (s : RS) (h : RdAt w p s) :
    Calls Tryz.prog 69 #[.pointer (some ⟨p, 0, none⟩), .int .i64 7, .func (Fn.func 70) #[] #[]] w fun e w' => ∃ a cap, e = .returned (.slice a (getI s).1.length cap) ∧ RdAt w' p (getI s).2 ∧ Sl intv w' (.slice a (getI s).1.length cap) (getI s).1 ∧ Keeps (fun k => k = p) w w' := by
  have hc := count_any w p s h 7 (by omega)
  have hc7 := countR_le 7 s
  have hpl := h.lt
  obtain ⟨i0, hi, hz0, hz1, hz2⟩ := info_parts info_i64
  obtain ⟨n, hn⟩ : ∃ n, n = (countR 7 s).1 := ⟨_, rfl⟩
  have hG : getI s = rdL n (countR 7 s).2 [] := by rw [hn]; rfl
  rw [← hn] at hc hc7
  have HG := Lib.hid hG
  clear h hn hG
  go_enter Tryz.func69, Tryz.ntmps69
  go_wp2_with fail
  refine hc.mono ?_
  rintro e w1 ⟨rfl, h1, k1⟩
  have HR1 := Lib.hid h1
  have HK1 := Lib.hid k1
  clear hc h1 k1
  go_wp2_with fail
  go_loopw [7, 12] (fun ov i wr => ∃ (k : Nat) (s' : RS) (acc : List Int), k ≤ n ∧ i = .int .i64 k ∧ acc.length = k ∧ rdL (n - k) s' acc = getI s ∧ RdAt wr p s' ∧ wr.ownsRow 0 3 1 ov acc.length (acc.map intv) ∧ (∀ j, ov.ownBlock = some j → w.heap.size ≤ j) ∧ Keeps (fun k => k = p) w wr) (fun _ i _ => n - (intOf i).toNat)
  case atStart => exact ⟨0, (countR 7 s).2, [], by omega, rfl, rfl, HG.out.symm, HR1.out, World.ownsRow_nil _ _ _ _, by simp [Value.ownBlock], HK1.out⟩
  case round =>
    obtain ⟨k, s', acc, hk, rfl, hacc, hrd, hR, hown, hnew, hkp⟩ := hrel
    have HA := Lib.hid hacc
    have HD := Lib.hid hrd
    have HR := Lib.hid hR
    have HO := Lib.hid hown
    have HN := Lib.hid hnew
    have HK := Lib.hid hkp
    clear hrd hown hnew hkp
    by_cases hlt : k < n
    · have hm1 := memOf1_any wr p s' hR
      have HS := Lib.hid (show rdL (n - k) s' acc = if (numR s').2.e = 0 then rdL (n - (k + 1)) (numR s').2 (acc ++ [min ((numR s').1 : Int) 8]) else ([], (numR s').2) by
        rw [show n - k = (n - (k + 1)) + 1 by omega, rdL])
      obtain ⟨s2, hs2⟩ : ∃ s2, s2 = (numR s').2 := ⟨_, rfl⟩
      obtain ⟨x, hx⟩ : ∃ x : Int, x = min ((numR s').1 : Int) 8 := ⟨_, rfl⟩
      rw [← hs2, ← hx] at hm1
      have hS2 := HS.out
      rw [← hs2, ← hx] at hS2
      have HS2 := Lib.hid hS2
      clear hS2 hs2 hx hR HS hacc
      go_wp2_with fail
      refine hm1.mono ?_
      rintro e w2 ⟨rfl, h2, k2⟩
      have he2 := err_any w2 p s2 h2
      have H2 := Lib.hid h2
      have K2 := Lib.hid k2
      clear hm1 h2 k2
      cases h0 : (s2.e == 0)
      · have h0' : (s2.e != 0) = true := by rw [bne, h0]; rfl
        have H0 := Lib.hid h0
        clear h0
        go_wp2_with fail
        refine he2.mono ?_
        rintro e w' ⟨rfl, rfl⟩
        go_wp2_with fail
        go_ret
        have hS := HS2.out
        rw [HD.out, if_neg (by simpa using H0.out)] at hS
        refine ⟨none, 0, by rw [hS]; rfl, by rw [hS]; exact H2.out, by rw [hS]; exact Sl.nil _ _, HK.out.trans K2.out⟩
      · have h0' : (s2.e != 0) = false := by rw [bne, h0]; rfl
        have H0 := Lib.hid h0
        have HM0 := Lib.hid (show acc.length + 1 ≤ maxLen by have := HA.out; unfold maxLen; omega)
        have HM1 := Lib.hid (show (acc.length + 1) * 8 ≤ 140737488355328 by have := HA.out; omega)
        have HO2 := Lib.hid (owns_kept HO.out K2.out fun j hj e => by have := HN.out j hj; omega)
        clear h0
        go_wp2_with (first
          | (go_at_call 81; refine he2.mono ?_; rintro e w' ⟨rfl, rfl⟩)
          | (at_builtin; refine wpList_append_one w2 rfl _ _ _ rfl 3 i0 (.int .i64 0) 8 Tryz.underlying30 hi hz0 hz1 hz2 rfl u7 acc.length (acc.map intv) rfl HO2.out (.int .i64 x) _ rfl rfl HM0.out HM1.out ?_; intro v' w3 hown3 hg3 hrow3; have HO3 := Lib.hid hown3; have HG3 := Lib.hid hg3; have HR3 := Lib.hid hrow3; clear hown3 hg3 hrow3))
        go_roundw
        case rel =>
          have hsz2 : w.heap.size ≤ w2.heap.size := Nat.le_trans HK.out.size K2.out.size
          have hk3 : Keeps (fun k => w.heap.size ≤ k) w2 w3 := ((Keeps.refl (fun k => w.heap.size ≤ k) w2).alloc _).trans (grown_keeps HG3.out fun j hj => HN.out j hj.symm)
          have hS := HS2.out
          rw [if_pos (by simpa using H0.out)] at hS
          refine ⟨k + 1, s2, acc ++ [x], by omega, by go_num, by rw [List.length_append, HA.out]; rfl, by rw [← hS]; exact HD.out, H2.out.kept hk3 fun j hj => by omega, ?_, fun j hj => ?_, ?_⟩
          · rw [List.length_append, List.map_append]; exact HO3.out
          · rcases HR3.out with h1 | ⟨i, h1, h2, _⟩
            · exact HN.out j (h1 ▸ hj)
            · rw [h1] at hj; cases hj; simp at h2; omega
          · exact (HK.out.trans K2.out).andThen hk3 fun i hi => .inl hi
        case measure => simp [intOf]; omega
    · have hkn : k = n := by omega
      have HF := Lib.hid (show (acc, s') = getI s by rw [← HD.out, hkn, Nat.sub_self]; rfl)
      clear hkn hR hacc
      obtain ⟨ad, cp, rfl, _⟩ := owns_sl HO.out
      go_wp2_with fail
      go_ret
      rw [← HF.out]
      exact ⟨ad, cp, rfl, HR.out, owns_sl HO.out, HK.out⟩

theorem clip_any (w : World) (a : Option Addr) (cap : Nat) (l : List Int) (h : Sl intv w (.slice a l.length cap) l) :
    Calls Tryz.prog 73 #[.slice a l.length cap] w (Ret (.slice a l.length l.length) w) := by
  obtain ⟨_, _, he, h1, h2, h3⟩ := h
  cases he
  unfold maxLen at h2
  clear h3
  cases a
  all_goals
    go_enter Tryz.func73, Tryz.ntmps73
    go_wp2
    go_ret
    exact Ret.mk rfl

theorem Sl.clip {α : Type} {enc : α → Value} {w : World} {a : Option Addr} {cap : Nat} {l : List α} (h : Sl enc w (.slice a l.length cap) l) : Sl enc w (.slice a l.length l.length) l := by
  obtain ⟨_, _, he, h1, h2, h3⟩ := h
  cases he
  refine ⟨a, l.length, rfl, Nat.le_refl _, by omega, ?_⟩
  rcases h3 with ⟨rfl, rfl⟩ | h3
  · exact .inl ⟨rfl, by omega⟩
  · exact .inr h3

/-- What MembersOf answers. -/
def MofR (o : Option (List Int)) (w : World) (e : Ending) (w' : World) : Prop :=
  match o with
  | some l => ∃ a, e = .returned (.tuple #[.slice a l.length l.length, .int .i64 0]) ∧ Below w.heap.size w w' ∧ Sl intv w' (.slice a l.length l.length) l
  | none => ∃ x : Int, (x == 0) = false ∧ e = .returned (.tuple #[.slice none 0 0, .int .i64 x]) ∧ Below w.heap.size w w'

theorem MembersOf_any (w : World) (a : Option Addr) (n cap : Nat) (d : List UInt8) (hs : Sl u8v w (.slice a n cap) d) (hl : d.length ≤ 70368744177664) :
    Calls Tryz.prog 56 #[.slice a n cap] w (MofR (membersOf d) w) := by
  have hr := read_any w a n cap d hs hl
  have HO := Lib.hid (show membersOf d = if endR (getI ⟨d, 0⟩).2 = 0 ∧ membersB (getI ⟨d, 0⟩).1 = true then some (getI ⟨d, 0⟩).1 else none from rfl)
  clear hs hl
  go_enter Tryz.func56, Tryz.ntmps56
  go_wp2_with fail
  refine hr.mono ?_
  rintro e w1 ⟨p, rfl, hp, hR1, hb1⟩
  have hg := getInt_any w1 p _ hR1
  have HB1 := Lib.hid hb1
  clear hr hR1 hb1
  go_wp2_with fail
  refine hg.mono ?_
  rintro e w2 ⟨ad, cp, rfl, hR2, hs2, hk2⟩
  have hb2 : Below w.heap.size w w2 := ((Keeps.of_below HB1.out).mono (T := fun k => w.heap.size ≤ k) fun k _ h => h).trans (hk2.mono fun k _ h => by omega) |>.below (Nat.le_refl _) fun k hk => hk
  have hend := end_any w2 p _ hR2
  have hmem := members_any w2 ad _ cp _ hs2
  have hcl := clip_any w2 ad cp _ hs2
  have hsc := hs2.clip
  clear hg hk2 hR2 hs2
  obtain ⟨L, hL⟩ : ∃ L, L = (getI ⟨d, 0⟩).1 := ⟨_, rfl⟩
  obtain ⟨E, hE⟩ : ∃ E, E = endR (getI ⟨d, 0⟩).2 := ⟨_, rfl⟩
  rw [← hL] at hmem hcl hsc
  rw [← hE] at hend
  have hO := HO.out
  rw [← hL, ← hE] at hO
  have HO' := Lib.hid hO
  have HB2 := Lib.hid hb2
  have HSC := Lib.hid hsc
  rw [← hL]
  clear hO hL hE hb2 hsc
  cases h0 : (E == 0)
  · have h1 : (E != 0) = true := by rw [bne, h0]; rfl
    have H0 := Lib.hid (show membersOf d = none by rw [HO'.out, if_neg (by rintro ⟨rfl, _⟩; simp at h0)])
    go_wp2_with fail
    refine hend.mono ?_
    rintro e w' ⟨rfl, rfl⟩
    go_wp2_with fail
    go_ret2
    rw [H0.out]
    exact ⟨E, h0, rfl, HB2.out⟩
  · have h1 : (E != 0) = false := by rw [bne, h0]; rfl
    have hE0 : E = 0 := by simpa using h0
    cases hm : membersB L
    · rw [hm] at hmem
      have H0 := Lib.hid (show membersOf d = none by rw [HO'.out, hm, if_neg (by simp)])
      clear hm
      subst hE0
      go_wp2_with fail
      refine hend.mono ?_
      rintro e w' ⟨rfl, rfl⟩
      clear hend
      go_wp2_with fail
      refine hmem.mono ?_
      rintro e w' ⟨rfl, rfl⟩
      go_wp2_with fail
      go_ret2
      rw [H0.out]
      exact ⟨2, rfl, rfl, HB2.out⟩
    · rw [hm] at hmem
      have H0 := Lib.hid (show membersOf d = some L by rw [HO'.out, hm, hE0, if_pos (by simp)])
      clear hm
      subst hE0
      go_wp2_with fail
      refine hend.mono ?_
      rintro e w' ⟨rfl, rfl⟩
      clear hend
      go_wp2_with fail
      refine hmem.mono ?_
      rintro e w' ⟨rfl, rfl⟩
      clear hmem
      go_wp2_with fail
      refine hcl.mono ?_
      rintro e w' ⟨rfl, rfl⟩
      go_wp2_with fail
      go_ret2
      rw [H0.out]
      exact ⟨ad, rfl, HB2.out, HSC.out⟩

end Go.Proofs.YtbfhgljmopgejaaGreat

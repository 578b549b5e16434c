/- Merged by wip/tools/merge.py out of: OfL, OfW, QuietT, NumR, Inst, NamesL, BytesR, TabsL. -/
import Derived.Test.YtldieadbkaphkaaGreatDoorStrL
import Derived.Test.YtldieadbkaphkaaGreatDoorName
import Derived.Lib.AtoiAllCases
import Derived.Lib.ItoaNum
import Derived.Test.YtldieadbkaphkaaGreatDoorRefP
import Derived.Test.YtldieadbkaphkaaGreatDoorSpecC
import Derived.Test.YtldieadbkaphkaaGreatDoorShelf2
import Derived.Shelf.Strconv.ErrVarAll
import Derived.Lib.QuietBelow
import Derived.StillTail
import Derived.Laws.BytesArg
import Derived.Deep.RegionLaw
import Derived.Test.YtldieadbkaphkaaGreatDoorTmpl
import Derived.Lib.LaidTab
import Derived.Stop.LaidErr
import Derived.MakeChecks

namespace Go.Proofs.YtldieadbkaphkaaGreatDoor
open Go.Lib

/-- Where a byte stands last among the first so many; -1: nowhere. -/
def lastP (l : Bs) (b : UInt8) : Nat → Int
  | 0 => -1
  | k + 1 => if l[k]? = some b then (k : Int) else lastP l b k
theorem lastP_lo (l : Bs) (b : UInt8) : ∀ k, -1 ≤ lastP l b k
  | 0 => by simp [lastP]
  | k + 1 => by have := lastP_lo l b k; unfold lastP; split <;> omega
theorem lastP_lt (l : Bs) (b : UInt8) : ∀ k, lastP l b k < k
  | 0 => by simp [lastP]
  | k + 1 => by have := lastP_lt l b k; unfold lastP; split <;> omega

/-- A row of digits' value. -/
def valD (acc : Nat) (l : List UInt8) : Nat := List.foldl (fun a (c : UInt8) => a * 10 + (c.toNat - 48)) acc l
theorem valD_nil (acc : Nat) : valD acc [] = acc := by unfold valD; exact List.foldl_nil
theorem valD_cons (acc : Nat) (c : UInt8) (r : List UInt8) : valD acc (c :: r) = valD (acc * 10 + (c.toNat - 48)) r := by unfold valD; exact List.foldl_cons ..
attribute [irreducible] valD
theorem dig_iff (c : UInt8) : digB c = true ↔ 48 ≤ c.toNat ∧ c.toNat ≤ 57 := by unfold digB; simp
theorem valD_ge : ∀ (l : Bs) (acc : Nat), acc ≤ valD acc l
  | [], acc => by rw [valD_nil]; exact Nat.le_refl _
  | c :: r, acc => by have := valD_ge r (acc * 10 + (c.toNat - 48)); rw [valD_cons]; omega
theorem valD_lt : ∀ (l : Bs) (acc : Nat), l.all digB = true → valD acc l < (acc + 1) * 10 ^ l.length
  | [], acc, _ => by rw [valD_nil]; simp
  | c :: r, acc, h => by
    rw [List.all_cons, Bool.and_eq_true, dig_iff] at h
    have h1 := valD_lt r (acc * 10 + (c.toNat - 48)) h.2
    have h2 : (acc * 10 + (c.toNat - 48) + 1) * 10 ^ r.length ≤ ((acc + 1) * 10) * 10 ^ r.length := Nat.mul_le_mul_right _ (by omega)
    rw [valD_cons, List.length_cons, Nat.pow_succ, Nat.mul_comm (10 ^ r.length), ← Nat.mul_assoc]
    exact Nat.lt_of_lt_of_le h1 h2
theorem valD_end : ∀ (l : Bs) (acc : Nat) (c : UInt8), valD acc (l ++ [c]) = valD acc l * 10 + (c.toNat - 48)
  | [], acc, c => by rw [List.nil_append, valD_cons, valD_nil, valD_nil]
  | x :: r, acc, c => by rw [List.cons_append, valD_cons, valD_cons, valD_end r]
theorem parse_digits : ∀ (l : Bs) (acc : Nat), l.all digB = true → (acc + 1) * 10 ^ l.length ≤ 1000000000000000000 → parseUint10 acc l = .ok (valD acc l)
  | [], acc, _, _ => by rw [valD_nil]; rfl
  | c :: r, acc, h, hb => by
    rw [List.all_cons, Bool.and_eq_true, dig_iff] at h
    rw [List.length_cons, Nat.pow_succ, Nat.mul_comm (10 ^ r.length), ← Nat.mul_assoc] at hb
    have h2 : (acc * 10 + (c.toNat - 48) + 1) * 10 ^ r.length ≤ ((acc + 1) * 10) * 10 ^ r.length := Nat.mul_le_mul_right _ (by omega)
    have h3 : (acc + 1) * 10 * 1 ≤ (acc + 1) * 10 * 10 ^ r.length := Nat.mul_le_mul_left _ (Nat.pos_of_ne_zero (by simp))
    have ih := parse_digits r (acc * 10 + (c.toNat - 48)) h.2 (by omega)
    rw [valD_cons, parseUint10, if_pos h.1, if_neg (by omega), if_neg (by omega), ih]

/-- What may stand behind the full stop: one to six digits, the first not zero. -/
def goodB (r : Bs) : Bool := r.all digB && decide (1 ≤ r.length) && decide (r.length ≤ 6) && decide (r.head? ≠ some 48)

theorem dig48 (k : Nat) (h : k < 10) : digB (UInt8.ofNat (48 + k)) = true := by
  have : ∀ k : Fin 10, digB (UInt8.ofNat (48 + k.val)) = true := by decide
  exact this ⟨k, h⟩
theorem dig1 (k : Nat) (h : k < 10) (h1 : 1 ≤ k) : UInt8.ofNat (48 + k) ≠ 48 := by
  have : ∀ k : Fin 10, 1 ≤ k.val → UInt8.ofNat (48 + k.val) ≠ 48 := by decide
  exact this ⟨k, h⟩ h1
theorem dec_all : ∀ (u : Nat), (decDigits u).all digB = true := by
  intro u
  induction u using Nat.strongRecOn with
  | ind u ih =>
    rw [decDigits]
    split
    · rename_i h
      rw [List.all_cons, dig48 u h]; rfl
    · rw [List.all_append, ih (u / 10) (by omega), List.all_cons, dig48 _ (by omega)]; rfl
theorem dec_ne (u : Nat) : decDigits u ≠ [] := by
  rw [decDigits]; split <;> simp
theorem dig_nat (k : Nat) (h : k < 10) : (UInt8.ofNat (48 + k)).toNat - 48 = k := by simp; omega
theorem dec_val : ∀ (u : Nat), valD 0 (decDigits u) = u := by
  intro u
  induction u using Nat.strongRecOn with
  | ind u ih =>
    rw [decDigits]
    split
    · rename_i h
      rw [valD_cons, valD_nil, dig_nat u h]; omega
    · rw [valD_end, ih (u / 10) (by omega), dig_nat _ (by omega)]; omega
theorem dec_head : ∀ (u : Nat), 1 ≤ u → (decDigits u).head? ≠ some 48 := by
  intro u
  induction u using Nat.strongRecOn with
  | ind u ih =>
    intro h1
    rw [decDigits]
    split
    · rename_i h
      exact fun e => dig1 u h h1 (Option.some.inj e)
    · have := ih (u / 10) (by omega) (by omega)
      have hn := dec_ne (u / 10)
      cases hd : decDigits (u / 10) with
      | nil => exact absurd hd hn
      | cons a r => rw [hd] at this; simpa using this
theorem dec_len : ∀ (k u : Nat), u < 10 ^ (k + 1) → (decDigits u).length ≤ k + 1
  | 0, u, h => by rw [decDigits, dif_pos (by simpa using h)]; simp
  | k + 1, u, h => by
    rw [decDigits]
    split
    · simp
    · have := dec_len k (u / 10) (by rw [Nat.div_lt_iff_lt_mul (by omega)]; rw [Nat.pow_succ] at h; exact h)
      rw [List.length_append]; simp only [List.length_singleton]; omega
theorem dec_back (l : Bs) : ∀ (n : Nat), l.length = n → l.all digB = true → l ≠ [] → l.head? ≠ some 48 → decDigits (valD 0 l) = l := by
  intro n
  induction n generalizing l with
  | zero => intro h _ hn; exact absurd (List.eq_nil_of_length_eq_zero h) hn
  | succ n ih =>
    intro hl ha hn hh
    rcases List.eq_nil_or_concat l with rfl | ⟨r, c, rfl⟩
    · exact absurd rfl hn
    · rw [List.concat_eq_append] at *
      rw [List.all_append, Bool.and_eq_true] at ha
      have hc : digB c = true := by simpa using ha.2
      rw [dig_iff] at hc
      have hcn : UInt8.ofNat (48 + (c.toNat - 48)) = c := by rw [show 48 + (c.toNat - 48) = c.toNat by omega]; simp
      rw [valD_end]
      by_cases hr : r = []
      · subst hr
        rw [show valD 0 [] * 10 + (c.toNat - 48) = c.toNat - 48 by (rw [valD_nil]; omega), decDigits, dif_pos (by omega), hcn]; rfl
      · have hh' : r.head? ≠ some 48 := by
          cases r with
          | nil => exact absurd rfl hr
          | cons a t => simpa using hh
        have ih' := ih r (by simpa using hl) ha.1 hr hh'
        have hp : 1 ≤ valD 0 r := by
          cases r with
          | nil => exact absurd rfl hr
          | cons a t =>
            have h1 := valD_ge t (0 * 10 + (a.toNat - 48))
            have h2 := ha.1
            rw [List.all_cons, Bool.and_eq_true, dig_iff] at h2
            have h3 : a.toNat ≠ 48 := fun e => hh' (by rw [List.head?_cons, ← UInt8.toNat_inj.1 (show a.toNat = (48 : UInt8).toNat from e)])
            rw [valD_cons]
            omega
        rw [decDigits, dif_neg (by omega), show (valD 0 r * 10 + (c.toNat - 48)) / 10 = valD 0 r by omega, show (valD 0 r * 10 + (c.toNat - 48)) % 10 = c.toNat - 48 by omega, ih', hcn]

theorem good_parts {r : Bs} (h : goodB r = true) : r.all digB = true ∧ 1 ≤ r.length ∧ r.length ≤ 6 ∧ r.head? ≠ some 48 := by
  unfold goodB at h
  simp only [Bool.and_eq_true, decide_eq_true_eq] at h
  exact ⟨h.1.1.1, h.1.1.2, h.1.2, h.2⟩
theorem good_yes {r : Bs} (h : goodB r = true) : atoiAll r = .ok (valD 0 r : Int) ∧ 1 ≤ valD 0 r ∧ valD 0 r ≤ 999999 ∧ itoa (valD 0 r : Int) = r := by
  obtain ⟨h1, h2, h3, h4⟩ := good_parts h
  have hb := dec_back r r.length rfl h1 (fun e => by rw [e] at h2; simp at h2) h4
  have hlt := valD_lt r 0 h1
  have hp : 10 ^ r.length ≤ 10 ^ 6 := Nat.pow_le_pow_right (by omega) h3
  have hpos : 1 ≤ valD 0 r := by
    rcases Nat.eq_zero_or_pos (valD 0 r) with e | e
    · rw [e] at hb
      rw [decDigits, dif_pos (by omega)] at hb
      rw [← hb] at h4
      exact absurd rfl h4
    · exact e
  refine ⟨?_, hpos, by omega, ?_⟩
  · cases r with
    | nil => simp at h2
    | cons c t =>
      have hc := h1
      rw [List.all_cons, Bool.and_eq_true, dig_iff] at hc
      rw [atoiAll_plain c t (by omega) (by omega)]
      have hpm : parseMag (c :: t) = .ok (valD 0 (c :: t)) := by
        unfold parseMag
        rw [if_neg (by simp)]
        exact parse_digits _ 0 h1 (by omega)
      rw [hpm]
      unfold signless
      simp only
      rw [if_neg (by omega)]
  · unfold itoa
    rw [if_neg (by omega)]
    simpa using hb
theorem good_back {r : Bs} {v : Int} (h1 : 1 ≤ v) (h2 : v ≤ 999999) (h : itoa v = r) : goodB r = true := by
  unfold itoa at h
  rw [if_neg (by omega)] at h
  rw [← h]
  have hl := dec_len 5 v.toNat (by omega)
  have hn := dec_ne v.toNat
  have hn' : 1 ≤ (decDigits v.toNat).length := by
    cases hd : decDigits v.toNat with
    | nil => exact absurd hd hn
    | cons a r => simp
  unfold goodB
  rw [dec_all, decide_eq_true hn', decide_eq_true (p := (decDigits v.toNat).length ≤ 6) (by omega), decide_eq_true (dec_head v.toNat (by omega))]
  rfl

/-- What a name tells: the template's name, and the number. -/
def ofF (l : Bs) : Option (Bs × Nat) :=
  if lastP l 46 l.length < 0 then none
  else if goodB (l.drop ((lastP l 46 l.length).toNat + 1)) = true ∧ lastP l 46 l.length ≤ 16 ∧ nameB ⟨(l.take (lastP l 46 l.length).toNat).toArray⟩ = true then
    some (l.take (lastP l 46 l.length).toNat, valD 0 (l.drop ((lastP l 46 l.length).toNat + 1)))
  else none

end Go.Proofs.YtldieadbkaphkaaGreatDoor

namespace Go.Proofs.YtldieadbkaphkaaGreatDoor
open Go.RowKit Go.Sort

theorem var_below {w w' : World} {n : String} {cs : Array Value} (h : w.var? Tryz.prog n = some cs) (hb : Below w.heap.size w w') : w'.var? Tryz.prog n = some cs := by
  unfold World.var? at *
  cases hg : Tryz.prog.globalNamed n with
  | none => rw [hg] at h; cases h
  | some g =>
    rw [hg] at h
    simp only [Option.bind_some] at h ⊢
    have hlt : g < w.heap.size := by
      rcases Nat.lt_or_ge g w.heap.size with h' | h'
      · exact h'
      · rw [Array.getElem?_eq_none h'] at h; cases h
    rw [hb.block g hlt]
    exact h

/-- The library's variables that a number's reading and writing ask. -/
structure Tabs (w : World) : Prop where
  pow : Lib.TabIs Tryz.prog w "internal/strconv.uint64pow10" .u64 Lib.pow10Tab
  syn : ∃ tp p, w.var? Tryz.prog "strconv.ErrSyntax" = some #[.iface tp p]
  rng : ∃ tp p, w.var? Tryz.prog "strconv.ErrRange" = some #[.iface tp p]
theorem Tabs.below {w w' : World} (h : Tabs w) (hb : Below w.heap.size w w') : Tabs w' := by
  obtain ⟨h1, ⟨a, b, h2⟩, ⟨c, d, h3⟩⟩ := h
  exact ⟨var_below h1 hb, ⟨a, b, var_below h2 hb⟩, ⟨c, d, var_below h3 hb⟩⟩

theorem itoaG_any (w : World) (ht : Tabs w) (n : Int) (h0 : -9223372036854775808 ≤ n) (h1 : n ≤ 9223372036854775807) : Calls Tryz.prog 26 #[.int .i64 n] w (RetB (.string ⟨(Lib.itoa n).toArray⟩) w) :=
  (Any.strconv_Itoa Tryz.laysM171 n h0 h1 w ht.pow).mono fun e w' ⟨he, k, os, hw⟩ => ⟨he, by
    subst hw
    exact bel_drewN (Below.refl _ w) k |>.trans (below_regrown (w.drewN k) (w.drewN k).drawn os |>.mono (by simp [grow]))⟩

/-- What Atoi answers. -/
def atoiP (w : World) (l : Bs) (e : Ending) (w' : World) : Prop :=
  Below w.heap.size w w' ∧ ((∃ v, Lib.atoiAll l = .ok v ∧ e = .returned (.tuple #[.int .i64 v, .nilIface])) ∨ ((∀ v, Lib.atoiAll l ≠ .ok v) ∧ ∃ v tp p, e = .returned (.tuple #[.int .i64 v, .iface tp p])))
theorem atoiG_any (w : World) (ht : Tabs w) (l : Bs) (hl : l.length ≤ 1000) : Calls Tryz.prog 28 #[.string ⟨l.toArray⟩] w (atoiP w l) := by
  have hs : (⟨l.toArray⟩ : ByteArray).size = l.length := by show l.toArray.size = _; simp
  have hd : (⟨l.toArray⟩ : ByteArray).data.toList = l := by simp
  cases h : Lib.atoiAll l
  case ok v =>
    refine (Any.strconv_Atoi_ok Tryz.laysC172 ⟨l.toArray⟩ (by omega) v (by rw [hd]; exact h) w).mono ?_
    rintro e w' ⟨rfl, rfl | ⟨t, rfl⟩⟩
    · exact ⟨Below.refl _ _, .inl ⟨v, h, rfl⟩⟩
    · exact ⟨Lib.bytesWorld_below w _ t, .inl ⟨v, h, rfl⟩⟩
  case range =>
    obtain ⟨tp, p, hv⟩ := ht.rng
    refine (Any.strconv_Atoi_range_var Tryz.laysC172 ⟨l.toArray⟩ (by omega) (by rw [hd]; exact h) tp p w hv).mono ?_
    rintro e w' ⟨N, rfl, _, _, hb⟩
    exact ⟨hb, .inr ⟨(fun v hc => by rw [h] at hc; cases hc), _, _, _, rfl⟩⟩
  obtain ⟨tp, p, hv⟩ := ht.syn
  refine (Any.strconv_Atoi_syntax_var Tryz.laysC172 ⟨l.toArray⟩ (by omega) (by rw [hd]; exact h) tp p w hv).mono ?_
  rintro e w' ⟨N, rfl, _, _, hb⟩
  exact ⟨hb, .inr ⟨(fun v hc => by rw [h] at hc; cases hc), _, _, _, rfl⟩⟩

theorem at_some (l : Bs) (S : ByteArray) (h : S = ⟨l.toArray⟩) (k : Nat) (hk : k < S.size) : l[k]? = some S[k] := by
  subst h
  have h2 : k < l.length := by have : k < l.toArray.size := hk; simpa using this
  rw [List.getElem?_eq_getElem h2]
  rfl

set_option maxRecDepth 100000 in
set_option maxHeartbeats 4000000 in
theorem lastStr_any (w : World) (l : Bs) (c : UInt8) (hl : l.length ≤ 1000) : Calls Tryz.prog 43 #[.string ⟨l.toArray⟩, .int .u8 c.toNat] w (Ret (.int .i64 (lastP l c l.length)) w) := by
  obtain ⟨S, hS⟩ : ∃ S : ByteArray, S = ⟨l.toArray⟩ := ⟨_, rfl⟩
  have HA := Lib.hid (at_some l S hS)
  have hsz : S.size = l.length := by rw [hS]; show l.toArray.size = _; simp
  rw [← hS, ← hsz]
  have hsm : S.size ≤ 1000 := by omega
  obtain ⟨R, hR⟩ : ∃ R, R = lastP l c S.size := ⟨_, rfl⟩
  rw [← hR]
  have HRR := Lib.hid hR
  obtain ⟨F, hF⟩ : ∃ F : Nat → Int, F = lastP l c := ⟨_, rfl⟩
  have HF0 : Hid (F 0 = -1) := Lib.hid (by rw [hF]; rfl)
  have HF1 : Hid (∀ j, l[j]? = some c → F (j + 1) = (j : Int)) := Lib.hid fun j h => by rw [hF]; unfold lastP; rw [if_pos h]
  have HF2 : Hid (∀ j, l[j]? ≠ some c → F (j + 1) = F j) := Lib.hid fun j h => by rw [hF, lastP, if_neg h]
  have HFE : Hid (F S.size = R) := Lib.hid (by rw [hF, hR])
  clear hS hsz hl hR HRR hF
  go_enter Tryz.func43, Tryz.ntmps43
  go_wp2
  go_loop [5] (fun i => ∃ (q : Int) (k : Nat), i = .int .i64 q ∧ q = (k : Int) - 1 ∧ k ≤ S.size ∧ F k = R) (fun i => (intOf i + 1).toNat)
  case atStart => exact ⟨(S.size : Int) - 1, S.size, by go_num, rfl, Nat.le_refl _, HFE.out⟩
  case round =>
    obtain ⟨q, k, rfl, hq, hk, hm⟩ := hrel
    cases k with
    | zero =>
      obtain rfl : q = -1 := by omega
      clear hq hk
      have HM : Hid (R = -1) := Lib.hid (by rw [← hm]; exact HF0.out)
      clear hm
      go_wp2
      go_ret
      exact Ret.mk (by rw [HM.out]; rfl)
    | succ j =>
      obtain rfl : q = (j : Int) := by omega
      have hj : j < S.size := by omega
      clear hq hk
      have HAJ := Lib.hid (HA.out j hj)
      have HM := Lib.hid hm
      clear hm
      by_cases hc : S[j] = c
      · have hcb : ((S[j].toNat : Int) == (c.toNat : Int)) = true := by rw [hc]; simp
        have HR : Hid (R = (j : Int)) := Lib.hid (by rw [← HM.out]; exact HF1.out j (by rw [HAJ.out, hc]))
        clear hc
        go_wp2
        go_ret
        exact Ret.mk (by rw [HR.out]; rfl)
      · have hcb : ((S[j].toNat : Int) == (c.toNat : Int)) = false := by
          have : S[j].toNat ≠ c.toNat := fun e => hc (UInt8.toNat_inj.1 e)
          simp; omega
        have HR : Hid (F j = R) := Lib.hid (by rw [← HM.out]; exact (HF2.out j (by rw [HAJ.out]; exact fun e => hc (Option.some.inj e))).symm)
        clear hc
        go_wp2
        go_round
        case rel => exact ⟨(j : Int) - 1, j, by go_num, rfl, by omega, HR.out⟩
        case measure => simp [intOf] <;> omega

set_option maxRecDepth 100000 in
theorem lastB_any (w : World) (l : Bs) (c : UInt8) (hl : l.length ≤ 1000) : Calls Tryz.prog 27 #[.string ⟨l.toArray⟩, .int .u8 c.toNat] w (Ret (.int .i64 (lastP l c l.length)) w) := by
  have h := lastStr_any w l c hl
  generalize (⟨l.toArray⟩ : ByteArray) = S at *
  generalize lastP l c l.length = r at *
  go_enter Tryz.func27, Tryz.ntmps27
  go_wp2_with (go_at_call 43; refine h.mono ?_; rintro e w' ⟨rfl, rfl⟩)
  go_ret
  exact Ret.mk rfl

/-- What Of answers. -/
def ofV : Option (Bs × Nat) → Value
  | none => .tuple #[.string ⟨#[]⟩, .int .i64 0, .bool false]
  | some (t, k) => .tuple #[.string ⟨t.toArray⟩, .int .i64 k, .bool true]

/-- The plain cases of Of. -/
theorem of_none1 {l : Bs} (h : lastP l 46 l.length < 0) : ofF l = none := by unfold ofF; rw [if_pos h]
theorem of_none2 {l : Bs} {d : Nat} (h : lastP l 46 l.length = d) (hg : goodB (l.drop (d + 1)) = false) : ofF l = none := by
  unfold ofF; rw [h, if_neg (by omega), if_neg (by rintro ⟨h1, _⟩; simp only [Int.toNat_natCast] at h1; rw [hg] at h1; cases h1)]
theorem of_none3 {l : Bs} {d : Nat} (h : lastP l 46 l.length = d) (hg : 16 < d) : ofF l = none := by
  unfold ofF; rw [h, if_neg (by omega), if_neg (by rintro ⟨_, h1, _⟩; omega)]
theorem of_none4 {l : Bs} {d : Nat} (h : lastP l 46 l.length = d) (hg : nameB ⟨(l.take d).toArray⟩ = false) : ofF l = none := by
  unfold ofF; rw [h, if_neg (by omega), if_neg (by rintro ⟨_, _, h1⟩; simp only [Int.toNat_natCast] at h1; rw [hg] at h1; cases h1)]
theorem of_some {l : Bs} {d : Nat} (h : lastP l 46 l.length = d) (h1 : goodB (l.drop (d + 1)) = true) (h2 : d ≤ 16) (h3 : nameB ⟨(l.take d).toArray⟩ = true) : ofF l = some (l.take d, valD 0 (l.drop (d + 1))) := by
  unfold ofF; rw [h, if_neg (by omega), if_pos (by simp only [Int.toNat_natCast]; exact ⟨h1, by omega, h3⟩)]; simp only [Int.toNat_natCast]

set_option maxRecDepth 100000 in
set_option maxHeartbeats 8000000 in
theorem of_any (w : World) (ht : Tabs w) (l : Bs) (hl : l.length ≤ 60) : Calls Tryz.prog 14 #[.string ⟨l.toArray⟩] w (RetB (ofV (ofF l)) w) := by
  have hlast := lastB_any w l 46 (by omega)
  have HLO := Lib.hid (lastP_lo l 46 l.length)
  have HLT := Lib.hid (lastP_lt l 46 l.length)
  obtain ⟨S, hS⟩ : ∃ S : ByteArray, S = ⟨l.toArray⟩ := ⟨_, rfl⟩
  have hsz : S.size = l.length := by rw [hS]; show l.toArray.size = _; simp
  rw [← hS] at hlast ⊢
  by_cases h0 : lastP l 46 l.length < 0
  · have HF := Lib.hid (of_none1 h0)
    generalize lastP l 46 l.length = d at *
    clear hS hl hsz
    go_enter Tryz.func14, Tryz.ntmps14
    go_wp2_with (go_at_call 27; refine hlast.mono ?_; rintro e w' ⟨rfl, rfl⟩)
    exact bodyPost_ret (v := .tuple #[.string ⟨#[]⟩, .int .i64 0, .bool false]) (by simp [results, Tryz.results14, go_sem]) rfl (by rw [HF.out]; exact RetB.mk rfl (Below.refl _ _))
  obtain ⟨d, hd⟩ : ∃ d : Nat, lastP l 46 l.length = (d : Int) := ⟨(lastP l 46 l.length).toNat, by omega⟩
  have hdl : d < S.size := by have := HLT.out; omega
  have HD := Lib.hid hd
  rw [hd] at hlast
  clear h0 HLO HLT hd
  have hs60 : S.size ≤ 60 := by omega
  have eD : S.extract (d + 1) S.size = ⟨(l.drop (d + 1)).toArray⟩ := by rw [hsz, hS]; exact ext_drop l (d + 1)
  have eT : S.extract 0 d = ⟨(l.take d).toArray⟩ := by rw [hS]; exact ext_take l d
  have hat := atoiG_any w ht (l.drop (d + 1)) (by rw [List.length_drop]; omega)
  rw [← eD] at hat
  have HIT := Lib.hid (fun W (hb : Below w.heap.size w W) => itoaG_any W (ht.below hb))
  have HNM : Hid (∀ W, Calls Tryz.prog 29 #[.string (S.extract 0 d)] W (RetB (.bool (nameB ⟨(l.take d).toArray⟩)) W)) := Lib.hid fun W => by
    rw [eT]
    exact name_any _ W (by show (l.take d).toArray.size ≤ maxLen; have := List.length_take_le d l; unfold maxLen; simp; omega)
  have HED := Lib.hid eD
  have HET := Lib.hid eT
  have f1 : (d : Int) + 1 ≤ (S.size : Int) := by omega
  have f2 : (d : Int) ≤ (S.size : Int) := by omega
  have f3 : IntKind.i64.wrap ((d : Int) + 1) = d + 1 := IntWalk.i64_in _ (by omega)
  have f4 : (0 : Int) ≤ (d : Int) + 1 := by omega
  have f5 : ((d : Int) + 1).toNat = d + 1 := by omega
  clear hS hl hsz eD eT ht
  go_enter Tryz.func14, Tryz.ntmps14
  go_wp2_with fail
  refine hlast.mono ?_
  rintro e w1 ⟨rfl, rfl⟩
  go_wp2_with fail
  refine hat.mono ?_
  rintro e w2 ⟨hb2, ⟨v, hok, rfl⟩ | ⟨hno, v, tp, p, rfl⟩⟩
  case inr =>
    have HF := Lib.hid (of_none2 HD.out (by
      cases hg : goodB (l.drop (d + 1))
      · rfl
      · exact absurd (good_yes hg).1 (hno _)))
    have HB2 := Lib.hid hb2
    clear hno hb2
    go_upto_region 5 with (fail)
    refine wp_region_quiet_below (by kernel_rfl) (by kernel_rfl) ?_
    repeat (quiet_step (fail))
    refine wpQuiet_nil ?_
    intro w3 hw'
    have HB3 : Hid (Below w.heap.size w w3) := Lib.hid (by
      obtain ⟨⟨dq, osq⟩, hw''⟩ := hw'
      subst hw''
      exact HB2.out.trans (Below.mono (below_regrown w2 dq osq) HB2.out.size))
    clear hw'
    go_wp2_with fail
    exact bodyPost_ret (v := .tuple #[.string ⟨#[]⟩, .int .i64 0, .bool false]) (by simp [results, Tryz.results14, go_sem]) rfl (by rw [HF.out]; exact RetB.mk rfl HB3.out)
  have HOK := Lib.hid hok
  have HB2 := Lib.hid hb2
  have HG : Hid (goodB (l.drop (d + 1)) = true → v = (valD 0 (l.drop (d + 1)) : Int) ∧ 1 ≤ v ∧ v ≤ 999999 ∧ Lib.itoa v = l.drop (d + 1)) := Lib.hid fun hg => by
    obtain ⟨g1, g2, g3, g4⟩ := good_yes hg
    rw [hok] at g1
    injection g1 with g1
    subst g1
    exact ⟨rfl, by omega, by omega, g4⟩
  have hvb := Lib.atoiAll_bounds hok
  have QI := Lib.hid fun d os => Calls.regrown_of ((HIT.out (grow (redrawn w2 d) os) (HB2.out.trans ((below_regrown w2 d os).mono HB2.out.size)) v hvb.1 hvb.2).mono fun e w' h => ⟨h.1, h.2⟩)
  have QN := Lib.hid fun d os => Calls.regrown_of ((HNM.out (grow (redrawn w2 d) os)).mono fun e w' h => ⟨h.1, h.2⟩)
  clear hok hb2 hat hlast HIT HNM hvb
  by_cases v1 : v < 1
  · have HF := Lib.hid (of_none2 HD.out (by
      cases hg : goodB (l.drop (d + 1))
      · rfl
      · have := (HG.out hg).2.1; omega))
    clear QI QN
    go_upto_region 5 with (fail)
    refine wp_region_quiet_below (by kernel_rfl) (by kernel_rfl) ?_
    repeat (quiet_step (fail))
    refine wpQuiet_nil ?_
    intro w3 hw'
    have HB3 : Hid (Below w.heap.size w w3) := Lib.hid (by
      obtain ⟨⟨dq, osq⟩, hw''⟩ := hw'
      subst hw''
      exact HB2.out.trans (Below.mono (below_regrown w2 dq osq) HB2.out.size))
    clear hw'
    go_wp2_with fail
    exact bodyPost_ret (v := .tuple #[.string ⟨#[]⟩, .int .i64 0, .bool false]) (by simp [results, Tryz.results14, go_sem]) rfl (by rw [HF.out]; exact RetB.mk rfl HB3.out)
  by_cases v2 : 999999 < v
  · have HF := Lib.hid (of_none2 HD.out (by
      cases hg : goodB (l.drop (d + 1))
      · rfl
      · have := (HG.out hg).2.2.1; omega))
    clear QI QN
    go_upto_region 5 with (fail)
    refine wp_region_quiet_below (by kernel_rfl) (by kernel_rfl) ?_
    repeat (quiet_step (fail))
    refine wpQuiet_nil ?_
    intro w3 hw'
    have HB3 : Hid (Below w.heap.size w w3) := Lib.hid (by
      obtain ⟨⟨dq, osq⟩, hw''⟩ := hw'
      subst hw''
      exact HB2.out.trans (Below.mono (below_regrown w2 dq osq) HB2.out.size))
    clear hw'
    go_wp2_with fail
    exact bodyPost_ret (v := .tuple #[.string ⟨#[]⟩, .int .i64 0, .bool false]) (by simp [results, Tryz.results14, go_sem]) rfl (by rw [HF.out]; exact RetB.mk rfl HB3.out)
  by_cases v3 : Lib.itoa v = l.drop (d + 1)
  case neg =>
    have HF := Lib.hid (of_none2 HD.out (by
      cases hg : goodB (l.drop (d + 1))
      · rfl
      · exact absurd (HG.out hg).2.2.2 v3))
    have hne : ((⟨(Lib.itoa v).toArray⟩ : ByteArray).toList == (S.extract (d + 1) S.size).toList) = false := by
      rw [HED.out]
      refine beq_eq_false_iff_ne.2 fun e => v3 ?_
      rw [ByteArray.toList_eq, ByteArray.toList_eq] at e
      simpa using e
    generalize (⟨(Lib.itoa v).toArray⟩ : ByteArray) = IT at *
    clear QN v3
    go_upto_region 5 with (fail)
    refine wp_region_quiet_below (by kernel_rfl) (by kernel_rfl) ?_
    repeat (quiet_step (first | (with_reducible exact QI.out _ _)))
    refine wpQuiet_nil ?_
    intro w3 hw'
    have HB3 : Hid (Below w.heap.size w w3) := Lib.hid (by
      obtain ⟨⟨dq, osq⟩, hw''⟩ := hw'
      subst hw''
      exact HB2.out.trans (Below.mono (below_regrown w2 dq osq) HB2.out.size))
    clear hw'
    go_wp2_with fail
    exact bodyPost_ret (v := .tuple #[.string ⟨#[]⟩, .int .i64 0, .bool false]) (by simp [results, Tryz.results14, go_sem]) rfl (by rw [HF.out]; exact RetB.mk rfl HB3.out)
  have HGG : Hid (goodB (l.drop (d + 1)) = true) := Lib.hid (good_back (by omega) (by omega) v3)
  rw [v3, ← HED.out] at QI
  clear v3
  by_cases v4 : 16 < d
  · have HF := Lib.hid (of_none3 HD.out v4)
    have v4' : (16 : Int) < (d : Int) := by omega
    clear QN
    go_upto_region 5 with (fail)
    refine wp_region_quiet_below (by kernel_rfl) (by kernel_rfl) ?_
    repeat (quiet_step (first | (with_reducible exact QI.out _ _)))
    refine wpQuiet_nil ?_
    intro w3 hw'
    have HB3 : Hid (Below w.heap.size w w3) := Lib.hid (by
      obtain ⟨⟨dq, osq⟩, hw''⟩ := hw'
      subst hw''
      exact HB2.out.trans (Below.mono (below_regrown w2 dq osq) HB2.out.size))
    clear hw'
    go_wp2_with fail
    exact bodyPost_ret (v := .tuple #[.string ⟨#[]⟩, .int .i64 0, .bool false]) (by simp [results, Tryz.results14, go_sem]) rfl (by rw [HF.out]; exact RetB.mk rfl HB3.out)
  have v4' : ¬ (16 : Int) < (d : Int) := by omega
  have HV4 : Hid (d ≤ 16) := Lib.hid (by omega)
  cases hnm : nameB ⟨(l.take d).toArray⟩
  · have HF := Lib.hid (of_none4 HD.out hnm)
    rw [hnm] at QN
    clear hnm
    go_upto_region 5 with (fail)
    refine wp_region_quiet_below (by kernel_rfl) (by kernel_rfl) ?_
    repeat (quiet_step (first | (with_reducible exact QI.out _ _) | (with_reducible exact QN.out _ _)))
    refine wpQuiet_nil ?_
    intro w3 hw'
    have HB3 : Hid (Below w.heap.size w w3) := Lib.hid (by
      obtain ⟨⟨dq, osq⟩, hw''⟩ := hw'
      subst hw''
      exact HB2.out.trans (Below.mono (below_regrown w2 dq osq) HB2.out.size))
    clear hw'
    go_wp2_with fail
    exact bodyPost_ret (v := .tuple #[.string ⟨#[]⟩, .int .i64 0, .bool false]) (by simp [results, Tryz.results14, go_sem]) rfl (by rw [HF.out]; exact RetB.mk rfl HB3.out)
  have HF := Lib.hid (of_some HD.out HGG.out HV4.out hnm)
  rw [hnm] at QN
  clear hnm
  go_upto_region 5 with (fail)
  refine wp_region_quiet_below (by kernel_rfl) (by kernel_rfl) ?_
  repeat (quiet_step (first | (with_reducible exact QI.out _ _) | (with_reducible exact QN.out _ _)))
  refine wpQuiet_nil ?_
  intro w3 hw'
  have HB3 : Hid (Below w.heap.size w w3) := Lib.hid (by
    obtain ⟨⟨dq, osq⟩, hw''⟩ := hw'
    subst hw''
    exact HB2.out.trans (Below.mono (below_regrown w2 dq osq) HB2.out.size))
  clear hw'
  go_wp2_with fail
  exact bodyPost_ret (v := .tuple #[.string (S.extract 0 d), .int .i64 v, .bool true]) (by simp [results, Tryz.results14, go_sem]) rfl (by
    rw [HF.out, (HG.out HGG.out).1, HET.out]
    exact RetB.mk rfl HB3.out)

end Go.Proofs.YtldieadbkaphkaaGreatDoor

namespace Go.Proofs.YtldieadbkaphkaaGreatDoor
open Go.RowKit Go.Sort

section
variable {P : Program} {ops : Array Oper} {md : Region.Mode} {C : World → Prop}

def qAny (P : Program) (md : Region.Mode) (ops : Array Oper) (C : World → Prop) (n : Nat) (L : Array Bool → Act → Prop) : Nat → Array Bool → Act → Prop
  | 0, listed, a => L listed a
  | f + 1, listed, a => Region.ready md ops listed ≠ [] ∧ ∀ i ∈ Region.ready md ops listed, i < n ∧ qOp P ops C i (qAny P md ops C n L f (listed.setIfInBounds i true)) a

theorem any_of_q {n g : Nat} {L : Array Bool → Act → Prop} {Q' : Exit → Act → World → Prop} (hL : ∀ listed a w, C w → L listed a → wpAny P md ops Q' g listed a w) :
    ∀ (f : Nat) (listed : Array Bool) (a : Act) (w : World), C w → qAny P md ops C n L f listed a → wpAny P md ops Q' (f + g) listed a w
  | 0, listed, a, w, hw, h => by rw [Nat.zero_add]; exact hL _ _ _ hw h
  | f + 1, listed, a, w, hw, h => by
    rw [show f + 1 + g = (f + g) + 1 by omega]
    exact ⟨fun h0 => absurd h0 h.1, fun i hi => wpOp_of_qOp hw (fun a' w' hw' h' => any_of_q hL f _ a' w' hw' h') (h.2 i hi).2⟩

theorem q_first {n i : Nat} {oi : Oper} {v : Value} {L : Array Bool → Act → Prop} (hi : ops[i]? = some oi) (hsel : ∀ (j : Nat) (o : Oper) cs b, ops[j]? = some o → o.op ≠ .select cs b)
    (hs : Region.sinkB md ops n = true) (hc : Region.chainB md ops n = true) (hn : n < ops.size) (hin : i < n) (hdone : ∀ listed a, L listed a → ∀ j ∈ Region.ready md ops listed, n ≤ j) :
    ∀ (f : Nat) (listed : Array Bool) (a : Act), HeadInv md ops n listed →
      (∀ j oj, ops[j]? = some oj → j ≠ i → listed.getD j true = false → (∀ e ∈ oj.after, Region.binds md e = true → e.on ≠ i) → oi.apart ops oj = true) →
      i ∈ Region.ready md ops listed → YieldsIn P ops C oi v a →
      qAny P md ops C n L f (listed.setIfInBounds i true) (a.put oi.dst v) → qAny P md ops C n L (f + 1) listed a := by
  intro f
  induction f with
  | zero =>
    intro listed a inv _ hr hy H
    refine ⟨fun h => (by rw [h] at hr; cases hr), fun j hj => ?_⟩
    have hjn : j < n := Nat.lt_of_not_le fun h => absurd hj (tail_waits hs hc hn inv _ i rfl hin (mem_ready.1 hr).1 j h)
    refine ⟨hjn, ?_⟩
    by_cases hji : j = i
    · subst hji; exact hy.qOp hi H
    · have := hdone _ _ H j (ready_mono hj hji)
      omega
  | succ f ih =>
    intro listed a inv hfree hr hy H
    have hun := (mem_ready.1 hr).1
    refine ⟨fun h => (by rw [h] at hr; cases hr), fun j hj => ?_⟩
    have hjn : j < n := Nat.lt_of_not_le fun h => absurd hj (tail_waits hs hc hn inv _ i rfl hin hun j h)
    refine ⟨hjn, ?_⟩
    by_cases hji : j = i
    · subst hji; exact hy.qOp hi H
    · have h1 := (H.2 j (ready_mono hj hji)).2
      obtain ⟨hjun, oj, hoj, hall⟩ := mem_ready.1 hj
      have hnot : ∀ e ∈ oj.after, Region.binds md e = true → e.on ≠ i := fun e he hb heq => by
        have h1 := hall e he hb
        rw [heq, getD_both hun] at h1
        cases h1
      have h2 := qOp_put hoj (hfree j oj hoj hji hjun hnot) (fun cs b => hsel i oi cs b hi) (fun cs b => hsel j oj cs b hoj) hy h1
      refine qOp_mono (fun a' h3 => ih (listed.setIfInBounds j true) a' (inv.set hj hjn) (fun k ok hk hki hun' hno => hfree k ok hk hki ?_ hno) (ready_mono hr (Ne.symm hji)) h3.1 ?_) h2
      · by_cases hjk : j = k
        · subst hjk; exact hjun
        · rw [getD_set_ne true hjk] at hun'; exact hun'
      · rw [Array.setIfInBounds_comm _ _ hji]
        exact h3.2

theorem q_lex {n g : Nat} {Lq : Act → Prop} (hsel : Region.noSelect ops = true) (hs : Region.sinkB md ops n = true) (hc : Region.chainB md ops n = true) (hn : n < ops.size) :
    ∀ (l : List Oper) (k : Nat) (listed : Array Bool) (a : Act), (∀ j, j < l.length → l[j]? = ops[k + j]?) → k + l.length = n → HeadInv md ops n listed →
    Region.lexHead md ops g l.length k listed = true → wpQuiet P ops C Lq l a →
    qAny P md ops C n (fun listed' a' => Region.seqB md ops g n listed' = true ∧ Lq a') l.length listed a
  | [], k, listed, a, _, hk, _, hB, h => by
    have : k = n := by simpa using hk
    subst this
    exact ⟨by simpa [Region.lexHead] using hB, h⟩
  | o :: l, k, listed, a, hl, hk, inv, hB, h => by
    have h0 : ops[k]? = some o := by simpa using (hl 0 (by simp)).symm
    simp only [List.length_cons, Region.lexHead, Bool.and_eq_true] at hB
    obtain ⟨⟨hr, hf⟩, hB'⟩ := hB
    have hkn : k < n := by simp only [List.length_cons] at hk; omega
    have hr' : k ∈ Region.ready md ops listed := by simpa using hr
    have hst : qOp P ops C k (wpQuiet P ops C Lq l) a := by unfold qOp; simp only [h0]; exact h
    obtain ⟨v, hy, hK⟩ := yieldsIn_of_qOp h0 hst
    exact q_first h0 (Region.noSelect_spec hsel) hs hc hn hkn (fun listed' a' hL => seqB_ready hL.1) l.length listed a inv (Region.free_spec h0 hf) hr' hy
      (q_lex hsel hs hc hn l (k + 1) _ _ (fun j hj => by have := hl (j + 1) (by simp; omega); simpa [Nat.add_assoc, Nat.add_comm 1 j] using this) (by simp only [List.length_cons] at hk; omega) (inv.set hr' hkn) hB' hK)

/-- Quiet ones first, then the last ones, from whatever world the quiet ones leave. -/
theorem region_quiet_tail {id : Nat} {Q : Exit → Act → World → Prop} {a : Act} {w : World} {l : List Oper} (n : Nat) (hm : P.follows .mixedOrders = true) (hB : Region.lexTailB .any l.toArray n = true)
    (h : wpQuiet P l.toArray (fun w' => ∃ p : Regrown, w' = grow (redrawn w p.d) p.os) (fun a' => ∀ w', (∃ p : Regrown, w' = grow (redrawn w p.d) p.os) → wpList P l.toArray Q (l.drop n) a' w') (l.take n) a) : (Code.region id l.toArray true).wp P Q a w := by
  simp only [Region.lexTailB, Bool.and_eq_true, decide_eq_true_eq] at hB
  obtain ⟨⟨⟨⟨hsel, hn⟩, hs⟩, hc⟩, hlex⟩ := hB
  have hn' : n < l.length := by simpa using hn
  have htl : (l.take n).length = n := by simp; omega
  have hdl : (l.drop n).length = l.toArray.size - n := by simp
  have inv0 : HeadInv .any l.toArray n (Array.replicate l.toArray.size false) :=
    ⟨by simp, fun j oj _ hl => (by rw [getD_replicate_false] at hl; cases hl), fun t _ ht => getD_in (by simpa using ht) (getD_replicate_false _ _)⟩
  have H := q_lex (md := .any) (g := l.toArray.size - n) hsel hs hc hn (l.take n) 0 _ a (fun j hj => by
    have hj' : j < n := by rw [htl] at hj; exact hj
    simp [hj']) (by simpa using htl) inv0 (by rw [htl]; exact hlex) h
  refine wp_region_any hm ?_
  have := any_of_q (Q' := Q) (g := l.toArray.size - n) (fun listed a' w' hw' hL => by
    have := wpAny_of_seq (md := .any) (Q' := Q) (l.drop n) n listed a' w' (fun j => by simp [List.getElem?_drop]) (by rw [hdl]; exact hL.1) (hL.2 w' hw')
    rwa [hdl] at this) _ _ _ { w with drawn := w.drawn + 1 } ⟨⟨w.drawn + 1, #[]⟩, by rw [grow_empty]; rfl⟩ H
  rw [htl, show n + (l.toArray.size - n) = l.toArray.size by omega] at this
  exact this
end

end Go.Proofs.YtldieadbkaphkaaGreatDoor

namespace Go.Proofs.YtldieadbkaphkaaGreatDoor
open Go.RowKit

/-- A number's bytes. -/
def numB (x : Nat) : List UInt8 := if h : x < 128 then [UInt8.ofNat x] else UInt8.ofNat (x % 128 + 128) :: numB (x / 128)
termination_by x
decreasing_by omega

theorem numB_lt {x : Nat} (h : x < 128) : numB x = [UInt8.ofNat x] := by rw [numB, dif_pos h]
theorem numB_ge {x : Nat} (h : 128 ≤ x) : numB x = UInt8.ofNat (x % 128 + 128) :: numB (x / 128) := by rw [numB, dif_neg (by omega)]

theorem numB_len (n : Nat) : ∀ x, x < 128 ^ (n + 1) → (numB x).length ≤ n + 1 := by
  induction n with
  | zero => intro x h; rw [numB_lt (by simpa using h)]; simp
  | succ n ih =>
    intro x h
    rcases Nat.lt_or_ge x 128 with h1 | h1
    · rw [numB_lt h1]; simp
    · rw [numB_ge h1]
      have := ih (x / 128) (by rw [Nat.div_lt_iff_lt_mul (by omega)]; rw [Nat.pow_succ] at h; exact h)
      simp only [List.length_cons]; omega
theorem numB_len10 {x : Nat} (h : x < 18446744073709551616) : (numB x).length ≤ 10 := numB_len 9 x (by omega)
theorem numB_pos (x : Nat) : 1 ≤ (numB x).length := by
  rcases Nat.lt_or_ge x 128 with h | h
  · rw [numB_lt h]; simp
  · rw [numB_ge h]; simp

theorem toNat_ofNat {x : Nat} (h : x < 256) : (UInt8.ofNat x).toNat = x := by simp; omega

def u8v (c : UInt8) : Value := .int .u8 (c.toNat : Int)
theorem belowD {B : Nat} {a w : World} (h : Below B a w) : Below B a w.drew := ⟨h.os, h.tape, h.output, h.size, h.block⟩

/-- 'string(b)' of a slice of bytes that is read. -/
theorem sl_string {w : World} {a : Option Addr} {n cap : Nat} {l : List UInt8} (h : Sl u8v w (.slice a n cap) l) {src : TypeId} (hs : Tryz.prog.underlying src = some (.slice 5)) :
    (convert src 9 (.slice a n cap)).run Tryz.prog w = .ok (.string ⟨l.toArray⟩) w := by
  obtain ⟨a', cap', he, h1, h2, h3⟩ := h
  cases he
  rcases h3 with ⟨rfl, rfl⟩ | ⟨b, o, rfl, hb, hc⟩
  · have hl : l = [] := List.eq_nil_of_length_eq_zero (by omega)
    subst hl
    exact run_convert_bytes_nil w src 5 hs Tryz.underlying5 _ _ 9 Tryz.underlying9
  · refine run_convert_bytes_back w src 9 5 ⟨b, o, none⟩ cap l hs Tryz.underlying5 Tryz.underlying9 fun j hj => ?_
    rw [addr_add]
    exact hc j _ (List.getElem?_eq_getElem hj)

theorem str_app (a b : List UInt8) : (⟨a.toArray⟩ : ByteArray) ++ ⟨b.toArray⟩ = ⟨(a ++ b).toArray⟩ :=
  ByteArray.ext (by rw [ByteArray.data_append]; simp)

theorem byte_at {w : World} {b : Nat} {c : Int} {T : TypeId} {fr : Nat × Nat} (hb : w.heap[b]? = some (.cells #[.int .u8 c] T fr)) (h0 : 0 ≤ c) (h1 : c ≤ 255) : (convert 90 9 (.slice (some ⟨b, 0, none⟩) 1 1)).run Tryz.prog w = .ok (.string ⟨#[UInt8.ofNat c.toNat]⟩) w := by
  have hs : Sl u8v w (.slice (some ⟨b, 0, none⟩) 1 1) [UInt8.ofNat c.toNat] := by
    refine ⟨_, 1, rfl, Nat.le_refl _, by decide, .inr ⟨_, 0, rfl, heap_lt hb, fun i x hi => ?_⟩⟩
    have hi0 : i = 0 := by have := (List.getElem?_eq_some_iff.1 hi).1; simpa using this
    subst hi0
    simp at hi
    subst hi
    have e : ((c.toNat : Nat) : Int) = c := by omega
    show _ = some (Value.int .u8 ((UInt8.ofNat c.toNat).toNat : Int))
    rw [toNat_ofNat (by omega), e]
    exact blk_cell hb 0 rfl
  exact sl_string hs Tryz.underlying90

theorem byte_string (w : World) (c : Int) (h0 : 0 ≤ c) (h1 : c ≤ 255) : (convert 90 9 (.slice (some ⟨w.heap.size, 0, none⟩) 1 1)).run Tryz.prog (w.alloc (.cells #[.int .u8 c] 5)) = .ok (.string ⟨#[UInt8.ofNat c.toNat]⟩) (w.alloc (.cells #[.int .u8 c] 5)) :=
  byte_at (heap_new w _) h0 h1

set_option maxRecDepth 100000 in
theorem refnum_any : ∀ (x : Nat) (w : World), x < 18446744073709551616 → Calls Tryz.prog 32 #[.int .u64 x] w (RetB (.string ⟨(numB x).toArray⟩) w) := by
  intro x
  induction x using Nat.strongRecOn with
  | ind x ih =>
    intro w hx
    have HX := Lib.hid hx
    clear hx
    by_cases h : x < 128
    · have hc := byte_string w (x : Int) (by omega) (by omega)
      have HB := Lib.hid (numB_lt h)
      clear ih HX
      go_enter Tryz.func32, Tryz.ntmps32
      go_wp2
      go_ret
      exact RetB.mk (by rw [HB.out]; rfl) ((Below.refl _ _).alloc (Nat.le_refl _) _)
    · have h1 : 128 ≤ x := by omega
      have HB := Lib.hid (numB_ge h1)
      have hr := fun W => ih (x / 128) (by omega) W (by have := HX.out; omega)
      have hlen := numB_len10 (x := x / 128) (by have := HX.out; omega)
      clear ih
      obtain ⟨m, hm⟩ : ∃ m, m = x % 128 := ⟨_, rfl⟩
      obtain ⟨q, hq⟩ : ∃ q, q = x / 128 := ⟨_, rfl⟩
      rw [← hq] at hr hlen
      have m1 : m < 128 := by omega
      have e1 : (x : Int).tmod 128 = (m : Int) := by rw [hm, Int.tmod_eq_emod_of_nonneg (by omega)]; omega
      have e2 : (x : Int).tdiv 128 = (q : Int) := by rw [hq, Int.tdiv_eq_ediv_of_nonneg (by omega)]; omega
      have hx63 : ¬ (x : Int) < 128 := by omega
      have e3 : IntKind.u64.wrap ((m : Int) + 128) = (m : Int) + 128 := IntWalk.u64_in _ (by omega)
      have e4 : IntKind.u8.wrap ((m : Int) + 128) = (m : Int) + 128 := IntWalk.u8_in _ (by omega)
      have HM := Lib.hid hm
      have HQ := Lib.hid hq
      have HLEN := Lib.hid hlen
      have e5 : IntKind.u64.wrap (q : Int) = (q : Int) := IntWalk.u64_in _ (by have := HX.out; omega)
      have hc1 := byte_at (w := (w.alloc (.cells #[.int .u8 ((m : Int) + 128)] 5)).drew) (heap_new w _) (c := (m : Int) + 128) (by omega) (by omega)
      have hcc : ¬ (9223372036854775807 < 1 + (numB q).length) := by omega
      clear hm hq hlen
      go_enter Tryz.func32, Tryz.ntmps32
      go_wp2
      go_region_law (first
        | (go_simp; go_at_call 32; refine (hr _).mono ?_; rintro e w2 ⟨rfl, hb2⟩; first | (have hx3 := bheap (W := (w.alloc (.cells #[.int .u8 ((m : Int) + 128)] 5)).drew) hb2 (heap_new w _) (by simp); have hc3 := byte_at hx3 (by omega) (by omega)) | (have hc2 := byte_string w2 ((m : Int) + 128) (by omega) (by omega))))
      all_goals
        go_wp2
        go_ret
        refine RetB.mk ?_ ?_
        · rw [HB.out, HM.out.symm, HQ.out.symm]
          have e : ((m : Int) + 128).toNat = m + 128 := by omega
          rw [e]
          exact congrArg Value.string (str_app [_] (numB q))
        · first
            | exact (belowD ((Below.refl _ w).alloc (Nat.le_refl _) _)).trans (hb2.mono (by simp))
            | exact ((belowD (Below.refl _ w)).trans hb2).alloc (hb2.size) _


/-- A signed number's. -/
def intB (x : Int) : Bs := if x < 0 then numB (2 * (-(x + 1)).toNat + 1) else numB (2 * x.toNat)
/-- A text's. -/
def textB (s : ByteArray) : Bs := numB s.size ++ bsOf s

theorem intB_len {x : Int} (h0 : -9223372036854775808 ≤ x) (h1 : x ≤ 9223372036854775807) : (intB x).length ≤ 10 := by
  unfold intB
  split
  · exact numB_len10 (by omega)
  · exact numB_len10 (by omega)
theorem textB_len {s : ByteArray} (h : s.size ≤ 1000000) : (textB s).length ≤ 10 + s.size := by
  unfold textB
  have := numB_len10 (x := s.size) (by omega)
  rw [List.length_append, bs_len]
  omega

theorem refint_any (w : World) (x : Int) (h0 : -9223372036854775808 ≤ x) (h1 : x ≤ 9223372036854775807) : Calls Tryz.prog 31 #[.int .i64 x] w (RetB (.string ⟨(intB x).toArray⟩) w) := by
  by_cases hx : x < 0
  · obtain ⟨m, hm⟩ : ∃ m : Nat, -(x + 1) = (m : Int) := ⟨(-(x + 1)).toNat, by omega⟩
    have m1 : m < 9223372036854775808 := by omega
    have HF : Hid (intB x = numB (2 * m + 1)) := Lib.hid (by unfold intB; rw [if_pos hx, show (-(x + 1)).toNat = m by omega])
    have hc := fun W => refnum_any (2 * m + 1) W (by omega)
    have w1 : IntKind.i64.wrap (x + 1) = x + 1 := by rw [IntKind.wrap_i64]; omega
    have w2 : IntKind.i64.wrap (-(x + 1)) = (m : Int) := by rw [IntKind.wrap_i64]; omega
    have w3 : IntKind.u64.wrap (m : Int) = (m : Int) := IntWalk.u64_in _ (by omega)
    have w4 : IntKind.u64.wrap (2 * (m : Int)) = 2 * (m : Int) := IntWalk.u64_in _ (by omega)
    have w5 : IntKind.u64.wrap (2 * (m : Int) + 1) = ((2 * m + 1 : Nat) : Int) := by rw [IntWalk.u64_in _ (by omega)]; omega
    clear hm
    go_enter Tryz.func31, Tryz.ntmps31
    go_wp2_with fail
    refine (hc _).mono ?_
    rintro e w' ⟨rfl, hb⟩
    go_wp2_with fail
    go_ret
    exact RetB.mk (by rw [HF.out]; rfl) hb
  · obtain ⟨m, rfl⟩ : ∃ m : Nat, x = (m : Int) := ⟨x.toNat, by omega⟩
    have HF : Hid (intB m = numB (2 * m)) := Lib.hid (by unfold intB; rw [if_neg hx, show (m : Int).toNat = m by omega])
    have hc := fun W => refnum_any (2 * m) W (by omega)
    have w3 : IntKind.u64.wrap (m : Int) = (m : Int) := IntWalk.u64_in _ (by omega)
    have w4 : IntKind.u64.wrap (2 * (m : Int)) = ((2 * m : Nat) : Int) := by rw [IntWalk.u64_in _ (by omega)]; omega
    go_enter Tryz.func31, Tryz.ntmps31
    go_wp2_with fail
    refine (hc _).mono ?_
    rintro e w' ⟨rfl, hb⟩
    go_wp2_with fail
    go_ret
    exact RetB.mk (by rw [HF.out]; rfl) hb

theorem reftext_any (w : World) (s : ByteArray) (h : s.size ≤ 1000000) : Calls Tryz.prog 30 #[.string s] w (RetB (.string ⟨(textB s).toArray⟩) w) := by
  have hl := numB_len10 (x := s.size) (by omega)
  have HF : Hid ((⟨(numB s.size).toArray⟩ : ByteArray) ++ s = ⟨(textB s).toArray⟩) := Lib.hid (by
    have := str_app (numB s.size) (bsOf s)
    rw [bs_back] at this
    exact this)
  have hc := fun W => refnum_any s.size W (by omega)
  have w3 : IntKind.u64.wrap (s.size : Int) = (s.size : Int) := IntWalk.u64_in _ (by omega)
  obtain ⟨B, hB⟩ : ∃ B : ByteArray, B = ⟨(numB s.size).toArray⟩ := ⟨_, rfl⟩
  have hbs : B.size ≤ 10 := by rw [hB]; exact hl
  rw [← hB] at HF hc
  have hcc : ¬ 9223372036854775807 < B.size + s.size := by omega
  clear hB hl
  go_enter Tryz.func30, Tryz.ntmps30
  go_wp2_with fail
  refine (hc _).mono ?_
  rintro e w' ⟨rfl, hb⟩
  go_wp2_with fail
  go_ret
  exact RetB.mk (by rw [← HF.out]; rfl) hb

end Go.Proofs.YtldieadbkaphkaaGreatDoor

namespace Go.Proofs.YtldieadbkaphkaaGreatDoor
open Go.RowKit Go.Sort Go.ChangeMaps

/-- An instance's name. -/
def instN (s : Sp) (k : Int) : Bs := bsOf s.name ++ 46 :: Lib.itoa k
/-- The n-th one; and whether there is one. -/
def instF (s : Sp) (k : Int) : Sp × Int :=
  if tmplB s = true ∧ 1 ≤ k ∧ k ≤ 999999 then (⟨⟨(instN s k).toArray⟩, s.ten, s.pri, s.delay, [], s.base, s.cap, s.att, s.lease, ⟨#[]⟩, 0⟩, 0)
  else (⟨⟨#[]⟩, ⟨#[]⟩, 0, 0, [], 0, 0, 0, 0, ⟨#[]⟩, 0⟩, 1)
theorem instF_no {s : Sp} {k : Int} (h : ¬ (tmplB s = true ∧ 1 ≤ k ∧ k ≤ 999999)) : instF s k = (⟨⟨#[]⟩, ⟨#[]⟩, 0, 0, [], 0, 0, 0, 0, ⟨#[]⟩, 0⟩, 1) := by unfold instF; rw [if_neg h]
theorem instF_yes {s : Sp} {k : Int} (h : tmplB s = true ∧ 1 ≤ k ∧ k ≤ 999999) : instF s k = (⟨⟨(instN s k).toArray⟩, s.ten, s.pri, s.delay, [], s.base, s.cap, s.att, s.lease, ⟨#[]⟩, 0⟩, 0) := by unfold instF; rw [if_pos h]

theorem itoa_good {k : Int} (h1 : 1 ≤ k) (h2 : k ≤ 999999) : goodB (Lib.itoa k) = true := good_back h1 h2 rfl
theorem itoa_val {k : Int} (h1 : 1 ≤ k) : (valD 0 (Lib.itoa k) : Int) = k := by
  unfold Lib.itoa
  rw [if_neg (by omega), dec_val]
  omega

theorem lastP_pre (l r : Bs) (b : UInt8) : ∀ k, k ≤ l.length → lastP (l ++ r) b k = lastP l b k
  | 0, _ => by rw [lastP, lastP]
  | k + 1, h => by rw [lastP, lastP, List.getElem?_append_left (by omega), lastP_pre l r b k (by omega)]
theorem lastP_tail (l r : Bs) (b : UInt8) (hr : b ∉ r) : ∀ k, k ≤ r.length → lastP (l ++ b :: r) b (l.length + 1 + k) = (l.length : Int)
  | 0, _ => by rw [Nat.add_zero, lastP, if_pos (by rw [List.getElem?_append_right (Nat.le_refl _), Nat.sub_self]; rfl)]
  | k + 1, h => by
    have hk : (l ++ b :: r)[l.length + 1 + k]? = some r[k] := by
      rw [List.getElem?_append_right (by omega), show l.length + 1 + k - l.length = k + 1 by omega, List.getElem?_cons_succ, List.getElem?_eq_getElem (by omega)]
    rw [← Nat.add_assoc, lastP, if_neg (by rw [hk]; exact fun e => hr (by have := Option.some.inj e; rw [← this]; exact List.getElem_mem _)), lastP_tail l r b hr k (by omega)]

/-- An instance's name tells the template's name and the number. -/
theorem of_inst {s : Sp} {k : Int} (h1 : 1 ≤ k) (h2 : k ≤ 999999) (hn : s.name.size ≤ 16) (hb : nameB s.name = true) : ofF (instN s k) = some (bsOf s.name, k.toNat) := by
  have hg := itoa_good h1 h2
  obtain ⟨g1, g2, g3, g4⟩ := good_parts hg
  have hno : (46 : UInt8) ∉ Lib.itoa k := fun h => by
    have := List.all_eq_true.1 g1 _ h
    exact absurd this (by decide)
  have hl := lastP_tail (bsOf s.name) (Lib.itoa k) 46 hno (Lib.itoa k).length (Nat.le_refl _)
  have hlen : (instN s k).length = (bsOf s.name).length + 1 + (Lib.itoa k).length := by unfold instN; simp; omega
  have hd : (instN s k).drop ((bsOf s.name).length + 1) = Lib.itoa k := by
    unfold instN; rw [List.drop_append, List.drop_eq_nil_of_le (by omega)]; simp
  have ht : (instN s k).take (bsOf s.name).length = bsOf s.name := by unfold instN; exact List.take_left' rfl
  have hlast : lastP (instN s k) 46 (instN s k).length = (((bsOf s.name).length : Nat) : Int) := by rw [hlen]; exact hl
  have hv := itoa_val h1
  rw [of_some hlast (by rw [hd]; exact hg) (by rw [bs_len]; exact hn) (by rw [ht, bs_back]; exact hb), hd, ht]
  congr 2
  omega

theorem nameL_inst {l ds : Bs} (h : nameL l = true) (hl : l.length ≤ 16) (hd : ds.length ≤ 6) (hg : ds.all digB = true) : nameL (l ++ 46 :: ds) = true := by
  unfold nameL at *
  simp only [Bool.and_eq_true, decide_eq_true_eq] at h
  obtain ⟨⟨⟨⟨h1, h2⟩, h3⟩, h4⟩, h5⟩ := h
  have hh : (l ++ 46 :: ds).getD 0 0 = l.getD 0 0 := by
    cases l with
    | nil => simp at h1
    | cons a r => rfl
  have ha : (l ++ 46 :: ds).all (fun c => signB c.toNat) = true := by
    rw [List.all_append, h5, List.all_cons]
    have h6 : ds.all (fun c => signB c.toNat) = true := by
      rw [List.all_eq_true] at hg ⊢
      intro c hc
      have := hg c hc
      rw [dig_iff] at this
      rw [signB_iff]
      exact .inr (.inl this)
    rw [h6]; rfl
  rw [hh, ha, decide_eq_true h3, decide_eq_true h4, decide_eq_true (p := 1 ≤ (l ++ 46 :: ds).length) (by simp; omega), decide_eq_true (p := (l ++ 46 :: ds).length ≤ 24) (by simp; omega)]
  rfl

/-- It is a spec that may be, and no template. -/
theorem check_inst {s : Sp} {k : Int} (ht : tmplB s = true) (h1 : 1 ≤ k) (h2 : k ≤ 999999) : checkF (instF s k).1 = 0 := by
  obtain ⟨t1, t2, t3, t4, t5, t6, t7, t8, t9⟩ := tmpl_is ht
  rw [instF_yes ⟨ht, h1, h2⟩]
  obtain ⟨g1, g2, g3, g4⟩ := good_parts (itoa_good h1 h2)
  unfold spNamesB at t1
  simp only [Bool.and_eq_true] at t1
  have hn : nameB ⟨(instN s k).toArray⟩ = true := nameL_inst t1.1.1 t9 g3 g1
  have hs : spNamesB ⟨⟨(instN s k).toArray⟩, s.ten, s.pri, s.delay, [], s.base, s.cap, s.att, s.lease, ⟨#[]⟩, 0⟩ = true := by
    unfold spNamesB
    rw [hn, t1.1.2]; rfl
  have hm : numbersB ⟨⟨(instN s k).toArray⟩, s.ten, s.pri, s.delay, [], s.base, s.cap, s.att, s.lease, ⟨#[]⟩, 0⟩ = true := by
    unfold numbersB at t2 ⊢
    simp only [Bool.and_eq_true, decide_eq_true_eq] at t2 ⊢
    refine ⟨?_, by decide⟩
    first
      | exact ⟨⟨⟨t2.1.1.1.1, by decide⟩, by decide⟩, by decide⟩
      | (refine ⟨⟨⟨?_, by decide⟩, by decide⟩, by decide⟩; simp only [t2, and_self])
      | simp [t2]
  unfold checkF
  rw [if_neg (by rw [hs]; decide), if_neg (by rw [hm]; decide), if_pos (by rfl), if_pos rfl]

set_option maxRecDepth 100000 in
set_option maxHeartbeats 8000000 in
theorem inst_any (w : World) (hm : MaxL w) (ht : Tabs w) (s : Sp) (a : Option Addr) (n cap : Nat) (h : SpAt w s a n cap) (hnl : s.name.size ≤ 1000) (k : Int) (k0 : -9223372036854775808 ≤ k) (k1 : k ≤ 9223372036854775807) :
    Calls Tryz.prog 13 #[s.v (.slice a n cap), .int .i64 k] w (RetB (.tuple #[(instF s k).1.v (.slice none 0 0), .int .i64 (instF s k).2]) w) := by
  have HT := Lib.hid (template_at w hm s a n cap h)
  have HIT := Lib.hid (fun W (hb : Below w.heap.size w W) => itoaG_any W (ht.below hb) k k0 k1)
  clear h hm ht
  unfold Sp.v Sp.cells
  go_enter Tryz.func13, Tryz.ntmps13
  go_upto_region 1 with (fail)
  obtain ⟨W1, hW1⟩ : ∃ W1, W1 = (w.alloc (.cells #[.string s.name, .string s.ten, .int .i64 s.pri, .int .i64 s.delay, .slice a n cap, .int .i64 s.base, .int .i64 s.cap, .int .i64 s.att, .int .i64 s.lease, .string s.cron, .int .i64 s.catch_] 24)).alloc (.cells #[.string ⟨#[]⟩, .string ⟨#[]⟩, .int .i64 0, .int .i64 0, .slice none 0 0, .int .i64 0, .int .i64 0, .int .i64 0, .int .i64 0, .string ⟨#[]⟩, .int .i64 0] 24) := ⟨_, rfl⟩
  rw [← hW1]
  have HX1 : Hid (W1.heap[w.heap.size]? = some (.cells #[.string s.name, .string s.ten, .int .i64 s.pri, .int .i64 s.delay, .slice a n cap, .int .i64 s.base, .int .i64 s.cap, .int .i64 s.att, .int .i64 s.lease, .string s.cron, .int .i64 s.catch_] 24)) := Lib.hid (by rw [hW1]; exact aheap (heap_new _ _) _)
  have HZ1 : Hid (W1.heap[w.heap.size + 1]? = some (.cells #[.string ⟨#[]⟩, .string ⟨#[]⟩, .int .i64 0, .int .i64 0, .slice none 0 0, .int .i64 0, .int .i64 0, .int .i64 0, .int .i64 0, .string ⟨#[]⟩, .int .i64 0] 24)) := Lib.hid (by rw [hW1]; exact heap_newAt (by simp))
  have HB1 : Hid (Below w.heap.size w W1) := Lib.hid (by rw [hW1]; exact ((Below.refl _ _).alloc (Nat.le_refl _) _).alloc (by simp) _)
  clear hW1
  have ht1 := HT.out W1 HB1.out
  obtain ⟨tb, htb⟩ : ∃ tb, tb = tmplB s := ⟨_, rfl⟩
  rw [← htb] at ht1
  have HTB := Lib.hid htb
  clear htb HT
  go_wp2_with (first | (refine wpList_load_all _ rfl _ _ rfl _ rfl _ _ _ _ HX1.out rfl _ Tryz.underlying24 rfl info_spec ?_) | fail)
  refine ht1.mono ?_
  rintro en w2 ⟨rfl, hb2⟩
  have HX2 := Lib.hid (bheap hb2 HX1.out (heap_lt HX1.out))
  have HZ2 := Lib.hid (bheap hb2 HZ1.out (heap_lt HZ1.out))
  have HB2 := Lib.hid (HB1.out.trans (hb2.mono HB1.out.size))
  clear hb2 ht1 HX1 HZ1 HB1
  cases tb
  case false =>
    have HF := Lib.hid (instF_no (s := s) (k := k) (fun h => by rw [← HTB.out] at h; cases h.1))
    go_wp2_with (first | (refine wpList_store_all _ rfl _ _ _ rfl _ rfl _ rfl _ _ HZ2.out ?_ ?_ info_spec ?_ ?_; (focus (simp; done)); (focus (simp; done)); (focus (simp [OneCells, Value.oneCell']; done)); rintro W3 hz3 hk3 hs3) | fail)
    refine bodyPost_ret (results_blk2 rfl _ _ _ _ _ _ rfl hz3 _ Tryz.underlying24 rfl info_spec) rfl ?_
    rw [HF.out]
    exact RetB.mk rfl (((Keeps.of_below HB2.out).trans (hk3.mono fun j _ hj => by show w.heap.size ≤ j; omega)).below (Nat.le_refl _) fun j hj => hj)
  by_cases k2 : k < 1
  · have HF := Lib.hid (instF_no (s := s) (k := k) (fun h => by omega))
    go_wp2_with (first | (refine wpList_store_all _ rfl _ _ _ rfl _ rfl _ rfl _ _ HZ2.out ?_ ?_ info_spec ?_ ?_; (focus (simp; done)); (focus (simp; done)); (focus (simp [OneCells, Value.oneCell']; done)); rintro W3 hz3 hk3 hs3) | fail)
    refine bodyPost_ret (results_blk2 rfl _ _ _ _ _ _ rfl hz3 _ Tryz.underlying24 rfl info_spec) rfl ?_
    rw [HF.out]
    exact RetB.mk rfl (((Keeps.of_below HB2.out).trans (hk3.mono fun j _ hj => by show w.heap.size ≤ j; omega)).below (Nat.le_refl _) fun j hj => hj)
  by_cases k3 : 999999 < k
  · have HF := Lib.hid (instF_no (s := s) (k := k) (fun h => by omega))
    go_wp2_with (first | (refine wpList_store_all _ rfl _ _ _ rfl _ rfl _ rfl _ _ HZ2.out ?_ ?_ info_spec ?_ ?_; (focus (simp; done)); (focus (simp; done)); (focus (simp [OneCells, Value.oneCell']; done)); rintro W3 hz3 hk3 hs3) | fail)
    refine bodyPost_ret (results_blk2 rfl _ _ _ _ _ _ rfl hz3 _ Tryz.underlying24 rfl info_spec) rfl ?_
    rw [HF.out]
    exact RetB.mk rfl (((Keeps.of_below HB2.out).trans (hk3.mono fun j _ hj => by show w.heap.size ≤ j; omega)).below (Nat.le_refl _) fun j hj => hj)
  have HF := Lib.hid (instF_yes (s := s) (k := k) ⟨HTB.out.symm, by omega, by omega⟩)
  have hil := good_parts (itoa_good (k := k) (by omega) (by omega))
  have HNS : Hid ((s.name ++ (⟨#[46]⟩ ++ ⟨(Lib.itoa k).toArray⟩) : ByteArray) = ⟨(instN s k).toArray⟩) := Lib.hid (by
    unfold instN
    have := str_app (bsOf s.name) (46 :: Lib.itoa k)
    rw [bs_back] at this
    rw [← this]
    congr 1)
  have hil6 : (⟨(Lib.itoa k).toArray⟩ : ByteArray).size ≤ 6 := by show (Lib.itoa k).toArray.size ≤ 6; simp; exact hil.2.2.1
  have QI := Lib.hid fun d os => Calls.regrown_of ((HIT.out (grow (redrawn w2 d) os) (HB2.out.trans ((below_regrown w2 d os).mono HB2.out.size))).mono fun e w' h => ⟨h.1, h.2⟩)
  generalize (⟨(Lib.itoa k).toArray⟩ : ByteArray) = IT at *
  have g0 : ∀ d os, (grow (redrawn w2 d) os).cell? ⟨w.heap.size, 0, none⟩ = some (.string s.name) := cell_regrown (blk_cell HX2.out 0 rfl)
  have hc1 : ¬ 9223372036854775807 < 1 + IT.size := by omega
  have hc2 : ¬ 9223372036854775807 < s.name.size + (1 + IT.size) := by omega
  clear hil HIT
  go_upto_region 3 with (fail)
  refine region_quiet_tail 7 (by kernel_rfl) (by kernel_rfl) ?_
  simp only [List.take_succ_cons, List.take_zero, List.drop_succ_cons, List.drop_zero]
  repeat (quiet_step (first | (with_reducible exact QI.out _ _)))
  refine wpQuiet_nil ?_
  intro w3 hw'
  have hb3 : Below w2.heap.size w2 w3 := by
    obtain ⟨⟨dq, osq⟩, hw''⟩ := hw'
    subst hw''
    exact below_regrown w2 dq osq
  clear hw' g0 QI
  have HX3 := Lib.hid (bheap hb3 HX2.out (heap_lt HX2.out))
  have HZ3 := Lib.hid (bheap hb3 HZ2.out (heap_lt HZ2.out))
  have HB3 := Lib.hid (HB2.out.trans (hb3.mono HB2.out.size))
  clear hb3 HX2 HZ2 HB2
  have c0 : w3.cell? ⟨w.heap.size, 0, none⟩ = some (.string s.name) := blk_cell HX3.out 0 rfl
  have d0 : w3.frozen? ⟨w.heap.size, 0, none⟩ = false := blk_free HX3.out 0
  go_upto_region 4 with (fail)
  obtain ⟨w4, hw4⟩ : ∃ w4, w4 = w3.setCell ⟨w.heap.size, 0, none⟩ (.string (s.name ++ (⟨#[46]⟩ ++ IT))) := ⟨_, rfl⟩
  rw [← hw4]
  have hB0 : w.heap.size + 1 ≠ w.heap.size := by omega
  have HX4 : Hid (w4.heap[w.heap.size]? = some (.cells #[.string ⟨(instN s k).toArray⟩, .string s.ten, .int .i64 s.pri, .int .i64 s.delay, .slice a n cap, .int .i64 s.base, .int .i64 s.cap, .int .i64 s.att, .int .i64 s.lease, .string s.cron, .int .i64 s.catch_] 24)) := Lib.hid (by rw [hw4, ← HNS.out]; exact blk_set HX3.out 0 _)
  have HZ4 : Hid (w4.heap[w.heap.size + 1]? = some (.cells #[.string ⟨#[]⟩, .string ⟨#[]⟩, .int .i64 0, .int .i64 0, .slice none 0 0, .int .i64 0, .int .i64 0, .int .i64 0, .int .i64 0, .string ⟨#[]⟩, .int .i64 0] 24)) := Lib.hid (by rw [hw4]; exact blk_set_other HZ3.out hB0 _)
  have KB4 : Hid (Keeps (fun j => w.heap.size ≤ j) w w4) := Lib.hid (by rw [hw4]; exact (Keeps.of_below HB3.out).setCell (.inl (Nat.le_refl _)) _)
  clear hw4 c0 d0 hc1 hc2 HX3 HZ3 HB3 HNS hil6
  have a9 : w4.cell? ⟨w.heap.size, 9, none⟩ = some (.string s.cron) := blk_cell HX4.out 9 rfl
  have b9 : w4.frozen? ⟨w.heap.size, 9, none⟩ = false := blk_free HX4.out 9
  have h5 := blk_set HX4.out 9 (.string ⟨#[]⟩)
  have a10 : (w4.setCell ⟨w.heap.size, 9, none⟩ (.string ⟨#[]⟩)).cell? ⟨w.heap.size, 10, none⟩ = some (.int .i64 s.catch_) := blk_cell h5 10 rfl
  have b10 : (w4.setCell ⟨w.heap.size, 9, none⟩ (.string ⟨#[]⟩)).frozen? ⟨w.heap.size, 10, none⟩ = false := blk_free h5 10
  have h6 := blk_set h5 10 (.int .i64 0)
  have a4 : ((w4.setCell ⟨w.heap.size, 9, none⟩ (.string ⟨#[]⟩)).setCell ⟨w.heap.size, 10, none⟩ (.int .i64 0)).cell? ⟨w.heap.size, 4, none⟩ = some (.slice a n cap) := blk_cell h6 4 rfl
  have b4 : ((w4.setCell ⟨w.heap.size, 9, none⟩ (.string ⟨#[]⟩)).setCell ⟨w.heap.size, 10, none⟩ (.int .i64 0)).frozen? ⟨w.heap.size, 4, none⟩ = false := blk_free h6 4
  have H7 := Lib.hid (blk_set h6 4 (.slice none 0 0))
  clear h5 h6
  go_upto_region 5 with (fail)
  obtain ⟨w7, hw7⟩ : ∃ w7, w7 = ((w4.setCell ⟨w.heap.size, 9, none⟩ (.string ⟨#[]⟩)).setCell ⟨w.heap.size, 10, none⟩ (.int .i64 0)).setCell ⟨w.heap.size, 4, none⟩ (.slice none 0 0) := ⟨_, rfl⟩
  rw [← hw7]
  have HX7 : Hid (w7.heap[w.heap.size]? = some (.cells #[.string ⟨(instN s k).toArray⟩, .string s.ten, .int .i64 s.pri, .int .i64 s.delay, .slice none 0 0, .int .i64 s.base, .int .i64 s.cap, .int .i64 s.att, .int .i64 s.lease, .string ⟨#[]⟩, .int .i64 0] 24)) := Lib.hid (by rw [hw7]; exact H7.out)
  have HZ7 : Hid (w7.heap[w.heap.size + 1]? = some (.cells #[.string ⟨#[]⟩, .string ⟨#[]⟩, .int .i64 0, .int .i64 0, .slice none 0 0, .int .i64 0, .int .i64 0, .int .i64 0, .int .i64 0, .string ⟨#[]⟩, .int .i64 0] 24)) := Lib.hid (by rw [hw7]; exact blk_set_other (blk_set_other (blk_set_other HZ4.out hB0 _) hB0 _) hB0 _)
  have KB7 : Hid (Keeps (fun j => w.heap.size ≤ j) w w7) := Lib.hid (by rw [hw7]; exact ((KB4.out.setCell (.inl (Nat.le_refl _)) _).setCell (.inl (Nat.le_refl _)) _).setCell (.inl (Nat.le_refl _)) _)
  clear hw7 a9 b9 a10 b10 a4 b4 H7 HX4 HZ4 KB4
  go_wp2_with (first | (refine wpList_load_all _ rfl _ _ rfl _ rfl _ _ _ _ HX7.out rfl _ Tryz.underlying24 rfl info_spec ?_) | (refine wpList_store_all _ rfl _ _ _ rfl _ rfl _ rfl _ _ HZ7.out ?_ ?_ info_spec ?_ ?_; (focus (simp; done)); (focus (simp; done)); (focus (simp [OneCells, Value.oneCell']; done)); rintro W3 hz3 hk3 hs3) | fail)
  refine bodyPost_ret (results_blk2 rfl _ _ _ _ _ _ rfl hz3 _ Tryz.underlying24 rfl info_spec) rfl ?_
  rw [HF.out]
  exact RetB.mk rfl ((KB7.out.trans (hk3.mono fun j _ hj => by show w.heap.size ≤ j; omega)).below (Nat.le_refl _) fun j hj => hj)

end Go.Proofs.YtldieadbkaphkaaGreatDoor

namespace Go.Proofs.YtldieadbkaphkaaGreatDoor
open Go.RowKit

/-- The statement's own number, whatever the bytes are. -/
def vI (acc : Int) (l : List UInt8) : Int := List.foldl (fun a (c : UInt8) => a * 10 + (c.toNat : Int) - 48) acc l
theorem vI_nil (acc : Int) : vI acc [] = acc := by unfold vI; exact List.foldl_nil
theorem vI_cons (acc : Int) (c : UInt8) (r : List UInt8) : vI acc (c :: r) = vI (acc * 10 + (c.toNat : Int) - 48) r := by unfold vI; exact List.foldl_cons ..
theorem vI_snoc (acc : Int) (c : UInt8) (r : List UInt8) : vI acc (r ++ [c]) = vI acc r * 10 + (c.toNat : Int) - 48 := by unfold vI; rw [List.foldl_append, List.foldl_cons, List.foldl_nil]
attribute [irreducible] vI
theorem vI_val : ∀ (l : List UInt8) (acc : Nat), l.all digB = true → vI acc l = (valD acc l : Int)
  | [], acc, _ => by rw [vI_nil, valD_nil]
  | c :: r, acc, h => by
    rw [List.all_cons, Bool.and_eq_true, dig_iff] at h
    rw [vI_cons, valD_cons, ← vI_val r _ h.2]
    congr 1
    omega
theorem vI_bound : ∀ (l : List UInt8) (B : Nat) (acc : Int), -(B : Int) ≤ acc → acc ≤ B → vI acc l ≤ (((B + 23) * 10 ^ l.length : Nat) : Int) ∧ -(((B + 23) * 10 ^ l.length : Nat) : Int) ≤ vI acc l
  | [], B, acc, h1, h2 => by rw [vI_nil]; simp only [List.length_nil, Nat.pow_zero, Nat.mul_one]; omega
  | c :: r, B, acc, h1, h2 => by
    have hc := c.toNat_lt
    have ih := vI_bound r (10 * B + 207) (acc * 10 + (c.toNat : Int) - 48) (by omega) (by omega)
    rw [vI_cons]
    have e : (10 * B + 207 + 23) * 10 ^ r.length = (B + 23) * 10 ^ (c :: r).length := by
      rw [List.length_cons, Nat.pow_succ, Nat.mul_comm (10 ^ r.length) 10, ← Nat.mul_assoc]
      congr 1
      omega
    rw [e] at ih
    exact ih
theorem vI_small {l : List UInt8} (h : l.length ≤ 7) : vI 0 l ≤ 230000000 ∧ -230000000 ≤ vI 0 l := by
  have hb := vI_bound l 0 0 (by omega) (by omega)
  have hp : 10 ^ l.length ≤ 10 ^ 7 := Nat.pow_le_pow_right (by omega) h
  have : (0 + 23) * 10 ^ l.length ≤ 230000000 := by omega
  omega

/-- The first test, of the lengths. -/
def wantB (d : Int) (n : Nat) : Bool := decide (0 ≤ d) && decide (d ≤ 16) && decide (d + 1 < (n : Int)) && decide ((n : Int) ≤ d + 7)
/-- Without it there is none. -/
theorem of_want {l : Bs} (h : wantB (lastP l 46 l.length) l.length = false) : ofF l = none := by
  unfold wantB at h
  unfold ofF
  split
  · rfl
  · rename_i h0
    rw [if_neg]
    rintro ⟨h1, h2, _⟩
    obtain ⟨_, g1, g2, _⟩ := good_parts h1
    rw [List.length_drop] at g1 g2
    simp only [Bool.and_eq_false_iff, decide_eq_false_iff_not] at h
    omega
/-- With it, by the bytes. -/
theorem of_wanted {l : Bs} {d : Nat} (hd : lastP l 46 l.length = (d : Int)) (h : wantB (d : Int) l.length = true) :
    (ofF l).isSome = (nameB ⟨(l.take d).toArray⟩ && decide ((l.drop (d + 1)).head? ≠ some 48) && (l.drop (d + 1)).all digB) ∧
    (∀ t k, ofF l = some (t, k) → t = l.take d ∧ (k : Int) = vI 0 (l.drop (d + 1))) := by
  unfold wantB at h
  simp only [Bool.and_eq_true, decide_eq_true_eq] at h
  have hg : goodB (l.drop (d + 1)) = (decide ((l.drop (d + 1)).head? ≠ some 48) && (l.drop (d + 1)).all digB) := by
    unfold goodB
    rw [decide_eq_true (p := 1 ≤ (l.drop (d + 1)).length) (by rw [List.length_drop]; omega), decide_eq_true (p := (l.drop (d + 1)).length ≤ 6) (by rw [List.length_drop]; omega), Bool.and_true, Bool.and_true, Bool.and_comm]
  cases h1 : goodB (l.drop (d + 1))
  · rw [of_none2 hd h1]
    refine ⟨?_, fun t k e => by cases e⟩
    rw [Bool.and_assoc, ← hg, h1, Bool.and_false]; rfl
  · cases h3 : nameB ⟨(l.take d).toArray⟩
    · rw [of_none4 hd h3]
      exact ⟨rfl, fun t k e => by cases e⟩
    · rw [of_some hd h1 (by omega) h3]
      refine ⟨?_, fun t k e => ?_⟩
      · rw [Bool.and_assoc, ← hg, h1]; rfl
      · cases e
        exact ⟨rfl, by rw [← vI_val _ 0 (good_parts h1).1]; rfl⟩

/-- What Of answers, taken apart. -/
theorem ofV_parts (l : Bs) : ∃ (tS : ByteArray) (kI : Int) (ok : Bool), ofV (ofF l) = .tuple #[.string tS, .int .i64 kI, .bool ok] ∧ ok = (ofF l).isSome ∧
    (ok = true → ∃ t k, ofF l = some (t, k) ∧ tS = ⟨t.toArray⟩ ∧ kI = (k : Nat)) ∧ (ok = false → tS = ⟨#[]⟩ ∧ kI = 0) := by
  cases h : ofF l with
  | none => exact ⟨⟨#[]⟩, 0, false, rfl, rfl, fun e => (by cases e), fun _ => ⟨rfl, rfl⟩⟩
  | some p =>
    obtain ⟨t, k⟩ := p
    exact ⟨⟨t.toArray⟩, k, true, rfl, rfl, fun _ => ⟨t, k, rfl, rfl, rfl⟩, fun e => by cases e⟩

end Go.Proofs.YtldieadbkaphkaaGreatDoor

namespace Go.Proofs.YtldieadbkaphkaaGreatDoor
open Go.RowKit Go.Sort

/-- The bytes of a spec without dependencies. -/
def specB (s : Sp) : Bs := textB s.name ++ textB s.ten ++ intB s.pri ++ intB s.delay ++ numB 0 ++ intB s.base ++ intB s.cap ++ intB s.att ++ intB s.lease ++ textB s.cron ++ intB s.catch_

set_option maxRecDepth 100000 in
set_option maxHeartbeats 8000000 in
theorem refbytes_any (w : World) (s : Sp) (a : Option Addr) (cap : Nat) (wf : s.Wf) (z1 : s.name.size ≤ 60) (z2 : s.ten.size ≤ 60) (z3 : s.cron.size ≤ 200) :
    Calls Tryz.prog 16 #[s.v (.slice a 0 cap)] w (RetB (.string ⟨(specB s).toArray⟩) w) := by
  obtain ⟨_, _, _, _, b2, b3, b5, b6, b7, b8, b10⟩ := wf
  unfold i64B at *
  have HN := fun W => reftext_any W s.name (by omega)
  have HT := fun W => reftext_any W s.ten (by omega)
  have HC := fun W => reftext_any W s.cron (by omega)
  have H2 := fun W => refint_any W s.pri b2.1 b2.2
  have H3 := fun W => refint_any W s.delay b3.1 b3.2
  have H5 := fun W => refint_any W s.base b5.1 b5.2
  have H6 := fun W => refint_any W s.cap b6.1 b6.2
  have H7 := fun W => refint_any W s.att b7.1 b7.2
  have H8 := fun W => refint_any W s.lease b8.1 b8.2
  have H10 := fun W => refint_any W s.catch_ b10.1 b10.2
  have H0 : ∀ W, Calls Tryz.prog 32 #[.int .u64 0] W (RetB (.string ⟨(numB 0).toArray⟩) W) := fun W => refnum_any 0 W (by omega)
  have hw0 : IntKind.u64.wrap 0 = 0 := by decide
  have l1 := textB_len (s := s.name) (by omega)
  have l2 := textB_len (s := s.ten) (by omega)
  have l3 := textB_len (s := s.cron) (by omega)
  have m2 := intB_len b2.1 b2.2
  have m3 := intB_len b3.1 b3.2
  have m5 := intB_len b5.1 b5.2
  have m6 := intB_len b6.1 b6.2
  have m7 := intB_len b7.1 b7.2
  have m8 := intB_len b8.1 b8.2
  have m10 := intB_len b10.1 b10.2
  have m0 := numB_len10 (x := 0) (by omega)
  have HF : Hid (specB s = textB s.name ++ textB s.ten ++ intB s.pri ++ intB s.delay ++ numB 0 ++ intB s.base ++ intB s.cap ++ intB s.att ++ intB s.lease ++ textB s.cron ++ intB s.catch_) := Lib.hid rfl
  generalize specB s = R at *
  generalize textB s.name = TN at *
  generalize textB s.ten = TT at *
  generalize textB s.cron = TC at *
  generalize intB s.pri = I2 at *
  generalize intB s.delay = I3 at *
  generalize intB s.base = I5 at *
  generalize intB s.cap = I6 at *
  generalize intB s.att = I7 at *
  generalize intB s.lease = I8 at *
  generalize intB s.catch_ = I10 at *
  generalize numB 0 = N0 at *
  have HLEN : Hid (TN.length ≤ 70 ∧ TT.length ≤ 70 ∧ TC.length ≤ 210 ∧ I2.length ≤ 10 ∧ I3.length ≤ 10 ∧ I5.length ≤ 10 ∧ I6.length ≤ 10 ∧ I7.length ≤ 10 ∧ I8.length ≤ 10 ∧ I10.length ≤ 10 ∧ N0.length ≤ 10) := Lib.hid ⟨by omega, by omega, by omega, m2, m3, m5, m6, m7, m8, m10, m0⟩
  clear l1 l2 l3 m2 m3 m5 m6 m7 m8 m10 m0 b2 b3 b5 b6 b7 b8 b10 z1 z2 z3
  obtain ⟨W0, hW0⟩ : ∃ W0, W0 = w.alloc (.cells #[.string s.name, .string s.ten, .int .i64 s.pri, .int .i64 s.delay, .slice a 0 cap, .int .i64 s.base, .int .i64 s.cap, .int .i64 s.att, .int .i64 s.lease, .string s.cron, .int .i64 s.catch_] 24) := ⟨_, rfl⟩
  have HX : Hid (W0.heap[w.heap.size]? = some (.cells #[.string s.name, .string s.ten, .int .i64 s.pri, .int .i64 s.delay, .slice a 0 cap, .int .i64 s.base, .int .i64 s.cap, .int .i64 s.att, .int .i64 s.lease, .string s.cron, .int .i64 s.catch_] 24)) := Lib.hid (by rw [hW0]; exact heap_new w _)
  have HB : Hid (Below w.heap.size w W0) := Lib.hid (by rw [hW0]; exact (Below.refl _ _).alloc (Nat.le_refl _) _)
  have HW0 := Lib.hid hW0
  clear hW0
  unfold Sp.v Sp.cells
  go_enter Tryz.func16, Tryz.ntmps16
  go_upto_region 1 with (fail)
  rw [← HW0.out]
  clear HW0
  have g0 : ∀ d os, (grow (redrawn W0 d) os).cell? ⟨w.heap.size, 0, none⟩ = some (.string s.name) := cell_regrown (blk_cell HX.out 0 rfl)
  have g1 : ∀ d os, (grow (redrawn W0 d) os).cell? ⟨w.heap.size, 1, none⟩ = some (.string s.ten) := cell_regrown (blk_cell HX.out 1 rfl)
  have g2 : ∀ d os, (grow (redrawn W0 d) os).cell? ⟨w.heap.size, 2, none⟩ = some (.int .i64 s.pri) := cell_regrown (blk_cell HX.out 2 rfl)
  have g3 : ∀ d os, (grow (redrawn W0 d) os).cell? ⟨w.heap.size, 3, none⟩ = some (.int .i64 s.delay) := cell_regrown (blk_cell HX.out 3 rfl)
  have g4 : ∀ d os, (grow (redrawn W0 d) os).cell? ⟨w.heap.size, 4, none⟩ = some (.slice a 0 cap) := cell_regrown (blk_cell HX.out 4 rfl)
  have QN := Lib.hid fun d os => Calls.regrown_of ((HN (grow (redrawn W0 d) os)).mono fun e w' h => ⟨h.1, h.2⟩)
  have QT := Lib.hid fun d os => Calls.regrown_of ((HT (grow (redrawn W0 d) os)).mono fun e w' h => ⟨h.1, h.2⟩)
  have Q2 := Lib.hid fun d os => Calls.regrown_of ((H2 (grow (redrawn W0 d) os)).mono fun e w' h => ⟨h.1, h.2⟩)
  have Q3 := Lib.hid fun d os => Calls.regrown_of ((H3 (grow (redrawn W0 d) os)).mono fun e w' h => ⟨h.1, h.2⟩)
  have Q0 := Lib.hid fun d os => Calls.regrown_of ((H0 (grow (redrawn W0 d) os)).mono fun e w' h => ⟨h.1, h.2⟩)
  have f1 : ¬ 9223372036854775807 < TN.length + TT.length := by have := HLEN.out; omega
  have f2 : ¬ 9223372036854775807 < TN.length + TT.length + I2.length := by have := HLEN.out; omega
  have f3 : ¬ 9223372036854775807 < TN.length + TT.length + I2.length + I3.length := by have := HLEN.out; omega
  have f4 : ¬ 9223372036854775807 < TN.length + TT.length + I2.length + I3.length + N0.length := by have := HLEN.out; omega
  clear HN HT H2 H3 H0
  refine wp_region_quiet_below (by kernel_rfl) (by kernel_rfl) ?_
  repeat (quiet_step (first | (with_reducible exact QN.out _ _) | (with_reducible exact QT.out _ _) | (with_reducible exact Q2.out _ _) | (with_reducible exact Q3.out _ _) | (with_reducible exact Q0.out _ _)))
  refine wpQuiet_nil ?_
  intro w3 hw'
  have hb3 : Below W0.heap.size W0 w3 := by
    obtain ⟨⟨dq, osq⟩, hw''⟩ := hw'
    subst hw''
    exact below_regrown W0 dq osq
  clear hw' g0 g1 g2 g3 g4 f1 f2 f3 f4 QN QT Q2 Q3 Q0 hw0
  have HX3 := Lib.hid (bheap hb3 HX.out (heap_lt HX.out))
  have HB3 := Lib.hid (HB.out.trans (hb3.mono HB.out.size))
  clear hb3 HX HB
  have HE : Hid ((⟨TN.toArray⟩ ++ ⟨TT.toArray⟩ ++ ⟨I2.toArray⟩ ++ ⟨I3.toArray⟩ ++ ⟨N0.toArray⟩ : ByteArray) = ⟨(TN ++ TT ++ I2 ++ I3 ++ N0).toArray⟩) := Lib.hid (by rw [str_app, str_app, str_app, str_app])
  have he := HE.out
  obtain ⟨Y, hY⟩ : ∃ Y : ByteArray, Y = ⟨TN.toArray⟩ ++ ⟨TT.toArray⟩ ++ ⟨I2.toArray⟩ ++ ⟨I3.toArray⟩ ++ ⟨N0.toArray⟩ := ⟨_, rfl⟩
  rw [← hY] at he ⊢
  have HYL : Hid (Y.size ≤ 170) := Lib.hid (by rw [he]; show (TN ++ TT ++ I2 ++ I3 ++ N0).toArray.size ≤ 170; have := HLEN.out; simp; omega)
  have HYE := Lib.hid he
  clear hY he HE
  have c4 : w3.cell? ⟨w.heap.size, 4, none⟩ = some (.slice a 0 cap) := blk_cell HX3.out 4 rfl
  go_wp2_with fail
  go_loop [3, 30] (fun r i => r = .string Y ∧ i = .int .i64 0) (fun _ _ => 0)
  case atStart => exact ⟨rfl, rfl⟩
  case round =>
    obtain ⟨rfl, rfl⟩ := hrel
    clear c4
    go_upto_region 7 with (fail)
    have g5 : ∀ d os, (grow (redrawn w3 d) os).cell? ⟨w.heap.size, 5, none⟩ = some (.int .i64 s.base) := cell_regrown (blk_cell HX3.out 5 rfl)
    have g6 : ∀ d os, (grow (redrawn w3 d) os).cell? ⟨w.heap.size, 6, none⟩ = some (.int .i64 s.cap) := cell_regrown (blk_cell HX3.out 6 rfl)
    have g7 : ∀ d os, (grow (redrawn w3 d) os).cell? ⟨w.heap.size, 7, none⟩ = some (.int .i64 s.att) := cell_regrown (blk_cell HX3.out 7 rfl)
    have g8 : ∀ d os, (grow (redrawn w3 d) os).cell? ⟨w.heap.size, 8, none⟩ = some (.int .i64 s.lease) := cell_regrown (blk_cell HX3.out 8 rfl)
    have g9 : ∀ d os, (grow (redrawn w3 d) os).cell? ⟨w.heap.size, 9, none⟩ = some (.string s.cron) := cell_regrown (blk_cell HX3.out 9 rfl)
    have g10 : ∀ d os, (grow (redrawn w3 d) os).cell? ⟨w.heap.size, 10, none⟩ = some (.int .i64 s.catch_) := cell_regrown (blk_cell HX3.out 10 rfl)
    have Q5 := Lib.hid fun d os => Calls.regrown_of ((H5 (grow (redrawn w3 d) os)).mono fun e w' h => ⟨h.1, h.2⟩)
    have Q6 := Lib.hid fun d os => Calls.regrown_of ((H6 (grow (redrawn w3 d) os)).mono fun e w' h => ⟨h.1, h.2⟩)
    have Q7 := Lib.hid fun d os => Calls.regrown_of ((H7 (grow (redrawn w3 d) os)).mono fun e w' h => ⟨h.1, h.2⟩)
    have Q8 := Lib.hid fun d os => Calls.regrown_of ((H8 (grow (redrawn w3 d) os)).mono fun e w' h => ⟨h.1, h.2⟩)
    have QC := Lib.hid fun d os => Calls.regrown_of ((HC (grow (redrawn w3 d) os)).mono fun e w' h => ⟨h.1, h.2⟩)
    have QX := Lib.hid fun d os => Calls.regrown_of ((H10 (grow (redrawn w3 d) os)).mono fun e w' h => ⟨h.1, h.2⟩)
    have f1 : ¬ 9223372036854775807 < Y.size + I5.length := by have := HLEN.out; have := HYL.out; omega
    have f2 : ¬ 9223372036854775807 < Y.size + I5.length + I6.length := by have := HLEN.out; have := HYL.out; omega
    have f3 : ¬ 9223372036854775807 < Y.size + I5.length + I6.length + I7.length := by have := HLEN.out; have := HYL.out; omega
    have f4 : ¬ 9223372036854775807 < Y.size + I5.length + I6.length + I7.length + I8.length := by have := HLEN.out; have := HYL.out; omega
    have f5 : ¬ 9223372036854775807 < Y.size + I5.length + I6.length + I7.length + I8.length + TC.length := by have := HLEN.out; have := HYL.out; omega
    have f6 : ¬ 9223372036854775807 < Y.size + I5.length + I6.length + I7.length + I8.length + TC.length + I10.length := by have := HLEN.out; have := HYL.out; omega
    clear H5 H6 H7 H8 HC H10
    refine wp_region_quiet_below (by kernel_rfl) (by kernel_rfl) ?_
    repeat (quiet_step (first | (with_reducible exact Q5.out _ _) | (with_reducible exact Q6.out _ _) | (with_reducible exact Q7.out _ _) | (with_reducible exact Q8.out _ _) | (with_reducible exact QC.out _ _) | (with_reducible exact QX.out _ _)))
    refine wpQuiet_nil ?_
    intro w4 hw'
    have HB4 : Hid (Below w.heap.size w w4) := Lib.hid (by
      obtain ⟨⟨dq, osq⟩, hw''⟩ := hw'
      subst hw''
      exact HB3.out.trans (Below.mono (below_regrown w3 dq osq) HB3.out.size))
    clear hw'
    go_wp2_with fail
    go_ret
    exact RetB.mk (by rw [HYE.out, str_app, str_app, str_app, str_app, str_app, str_app, HF.out]; rfl) HB4.out

end Go.Proofs.YtldieadbkaphkaaGreatDoor

namespace Go.Proofs.YtldieadbkaphkaaGreatDoor
open Go.RowKit

theorem star_err : "*" ++ "errors.errorString" = "*errors.errorString" := by decide
theorem row_err (u : TypeId) (h : Tryz.prog.typeName? 3 u = some "*errors.errorString") : u = 141 :=
  typeName_ptr_named (nm := "errors.errorString") (by rw [star_err]; kernel_rfl) (by kernel_rfl) (by decide) u (by rw [star_err]; exact h)

theorem tabs_of {x1 x2 x4 : String × DataW Unit} {r : List (String × DataW Unit)} {W : World}
    (h : laidMet Tryz.prog (x1 :: x2 :: ("internal/strconv.uint64pow10", Lib.tabData .u64 Lib.pow10Tab) :: x4 ::
      ("strconv.ErrRange", .iface "*errors.errorString" (.ptr (.agg [.lit (.string [118, 97, 108, 117, 101, 32, 111, 117, 116, 32, 111, 102, 32, 114, 97, 110, 103, 101])]))) ::
      ("strconv.ErrSyntax", .iface "*errors.errorString" (.ptr (.agg [.lit (.string [105, 110, 118, 97, 108, 105, 100, 32, 115, 121, 110, 116, 97, 120])]))) :: r) W) : Tabs W := by
  have h3 := h.tail.tail
  have h5 := h3.tail.tail
  obtain ⟨a0, s0, hv0, -, -, -⟩ := laid_sentinel h5 (show Tryz.prog.globalNamed "strconv.ErrRange" = some 2 by kernel_rfl) (show (Tryz.prog.globals[2]?).map (·.type) = some 69 by kernel_rfl) Tryz.underlying69 row_err Tryz.underlying141 Tryz.underlying143 rfl rfl Tryz.underlying9 (by kernel_rfl) (by kernel_rfl)
  obtain ⟨a1, s1, hv1, -, -, -⟩ := laid_sentinel h5.tail (show Tryz.prog.globalNamed "strconv.ErrSyntax" = some 1 by kernel_rfl) (show (Tryz.prog.globals[1]?).map (·.type) = some 69 by kernel_rfl) Tryz.underlying69 row_err Tryz.underlying141 Tryz.underlying143 rfl rfl Tryz.underlying9 (by kernel_rfl) (by kernel_rfl)
  refine ⟨Lib.tabIs_of_head (show Tryz.prog.globalNamed "internal/strconv.uint64pow10" = some 3 by kernel_rfl) (show (Tryz.prog.globals[3]?).map (·.type) = some 136 by kernel_rfl) Tryz.underlying136 Tryz.underlying51 (by kernel_rfl) (by kernel_rfl) h3, ⟨_, _, hv1⟩, ⟨_, _, hv0⟩⟩

end Go.Proofs.YtldieadbkaphkaaGreatDoor

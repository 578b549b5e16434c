/- The statement ConfMeets: its plain law, and its walk. -/
import Derived.Test.YtnnibcfbcpipfaaConfS
import Derived.Test.YtnnibcfbcpipfaaConfAgreed
namespace Go.Proofs.Ytnnibcfbcpipfaa
open Go.RowKit

theorem ofB_eq (b : Nat) : ofB b = (([1, 2, 3, 4, 5, 6, 7] : List Nat).filter fun n => b.testBit n).map fun n : Nat => (n : Int) := by
  unfold ofB ofK
  rw [show List.range 7 = [0, 1, 2, 3, 4, 5, 6] from rfl]
  simp only [List.filter_cons, List.filter_nil]
  repeat' split
  all_goals rfl

theorem mem_ofB (b n : Nat) : ((n : Int) ∈ ofB b) ↔ 1 ≤ n ∧ n ≤ 7 ∧ b.testBit n = true := by
  rw [ofB_eq]
  simp only [List.mem_map, List.mem_filter, List.mem_cons, List.not_mem_nil, or_false]
  constructor
  · rintro ⟨m, ⟨h1, h2⟩, h3⟩
    have : m = n := by omega
    subst this
    exact ⟨by omega, by omega, h2⟩
  · rintro ⟨h1, h2, h3⟩
    exact ⟨n, ⟨by omega, h3⟩, rfl⟩

theorem filter_len {α : Type} (p : α → Bool) : ∀ l : List α, (l.filter p).length = (l.map fun x => (p x).toNat).sum
  | [] => rfl
  | x :: r => by
    rw [List.filter_cons, List.map_cons, List.sum_cons, ← filter_len p r]
    cases p x <;> simp [Nat.add_comm]

theorem ofB_len (b : Nat) : (ofB b).length = (b.testBit 1).toNat + (b.testBit 2).toNat + (b.testBit 3).toNat + (b.testBit 4).toNat + (b.testBit 5).toNat + (b.testBit 6).toNat + (b.testBit 7).toNat := by
  rw [ofB_eq, List.length_map, filter_len]
  simp only [List.map_cons, List.map_nil, List.sum_cons, List.sum_nil]
  omega

theorem stepCnt_of (a b : Nat) : stepCnt (ofB a) (ofB b) 8 = (a.testBit 1 != b.testBit 1).toNat + (a.testBit 2 != b.testBit 2).toNat + (a.testBit 3 != b.testBit 3).toNat + (a.testBit 4 != b.testBit 4).toNat + (a.testBit 5 != b.testBit 5).toNat + (a.testBit 6 != b.testBit 6).toNat + (a.testBit 7 != b.testBit 7).toNat := by
  have hm : ∀ c n : Nat, decide ((n : Int) ∈ ofB c) = (decide (1 ≤ n ∧ n ≤ 7) && c.testBit n) := by
    intro c n
    rw [Bool.eq_iff_iff]
    simp only [decide_eq_true_eq, Bool.and_eq_true]
    rw [mem_ofB]
    constructor
    · rintro ⟨h1, h2, h3⟩; exact ⟨⟨h1, h2⟩, h3⟩
    · rintro ⟨⟨h1, h2⟩, h3⟩; exact ⟨h1, h2, h3⟩
  unfold stepCnt
  rw [filter_len, show List.range 8 = [0, 1, 2, 3, 4, 5, 6, 7] from rfl]
  simp only [hm, List.map_cons, List.map_nil, List.sum_cons, List.sum_nil]
  simp
  omega

/-- One node's share. -/
theorem meet_bit (a b p q : Bool) (h1 : p = true → a = true) (h2 : q = true → b = true) (h3 : ¬ (p = true ∧ q = true)) : 2 * (p.toNat + q.toNat) ≤ a.toNat + b.toNat + (a != b).toNat := by
  cases a <;> cases b <;> cases p <;> cases q <;> simp_all

theorem and254_bit (n : Nat) (h1 : 1 ≤ n) (h7 : n ≤ 7) : Nat.testBit 254 n = true := by
  have : n = 1 ∨ n = 2 ∨ n = 3 ∨ n = 4 ∨ n = 5 ∨ n = 6 ∨ n = 7 := by omega
  rcases this with rfl | rfl | rfl | rfl | rfl | rfl | rfl <;> rfl

theorem meets_law (a b x y : Nat) (hs : stepCnt (ofB a) (ofB b) 8 = 1) (h1 : (ofB a).length / 2 + 1 ≤ (ofB (x &&& a)).length) (h2 : (ofB b).length / 2 + 1 ≤ (ofB (y &&& b)).length) :
    ((((x &&& a) &&& y) &&& b) &&& 254) ≠ 0 := by
  intro h0
  have hb : ∀ n, 1 ≤ n → n ≤ 7 → ¬ ((x &&& a).testBit n = true ∧ (y &&& b).testBit n = true) := by
    intro n g1 g7 hh
    have : ((((x &&& a) &&& y) &&& b) &&& 254).testBit n = true := by
      simp only [Nat.testBit_and, Bool.and_eq_true] at hh ⊢
      exact ⟨⟨⟨hh.1, hh.2.1⟩, hh.2.2⟩, and254_bit n g1 g7⟩
    rw [h0] at this
    simp at this
  have hk : ∀ n, 1 ≤ n → n ≤ 7 → 2 * (((x &&& a).testBit n).toNat + ((y &&& b).testBit n).toNat) ≤ (a.testBit n).toNat + (b.testBit n).toNat + (a.testBit n != b.testBit n).toNat := fun n g1 g7 =>
    meet_bit _ _ _ _ (fun h => by rw [Nat.testBit_and, Bool.and_eq_true] at h; exact h.2) (fun h => by rw [Nat.testBit_and, Bool.and_eq_true] at h; exact h.2) (hb n g1 g7)
  rw [stepCnt_of] at hs
  rw [ofB_len, ofB_len] at h1 h2
  have k1 := hk 1 (by omega) (by omega)
  have k2 := hk 2 (by omega) (by omega)
  have k3 := hk 3 (by omega) (by omega)
  have k4 := hk 4 (by omega) (by omega)
  have k5 := hk 5 (by omega) (by omega)
  have k6 := hk 6 (by omega) (by omega)
  have k7 := hk 7 (by omega) (by omega)
  omega

theorem byte_wf {x : Int} (h : (Lit.int .u8 x).wf = true) : 0 ≤ x ∧ x ≤ 255 := by
  simp [Lit.wf, IntKind.min, IntKind.max, IntKind.bits, IntKind.signed] at h
  omega

theorem and_u8 (x y : Nat) (hx : x < 256) (hy : y < 256) : bits .and .u8 (x : Int) (y : Int) = ((x &&& y : Nat) : Int) ∧ x &&& y < 256 :=
  ⟨(bits_nat .u8 8 (by decide) wraps_u8 x y (by omega) (by omega)).1, Nat.lt_of_le_of_lt Nat.and_le_left hx⟩

set_option maxRecDepth 100000 in
set_option maxHeartbeats 2000000 in
theorem meets_any (w : World) (a b x y : Nat) (ha : a < 256) (hb : b < 256) (hx : x < 256) (hy : y < 256) :
    Calls Try.prog 4 #[.int .u8 a, .int .u8 b, .int .u8 x, .int .u8 y] w (RetB (.bool true) w) := by
  obtain ⟨e1, l1⟩ := and_u8 x a hx ha
  obtain ⟨e2, l2⟩ := and_u8 y b hy hb
  obtain ⟨e3, l3⟩ := and_u8 (x &&& a) y l1 hy
  obtain ⟨e4, l4⟩ := and_u8 (x &&& a &&& y) b l3 hb
  obtain ⟨e5, l5⟩ := and_u8 (x &&& a &&& y &&& b) 254 l4 (by omega)
  have hlaw := meets_law a b x y
  have HLAW := Lib.hid hlaw
  clear hlaw
  go_enter Try.func4, Try.ntmps4
  go_wp2_with fail
  refine (lives23 _).mono ?_
  rintro e w1 ⟨rfl, hb1⟩
  go_wp2_with fail
  refine (meets1_any _ a ha).mono ?_
  rintro e w2 ⟨a2, c2, rfl, hb2, hs2, _, hn2⟩
  go_wp2_with fail
  refine (meets1_any _ b hb).mono ?_
  rintro e w3 ⟨a3, c3, rfl, hb3, hs3, _, hn3⟩
  have hs2' := hs2.below hb3 hs2.row_lt
  have hst := step_any w3 _ _ _ _ hs2' _ _ _ _ hs3
  have hbb := (hb1.trans (hb2.mono hb1.size)).trans (hb3.mono (by have := hb1.size; have := hb2.size; omega))
  clear hs2 hn2 hn3 hb1 hb2 hb3
  have HS2 := Lib.hid hs2'
  have HS3 := Lib.hid hs3
  have HBB := Lib.hid hbb
  clear hs2' hs3 hbb
  unfold stepB at hst
  cases hsb : (membersB (ofB a) && membersB (ofB b) && decide (stepCnt (ofB a) (ofB b) 8 = 1))
  · rw [hsb] at hst
    go_wp2_with fail
    refine hst.mono ?_
    rintro e w4 ⟨rfl, hb4⟩
    go_wp2_with fail
    go_ret
    exact RetB.mk rfl (HBB.out.trans (hb4.mono HBB.out.size))
  · rw [hsb] at hst
    have hcnt : stepCnt (ofB a) (ofB b) 8 = 1 := by
      simp only [Bool.and_eq_true, decide_eq_true_eq] at hsb
      exact hsb.2
    have HC := Lib.hid hcnt
    have hla := ofK_len a 7
    have hlb := ofK_len b 7
    change (ofB a).length ≤ 7 at hla
    change (ofB b).length ≤ 7 at hlb
    clear hsb hcnt
    go_wp2_with fail
    refine hst.mono ?_
    rintro e w4 ⟨rfl, hb4⟩
    have hm4 := HBB.out.trans (hb4.mono HBB.out.size)
    clear hst
    go_wp2_with fail
    refine (meets1_any _ (x &&& a) l1).mono ?_
    rintro e w5 ⟨a5, c5, rfl, hb5, _, _, _⟩
    go_wp2_with fail
    refine (meets1_any _ (y &&& b) l2).mono ?_
    rintro e w6 ⟨a6, c6, rfl, hb6, _, _, _⟩
    have HB6 := Lib.hid ((hm4.trans (hb5.mono hm4.size)).trans (hb6.mono (by have := hm4.size; have := hb5.size; omega)))
    have hlp := ofK_len (x &&& a) 7
    have hlq := ofK_len (y &&& b) 7
    change (ofB (x &&& a)).length ≤ 7 at hlp
    change (ofB (y &&& b)).length ≤ 7 at hlq
    have hlaw := fun h1 h2 => HLAW.out HC.out h1 h2
    generalize (ofB a).length = la at *
    generalize (ofB b).length = lb at *
    generalize (ofB (x &&& a)).length = lp at *
    generalize (ofB (y &&& b)).length = lq at *
    have HL2 := Lib.hid hlaw
    clear hlaw hm4 hb5 hb6 hb4
    have hma := fun W => majority_any W a2 la c2 (by omega)
    have hmb := fun W => majority_any W a3 lb c3 (by omega)
    by_cases hp : lp < la / 2 + 1
    · go_wp2_with (first | (go_at_call 18; refine (hma _).mono ?_; rintro e w' ⟨rfl, rfl⟩))
      go_ret
      exact RetB.mk rfl HB6.out
    · by_cases hq : lq < lb / 2 + 1
      · go_wp2_with fail
        refine (hma _).mono ?_
        rintro e w' ⟨rfl, rfl⟩
        go_wp2_with fail
        refine (hmb _).mono ?_
        rintro e w' ⟨rfl, rfl⟩
        go_wp2_with fail
        go_ret
        exact RetB.mk rfl HB6.out
      · have hfin := HL2.out (by omega) (by omega)
        go_wp2_with fail
        refine (hma _).mono ?_
        rintro e w' ⟨rfl, rfl⟩
        go_wp2_with fail
        refine (hmb _).mono ?_
        rintro e w' ⟨rfl, rfl⟩
        go_wp2_with fail
        go_ret
        refine RetB.mk (bool_eq ?_) HB6.out
        rw [show (254 : Int) = ((254 : Nat) : Int) from rfl, e5]
        generalize x &&& a &&& y &&& b &&& 254 = z at *
        simp only [bne_iff_ne, ne_eq]
        omega

theorem meetsI_any (w : World) (a b x y : Int) (ha : (Lit.int .u8 a).wf = true) (hb : (Lit.int .u8 b).wf = true) (hx : (Lit.int .u8 x).wf = true) (hy : (Lit.int .u8 y).wf = true) :
    Calls Try.prog 4 #[.int .u8 a, .int .u8 b, .int .u8 x, .int .u8 y] w (RetB (.bool true) w) := by
  obtain ⟨a0, a1⟩ := byte_wf ha
  obtain ⟨b0, b1⟩ := byte_wf hb
  obtain ⟨x0, x1⟩ := byte_wf hx
  obtain ⟨y0, y1⟩ := byte_wf hy
  have := meets_any w a.toNat b.toNat x.toNat y.toNat (by omega) (by omega) (by omega) (by omega)
  rwa [Int.toNat_of_nonneg a0, Int.toNat_of_nonneg b0, Int.toNat_of_nonneg x0, Int.toNat_of_nonneg y0] at this

end Go.Proofs.Ytnnibcfbcpipfaa

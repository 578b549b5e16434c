/- A table's bytes (package session): one client. -/
import Derived.Test.YtckmenongeklpaaSessC
namespace Go.Proofs.Ytckmenongeklpaa
open Go.RowKit Go.Maps Go.ChangeMaps

/-- A client's bytes. -/
def entB (c : Int) (x : Int × Ans) : List UInt8 := numB c.toNat ++ (numB x.1.toNat ++ textB (ansB x.2))

/-- May an answer be written? -/
structure Ans.fit (a : Ans) : Prop where
  e0 : 0 ≤ a.err
  e1 : a.err ≤ 9223372036854775807
  n : a.name.size ≤ 100000
  t0 : 0 ≤ a.tok
  t1 : a.tok ≤ 18446744073709551615
  v0 : -9223372036854775808 ≤ a.val
  v1 : a.val ≤ 9223372036854775807

theorem tfield1 (w : World) (a b : Int) (s : ByteArray) (x y : Int) : (Instr.field 54 (.agg #[.int .u64 a, .int .i64 b, .string s, .int .u64 x, .int .i64 y]) 1).run Try.prog w = .ok (.agg #[.int .i64 b, .string s, .int .u64 x, .int .i64 y]) w := by kernel_rfl

set_option maxRecDepth 100000 in
theorem bytes1_any (W : World) (p t m bx : Nat) (r : Option Nat) (bs : List UInt8) (l : List (Int × (Int × Ans))) (hP : Wr W p r bs) (hT : TableAt W t m l) (hbx : W.heap[bx]? = some (.cells #[.pointer (some ⟨t, 0, none⟩)] 24 (0, 0)))
    (h1 : t ≠ p) (h2 : m ≠ p) (h3 : bx ≠ p) (hr : ∀ k, r = some k → k ≠ t ∧ k ≠ m ∧ k ≠ bx)
    (c n : Int) (a : Ans) (hc : (Lit.int .u64 c).wf = true) (c0 : 0 ≤ c) (c1 : c ≤ 18446744073709551615) (hg : aget c l = some (n, a)) (n0 : 0 ≤ n) (n1 : n ≤ 18446744073709551615) (ha : a.fit) (hl : bs.length ≤ 100000000) :
    Calls Try.prog 24 #[.pointer (some ⟨p, 0, none⟩), .int .u64 c, .pointer (some ⟨bx, 0, none⟩)] W (WroteB p W r (bs ++ entB c (n, a))) := by
  have HP := Lib.hid hP
  have HT := Lib.hid hT
  have HBX := Lib.hid hbx
  have HRN := Lib.hid hr
  have HC := Lib.hid hc
  have HGT := Lib.hid hg
  have HA := Lib.hid ha
  have q1 := numB_len10 (x := c.toNat) (by omega)
  have q2 := numB_len10 (x := n.toNat) (by omega)
  have q3 := ansB_len ha.n ha.t1 ha.e1 ha.v0 ha.v1
  have lt1 := heap_lt hT.box
  have lt2 := hT.map.lt
  have lt3 := heap_lt hbx
  clear hP hT hbx hr hc hg ha
  obtain ⟨ae, an, at_, av⟩ := a
  go_enter Try.func24, Try.ntmps24
  go_wp2_with fail
  refine (num_any W p r bs HP.out c c0 c1 (by omega)).mono ?_
  rintro e w1 ⟨rfl, r1, hP1, hk1⟩
  have keep : ∀ {w' : World} {r' : Option Nat}, Wrote p W r w' r' → Keeps (fun k => k = p ∨ some k = r) W w' := fun h => h.keeps
  have side : ∀ k, (k = t ∨ k = m ∨ k = bx) → ¬ (k = p ∨ some k = r) := fun k hk h => by
    rcases h with h | h
    · omega
    · have := HRN.out k h.symm; omega
  have hT1 := HT.out.kept hk1.keeps (side t (.inl rfl)) (side m (.inr (.inl rfl)))
  have hx1 := hk1.keeps.heap (side bx (.inr (.inr rfl))) HBX.out
  have cb1 : w1.cell? ⟨bx, 0, none⟩ = some (.pointer (some ⟨t, 0, none⟩)) := blk_cell hx1 0 rfl
  have ct1 := cell_of_one hT1.box
  have lt11 := lt_of_block hT1.box
  have hrun := tget_some w1 t m l c HC.out hT1 HGT.out
  have hfld := tfield w1
  have SIDE := Lib.hid side
  have HP1 := Lib.hid hP1
  have HK1 := Lib.hid hk1
  clear hT1 hP1 hk1 hx1 keep side
  go_wp2_with fail
  refine (num_any w1 p r1 _ HP1.out n n0 n1 (by simp only [List.length_append]; omega)).mono ?_
  rintro e w2 ⟨rfl, r2, hP2, hk2⟩
  have hk2' := HK1.out.trans hk2
  have hT2 := HT.out.kept hk2'.keeps (SIDE.out t (.inl rfl)) (SIDE.out m (.inr (.inl rfl)))
  have hx2 := hk2'.keeps.heap (SIDE.out bx (.inr (.inr rfl))) HBX.out
  clear hrun hfld cb1 ct1 lt11
  have cb2 : w2.cell? ⟨bx, 0, none⟩ = some (.pointer (some ⟨t, 0, none⟩)) := blk_cell hx2 0 rfl
  have ct2 := cell_of_one hT2.box
  have lt21 := lt_of_block hT2.box
  have hrun := tget_some w2 t m l c HC.out hT2 HGT.out
  have hfld := tfield1 w2
  have HP2 := Lib.hid hP2
  have HK2 := Lib.hid hk2'
  clear hT2 hP2 hk2 hk2' hx2
  simp only at hrun
  go_wp2_with fail
  have hans := answer_any w2 ⟨ae, an, at_, av⟩ HA.out.e0 HA.out.e1 HA.out.n HA.out.t0 HA.out.t1 HA.out.v0 HA.out.v1
  unfold Ans.v at hans
  refine hans.mono ?_
  clear hans hrun hfld cb2 ct2 lt21
  rintro e w3 ⟨v, rfl, hb3, hs3, ho3, hn3⟩
  obtain ⟨ad, cp, rfl, _⟩ := id hs3
  have hconv := sl_string hs3 Try.underlying22
  have HP3 : Hid (Wr w3 p r2 (bs ++ numB c.toNat ++ numB n.toNat)) := Lib.hid (HP2.out.kept (Keeps.of_belowS (S := fun _ => False) hb3) (fun h => h) (fun _ _ h => h))
  have HK3 : Hid (Wrote p W r w3 r2) := Lib.hid (HK2.out.trans ⟨Keeps.of_belowS hb3, .inl rfl⟩)
  obtain ⟨AB, hAB⟩ : ∃ AB, AB = ansB ⟨ae, an, at_, av⟩ := ⟨_, rfl⟩
  rw [← hAB] at hconv q3
  rw [← hAB]
  have HAB := Lib.hid hAB
  clear hb3 hs3 ho3 hn3 hAB
  go_wp2_with fail
  have hsz : (⟨AB.toArray⟩ : ByteArray).size = AB.length := by show AB.toArray.size = _; rw [List.size_toArray]
  refine (wtext_any w3 p r2 _ HP3.out ⟨AB.toArray⟩ (by rw [hsz]; simp only [List.length_append]; omega)).mono ?_
  rintro e w4 ⟨rfl, r4, hP4, hk4⟩
  have HF := Lib.hid (show Wr w4 p r4 (bs ++ entB c (n, ⟨ae, an, at_, av⟩)) ∧ Wrote p W r w4 r4 from ⟨by
    unfold entB
    rw [← HAB.out]
    simpa [List.append_assoc] using hP4, HK3.out.trans hk4⟩)
  clear hP4 hk4 hconv hsz
  go_wp2_with fail
  go_end0
  exact ⟨rfl, r4, HF.out⟩

end Go.Proofs.Ytckmenongeklpaa

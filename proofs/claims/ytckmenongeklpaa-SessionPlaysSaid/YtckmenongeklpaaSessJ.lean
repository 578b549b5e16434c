/- A table's bytes (package session). -/
import Derived.Test.YtckmenongeklpaaSessI
import Derived.Test.YtckmenongeklpaaSortedU
namespace Go.Proofs.Ytckmenongeklpaa
open Go.RowKit Go.Maps Go.ChangeMaps

theorem wf_u64 {x : Int} (h0 : 0 ≤ x) (h1 : x < 18446744073709551616) : (Lit.int .u64 x).wf = true := by
  have e1 : IntKind.u64.min = 0 := rfl
  have e2 : IntKind.u64.max = 18446744073709551615 := rfl
  simp only [Lit.wf, e1, e2, Bool.and_eq_true, decide_eq_true_eq]
  omega

/-- The bytes of these clients of a table. -/
def entsB (l : List (Int × (Int × Ans))) (ks : List Int) : List UInt8 := (ks.map fun c => match aget c l with | some x => entB c x | none => []).flatten

/-- May these be a table's clients? -/
def TabOk (l : List (Int × (Int × Ans))) : Prop := (keys l).Nodup ∧ l.length ≤ 16 ∧ ∀ c x, aget c l = some x → 0 ≤ c ∧ c ≤ 18446744073709551615 ∧ 0 ≤ x.1 ∧ x.1 ≤ 18446744073709551615 ∧ x.2.fit

theorem entB_len {c : Int} {x : Int × Ans} (c0 : 0 ≤ c) (c1 : c ≤ 18446744073709551615) (n0 : 0 ≤ x.1) (n1 : x.1 ≤ 18446744073709551615) (h : x.2.fit) : (entB c x).length ≤ 100100 := by
  have q1 := numB_len10 (x := c.toNat) (by omega)
  have q2 := numB_len10 (x := x.1.toNat) (by omega)
  have q3 := ansB_len h.n h.t1 h.e1 h.v0 h.v1
  have q4 := numB_len10 (x := (ansB x.2).length) (by omega)
  unfold entB textB
  simp only [List.length_append]
  omega

theorem entsB_len {l : List (Int × (Int × Ans))} (h : TabOk l) : ∀ ks : List Int, (entsB l ks).length ≤ ks.length * 100100
  | [] => Nat.zero_le _
  | c :: ks => by
    have ih := entsB_len h ks
    have e : entsB l (c :: ks) = (match aget c l with | some x => entB c x | none => []) ++ entsB l ks := by simp [entsB]
    rw [e, List.length_append, List.length_cons]
    cases hg : aget c l with
    | none => simp only [List.length_nil]; omega
    | some x =>
      obtain ⟨a, b, c', d, f⟩ := h.2.2 c x hg
      have := entB_len a b c' d f
      simp only
      omega

theorem entsB_snoc (l : List (Int × (Int × Ans))) (ks : List Int) (c : Int) (x : Int × Ans) (h : aget c l = some x) : entsB l (ks ++ [c]) = entsB l ks ++ entB c x := by simp [entsB, h]

/-- The numbers of a slice. -/
def UsAt (w : World) (v : Value) (ks : List Int) : Prop := Sl keyU w v ks

set_option maxRecDepth 100000 in
set_option maxHeartbeats 1600000 in
theorem putU_any (W : World) (p t m bx : Nat) (l : List (Int × (Int × Ans))) (hP : Wr W p none []) (hT : TableAt W t m l) (hbx : W.heap[bx]? = some (.cells #[.pointer (some ⟨t, 0, none⟩)] 24 (0, 0)))
    (h1 : t ≠ p) (h2 : m ≠ p) (h3 : bx ≠ p) (hok : TabOk l) (v : Value) (ks : List Int) (hs : Sl keyU W v ks) (hv : ∀ k, v.ownBlock = some k → k ≠ p) (hks : ∀ c ∈ ks, c ∈ keys l) (hkl : ks.length ≤ 16) :
    Calls Try.prog 21 #[.pointer (some ⟨p, 0, none⟩), v, .func (.func 24) #[] #[.pointer (some ⟨bx, 0, none⟩)]] W (WroteB p W none (numB ks.length ++ entsB l ks)) := by
  obtain ⟨va, vc, rfl, _⟩ := id hs
  have HP := Lib.hid hP
  have HT := Lib.hid hT
  have HBX := Lib.hid hbx
  have HOK := Lib.hid hok
  have HS := Lib.hid hs
  have HV := Lib.hid hv
  have HKS := Lib.hid hks
  have lt1 := heap_lt hT.box
  have lt2 := hT.map.lt
  have lt3 := heap_lt hbx
  clear hP hT hbx hok hs hv hks
  go_enter Try.func21, Try.ntmps21
  go_wp2_with fail
  refine (num_any W p none [] HP.out ks.length (by omega) (by omega) (by simp)).mono ?_
  rintro e w1 ⟨rfl, r1, hP1, hk1⟩
  rw [List.nil_append] at hP1
  have e1 : ((ks.length : Int)).toNat = ks.length := by omega
  rw [e1] at hP1
  have HP1 := Lib.hid hP1
  have HK1 := Lib.hid hk1
  clear hP1 hk1 e1
  go_wp2_with fail
  go_loopw [15] (fun iv wr => ∃ (k : Nat) (r' : Option Nat), iv = .int .i64 k ∧ k ≤ ks.length ∧ Hid (Wr wr p r' (numB ks.length ++ entsB l (ks.take k))) ∧ Hid (Wrote p W none wr r')) (fun iv _ => ks.length - (intOf iv).toNat)
  case atStart => exact ⟨0, r1, rfl, Nat.zero_le _, by simpa [entsB] using HP1, HK1⟩
  case round =>
    clear HP1 HK1
    obtain ⟨k, r', rfl, hk, HP1, HK1⟩ := hrel
    by_cases hlt : k < ks.length
    · obtain ⟨c, hc⟩ : ∃ c, ks[k]? = some c := ⟨ks[k], by simp [hlt]⟩
      have hcm := HKS.out c (List.mem_of_getElem? hc)
      obtain ⟨x, hx⟩ : ∃ x, aget c l = some x := by
        cases hg : aget c l with
        | none => exact absurd hcm (aget_none.1 hg)
        | some x => exact ⟨x, rfl⟩
      obtain ⟨n, a⟩ := x
      obtain ⟨c0, c1, n0, n1, ha⟩ := HOK.out.2.2 c _ hx
      have hKp : Keeps (fun j => j = p) W wr := HK1.out.keeps.mono (fun j _ hj => by rcases hj with h | h; exact h; cases h)
      have hsr : Sl keyU wr (.slice va ks.length vc) ks := HS.out.kept hKp (fun j hj e => HV.out j hj e)
      obtain ⟨va', vc', hve, hvl, hvm, hvr⟩ := hsr
      injection hve with q1 q2 q3
      subst q1 q3
      rcases hvr with ⟨rfl, h0⟩ | ⟨g, o, rfl, hgl, hcells⟩
      · omega
      have hcell := hcells k c hc
      have HTK : Hid (ks.take (k + 1) = ks.take k ++ [c]) := Lib.hid (by rw [List.take_add_one, hc]; rfl)
      have hlen : (numB ks.length ++ entsB l (ks.take k)).length ≤ 100000000 := by
        have q1 := numB_len10 (x := ks.length) (by omega)
        have q2 := entsB_len HOK.out (ks.take k)
        rw [List.length_take] at q2
        rw [List.length_append]
        omega
      have hb1 := bytes1_any wr p t m bx r' _ l HP1.out (HT.out.kept hKp h1 h2) (hKp.heap h3 HBX.out) h1 h2 h3 (fun j hj => by
        rcases HK1.out.row with e | ⟨i, e, hi⟩
        · rw [e] at hj; cases hj
        · rw [e] at hj; cases hj; omega) c n a (wf_u64 c0 (by omega)) c0 c1 hx n0 n1 ha hlen
      have HB1 := Lib.hid hb1
      have HX := Lib.hid hx
      clear hb1 hx hc hcm ha hKp hcells
      unfold keyU at hcell
      unfold maxLen at hvm
      go_wp2_with fail
      refine HB1.out.mono ?_
      rintro e w2 ⟨rfl, r2, hP2, hk2⟩
      have HP2 := Lib.hid hP2
      have HK2 := Lib.hid (HK1.out.trans hk2)
      clear hP2 hk2 hcell
      go_wp2_with fail
      go_roundw
      case rel => exact ⟨k + 1, r2, by go_num, by omega, Lib.hid (by rw [HTK.out, entsB_snoc l _ c _ HX.out, ← List.append_assoc]; exact HP2.out), HK2⟩
      case measure => simp [intOf]; omega
    · have e : ks.take k = ks := List.take_of_length_le (by omega)
      rw [e] at HP1
      clear e
      go_wp2_with fail
      go_end0
      exact ⟨rfl, r', HP1.out, HK1.out⟩

end Go.Proofs.Ytckmenongeklpaa

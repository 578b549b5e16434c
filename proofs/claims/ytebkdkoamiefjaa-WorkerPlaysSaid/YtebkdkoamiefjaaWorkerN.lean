/- The statement WorkerNumbers: its walk. -/
import Derived.Test.YtebkdkoamiefjaaWorkerB
namespace Go.Proofs.Ytebkdkoamiefjaa
open Go.RowKit

theorem take_any (w : World) (b : Nat) (s : Wk) (h : WAt w b s) (n : Int) (a : Ans) (hn : n = s.number) (hw : s.waits = true) (ha : againB a.err = false) (hd : 0 ≤ s.done ∧ s.done ≤ 1000000) (hl : 0 ≤ s.lost ∧ s.lost ≤ 1000000) :
    Calls Try.prog 23 #[.pointer (some ⟨b, 0, none⟩), .int .u64 n, a.v] w (RetW (.int .i64 0) b (takeF s a) w) := by
  subst hn
  cases hk : (s.ak == 2)
  · exact take_told w b s h a hw ha hk hd hl
  · exact take_leased w b s h a hw ha hk

theorem toldF_facts (s : Wk) (k : Int) (a : Ans) : (toldF s k a).waits = s.waits ∧ (toldF s k a).number = s.number ∧ (toldF s k a).client = s.client ∧ (toldF s k a).name = s.name ∧
    s.done ≤ (toldF s k a).done ∧ (toldF s k a).done ≤ s.done + 1 ∧ s.lost ≤ (toldF s k a).lost ∧ (toldF s k a).lost ≤ s.lost + 1 := by
  unfold toldF
  split
  · exact ⟨rfl, rfl, rfl, rfl, by simp only []; omega, by simp only []; omega, by simp only []; omega, by simp only []; omega⟩
  · split
    · refine ⟨rfl, rfl, rfl, rfl, ?_, ?_, ?_, ?_⟩ <;> simp only [Wk.freed] <;> omega
    · split
      · refine ⟨rfl, rfl, rfl, rfl, ?_, ?_, ?_, ?_⟩ <;> simp only [Wk.freed] <;> omega
      · refine ⟨rfl, rfl, rfl, rfl, ?_, ?_, ?_, ?_⟩ <;> simp only [Wk.freed] <;> omega

theorem takeF_facts (s : Wk) (a : Ans) : (takeF s a).waits = false ∧ (takeF s a).number = s.number ∧ (takeF s a).client = s.client ∧ (takeF s a).name = s.name ∧
    s.done ≤ (takeF s a).done ∧ (takeF s a).done ≤ s.done + 1 ∧ s.lost ≤ (takeF s a).lost ∧ (takeF s a).lost ≤ s.lost + 1 := by
  unfold takeF
  split
  · split
    · exact ⟨rfl, rfl, rfl, rfl, by simp only []; omega, by simp only []; omega, by simp only []; omega, by simp only []; omega⟩
    · refine ⟨rfl, rfl, rfl, rfl, ?_, ?_, ?_, ?_⟩ <;> simp only [Wk.freed] <;> omega
  · exact toldF_facts { s with waits := false } s.ak a

theorem nextF_new (s : Wk) (d : Int) (h : s.waits = false) : (nextF s d).waits = true ∧ (nextF s d).number = s.number + 1 ∧ (nextF s d).client = s.client ∧ (nextF s d).name = s.name ∧ (nextF s d).done = s.done ∧ (nextF s d).lost = s.lost ∧ (nextF s d).an = s.number + 1 ∧ (nextF s d).ac = s.client := by
  unfold nextF; rw [h]; exact ⟨rfl, rfl, rfl, rfl, rfl, rfl, rfl, rfl⟩

theorem lives31 (w : World) : Calls Try.prog 20 #[] w (RetB (.bool true) w) := by
  have e1 : nextF (Wk.fresh ⟨#[119]⟩ 1) 0 = ⟨⟨#[119]⟩, 1, 1, 0, ⟨#[]⟩, 0, 0, 1, 1, 2, ⟨#[]⟩, ⟨#[119]⟩, 0, 0, true, 0, 0⟩ := rfl
  have e2 : takeF ⟨⟨#[119]⟩, 1, 1, 0, ⟨#[]⟩, 0, 0, 1, 1, 2, ⟨#[]⟩, ⟨#[119]⟩, 0, 0, true, 0, 0⟩ ⟨0, ⟨#[97]⟩, 4, 9⟩ = ⟨⟨#[119]⟩, 1, 1, 1, ⟨#[97]⟩, 4, 9, 1, 1, 2, ⟨#[]⟩, ⟨#[119]⟩, 0, 0, false, 0, 0⟩ := rfl
  have e3 : nextF ⟨⟨#[119]⟩, 1, 1, 1, ⟨#[97]⟩, 4, 9, 1, 1, 2, ⟨#[]⟩, ⟨#[119]⟩, 0, 0, false, 0, 0⟩ 0 = ⟨⟨#[119]⟩, 1, 2, 1, ⟨#[97]⟩, 4, 9, 1, 2, 4, ⟨#[97]⟩, ⟨#[]⟩, 4, 0, true, 0, 0⟩ := rfl
  have E1 := Lib.hid e1
  have E2 := Lib.hid e2
  have E3 := Lib.hid e3
  clear e1 e2 e3
  go_enter Try.func20, Try.ntmps20
  go_wp2_with fail
  refine (newW_yes _ ⟨#[119]⟩ 1 (by simp [maxLen, ByteArray.size]) (by decide) (by decide)).mono ?_
  rintro e w1 ⟨m, rfl, hm, hT, hb⟩
  go_wp2_with fail
  refine (next_new _ m _ hT 0 (by omega) rfl (by simp [Wk.fresh])).mono ?_
  rintro e w2 ⟨rfl, hT2, hk2⟩
  rw [E1.out] at hT2
  rw [E1.out]
  have hb2 : Below w.heap.size w w2 := hb.trans (hk2.below hb.size (by omega))
  have s1 := hT.lt
  have s2 := hk2.size
  clear hT hb hk2
  go_wp2_with (first
    | (refine wpList_store_fresh _ rfl _ _ _ rfl _ rfl _ rfl _ _ _ rfl ?_ ?_ rfl info_req ?_ ?_; (focus (simp; done)); (focus (simp [Wk.req]; done)); (focus (simp [Wk.req, OneCells, Value.oneCell']; done))))
  have hx2 := heap_new w2 (.cells (Wk.req ⟨⟨#[119]⟩, 1, 1, 0, ⟨#[]⟩, 0, 0, 1, 1, 2, ⟨#[]⟩, ⟨#[119]⟩, 0, 0, true, 0, 0⟩) 54)
  refine (take_any _ m _ (hT2.alloc _) 1 ⟨0, ⟨#[97]⟩, 4, 9⟩ rfl rfl rfl (by simp) (by simp)).mono ?_
  rintro e w3 ⟨rfl, hT3, hk3⟩
  rw [E2.out] at hT3
  have hx3 := hk3.heap (Nat.ne_of_gt (Nat.lt_of_lt_of_le s1 s2)) hx2
  have hb3 : Below w.heap.size w w3 := (hb2.alloc hb2.size _).trans (hk3.below (Nat.le_trans hb2.size (by simp)) (by omega))
  have s3 := hk3.size
  simp only [World.size_alloc] at s3
  clear hT2 hk3 hx2
  go_wp2_with fail
  refine (next_new _ m _ hT3 0 (by omega) rfl (by simp)).mono ?_
  rintro e w4 ⟨rfl, hT4, hk4⟩
  rw [E3.out] at hT4
  rw [E3.out]
  have hx4 := hk4.heap (Nat.ne_of_gt (Nat.lt_of_lt_of_le s1 s2)) hx3
  have hb4 : Below w.heap.size w w4 := hb3.trans (hk4.below hb3.size (by omega))
  have s4 := heap_lt hx4
  clear hT3 hk4 hx3
  have hy := heap_new w4 (.cells (Wk.req ⟨⟨#[119]⟩, 1, 2, 1, ⟨#[97]⟩, 4, 9, 1, 2, 4, ⟨#[97]⟩, ⟨#[]⟩, 4, 0, true, 0, 0⟩) 54)
  have y1 : World.cell? _ ⟨w4.heap.size, 1, none⟩ = some (.int .u64 2) := blk_cell hy 1 rfl
  have y2 : World.cell? _ ⟨w4.heap.size, 2, none⟩ = some (.int .i64 4) := blk_cell hy 2 rfl
  have y5 : World.cell? _ ⟨w4.heap.size, 5, none⟩ = some (.int .u64 4) := blk_cell hy 5 rfl
  have hz := aheap hx4 (.cells (Wk.req ⟨⟨#[119]⟩, 1, 2, 1, ⟨#[97]⟩, 4, 9, 1, 2, 4, ⟨#[97]⟩, ⟨#[]⟩, 4, 0, true, 0, 0⟩) 54)
  have z2 : World.cell? _ ⟨w2.heap.size, 2, none⟩ = some (.int .i64 2) := blk_cell hz 2 rfl
  clear hx4 hy hz
  go_wp2_with (first
    | (refine wpList_store_fresh _ rfl _ _ _ rfl _ rfl _ rfl _ _ _ rfl ?_ ?_ rfl info_req ?_ ?_; (focus (simp; done)); (focus (simp [Wk.req]; done)); (focus (simp [Wk.req, OneCells, Value.oneCell']; done))))
  go_ret
  exact RetB.mk rfl (hb4.alloc hb4.size _)

/-- A slice of numbers as a walk meets it: empty, or its cells. -/
def RowAt (k : IntKind) (w : World) (a : Option Addr) (len : Nat) (zs : List Int) : Prop :=
  len = 0 ∨ ∃ b off, a = some ⟨b, off, none⟩ ∧ (∀ i, i < len → w.cell? ⟨b, off + i, none⟩ = some (.int k (zs.getD i 0))) ∧ (∀ i, i < len → (Lit.int k (zs.getD i 0)).wf = true) ∧ b < w.heap.size

theorem IsRow.rowAt {k : IntKind} {w : World} {a : Option Addr} {len cap : Nat} {zs : List Int} (h : IsRow k w a len cap zs) : RowAt k w a len zs ∧ len ≤ 9223372036854775807 := by
  rcases h.at with h | ⟨b, off, rfl, _, h1, h2, h3, hcell, hz, hb⟩
  · exact ⟨.inl h, by omega⟩
  · exact ⟨.inr ⟨b, off, rfl, fun i hi => hcell i (by omega), fun i hi => hz i (by omega), hb⟩, by omega⟩

theorem numbers_long (a0 a1 : Option Addr) (l0 l1 c0 c1 : Nat) (w : World) (h : 60 < l0 ∨ l0 ≤ 60 ∧ 60 < l1) (h0 : l0 ≤ 9223372036854775807) (h1 : l1 ≤ 9223372036854775807) :
    Calls Try.prog 7 #[.slice a0 l0 c0, .slice a1 l1 c1] w (RetB (.bool true) w) := by
  rcases h with h | ⟨h, h'⟩
  all_goals
    go_enter Try.func7, Try.ntmps7
    go_wp2_with fail
    refine (lives31 _).mono ?_
    rintro e w1 ⟨rfl, hb1⟩
    go_wp2_with fail
    refine (lives31 _).mono ?_
    rintro e w2 ⟨rfl, hb2⟩
    go_wp2_with fail
    go_ret
    exact RetB.mk rfl (hb1.trans (hb2.mono hb1.size))

set_option maxRecDepth 100000 in
set_option maxHeartbeats 2000000 in
theorem numbers_main (a0 a1 : Option Addr) (l0 l1 c0 c1 : Nat) (z0 z1 : List Int) (w : World) (hl0 : l0 ≤ 60) (hl1 : l1 ≤ 60) (r0 : RowAt .u64 w a0 l0 z0) (r1 : RowAt .u8 w a1 l1 z1) :
    Calls Try.prog 7 #[.slice a0 l0 c0, .slice a1 l1 c1] w (RetB (.bool true) w) := by
  have R0 := Lib.hid r0
  have R1 := Lib.hid r1
  clear r0 r1
  go_enter Try.func7, Try.ntmps7
  go_wp2_with fail
  refine (lives31 _).mono ?_
  rintro e w1 ⟨rfl, hb1⟩
  go_wp2_with fail
  refine (newW_yes _ ⟨#[119]⟩ 5 (by simp [maxLen, ByteArray.size]) (by decide) (by decide)).mono ?_
  rintro e w2 ⟨m, rfl, hm, hT, hb2⟩
  have hbel := hb1.trans (hb2.mono hb1.size)
  have hm' : w.heap.size ≤ m := Nat.le_trans hb1.size hm
  clear hb1 hb2 hm w1
  go_wp2_with fail
  go_loopw [34] (fun i wr => ∃ (k : Nat) (s : Wk), k ≤ l0 ∧ i = .int .i64 k ∧ WAt wr m s ∧ s.waits = false ∧ s.number = k ∧ s.client = 5 ∧ 0 ≤ s.done ∧ s.done ≤ k ∧ 0 ≤ s.lost ∧ s.lost ≤ k ∧ Below w.heap.size w wr)
    (fun i _ => l0 - (intOf i).toNat)
  case atStart => exact ⟨0, _, by omega, rfl, hT, rfl, rfl, rfl, by simp [Wk.fresh], by simp [Wk.fresh], by simp [Wk.fresh], by simp [Wk.fresh], hbel⟩
  case round =>
    obtain ⟨k, s, hk, rfl, hW, hw, hn, hc, hd0, hd1, he0, he1, hb⟩ := hrel
    by_cases hlt : k < l0
    · obtain ⟨b, off, rfl, hcell, hz, hbs⟩ := R0.out.resolve_left (by omega)
      have hcw : wr.cell? ⟨b, off + k, none⟩ = some (.int .u64 (z0.getD k 0)) := (bcell hb b _ hbs).trans (hcell k hlt)
      obtain ⟨hz0, hz1⟩ := bounds_u64 (hz k hlt)
      generalize z0.getD k 0 = d at *
      clear hcell hz R0
      have hnx := next_new wr m s hW d ⟨hz0, hz1⟩ hw (by omega)
      obtain ⟨n1, n2, n3, n4, n5, n6, n7, n8⟩ := nextF_new s d hw
      generalize nextF s d = s1 at *
      have HF := Lib.hid (show s1.waits = true ∧ s1.number = k + 1 ∧ s1.client = 5 ∧ s1.done = s.done ∧ s1.lost = s.lost ∧ s1.an = k + 1 ∧ s1.ac = 5 from ⟨n1, by omega, by omega, n5, n6, by omega, by omega⟩)
      clear n1 n2 n3 n4 n5 n6 n7 n8
      have hms := hW.lt
      have HN := Lib.hid hn
      have HC := Lib.hid hc
      have HW1 := Lib.hid hw
      clear hn hc hw
      go_wp2_with fail
      refine hnx.mono ?_
      rintro e w3 ⟨rfl, hT3, hk3⟩
      have hb3 : Below w.heap.size w w3 := hb.trans (hk3.below hb.size (by omega))
      clear hk3 hnx hcw hW
      have hq := heap_new w3 (.cells s1.req 54)
      have q0 : World.cell? _ ⟨w3.heap.size, 0, none⟩ = some (.int .u64 s1.ac) := blk_cell hq 0 rfl
      have q1 : World.cell? _ ⟨w3.heap.size, 1, none⟩ = some (.int .u64 s1.an) := blk_cell hq 1 rfl
      rw [HF.out.2.2.2.2.2.2] at q0
      rw [HF.out.2.2.2.2.2.1] at q1
      have hms3 := hT3.lt
      have hT4 := hT3.alloc (.cells s1.req 54)
      have hb4 := hb3.alloc hb3.size (.cells s1.req 54)
      clear hT3
      have hb3s := hb3.size
      rcases Nat.lt_or_ge k l1 with hk1 | hk1
      · obtain ⟨b1, off1, rfl, hcell1, hz1, hbs1⟩ := R1.out.resolve_left (by omega)
        have hcw1 : (w3.alloc (.cells s1.req 54)).cell? ⟨b1, off1 + k, none⟩ = some (.int .u8 (z1.getD k 0)) := (bcell hb4 b1 _ hbs1).trans (hcell1 k hk1)
        obtain ⟨hy0, hy1⟩ := bounds_u8 (hz1 k hk1)
        generalize z1.getD k 0 = y at *
        have hy4 : 0 ≤ y % 4 := by omega
        have hy5 : y % 4 < 4 := by omega
        clear hcell1 hz1 R1 hb3
        go_wp2_with (first
          | (refine wpList_store_fresh _ rfl _ _ _ rfl _ rfl _ rfl _ _ _ rfl ?_ ?_ rfl info_req ?_ ?_; (focus (simp; done)); (focus (simp [Wk.req]; done)); (focus (simp [Wk.req, OneCells, Value.oneCell']; done))))
        go_loopw [71] (fun i wq => ∃ j : Nat, j ≤ 4 ∧ i = .int .i64 j ∧ WAt wq m s1 ∧ wq.heap[w3.heap.size]? = some (.cells s1.req 54) ∧ Below w.heap.size w wq) (fun i _ => 4 - (intOf i).toNat)
        case atStart => exact ⟨0, by omega, rfl, hT4, hq, hb4⟩
        case round =>
          obtain ⟨j, hj, rfl, hW5, hq5, hb5⟩ := hrel
          have hms5 := hW5.lt
          have hqs5 := heap_lt hq5
          have hne : w3.heap.size ≠ m := Nat.ne_of_gt hms3
          by_cases hjk : (j : Int) < y % 4
          · go_wp2_with fail
            refine (next_waits _ m s1 hW5 _ HF.out.1).mono ?_
            rintro e w6 ⟨rfl, hW6, hb6⟩
            have hq6 := aheap (bheap hb6 hq5 hqs5) (.cells s1.req 54)
            have hx6 := heap_new w6 (.cells s1.req 54)
            have v1 : World.cell? _ ⟨w3.heap.size, 1, none⟩ = some (.int .u64 s1.an) := blk_cell hq6 1 rfl
            have v2 : World.cell? _ ⟨w3.heap.size, 2, none⟩ = some (.int .i64 s1.ak) := blk_cell hq6 2 rfl
            have v5 : World.cell? _ ⟨w3.heap.size, 5, none⟩ = some (.int .u64 s1.atk) := blk_cell hq6 5 rfl
            have v6 : World.cell? _ ⟨w3.heap.size, 6, none⟩ = some (.int .i64 s1.av) := blk_cell hq6 6 rfl
            have x1 : World.cell? _ ⟨w6.heap.size, 1, none⟩ = some (.int .u64 s1.an) := blk_cell hx6 1 rfl
            have x2 : World.cell? _ ⟨w6.heap.size, 2, none⟩ = some (.int .i64 s1.ak) := blk_cell hx6 2 rfl
            have x5 : World.cell? _ ⟨w6.heap.size, 5, none⟩ = some (.int .u64 s1.atk) := blk_cell hx6 5 rfl
            have x6 : World.cell? _ ⟨w6.heap.size, 6, none⟩ = some (.int .i64 s1.av) := blk_cell hx6 6 rfl
            have hb6' := (hb5.trans (hb6.mono hb5.size)).alloc (hb5.trans (hb6.mono hb5.size)).size (.cells s1.req 54)
            have hta : Calls Try.prog 23 #[.pointer (some ⟨m, 0, none⟩), .int .u64 s1.an, .agg #[.int .i64 19, .string ⟨#[]⟩, .int .u64 0, .int .i64 0]] (w6.alloc (.cells s1.req 54)) (RetW (.int .i64 19) m s1 (w6.alloc (.cells s1.req 54))) := by
              have h1 := HF.out
              have := take_again _ m s1 (hW6.alloc (.cells s1.req 54)) (Ans.ofErr 19) h1.1 rfl
              rw [show s1.number = s1.an by omega] at this
              exact this
            have HQ6 := Lib.hid hq6
            clear hq5 hx6 hq6 hW6 hW5 hb6
            go_wp2_with (first
              | (refine wpList_store_fresh _ rfl _ _ _ rfl _ rfl _ rfl _ _ _ rfl ?_ ?_ rfl info_req ?_ ?_; (focus (simp; done)); (focus (simp [Wk.req]; done)); (focus (simp [Wk.req, OneCells, Value.oneCell']; done))))
            refine hta.mono ?_
            rintro e w7 ⟨rfl, hW7, hk7⟩
            have hq7 := hk7.heap hne HQ6.out
            have hb7 := hb6'.trans (hk7.below hb6'.size (fun _ h => by omega))
            clear hta hk7 HQ6 hb6' v1 v2 v5 v6 x1 x2 x5 x6
            go_wp2
            go_roundw
            case rel => exact ⟨j + 1, by omega, by go_num, hW7, hq7, hb7⟩
            case measure => simp [intOf]; omega
          · have v1 : World.cell? _ ⟨w3.heap.size, 1, none⟩ = some (.int .u64 s1.an) := blk_cell hq5 1 rfl
            have hkb : (k : Int) + 1 ≤ 61 := by omega
            have hta : ∀ W, WAt W m s1 → Calls Try.prog 23 #[.pointer (some ⟨m, 0, none⟩), .int .u64 s1.an, .agg #[.int .i64 0, .string ⟨#[97]⟩, .int .u64 (k + 1), .int .i64 9]] W (RetW (.int .i64 0) m (takeF s1 ⟨0, ⟨#[97]⟩, k + 1, 9⟩) W) := by
              intro W hW
              have h1 := HF.out
              exact take_any W m s1 hW s1.an ⟨0, ⟨#[97]⟩, k + 1, 9⟩ (by omega) h1.1 rfl (by omega) (by omega)
            have hf := takeF_facts s1 ⟨0, ⟨#[97]⟩, k + 1, 9⟩
            generalize takeF s1 ⟨0, ⟨#[97]⟩, k + 1, 9⟩ = s2 at *
            have HF2 := Lib.hid hf
            have HQ5 := Lib.hid hq5
            clear hf hq5
            go_wp2_with fail
            refine (hta _ (hW5.alloc _)).mono ?_
            rintro e w7 ⟨rfl, hW7, hk7⟩
            have hb7 := (hb5.alloc hb5.size _).trans (hk7.below (by have := hb5.size; simp; omega) (fun _ h => by omega))
            have hwa := waits_any w7 m s2 hW7
            rw [HF2.out.1] at hwa
            clear hta hk7 hW5
            go_wp2_with fail
            refine hwa.mono ?_
            rintro e w8 ⟨rfl, rfl⟩
            go_wp2_with fail
            have h1 := HF.out
            have h2 := HF2.out
            go_roundw
            case rel => exact ⟨k + 1, s2, by omega, by go_num, hW7, h2.1, by omega, by omega, by omega, by omega, by omega, by omega, hb7⟩
            case measure => simp [intOf]; omega
      · clear hb3 R1
        go_wp2_with (first
          | (refine wpList_store_fresh _ rfl _ _ _ rfl _ rfl _ rfl _ _ _ rfl ?_ ?_ rfl info_req ?_ ?_; (focus (simp; done)); (focus (simp [Wk.req]; done)); (focus (simp [Wk.req, OneCells, Value.oneCell']; done))))
        go_loopw [71] (fun i wq => ∃ j : Nat, j ≤ 4 ∧ i = .int .i64 j ∧ WAt wq m s1 ∧ wq.heap[w3.heap.size]? = some (.cells s1.req 54) ∧ Below w.heap.size w wq) (fun i _ => 4 - (intOf i).toNat)
        case atStart => exact ⟨0, by omega, rfl, hT4, hq, hb4⟩
        case round =>
          obtain ⟨j, hj, rfl, hW5, hq5, hb5⟩ := hrel
          have hms5 := hW5.lt
          have hqs5 := heap_lt hq5
          have hne : w3.heap.size ≠ m := Nat.ne_of_gt hms3
          by_cases hjk : (j : Int) < 0
          · exact absurd hjk (by omega)
          · have v1 : World.cell? _ ⟨w3.heap.size, 1, none⟩ = some (.int .u64 s1.an) := blk_cell hq5 1 rfl
            have hkb : (k : Int) + 1 ≤ 61 := by omega
            have hta : ∀ W, WAt W m s1 → Calls Try.prog 23 #[.pointer (some ⟨m, 0, none⟩), .int .u64 s1.an, .agg #[.int .i64 0, .string ⟨#[97]⟩, .int .u64 (k + 1), .int .i64 9]] W (RetW (.int .i64 0) m (takeF s1 ⟨0, ⟨#[97]⟩, k + 1, 9⟩) W) := by
              intro W hW
              have h1 := HF.out
              exact take_any W m s1 hW s1.an ⟨0, ⟨#[97]⟩, k + 1, 9⟩ (by omega) h1.1 rfl (by omega) (by omega)
            have hf := takeF_facts s1 ⟨0, ⟨#[97]⟩, k + 1, 9⟩
            generalize takeF s1 ⟨0, ⟨#[97]⟩, k + 1, 9⟩ = s2 at *
            have HF2 := Lib.hid hf
            have HQ5 := Lib.hid hq5
            clear hf hq5
            go_wp2_with fail
            refine (hta _ (hW5.alloc _)).mono ?_
            rintro e w7 ⟨rfl, hW7, hk7⟩
            have hb7 := (hb5.alloc hb5.size _).trans (hk7.below (by have := hb5.size; simp; omega) (fun _ h => by omega))
            have hwa := waits_any w7 m s2 hW7
            rw [HF2.out.1] at hwa
            clear hta hk7 hW5
            go_wp2_with fail
            refine hwa.mono ?_
            rintro e w8 ⟨rfl, rfl⟩
            go_wp2_with fail
            have h1 := HF.out
            have h2 := HF2.out
            go_roundw
            case rel => exact ⟨k + 1, s2, by omega, by go_num, hW7, h2.1, by omega, by omega, by omega, by omega, by omega, by omega, hb7⟩
            case measure => simp [intOf]; omega
    · go_wp2_with fail
      go_ret
      exact RetB.mk rfl hb

theorem numbers_walk (a0 : Option Addr) (l0 c0 : Nat) (z0 : List Int) (a1 : Option Addr) (l1 c1 : Nat) (z1 : List Int) (w : World) (r0 : IsRow .u64 w a0 l0 c0 z0) (r1 : IsRow .u8 w a1 l1 c1 z1) :
    Calls Try.prog 7 #[.slice a0 l0 c0, .slice a1 l1 c1] w (RetB (.bool true) w) := by
  obtain ⟨h0, m0⟩ := r0.rowAt
  obtain ⟨h1, m1⟩ := r1.rowAt
  by_cases hl : 60 < l0 ∨ l0 ≤ 60 ∧ 60 < l1
  · exact numbers_long a0 a1 l0 l1 c0 c1 w hl m0 m1
  · exact numbers_main a0 a1 l0 l1 c0 c1 z0 z1 w (by omega) (by omega) h0 h1

end Go.Proofs.Ytebkdkoamiefjaa

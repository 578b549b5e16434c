/- The statement SessionOnce: its walk. -/
import Derived.Test.YtebkdkoamiefjaaSession
namespace Go.Proofs.Ytebkdkoamiefjaa
open Go.RowKit Go.Maps Go.ChangeMaps

theorem lives20 (w : World) : Calls Try.prog 15 #[] w (RetB (.bool true) w) := by
  have L0 : aset 1 (5, (⟨0, ⟨#[97]⟩, 3, 0⟩ : Ans)) ([] : List (Int × (Int × Ans))) = [(1, (5, ⟨0, ⟨#[97]⟩, 3, 0⟩))] := rfl
  go_enter Try.func15, Try.ntmps15
  go_wp2_with fail
  refine (new_any _).mono ?_
  rintro e w1 ⟨rfl, hT, hb⟩
  go_wp2_with fail
  refine (keep_yes _ _ _ _ 1 (by decide) (hT.alloc _) 5 ⟨0, ⟨#[97]⟩, 3, 0⟩ (by decide) (by decide) (by simp) (by decide) (by decide) (by decide)).mono ?_
  rintro e w2 ⟨rfl, hT2, hk⟩
  rw [L0] at hT2
  have s1 := hT.map.lt
  have s0 := heap_lt hT.box
  have hx2 := hk.heap (by omega) (heap_new w1 _)
  have hb2 : Below w.heap.size w w2 := hb.trans ((((Below.refl _ _).alloc hb.size _)).trans (hk.below (by simp; omega) (by omega)))
  go_wp2_with fail
  have HL : Calls Try.prog 17 #[.pointer (some ⟨w.heap.size + 1, 0, none⟩), .int .u64 1, .int .u64 5] _ (RetB (.tuple #[.agg #[.int .i64 0, .string ⟨#[97]⟩, .int .u64 3, .int .i64 0], .bool true]) _) := look_some _ _ _ _ 1 (by decide) hT2 5 (by decide) (by simp) _ rfl
  refine HL.mono ?_
  clear HL
  rintro e w3 ⟨rfl, hb3⟩
  have s2 := heap_lt hx2
  have hT3 := hT2.below hb3 (heap_lt hT2.box) hT2.map.lt
  have hx3 := bheap hb3 hx2 s2
  have s3 := hb3.size
  go_wp2_with fail
  have hy3 := heap_new w3 (.cells #[.int .i64 0, .string ⟨#[97]⟩, .int .u64 3, .int .i64 0] 38)
  have HL : Calls Try.prog 17 #[.pointer (some ⟨w.heap.size + 1, 0, none⟩), .int .u64 1, .int .u64 4] _ (RetB (.tuple #[.agg #[.int .i64 21, .string ⟨#[]⟩, .int .u64 0, .int .i64 0], .bool true]) _) := look_some _ _ _ _ 1 (by decide) (hT3.alloc (.cells #[.int .i64 0, .string ⟨#[97]⟩, .int .u64 3, .int .i64 0] 38)) 4 (by decide) (by simp) _ rfl
  refine HL.mono ?_
  clear HL
  rintro e w4 ⟨rfl, hb4⟩
  have hT4 := (hT3.alloc _).below hb4 (heap_lt (hT3.alloc _).box) (hT3.alloc _).map.lt
  have hx4 := bheap hb4 (aheap hx3 _) (by simp; omega)
  have hy4 := bheap hb4 hy3 (by simp)
  have s4 := hb4.size
  go_wp2_with fail
  have hz4 := heap_new w4 (.cells #[.int .i64 21, .string ⟨#[]⟩, .int .u64 0, .int .i64 0] 38)
  have HL : Calls Try.prog 17 #[.pointer (some ⟨w.heap.size + 1, 0, none⟩), .int .u64 1, .int .u64 6] _ (RetB (.tuple #[.agg #[.int .i64 0, .string ⟨#[]⟩, .int .u64 0, .int .i64 0], .bool false]) _) := look_some _ _ _ _ 1 (by decide) (hT4.alloc (.cells #[.int .i64 21, .string ⟨#[]⟩, .int .u64 0, .int .i64 0] 38)) 6 (by decide) (by simp) _ rfl
  refine HL.mono ?_
  clear HL
  rintro e w5 ⟨rfl, hb5⟩
  simp only [World.size_alloc] at hb5 hb4 s4
  have hx5 := cells_of (bheap hb5 (aheap hx4 _) (by omega))
  have hy5 := cells_of (bheap hb5 (aheap hy4 _) (by omega))
  have hz5 := cells_of (bheap hb5 hz4 (by omega))
  have s5 := hb5.size
  simp only [World.size_alloc] at s5
  have q1 : w1.heap.size < w5.heap.size := by omega
  have q3 : w3.heap.size < w5.heap.size := by omega
  have q4 : w4.heap.size < w5.heap.size := by omega
  have hbel : Below w.heap.size w w5 := ((((((hb2.trans (hb3.mono (by omega))).alloc (by omega) _).trans (hb4.mono (by omega))).alloc (by omega) _)).trans (hb5.mono (by omega)))
  clear hx4 hy4 hz4 hx3 hy3 hx2 hT4 hT3 hT2 hT hb hb2 hb3 hb4 hb5 hk L0
  go_wp2
  go_ret
  exact RetB.mk rfl (hbel.alloc (by omega) _)

/-- One client alone: nothing is kept yet, or its last number and answer. -/
def OnceTab (c last : Int) (L : List (Int × (Int × Ans))) : Prop := (last = 0 ∧ L = []) ∨ (0 < last ∧ ∃ A, L = [(c, (last, A))])

theorem OnceTab.len {c last : Int} {L : List (Int × (Int × Ans))} (h : OnceTab c last L) : L.length ≤ 1 := by
  rcases h with ⟨_, rfl⟩ | ⟨_, A, rfl⟩ <;> simp

theorem OnceTab.lastN {c last : Int} {L : List (Int × (Int × Ans))} (h : OnceTab c last L) : lastN L c = last := by
  rcases h with ⟨rfl, rfl⟩ | ⟨_, A, rfl⟩
  · rfl
  · simp [Go.Proofs.Ytebkdkoamiefjaa.lastN, aget]

theorem OnceTab.set {c last : Int} {L : List (Int × (Int × Ans))} (h : OnceTab c last L) (n : Int) (A : Ans) : aset c (n, A) L = [(c, (n, A))] := by
  rcases h with ⟨rfl, rfl⟩ | ⟨_, B, rfl⟩
  · rfl
  · simp [aset]

section
variable (w : World) (t m : Nat) (L : List (Int × (Int × Ans))) (c last : Int) (hc : (Lit.int .u64 c).wf = true) (h0 : (c == 0) = false) (hT : TableAt w t m L) (hO : OnceTab c last L)
include hc h0 hT hO

theorem once_look (n : Int) (kn : Bool) (hk : kn = decide (0 < last ∧ n ≤ last)) :
    Calls Try.prog 17 #[.pointer (some ⟨t, 0, none⟩), .int .u64 c, .int .u64 n] w
      fun e w' => ∃ A : Ans, e = .returned (.tuple #[.agg #[.int .i64 A.err, .string A.name, .int .u64 A.tok, .int .i64 A.val], .bool kn]) ∧ Below w.heap.size w w' := by
  subst hk
  have hl := hO.len
  rcases hO with ⟨rfl, rfl⟩ | ⟨hp, A, rfl⟩
  · refine (look_none w t m [] c hc hT n h0 (by simp) rfl).mono ?_
    rintro e w' ⟨rfl, hb⟩
    exact ⟨Ans.zero, by simp [Ans.v], hb⟩
  · refine (look_some w t m _ c hc hT n h0 (by simp) (last, A) (by simp [aget])).mono ?_
    rintro e w' ⟨rfl, hb⟩
    refine ⟨if n = last then A else if n < last then Ans.ofErr 21 else Ans.zero, ?_, hb⟩
    have : decide (0 < last ∧ n ≤ last) = decide (n ≤ last) := by simp [hp]
    rw [this]
    rfl

theorem once_hit (A : Ans) (hL : L = [(c, (last, A))]) :
    Calls Try.prog 17 #[.pointer (some ⟨t, 0, none⟩), .int .u64 c, .int .u64 last] w
      (RetB (.tuple #[.agg #[.int .i64 A.err, .string A.name, .int .u64 A.tok, .int .i64 A.val], .bool true]) w) := by
  subst hL
  have := look_some w t m _ c hc hT last h0 (by simp) (last, A) (by simp [aget])
  simpa [Ans.v] using this

theorem once_no (n : Int) (a : Ans) (hn : n ≤ last) :
    Calls Try.prog 18 #[.pointer (some ⟨t, 0, none⟩), .int .u64 c, .int .u64 n, .agg #[.int .i64 a.err, .string a.name, .int .u64 a.tok, .int .i64 a.val]] w
      fun e w' => ∃ x : Int, (x == 0) = false ∧ e = .returned (.int .i64 x) ∧ Below w.heap.size w w' := by
  by_cases h1 : n = 0
  · refine (keep_arg w t m L c hT n a (.inr ⟨h0, by simp [h1]⟩)).mono ?_
    rintro e w' ⟨rfl, hb⟩
    exact ⟨1, by decide, rfl, hb⟩
  · have hl := hO.len
    refine (keep_no w t m L c hc hT n a h0 (by simpa using h1) (by omega) 21 (.inl ⟨by rw [hO.lastN]; exact hn, rfl⟩)).mono ?_
    rintro e w' ⟨rfl, hb⟩
    exact ⟨21, by decide, rfl, hb⟩

theorem once_yes (n : Int) (a : Ans) (hn : last < n) (hs : a.name.size ≤ 255) :
    Calls Try.prog 18 #[.pointer (some ⟨t, 0, none⟩), .int .u64 c, .int .u64 n, .agg #[.int .i64 a.err, .string a.name, .int .u64 a.tok, .int .i64 a.val]] w
      fun e w' => e = .returned (.int .i64 0) ∧ TableAt w' t m [(c, (n, a))] ∧ Keeps (fun k => k = m) w w' := by
  have hp : 0 ≤ last := by rcases hO with ⟨rfl, _⟩ | ⟨h, _⟩ <;> omega
  have hl := hO.len
  rw [← hO.set n a]
  exact keep_yes w t m L c hc hT n a h0 (by simp; omega) (by omega) (by rw [hO.lastN]; exact hn) (by simp; omega) hs
end

theorem once_zero (c : Int) (a : Option Addr) (len cap : Nat) (w : World) (h : (60 < len) ∨ len ≤ 60 ∧ (c == 0) = true) (hl : len ≤ 9223372036854775807) :
    Calls Try.prog 6 #[.int .u64 c, .slice a len cap] w (RetB (.bool true) w) := by
  rcases h with h | ⟨h, h1⟩
  all_goals
    go_enter Try.func6, Try.ntmps6
    go_wp2_with fail
    refine (lives20 _).mono ?_
    rintro e w1 ⟨rfl, hb1⟩
    go_wp2_with fail
    refine (lives20 _).mono ?_
    rintro e w2 ⟨rfl, hb2⟩
    go_wp2_with fail
    go_ret
    exact RetB.mk rfl (hb1.trans (hb2.mono hb1.size))

set_option maxHeartbeats 1000000 in
theorem once_main (c : Int) (a : Option Addr) (len cap : Nat) (zs : List Int) (w : World) (hc : (Lit.int .u64 c).wf = true) (h0 : (c == 0) = false) (hl : len ≤ 60)
    (hrow : len = 0 ∨ ∃ b off, a = some ⟨b, off, none⟩ ∧ (∀ i, i < len → w.cell? ⟨b, off + i, none⟩ = some (.int .u64 (zs.getD i 0))) ∧ (∀ i, i < len → 0 ≤ zs.getD i 0 ∧ zs.getD i 0 ≤ 18446744073709551615) ∧ b < w.heap.size) :
    Calls Try.prog 6 #[.int .u64 c, .slice a len cap] w (RetB (.bool true) w) := by
  have hc' := Lib.hid hc
  have hrow' := Lib.hid hrow
  clear hc hrow
  go_enter Try.func6, Try.ntmps6
  go_wp2_with fail
  refine (lives20 _).mono ?_
  rintro e w1 ⟨rfl, hb1⟩
  go_wp2_with fail
  refine (new_any _).mono ?_
  rintro e w2 ⟨rfl, hT2, hb2⟩
  have hbel := hb1.trans (hb2.mono hb1.size)
  have s1 := hb1.size
  generalize w1.heap.size = M at *
  clear hb1 hb2 w1
  go_wp2_with fail
  go_loopw [6, 30] (fun la i wr => ∃ (k : Nat) (last : Int) (L : List (Int × (Int × Ans))), k ≤ len ∧ i = .int .i64 k ∧ la = .int .u64 last ∧ 0 ≤ last ∧ last ≤ 18446744073709551615 ∧ TableAt wr (M + 1) M L ∧ OnceTab c last L ∧ Below w.heap.size w wr)
    (fun _ i _ => len - (intOf i).toNat)
  case atStart => exact ⟨0, 0, [], by omega, rfl, rfl, by omega, by omega, hT2, .inl ⟨rfl, rfl⟩, hbel⟩
  case round =>
    obtain ⟨k, last, L, hk, rfl, rfl, hl0, hl1, hT, hO, hb⟩ := hrel
    by_cases hlt : k < len
    · obtain ⟨b, off, rfl, hcell, hz, hbs⟩ := hrow'.out.resolve_left (by omega)
      have hcw : wr.cell? ⟨b, off + k, none⟩ = some (.int .u64 (zs.getD k 0)) := (bcell hb b _ hbs).trans (hcell k hlt)
      obtain ⟨hz0, hz1⟩ := hz k hlt
      generalize zs.getD k 0 = n at *
      clear hcell hz
      have sw := hb.size
      have hMl := hT.map.lt
      have hlk := fun kn hk => once_look (wr.alloc (.cells #[.int .i64 0, .string ⟨#[]⟩, .int .u64 0, .int .i64 k] 38)) (M + 1) M L c last hc'.out h0 (hT.alloc _) hO n kn hk
      rcases Int.lt_or_le last n with hn | hn
      · have hle : ¬ n ≤ last := by omega
        have hpn : 0 < n := by omega
        rcases Int.lt_or_le 0 last with hp | hp
        all_goals
          go_wp2_with fail
          refine (hlk false (by simp; omega)).mono ?_
          rintro e w3 ⟨A, rfl, hb3⟩
          have ha3 := bheap hb3 (heap_new wr _) (by simp)
          have hT3 := (hT.alloc _).below hb3 (heap_lt (hT.alloc _).box) (hT.alloc _).map.lt
          have hb3' : Below w.heap.size w w3 := (hb.alloc sw _).trans (hb3.mono (by simp; omega))
          have s3 := hb3.size
          simp only [World.size_alloc] at s3
          have q3 : wr.heap.size < w3.heap.size := by omega
          have hac := cells_of ha3
          clear hb3 hcw
          go_wp2_with fail
          refine (once_yes _ (M + 1) M L c last hc'.out h0 (hT3.alloc _) hO n ⟨0, ⟨#[]⟩, 0, k⟩ hn (by show 0 ≤ 255; omega)).mono ?_
          rintro e w4 ⟨rfl, hT4, hk4⟩
          have hb4' : Below w.heap.size w w4 := (hb3'.alloc (by omega) _).trans (hk4.below (by simp; omega) (by omega))
          have ha4 := hk4.heap (by omega) (aheap ha3 _)
          have s4 := hk4.size
          simp only [World.size_alloc] at s4
          have hac4 := cells_of ha4
          clear hk4 hac ha3 hlk hT3 hT
          go_wp2_with fail
          refine (once_hit _ (M + 1) M _ c n hc'.out h0 hT4 (.inr ⟨hpn, _, rfl⟩) _ rfl).mono ?_
          rintro e w5 ⟨rfl, hb5⟩
          have hT5 := hT4.below hb5 (heap_lt hT4.box) hT4.map.lt
          have hac5 := cells_of (bheap hb5 ha4 (by omega))
          have hb5' : Below w.heap.size w w5 := hb4'.trans (hb5.mono hb4'.size)
          have s5 := hb5.size
          have q5 : wr.heap.size < w5.heap.size := by omega
          clear hac4 ha4 hb5 hT4
          go_wp2
          go_roundw
          case rel => exact ⟨k + 1, n, _, by omega, by go_num, rfl, by omega, by omega, hT5.alloc _, .inr ⟨hpn, _, rfl⟩, hb5'.alloc (by omega) _⟩
          case measure => simp [intOf]; omega
      · rcases Int.lt_or_le 0 last with hp | hp
        · have hkt : (true : Bool) = decide (0 < last ∧ n ≤ last) := by simp [hp, hn]
          have HKT := Lib.hid hkt
          clear hkt
          go_wp2_with fail
          refine (hlk true (HKT.out)).mono ?_
          rintro e w3 ⟨A, rfl, hb3⟩
          have ha3 := bheap hb3 (heap_new wr _) (by simp)
          have hT3 := (hT.alloc _).below hb3 (heap_lt (hT.alloc _).box) (hT.alloc _).map.lt
          have hb3' : Below w.heap.size w w3 := (hb.alloc sw _).trans (hb3.mono (by simp; omega))
          have s3 := hb3.size
          simp only [World.size_alloc] at s3
          have q3 : wr.heap.size < w3.heap.size := by omega
          have hac := cells_of ha3
          clear hb3 hcw
          go_wp2_with fail
          refine (once_no _ (M + 1) M L c last hc'.out h0 (hT3.alloc _) hO n ⟨0, ⟨#[]⟩, 0, k⟩ (by omega)).mono ?_
          rintro e w4 ⟨x, hx, rfl, hb4⟩
          have hT4 := (hT3.alloc _).below hb4 (heap_lt (hT3.alloc _).box) (hT3.alloc _).map.lt
          have hb4' : Below w.heap.size w w4 := (hb3'.alloc (by omega) _).trans (hb4.mono (by simp; omega))
          clear hb4 hac ha3
          go_wp2
          go_roundw
          case rel => exact ⟨k + 1, last, L, by omega, by go_num, rfl, hl0, hl1, hT4, hO, hb4'⟩
          case measure => simp [intOf]; omega
        · obtain rfl : last = 0 := by omega
          have hkt : (false : Bool) = decide ((0 : Int) < 0 ∧ n ≤ 0) := by simp
          have HKT := Lib.hid hkt
          clear hkt
          go_wp2_with fail
          refine (hlk false (HKT.out)).mono ?_
          rintro e w3 ⟨A, rfl, hb3⟩
          have ha3 := bheap hb3 (heap_new wr _) (by simp)
          have hT3 := (hT.alloc _).below hb3 (heap_lt (hT.alloc _).box) (hT.alloc _).map.lt
          have hb3' : Below w.heap.size w w3 := (hb.alloc sw _).trans (hb3.mono (by simp; omega))
          have s3 := hb3.size
          simp only [World.size_alloc] at s3
          have q3 : wr.heap.size < w3.heap.size := by omega
          have hac := cells_of ha3
          clear hb3 hcw
          go_wp2_with fail
          refine (once_no _ (M + 1) M L c 0 hc'.out h0 (hT3.alloc _) hO n ⟨0, ⟨#[]⟩, 0, k⟩ (by omega)).mono ?_
          rintro e w4 ⟨x, hx, rfl, hb4⟩
          have hT4 := (hT3.alloc _).below hb4 (heap_lt (hT3.alloc _).box) (hT3.alloc _).map.lt
          have hb4' : Below w.heap.size w w4 := (hb3'.alloc (by omega) _).trans (hb4.mono (by simp; omega))
          clear hb4 hac ha3
          go_wp2
          go_roundw
          case rel => exact ⟨k + 1, 0, L, by omega, by go_num, rfl, hl0, hl1, hT4, hO, hb4'⟩
          case measure => simp [intOf]; omega
    · obtain rfl : k = len := by omega
      have hlast := last_any _ (M + 1) M L c hc'.out hT
      change Calls Try.prog _ _ _ (Ret (.int .u64 (lastN L c)) _) at hlast
      rw [hO.lastN] at hlast
      go_wp2_with fail
      refine hlast.mono ?_
      rintro e w' ⟨rfl, rfl⟩
      go_wp2
      go_ret
      exact RetB.mk (bool_eq (by simp)) hb

theorem once_walk (c : Int) (a : Option Addr) (len cap : Nat) (zs : List Int) (w : World) (hc : (Lit.int .u64 c).wf = true) (hr : IsRow .u64 w a len cap zs) :
    Calls Try.prog 6 #[.int .u64 c, .slice a len cap] w (RetB (.bool true) w) := by
  have hrow := hr.at
  have hlm : len ≤ 9223372036854775807 := by
    rcases hrow with h | ⟨_, _, _, _, h1, h2, _⟩ <;> omega
  by_cases hl : 60 < len
  · exact once_zero c a len cap w (.inl hl) hlm
  · cases h0 : (c == 0)
    · refine once_main c a len cap zs w hc h0 (by omega) ?_
      rcases hrow with h | ⟨b, off, rfl, _, h1, _, h3, hcell, hz, hb⟩
      · exact .inl h
      · exact .inr ⟨b, off, rfl, fun i hi => hcell i (by omega), fun i hi => bounds_u64 (hz i (by omega)), hb⟩
    · exact once_zero c a len cap w (.inr ⟨by omega, h0⟩) hlm

end Go.Proofs.Ytebkdkoamiefjaa

/- A client as it is read (package session). -/
import Derived.Test.YtckmenongeklpaaSessD
namespace Go.Proofs.Ytckmenongeklpaa
open Go.RowKit Go.Maps Go.ChangeMaps

/-- A client, as it is read. -/
structure One where
  c : Int
  n : Int
  a : Ans
  e : Int

def One.cells (x : One) : Array Value := #[.int .u64 x.c, .int .u64 x.n, .int .i64 x.a.err, .string x.a.name, .int .u64 x.a.tok, .int .i64 x.a.val, .int .i64 x.e]

/-- What read reads. -/
def oneF (s : RS) : One × RS :=
  (⟨((numR s).1 : Nat), ((numR (numR s).2).1 : Nat), (ansF (textR 300 (numR (numR s).2).2).1).1, (ansF (textR 300 (numR (numR s).2).2).1).2⟩, (textR 300 (numR (numR s).2).2).2)

def RetO (x : One) (p : Nat) (s : RS) (w : World) (e : Ending) (w' : World) : Prop := e = .returned (.agg x.cells) ∧ RdAt w' p s ∧ Keeps (fun k => k = p) w w'

theorem info_one : (Try.prog.info? 56).map (·.size) = some 7 := by kernel_rfl

theorem textR_len (m : Nat) (s : RS) : (textR m s).1.length ≤ m := by
  by_cases h : (textR m s).2.e = 0
  · exact (textR_back h).2
  · unfold textR at h ⊢
    split at h
    · rename_i h1
      rw [if_pos h1]
      split at h
      · rename_i h2
        rw [if_pos h2]
        simp
      · rename_i h2
        exact absurd rfl h
    · rename_i h1
      rw [if_neg h1]
      simp

theorem keeps_newB {S : Nat → Prop} {w a b : World} (h : Keeps S w a) (hb : Below w.heap.size a b) : Keeps S w b :=
  ⟨hb.os.trans h.os, hb.tape.trans h.tape, hb.output.trans h.output, Nat.le_trans h.size hb.size, fun k hk hn => (hb.block k hk).trans (h.block k hk hn)⟩

theorem keeps_after {S T : Nat → Prop} {W w w1 : World} (h : Keeps S W w) (h1 : Keeps T w w1) (hT : ∀ k, T k → W.heap.size ≤ k) : Keeps S W w1 :=
  ⟨h1.os.trans h.os, h1.tape.trans h.tape, h1.output.trans h.output, Nat.le_trans h.size h1.size, fun k hk hn => (h1.block k (Nat.lt_of_lt_of_le hk h.size) (fun t => by have := hT k t; omega)).trans (h.block k hk hn)⟩

set_option maxRecDepth 100000 in
theorem read1_any (w : World) (p : Nat) (s : RS) (h : RdAt w p s) :
    Calls Try.prog 19 #[.pointer (some ⟨p, 0, none⟩)] w (RetO (oneF s).1 p (oneF s).2 w) := by
  obtain ⟨n1, hn1⟩ : ∃ n1, numR s = n1 := ⟨_, rfl⟩
  obtain ⟨n2, hn2⟩ : ∃ n2, numR n1.2 = n2 := ⟨_, rfl⟩
  obtain ⟨t, ht⟩ : ∃ t, textR 300 n2.2 = t := ⟨_, rfl⟩
  obtain ⟨f, hf⟩ : ∃ f, ansF t.1 = f := ⟨_, rfl⟩
  have hO : oneF s = (⟨(n1.1 : Nat), (n2.1 : Nat), f.1, f.2⟩, t.2) := by unfold oneF; rw [hn1, hn2, ht, hf]
  have htl : t.1.length ≤ 300 := by rw [← ht]; exact textR_len _ _
  have N1 := Lib.hid hn1
  have N2 := Lib.hid hn2
  have N3 := Lib.hid ht
  have N4 := Lib.hid hf
  have HO := Lib.hid hO
  have HR := Lib.hid h
  have hp := h.lt
  clear hn1 hn2 ht hf hO h
  go_enter Try.func19, Try.ntmps19
  go_wp2_with fail
  obtain ⟨W0, hW0⟩ : ∃ W0, W0 = w.alloc (.cells #[.int .u64 0, .int .u64 0, .int .i64 0, .string ⟨#[]⟩, .int .u64 0, .int .i64 0, .int .i64 0] 56) := ⟨_, rfl⟩
  rw [← hW0]
  have HA0 : Hid (W0.heap[w.heap.size]? = some (.cells #[.int .u64 0, .int .u64 0, .int .i64 0, .string ⟨#[]⟩, .int .u64 0, .int .i64 0, .int .i64 0] 56 (0, 0))) := Lib.hid (by rw [hW0]; exact heap_new _ _)
  have HK0 : Hid (Keeps (fun k => k = p) w W0) := Lib.hid (by rw [hW0]; exact (Keeps.refl _ _).alloc _)
  have HR0 : Hid (RdAt W0 p s) := Lib.hid (by rw [hW0]; exact HR.out.alloc _)
  have hz0 : w.heap.size + 1 ≤ W0.heap.size := by rw [hW0]; simp
  clear hW0
  refine (rnum_any W0 p s HR0.out).mono ?_
  rintro e w1 ⟨rfl, hR1, hk1⟩
  rw [N1.out] at hR1
  have HR1 := Lib.hid hR1
  have HA1 := Lib.hid (hk1.heap (by omega) HA0.out)
  have HK1 := Lib.hid (HK0.out.trans hk1)
  have hz1 : w.heap.size + 1 ≤ w1.heap.size := Nat.le_trans hz0 hk1.size
  rw [N1.out]
  clear hR1 hk1
  go_wp2_with (first | (refine wpList_store_fresh _ rfl _ _ _ rfl _ rfl _ rfl w1 _ _ rfl rfl ?_ ?_ info_one ?_ ?_; (focus (simp; done)); (focus (simp; done)); (focus (simp [OneCells, Value.oneCell']; done))) | fail)
  obtain ⟨b, hb⟩ : ∃ b, b = w1.heap.size := ⟨_, rfl⟩
  obtain ⟨W2, hW2⟩ : ∃ W2, W2 = w1.alloc (.cells #[.int .u64 n1.1, .int .u64 0, .int .i64 0, .string ⟨#[]⟩, .int .u64 0, .int .i64 0, .int .i64 0] 56) := ⟨_, rfl⟩
  rw [← hW2, ← hb]
  have HX2 : Hid (W2.heap[b]? = some (.cells #[.int .u64 n1.1, .int .u64 0, .int .i64 0, .string ⟨#[]⟩, .int .u64 0, .int .i64 0, .int .i64 0] 56 (0, 0))) := Lib.hid (by rw [hW2, hb]; exact heap_new _ _)
  have HA2 : Hid (W2.heap[w.heap.size]? = some (.cells #[.int .u64 0, .int .u64 0, .int .i64 0, .string ⟨#[]⟩, .int .u64 0, .int .i64 0, .int .i64 0] 56 (0, 0))) := Lib.hid (by rw [hW2]; exact aheap HA1.out _)
  have HK2 : Hid (Keeps (fun k => k = p) w W2) := Lib.hid (by rw [hW2]; exact HK1.out.alloc _)
  have HR2 : Hid (RdAt W2 p n1.2) := Lib.hid (by rw [hW2]; exact HR1.out.alloc _)
  have hbs : w.heap.size + 1 ≤ b ∧ b < W2.heap.size := ⟨by omega, by rw [hW2, hb]; simp⟩
  obtain ⟨hbs1, hbs2⟩ := hbs
  clear hW2 hb HA1 HK1 HR1 HA0 HK0 HR0 hz0 hz1
  refine (rnum_any W2 p _ HR2.out).mono ?_
  rintro e w3 ⟨rfl, hR3, hk3⟩
  rw [N2.out] at hR3
  have hx3 := hk3.heap (by omega : ¬ b = p) HX2.out
  have c3 := blk_cell hx3 1 rfl
  have f3 := blk_free hx3 1
  have l3 := heap_lt hx3
  have HR3 := Lib.hid hR3
  have HX3 := Lib.hid hx3
  have HA3 := Lib.hid (hk3.heap (by omega : ¬ w.heap.size = p) HA2.out)
  have HK3 := Lib.hid (HK2.out.trans hk3)
  rw [N2.out]
  clear hR3 hk3 hx3 hbs2
  go_wp2_with fail
  obtain ⟨W4, hW4⟩ : ∃ W4, W4 = w3.setCell ⟨b, 1, none⟩ (.int .u64 n2.1) := ⟨_, rfl⟩
  rw [← hW4]
  have HX4 : Hid (W4.heap[b]? = some (.cells #[.int .u64 n1.1, .int .u64 n2.1, .int .i64 0, .string ⟨#[]⟩, .int .u64 0, .int .i64 0, .int .i64 0] 56 (0, 0))) := Lib.hid (by rw [hW4]; exact blk_set HX3.out 1 _)
  have HA4 : Hid (W4.heap[w.heap.size]? = some (.cells #[.int .u64 0, .int .u64 0, .int .i64 0, .string ⟨#[]⟩, .int .u64 0, .int .i64 0, .int .i64 0] 56 (0, 0))) := Lib.hid (by rw [hW4]; exact blk_set_other HA3.out (by simp; omega) _)
  have HK4 : Hid (Keeps (fun k => k = p) w W4) := Lib.hid (by rw [hW4]; exact HK3.out.setCell (p := ⟨b, 1, none⟩) (.inr (by show w.heap.size ≤ b; omega)) _)
  have HR4 : Hid (RdAt W4 p n2.2) := Lib.hid (by
    rw [hW4]
    refine HR3.out.kept (S := fun k => k = b) ((Keeps.refl (fun k => k = b) w3).setCell (p := ⟨b, 1, none⟩) (.inl rfl) _) (fun k hk e => ?_)
    omega)
  clear hW4 c3 f3 l3 HX3 HA3 HK3 HR3 HX2 HA2 HK2 HR2
  refine (rtext_any W4 p _ HR4.out 300 (by omega)).mono ?_
  rintro e w5 ⟨rfl, hR5, hk5⟩
  rw [N3.out] at hR5
  have HR5 := Lib.hid hR5
  have HX5 := Lib.hid (hk5.heap (by omega : ¬ b = p) HX4.out)
  have HA5 := Lib.hid (hk5.heap (by omega : ¬ w.heap.size = p) HA4.out)
  have HK5 := Lib.hid (HK4.out.trans hk5)
  rw [N3.out]
  clear hR5 hk5
  have hts : (⟨t.1.toArray⟩ : ByteArray).size ≤ maxLen := by unfold maxLen; show t.1.toArray.size ≤ _; rw [List.size_toArray]; omega
  go_wp2_with (first | (refine wpList_bytes_of rfl _ rfl ⟨t.1.toArray⟩ rfl hts ?_; intro v w6 hb6 hv6 hs6) | fail)
  obtain ⟨ad, cp, rfl, _⟩ := id hs6
  have hs6' : Sl u8v w6 (.slice ad t.1.length cp) t.1 := by simpa using hs6
  have HX6 := Lib.hid (bheap hb6 HX5.out (heap_lt HX5.out))
  have HA6 := Lib.hid (bheap hb6 HA5.out (heap_lt HA5.out))
  have HK6 := Lib.hid (HK5.out.trans (Keeps.of_belowS hb6))
  have HR6 : Hid (RdAt w6 p t.2) := Lib.hid (HR5.out.kept (Keeps.of_belowS (S := fun _ => False) hb6) (fun _ _ h => h))
  have hsz6 : w5.heap.size ≤ w6.heap.size := hb6.size
  have HS6 := Lib.hid hs6'
  clear hs6 hs6' hb6 hv6 hts
  have e1 : t.1.toArray.toList.length = t.1.length := by simp
  go_wp2_with fail
  refine (ansOf_any w6 ad _ cp t.1 HS6.out (by omega)).mono ?_
  rintro e w7 ⟨rfl, hb7⟩
  rw [N4.out]
  have HX7 := Lib.hid (bheap hb7 HX6.out (heap_lt HX6.out))
  have HA7 := Lib.hid (bheap hb7 HA6.out (heap_lt HA6.out))
  have HK7 := Lib.hid (HK6.out.trans (Keeps.of_belowS hb7))
  have HR7 : Hid (RdAt w7 p t.2) := Lib.hid (HR6.out.kept (Keeps.of_belowS (S := fun _ => False) hb7) (fun _ _ h => h))
  obtain ⟨⟨fe, fn, ft, fv⟩, fc⟩ := f
  unfold Ans.v
  simp only
  clear hb7 HK6 HR6 HX6 HA6 HS6
  go_wp2_with (first | (refine wpList_store_at _ rfl _ _ _ rfl b 2 rfl _ rfl _ #[.int .u64 n1.1, .int .u64 n2.1, .int .i64 fe, .string fn, .int .u64 ft, .int .i64 fv, .int .i64 0] _ HX7.out ?_ ?_ rfl info_ans ?_ ?_; (focus (simp; done)); (focus (simp; done)); (focus (simp [OneCells, Value.oneCell']; done)); rintro W8 hx8 hk8 hs8; have HX8 := Lib.hid hx8; have c8 := blk_cell hx8 6 rfl; have f8 := blk_free hx8 6; have l8 := heap_lt hx8; have HK8 := Lib.hid hk8; clear hx8 hk8) | (refine wpList_load_all _ rfl _ _ rfl _ rfl _ #[.int .u64 n1.1, .int .u64 n2.1, .int .i64 fe, .string fn, .int .u64 ft, .int .i64 fv, .int .i64 fc] _ _ (blk_set HX8.out 6 _) rfl _ Try.underlying56 rfl info_one ?_) | (refine wpList_store_all _ rfl _ _ _ rfl _ rfl _ rfl _ _ (blk_set_other (HK8.out.heap (fun e : w.heap.size = b => by omega) HA7.out) (a := ⟨b, 6, none⟩) (by simp; omega) (.int .i64 fc)) ?_ ?_ info_one ?_ ?_; (focus (simp; done)); (focus (simp; done)); (focus (simp [OneCells, Value.oneCell', spl]; done)); rintro W9 hz9 hk9 hs9) | fail)
  have HR8 : RdAt W8 p t.2 := HR7.out.kept HK8.out (fun k hk e => by have e' : k = b := e; omega)
  have HKK : Keeps (fun k => k = p) w W8 := keeps_after HK7.out HK8.out (fun k e => by have e' : k = b := e; omega)
  refine bodyPost_ret (results_blk rfl _ _ _ _ _ _ rfl hz9 _ Try.underlying56 rfl info_one) rfl ?_
  have hR8 : RdAt (W8.setCell ⟨b, 6, none⟩ (.int .i64 fc)) p t.2 := HR8.kept ((Keeps.refl (fun k => k = b) W8).setCell (p := ⟨b, 6, none⟩) (.inl rfl) _) (fun k hk e => by have e' : k = b := e; omega)
  rw [HO.out]
  exact ⟨rfl, hR8.kept hk9 (fun k hk e => by have e' : k = w.heap.size := e; omega), keeps_after (HKK.setCell (p := ⟨b, 6, none⟩) (.inr (by show w.heap.size ≤ b; omega)) _) hk9 (fun k e => by have e' : k = w.heap.size := e; omega)⟩

end Go.Proofs.Ytckmenongeklpaa

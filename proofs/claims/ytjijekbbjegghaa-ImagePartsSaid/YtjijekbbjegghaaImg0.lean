/- Package image: a scheduler without a job as bytes; none as none. -/
import Derived.Test.YtjijekbbjegghaaJobs0
import Derived.Test.YtjijekbbjegghaaOctV
namespace Go.Proofs.Ytjijekbbjegghaa
open Go.RowKit Go.ChangeMaps Go.Sort

theorem EmptyAt.kept {B : Nat} {w w' : World} {b : Nat} {now each : Int} (h : EmptyAt w b now each) (hk : Keeps (fun k => B ≤ k) w w') (hB : w.heap.size ≤ B) : EmptyAt w' b now each := by
  obtain ⟨m, p1, p2, p3, p4, h1, h2⟩ := h
  exact ⟨m, p1, p2, p3, p4, hk.heap (by have := heap_lt h1; omega) h1, hk.heap (by have := heap_lt h2; omega) h2⟩
theorem EmptyAt.below {w w' : World} {b : Nat} {now each : Int} (h : EmptyAt w b now each) (hb : Below w.heap.size w w') : EmptyAt w' b now each := h.kept (Keeps.of_below hb) (Nat.le_refl _)

section
variable (w : World) (b : Nat) (now each : Int) (h : EmptyAt w b now each)
include h
theorem now_any : Calls Try.prog 14 #[.pointer (some ⟨b, 0, none⟩)] w (Ret (.int .i64 now) w) := by
  obtain ⟨m, p1, p2, p3, p4, h1, _⟩ := h
  have c : w.cell? ⟨b, 0, none⟩ = some (.int .i64 now) := blk_cell h1 0 rfl
  clear h1
  go_enter Try.func14, Try.ntmps14
  go_wp2
  go_ret
  exact Ret.mk rfl
theorem each_any : Calls Try.prog 16 #[.pointer (some ⟨b, 0, none⟩)] w (Ret (.int .i64 each) w) := by
  obtain ⟨m, p1, p2, p3, p4, h1, _⟩ := h
  have c : w.cell? ⟨b, 1, none⟩ = some (.int .i64 each) := blk_cell h1 1 rfl
  clear h1
  go_enter Try.func16, Try.ntmps16
  go_wp2
  go_ret
  exact Ret.mk rfl
theorem order_any : Calls Try.prog 17 #[.pointer (some ⟨b, 0, none⟩)] w (Ret (.int .u64 0) w) := by
  obtain ⟨m, p1, p2, p3, p4, h1, _⟩ := h
  have c : w.cell? ⟨b, 2, none⟩ = some (.int .u64 0) := blk_cell h1 2 rfl
  clear h1
  go_enter Try.func17, Try.ntmps17
  go_wp2
  go_ret
  exact Ret.mk rfl

set_option maxRecDepth 100000 in
theorem jobs1_none (l c : Nat) (hc : w.heap[c]? = some (.cells #[.pointer (some ⟨b, 0, none⟩)] 28 (0, 0))) :
    Calls Try.prog 32 #[.func (.yield l) #[] #[], .pointer (some ⟨c, 0, none⟩)] w (RetB (.tuple #[]) w) := by
  obtain ⟨m, p1, p2, p3, p4, h1, h2⟩ := h
  have c0 : w.cell? ⟨c, 0, none⟩ = some (.pointer (some ⟨b, 0, none⟩)) := blk_cell hc 0 rfl
  have c3 : w.cell? ⟨b, 3, none⟩ = some (.map (some m)) := blk_cell h1 3 rfl
  have hk := keys_any w m
  have HS : Hid (Calls Try.prog 33 #[.func (.func 43) #[] #[.pointer (some ⟨w.heap.size, 0, none⟩)]] (w.alloc (.cells #[.map (some m)] 70)) (RetB (.slice none 0 0) (w.alloc (.cells #[.map (some m)] 70)))) := Lib.hid
    (sorted_none _ _ _ (enters_of Try.func43 (by kernel_rfl) rfl) fun l' W hW =>
      (keys1_none W l' w.heap.size m (bheap hW (heap_new w _) (by simp)) (bheap hW (aheap h2 _) (by have := heap_lt h2; simp; omega))).mono fun e B ⟨he, hb⟩ => ⟨⟨_, he⟩, hb⟩)
  clear h1 h2 hc
  go_enter Try.func32, Try.ntmps32
  go_wp2_with fail
  refine hk.mono ?_
  rintro e w1 ⟨rfl, rfl⟩
  go_wp2_with fail
  refine HS.out.mono ?_
  rintro e w2 ⟨rfl, hb2⟩
  have HB2 := Lib.hid (((Below.refl _ w).alloc (Nat.le_refl _) (.cells #[.map (some m)] 70)).trans (hb2.mono (by simp)))
  clear hb2 HS hk c0 c3
  go_wp2_with fail
  go_loop [16] (fun i => i = .int .i64 0) (fun _ => 0)
  case atStart => rfl
  case round =>
    obtain rfl := hrel
    go_wp2
    go_end0
    exact RetB.mk rfl HB2.out
end

theorem jobs_any (w : World) (b : Nat) : Calls Try.prog 20 #[.pointer (some ⟨b, 0, none⟩)] w (fun e w' => e = .returned (.func (.func 32) #[] #[.pointer (some ⟨w.heap.size, 0, none⟩)]) ∧ w' = w.alloc (.cells #[.pointer (some ⟨b, 0, none⟩)] 28)) := by
  go_enter Try.func20, Try.ntmps20
  go_wp2
  go_ret
  exact ⟨rfl, rfl⟩

/-- The jobs collected: none. -/
theorem collect_none (w : World) (b : Nat) (now each : Int) (h : EmptyAt w b now each) :
    Calls Try.prog 19 #[.func (.func 32) #[] #[.pointer (some ⟨w.heap.size, 0, none⟩)]] (w.alloc (.cells #[.pointer (some ⟨b, 0, none⟩)] 28)) (RetB (.slice none 0 0) (w.alloc (.cells #[.pointer (some ⟨b, 0, none⟩)] 28))) :=
  collectJ_none _ _ _ (enters_of Try.func32 (by kernel_rfl) rfl) fun l' W hW =>
    (jobs1_none W b now each (h.below (((Below.refl _ w).alloc (Nat.le_refl _) _).trans (hW.mono (by simp)))) l' w.heap.size (bheap hW (heap_new w _) (by simp))).mono fun e B ⟨he, hb⟩ => ⟨⟨_, he⟩, hb⟩

theorem wrote_on {B p : Nat} {w w1 w2 : World} {r r' : Option Nat} (hk : Keeps (fun k => B ≤ k) w w1) (hp : B ≤ p) (hr : ∀ k, r = some k → B ≤ k) (hB : B ≤ w1.heap.size) (h : Wrote p w1 r w2 r') : Keeps (fun k => B ≤ k) w w2 ∧ ∀ k, r' = some k → B ≤ k := by
  refine ⟨hk.trans (h.keeps.mono fun k _ hk => ?_), fun k hk => ?_⟩
  · rcases hk with rfl | hk
    · exact hp
    · exact hr k hk.symm
  · rcases h.row with h1 | ⟨j, h1, h2⟩
    · exact hr k (h1 ▸ hk)
    · rw [h1] at hk; cases hk; omega

theorem put0_any (w : World) (p : Nat) (r : Option Nat) (bs : List UInt8) (h : Wr w p r bs) (f : Value) (hl : bs.length + 10 ≤ 70368744177664) :
    Calls Try.prog 18 #[.pointer (some ⟨p, 0, none⟩), .slice none 0 0, f] w (WroteB p w r (bs ++ numB 0)) := by
  have hn := num_any w p r bs h 0 (by omega) (by omega) hl
  rw [show ((0 : Int)).toNat = 0 from rfl] at hn
  have hw0 : IntKind.u64.wrap 0 = 0 := by decide
  clear h hl
  go_enter Try.func18, Try.ntmps18
  go_wp2_with fail
  refine hn.mono ?_
  rintro e w1 ⟨rfl, r1, hW1, hk1⟩
  have HW1 := Lib.hid hW1
  have HK1 := Lib.hid hk1
  clear hW1 hk1 hn
  go_wp2_with fail
  go_loop [15] (fun i => i = .int .i64 0) (fun _ => 0)
  case atStart => rfl
  case round =>
    obtain rfl := hrel
    go_wp2
    go_end0
    exact ⟨rfl, r1, HW1.out, HK1.out⟩

set_option maxRecDepth 100000 in
set_option maxHeartbeats 4000000 in
theorem imageOf_empty (w : World) (b : Nat) (now each : Int) (h : EmptyAt w b now each) (h1 : -9223372036854775808 ≤ now) (h2 : now ≤ 9223372036854775807) (h3 : 0 ≤ each) (h4 : each ≤ 9223372036854775807) :
    Calls Try.prog 7 #[.pointer (some ⟨b, 0, none⟩)] w (fun e w' => ∃ v, e = .returned v ∧ Below w.heap.size w w' ∧ Sl u8v w' v (intB now ++ numB each.toNat ++ numB 0 ++ numB 0)) := by
  have H := Lib.hid h
  clear h
  have hl1 : (intB now).length ≤ 10 := numB_len10 (by have := zig_lt h1 h2; omega)
  have hl2 : (numB each.toNat).length ≤ 10 := numB_len10 (by omega)
  have hl3 : (numB 0).length ≤ 10 := numB_len10 (by omega)
  have HL := Lib.hid (And.intro hl1 (And.intro hl2 hl3))
  have hwe : IntKind.u64.wrap each = each := IntWalk.u64_in _ (by omega)
  clear hl1 hl2 hl3
  go_enter Try.func7, Try.ntmps7
  go_upto_region 4 with (fail)
  obtain ⟨w1, hw1⟩ : ∃ w1, w1 = w.alloc (.cells #[.slice none 0 0] 43) := ⟨_, rfl⟩
  rw [← hw1]
  have hW1 : Wr w1 w.heap.size none [] := by
    rw [hw1]
    exact ⟨.slice none 0 0, heap_new _ _, rfl, by simp, World.ownsRow_nil _ _ _ _⟩
  have HK1 : Hid (Keeps (fun k => w.heap.size ≤ k) w w1 ∧ ∀ k, (none : Option Nat) = some k → w.heap.size ≤ k) := Lib.hid ⟨by rw [hw1]; exact (Keeps.refl _ _).alloc _, fun k hk => by cases hk⟩
  clear hw1
  have hn1 := now_any w1 b now each (H.out.kept HK1.out.1 (Nat.le_refl _))
  have hi1 := wint_any w1 w.heap.size none [] hW1 now h1 h2 (by simp)
  rw [List.nil_append] at hi1
  clear hW1
  go_wp2_with fail
  refine hn1.mono ?_
  rintro e w' ⟨rfl, rfl⟩
  go_wp2_with fail
  refine hi1.mono ?_
  rintro e w2 ⟨rfl, r2, hW2, hk2⟩
  have HK2 := Lib.hid (wrote_on HK1.out.1 (Nat.le_refl _) HK1.out.2 HK1.out.1.size hk2)
  have hn2 := each_any w2 b now each (H.out.kept HK2.out.1 (Nat.le_refl _))
  have hi2 := num_any w2 w.heap.size r2 _ hW2 each h3 (by omega) (by have := HL.out; omega)
  clear hW2 hk2 hn1 hi1 HK1
  go_wp2_with fail
  refine hn2.mono ?_
  rintro e w' ⟨rfl, rfl⟩
  go_wp2_with fail
  refine hi2.mono ?_
  rintro e w3 ⟨rfl, r3, hW3, hk3⟩
  have HK3 := Lib.hid (wrote_on HK2.out.1 (Nat.le_refl _) HK2.out.2 HK2.out.1.size hk3)
  have hn3 := order_any w3 b now each (H.out.kept HK3.out.1 (Nat.le_refl _))
  have hi3 := num_any w3 w.heap.size r3 _ hW3 0 (by omega) (by omega) (by have := HL.out; rw [List.length_append]; omega)
  rw [show ((0 : Int)).toNat = 0 from rfl] at hi3
  clear hW3 hk3 hn2 hi2 HK2
  go_wp2_with fail
  refine hn3.mono ?_
  rintro e w' ⟨rfl, rfl⟩
  go_wp2_with fail
  refine hi3.mono ?_
  rintro e w4 ⟨rfl, r4, hW4, hk4⟩
  have HK4 := Lib.hid (wrote_on HK3.out.1 (Nat.le_refl _) HK3.out.2 HK3.out.1.size hk4)
  have hj := jobs_any w4 b
  have hc := collect_none w4 b now each (H.out.kept HK4.out.1 (Nat.le_refl _))
  have HW4 := Lib.hid hW4
  clear hW4 hk4 hn3 hi3 HK3
  go_wp2_with fail
  refine hj.mono ?_
  rintro e w' ⟨rfl, rfl⟩
  go_wp2_with fail
  refine hc.mono ?_
  rintro e w5 ⟨rfl, hb5⟩
  have hb45 : Below w4.heap.size w4 w5 := ((Below.refl _ w4).alloc (Nat.le_refl _) _).trans (hb5.mono (by simp))
  have hW5 : Wr w5 w.heap.size r4 _ := HW4.out.kept (Keeps.of_below hb45) (fun hh => by have := HW4.out.lt; omega) (fun k hk hh => by have := HW4.out.row_lt k hk; omega)
  have HK5 : Hid (Keeps (fun k => w.heap.size ≤ k) w w5) := Lib.hid (HK4.out.1.trans ((Keeps.of_belowS hb45)))
  have HR4 := Lib.hid HK4.out.2
  have hp := put0_any w5 w.heap.size r4 _ hW5 (.func (.func 21) #[] #[]) (by have := HL.out; rw [List.length_append, List.length_append]; omega)
  clear hb5 hb45 hW5 hc hj HW4 HK4
  go_wp2_with fail
  refine hp.mono ?_
  rintro e w6 ⟨rfl, r6, hW6, hk6⟩
  have HK6 := Lib.hid (wrote_on HK5.out (Nat.le_refl _) HR4.out HK5.out.size hk6)
  have hby := wbytes_any w6 w.heap.size r6 _ hW6 (by have := HL.out; rw [List.length_append, List.length_append, List.length_append]; omega)
  clear hW6 hk6 hp HK5 HR4
  go_wp2_with fail
  refine hby.mono ?_
  rintro e w7 ⟨v, rfl, hb7, hs7, _⟩
  have HS7 := Lib.hid hs7
  have HB7 := Lib.hid ((HK6.out.1.below (Nat.le_refl _) fun j hj => hj).trans (hb7.mono HK6.out.1.size))
  clear hb7 hs7 hby
  go_wp2_with fail
  go_ret
  exact ⟨v, rfl, HB7.out, HS7.out⟩

theorem imageOf_nil (w : World) : Calls Try.prog 7 #[.pointer none] w (Ret (.slice none 0 0) w) := by
  go_enter Try.func7, Try.ntmps7
  go_wp2
  go_ret
  exact Ret.mk rfl

theorem more_nil (w : World) : Calls Try.prog 38 #[.int .u32 0, .slice none 0 0] w (Ret (.int .u32 0) w) := by
  have hsg : IntKind.u32.signed = false := rfl
  have hx0 : bits BinOp.xor IntKind.u32 IntKind.u32.max 0 = 4294967295 := by decide +kernel
  have hx1 : bits BinOp.xor IntKind.u32 IntKind.u32.max 4294967295 = 0 := by decide +kernel
  go_enter Try.func38, Try.ntmps38
  go_wp2
  go_loop [0, 11] (fun s0 i => s0 = .int .u32 4294967295 ∧ i = .int .i64 0) (fun _ _ => 0)
  case atStart => exact ⟨by first | rfl | rw [hx0], rfl⟩
  case round =>
    obtain ⟨rfl, rfl⟩ := hrel
    go_wp2
    go_ret
    exact Ret.mk (by first | rfl | rw [hx1])

theorem sum_nil (w : World) : Calls Try.prog 23 #[.slice none 0 0] w (Ret (.int .u32 0) w) := by
  have h := more_nil w
  go_enter Try.func23, Try.ntmps23
  go_wp2_with (go_at_call 38; refine h.mono ?_; rintro e w' ⟨rfl, rfl⟩)
  go_ret
  exact Ret.mk rfl

theorem mark_nil (w : World) : Calls Try.prog 8 #[.pointer none] w (Ret (.int .u32 0) w) := by
  have h := imageOf_nil w
  have hs := sum_nil w
  go_enter Try.func8, Try.ntmps8
  go_wp2_with fail
  refine h.mono ?_
  rintro e w' ⟨rfl, rfl⟩
  go_wp2_with fail
  refine hs.mono ?_
  rintro e w' ⟨rfl, rfl⟩
  go_wp2_with fail
  go_ret
  exact Ret.mk rfl

set_option maxRecDepth 100000 in
theorem lives19_any (w : World) : Calls Try.prog 4 #[] w (RetB (.bool true) w) := by
  have hn := schedNew_any w 0 9 (by omega) (by omega) (by omega) (by omega)
  have HI := Lib.hid (fun W b (h : EmptyAt W b 0 9) => imageOf_empty W b 0 9 h (by omega) (by omega) (by omega) (by omega))
  have hb4 : intB 0 ++ numB (9 : Int).toNat ++ numB 0 ++ numB 0 = [0, 9, 0, 0] := by
    rw [show intB 0 = numB 0 from rfl, show (9 : Int).toNat = 9 from rfl, numB_lt (x := 0) (by omega), numB_lt (x := 9) (by omega)]; rfl
  rw [hb4] at HI
  clear hb4
  go_enter Try.func4, Try.ntmps4
  go_wp2_with fail
  refine hn.mono ?_
  rintro e w1 ⟨b, rfl, hE, hb1⟩
  have hi := HI.out w1 b hE
  clear hE hn
  go_wp2_with fail
  refine hi.mono ?_
  rintro e w2 ⟨v, rfl, hb2, hs2⟩
  obtain ⟨a', cap', rfl, _⟩ := id hs2
  have hst := sl_string hs2 Try.underlying22
  have HB := Lib.hid (hb1.trans (hb2.mono hb1.size))
  clear hs2 hb2 hb1 hi
  simp only [List.length_cons, List.length_nil] at hst ⊢
  go_wp2_with fail
  go_ret
  exact RetB.mk rfl HB.out

end Go.Proofs.Ytjijekbbjegghaa

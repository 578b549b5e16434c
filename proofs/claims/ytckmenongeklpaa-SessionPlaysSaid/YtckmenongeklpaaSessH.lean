/- The table of bytes (package session's Of). -/
import Derived.Test.YtckmenongeklpaaSessG
import Derived.Test.YtckmenongeklpaaOwnB
import Derived.Test.YtckmenongeklpaaCollU
namespace Go.Proofs.Ytckmenongeklpaa
open Go.RowKit Go.Maps Go.ChangeMaps

theorem wf_u64H {x : Int} (h0 : 0 ≤ x) (h1 : x < 18446744073709551616) : (Lit.int .u64 x).wf = true := by
  have e1 : IntKind.u64.min = 0 := rfl
  have e2 : IntKind.u64.max = 18446744073709551615 := rfl
  simp only [Lit.wf, e1, e2, Bool.and_eq_true, decide_eq_true_eq]
  omega

/-- May these clients be a table? -/
def goodO (xs : List One) : Prop := (∀ x ∈ xs, x.e = 0 ∧ x.c ≠ 0 ∧ x.n ≠ 0) ∧ (xs.map (·.c)).Pairwise (· < ·)

/-- The table of these clients. -/
def tabO (xs : List One) : List (Int × (Int × Ans)) := xs.map fun x => (x.c, (x.n, x.a))

/-- Each number is one. -/
def wfO (xs : List One) : Prop := ∀ x ∈ xs, 0 ≤ x.c ∧ x.c < 18446744073709551616 ∧ 0 ≤ x.n ∧ x.n < 18446744073709551616

theorem rdO_wf : ∀ (n : Nat) (s : RS) (acc : List One), wfO acc → wfO (rdO n s acc).1
  | 0, s, acc, h => h
  | n + 1, s, acc, h => by
    unfold rdO
    split
    · refine rdO_wf n _ _ fun x hx => ?_
      rcases List.mem_append.1 hx with hx | hx
      · exact h x hx
      · simp at hx; subst hx
        have h1 := numR_lt s
        have h2 := numR_lt (numR s).2
        simp only [oneF]
        omega
    · intro x hx; cases hx

theorem getO_wf (s : RS) : wfO (getO s).1 := rdO_wf _ _ _ (by intro x hx; cases hx)

theorem rdO_len : ∀ (n : Nat) (s : RS) (acc : List One), (rdO n s acc).1.length ≤ n + acc.length
  | 0, s, acc => by simp [rdO]
  | n + 1, s, acc => by
    unfold rdO
    split
    · have := rdO_len n (oneF s).2 (acc ++ [(oneF s).1])
      simp at this
      omega
    · simp
theorem getO_len (s : RS) : (getO s).1.length ≤ 16 := by
  have h := rdO_len (countR 16 s).1 (countR 16 s).2 []
  have h2 : (countR 16 s).1 ≤ 16 := by
    unfold countR
    split
    · exact Nat.zero_le _
    · omega
  simp at h
  unfold getO
  omega

theorem flatO_at (xs : List One) (k : Nat) (x : One) (h : xs[k]? = some x) : ((flatO xs).drop (k * 7)).take 7 = x.cells.toList := by
  induction xs generalizing k with
  | nil => simp at h
  | cons y ys ih =>
    have e : flatO (y :: ys) = y.cells.toList ++ flatO ys := by simp [flatO]
    have hl : y.cells.toList.length = 7 := rfl
    cases k with
    | zero =>
      simp at h
      subst h
      rw [e, Nat.zero_mul, List.drop_zero, List.take_append_of_le_length (by omega), List.take_of_length_le (by omega)]
    | succ k =>
      simp at h
      rw [e, show (k + 1) * 7 = 7 + k * 7 by omega, ← List.drop_drop, List.drop_append_of_le_length (by omega), show y.cells.toList.drop 7 = [] from List.drop_of_length_le (by omega), List.nil_append]
      exact ih k h

/-- An element of a slice of clients. -/
theorem one_at {w : World} {v : Value} {xs : List One} (h : w.ownsRow 0 56 7 v xs.length (flatO xs)) {k : Nat} {x : One} (hx : xs[k]? = some x) :
    ∃ g cap C, v = .slice (some ⟨g, 0, none⟩) xs.length cap ∧ w.heap[g]? = some (.cells C 56 (0, 0)) ∧ (C.toList.drop (k * 7)).take x.cells.size = x.cells.toList ∧ xs.length ≤ cap ∧ cap ≤ 9223372036854775807 := by
  have hk := (List.getElem?_eq_some_iff.1 hx).1
  rcases h.2 with ⟨_, h0⟩ | ⟨g, cap, cur, rfl, _, hg, hn, hm, hc, ht⟩
  · omega
  · refine ⟨g, cap, cur, rfl, hg, ?_, hn, by unfold maxLen at hm; exact hm⟩
    rw [show x.cells.size = 7 from rfl, ← flatO_at xs k x hx, ← ht, List.drop_take, List.take_take, Nat.min_eq_left (by omega)]

theorem tabO_snoc {xs : List One} {x : One} (h : goodO (xs ++ [x])) : tabO (xs ++ [x]) = aset x.c (x.n, x.a) (tabO xs) := by
  have hp := h.2
  rw [List.map_append] at hp
  have hlt := (List.pairwise_append.1 hp).2.2
  have e : tabO (xs ++ [x]) = tabO xs ++ [(x.c, (x.n, x.a))] := by simp [tabO]
  rw [e]
  have hne : ∀ p ∈ tabO xs, p.1 ≠ x.c := fun p hpm => by
    obtain ⟨y, hy, rfl⟩ := List.mem_map.1 hpm
    have := hlt y.c (List.mem_map.2 ⟨y, hy, rfl⟩) x.c (by simp)
    simp only
    omega
  generalize tabO xs = l at *
  clear hp hlt e h
  induction l with
  | nil => rfl
  | cons p l ih =>
    obtain ⟨a, b⟩ := p
    have h1 := hne (a, b) (by simp)
    simp only at h1
    simp only [aset, if_neg h1, List.cons_append]
    rw [ih (fun p hp => hne p (by simp [hp]))]

theorem good_snoc {xs : List One} {x y : One} (h : goodO xs) (hl : xs.getLast? = some y) (hlt : y.c < x.c) (e : x.e = 0) (c : x.c ≠ 0) (n : x.n ≠ 0) : goodO (xs ++ [x]) := by
  refine ⟨fun z hz => ?_, ?_⟩
  · rcases List.mem_append.1 hz with hz | hz
    · exact h.1 z hz
    · simp at hz; subst hz; exact ⟨e, c, n⟩
  · rw [List.map_append]
    refine List.pairwise_append.2 ⟨h.2, by simp, fun a ha b hb => ?_⟩
    simp at hb
    subst hb
    obtain ⟨z, hz, rfl⟩ := List.mem_map.1 ha
    obtain ⟨ys, rfl⟩ := List.getLast?_eq_some_iff.1 hl
    rcases List.mem_append.1 hz with hz | hz
    · have hp := h.2
      rw [List.map_append] at hp
      have := (List.pairwise_append.1 hp).2.2 z.c (List.mem_map.2 ⟨z, hz, rfl⟩) y.c (by simp)
      omega
    · simp at hz; subst hz; exact hlt

/-- What Of leaves. -/
def OfP (b : List UInt8) (w : World) (e : Ending) (w' : World) : Prop :=
  Below w.heap.size w w' ∧
  ((endR (getO ⟨b, 0⟩).2 ≠ 0 ∧ e = .returned (.tuple #[.pointer none, .int .i64 (endR (getO ⟨b, 0⟩).2)])) ∨
   (endR (getO ⟨b, 0⟩).2 = 0 ∧ ¬ goodO (getO ⟨b, 0⟩).1 ∧ ∃ er : Int, er ≠ 0 ∧ e = .returned (.tuple #[.pointer none, .int .i64 er])) ∨
   (endR (getO ⟨b, 0⟩).2 = 0 ∧ goodO (getO ⟨b, 0⟩).1 ∧ ∃ t m, e = .returned (.tuple #[.pointer (some ⟨t, 0, none⟩), .int .i64 0]) ∧ TableAt w' t m (tabO (getO ⟨b, 0⟩).1) ∧ w.heap.size ≤ t ∧ w.heap.size ≤ m))

set_option maxRecDepth 100000 in
set_option maxHeartbeats 3200000 in
theorem of_any (w : World) (ad : Option Addr) (n cp : Nat) (b : List UInt8) (hs : Sl u8v w (.slice ad n cp) b) (hl : b.length ≤ 1000000) :
    Calls Try.prog 6 #[.slice ad n cp] w (OfP b w) := by
  have hrd := read_any w ad n cp b hs (by omega)
  obtain ⟨G, hG⟩ : ∃ G, getO ⟨b, 0⟩ = G := ⟨_, rfl⟩
  have hwf := getO_wf ⟨b, 0⟩
  have hln := getO_len ⟨b, 0⟩
  rw [hG] at hwf hln
  obtain ⟨xs, sG⟩ := G
  simp only at hwf hln
  have HG := Lib.hid hG
  have HWF := Lib.hid hwf
  obtain ⟨ev, hev⟩ : ∃ ev, endR sG = ev := ⟨_, rfl⟩
  have HEV := Lib.hid hev
  unfold OfP
  rw [hG]
  simp only
  rw [hev]
  clear hG hs hev hwf
  go_enter Try.func6, Try.ntmps6
  go_wp2_with fail
  refine hrd.mono ?_
  rintro e w1 ⟨p, rfl, hp, hR1, hb1⟩
  have HR1 := Lib.hid hR1
  have HB1 := Lib.hid hb1
  clear hrd hR1 hb1
  go_wp2_with fail
  refine (getO_any w1 p _ HR1.out).mono ?_
  rintro e w2 ⟨v, rfl, hR2, hown2, hnew2, hk2⟩
  rw [HG.out] at hR2 hown2
  simp only at hR2 hown2
  have HR2 := Lib.hid hR2
  have HO2 := Lib.hid hown2
  have HB2 : Hid (Below w.heap.size w w2) := Lib.hid (HB1.out.trans (hk2.below HB1.out.size (fun k e => by have e' : k = p := e; omega)))
  clear hR2 hown2 hnew2 hk2
  go_wp2_with fail
  have hend := end_any w2 p sG HR2.out
  rw [HEV.out] at hend
  refine hend.mono ?_
  clear hend
  rintro e w' ⟨rfl, rfl⟩
  by_cases h0 : ev = 0
  case neg =>
    have h1 : (ev == 0) = false := by simpa using h0
    have h2 : (ev != 0) = true := by simpa using h0
    have H0 := Lib.hid h0
    clear h0
    go_wp2_with fail
    go_ret2
    exact ⟨HB2.out, .inl ⟨H0.out, rfl⟩⟩
  have h1 : (ev == 0) = true := by simpa using h0
  have h2 : (ev != 0) = false := by simpa using h0
  have H0 := Lib.hid h0
  clear h0
  go_wp2_with fail
  refine (new_any _).mono ?_
  rintro e w3 ⟨rfl, hT3, hb3⟩
  have HT3 := Lib.hid hT3
  have HB3 := Lib.hid (HB2.out.trans (hb3.mono HB2.out.size))
  have HO3 := Lib.hid (owns_below HO2.out hb3)
  have hz3 : w2.heap.size ≤ w3.heap.size := hb3.size
  obtain ⟨va, vc, rfl⟩ : ∃ va vc, v = .slice va xs.length vc := by
    rcases HO3.out.2 with ⟨e1, e2⟩ | ⟨g, c, cur, e1, _⟩
    · exact ⟨none, 0, by rw [e1, e2]⟩
    · exact ⟨_, _, e1⟩
  clear hT3 hb3
  go_wp2_with fail
  go_loopw [24] (fun iv wr => ∃ k : Nat, iv = .int .i64 k ∧ k ≤ xs.length ∧ Hid (Below w3.heap.size w3 wr) ∧ Hid (∀ j x, j < k → xs[j]? = some x → x.e = 0)) (fun iv _ => xs.length - (intOf iv).toNat)
  case atStart => exact ⟨0, rfl, Nat.zero_le _, Lib.hid (Below.refl _ _), Lib.hid (fun j x hj => by omega)⟩
  case round =>
    obtain ⟨k, rfl, hk, HB4, HE4⟩ := hrel
    by_cases hlt : k < xs.length
    · obtain ⟨x, hx⟩ : ∃ x, xs[k]? = some x := ⟨xs[k], by simp [hlt]⟩
      obtain ⟨g, cap, C, hv, hg, hC, hcap, hcm⟩ := one_at (owns_below HO3.out HB4.out) hx
      injection hv with e1 e2 e3
      subst e1 e3
      have HGC := Lib.hid hg
      have HC := Lib.hid hC
      have HX := Lib.hid hx
      clear hg hC hx
      obtain ⟨xc, xn, ⟨ae, an, at_, av⟩, xe⟩ := x
      unfold One.cells at HC
      simp only at HC
      by_cases hxe : xe = 0
      · have x1 : (xe == 0) = true := by simpa using hxe
        have x2 : (xe != 0) = false := by simpa using hxe
        have HXE := Lib.hid hxe
        clear hxe
        go_wp2_with (first | (refine wpList_load_blk _ rfl _ _ rfl _ (k * 7) rfl _ _ _ HGC.out _ HC.out _ Try.underlying56 rfl info_one ?_) | (refine wpList_store_fresh _ rfl _ _ _ rfl _ rfl _ rfl wr _ _ rfl rfl ?_ ?_ info_one ?_ ?_; (focus (simp; done)); (focus (simp; done)); (focus (simp [OneCells, Value.oneCell']; done))) | fail)
        go_roundw
        case rel => exact ⟨k + 1, by go_num, by omega, Lib.hid (HB4.out.alloc HB4.out.size _), Lib.hid (fun j y hj hy => by
          rcases Nat.lt_or_ge j k with h | h
          · exact HE4.out j y h hy
          · obtain rfl : j = k := by omega
            rw [HX.out] at hy
            cases hy
            exact HXE.out)⟩
        case measure => simp [intOf]; omega
      · have x1 : (xe == 0) = false := by simpa using hxe
        have x2 : (xe != 0) = true := by simpa using hxe
        have HXE := Lib.hid hxe
        clear hxe
        go_wp2_with (first | (refine wpList_load_blk _ rfl _ _ rfl _ (k * 7) rfl _ _ _ HGC.out _ HC.out _ Try.underlying56 rfl info_one ?_) | (refine wpList_store_fresh _ rfl _ _ _ rfl _ rfl _ rfl wr _ _ rfl rfl ?_ ?_ info_one ?_ ?_; (focus (simp; done)); (focus (simp; done)); (focus (simp [OneCells, Value.oneCell']; done))) | fail)
        obtain ⟨W5, hW5⟩ : ∃ W5, W5 = wr.alloc (.cells #[.int .u64 xc, .int .u64 xn, .int .i64 ae, .string an, .int .u64 at_, .int .i64 av, .int .i64 xe] 56) := ⟨_, rfl⟩
        rw [← hW5]
        have hz5 : W5.heap[wr.heap.size]? = some (.cells #[.int .u64 xc, .int .u64 xn, .int .i64 ae, .string an, .int .u64 at_, .int .i64 av, .int .i64 xe] 56 (0, 0)) := by rw [hW5]; exact heap_new _ _
        have c6 := blk_cell hz5 6 rfl
        have HB5 := Lib.hid (show Below w.heap.size w W5 by rw [hW5]; exact HB3.out.trans ((HB4.out.alloc HB4.out.size _).mono HB3.out.size))
        clear hW5 hz5
        go_quiet (fail)
        go_wp2
        go_ret2
        exact ⟨below_drewN HB5.out nq, .inr (.inl ⟨H0.out, fun hg => HXE.out (hg.1 _ (List.mem_of_getElem? HX.out)).1, xe, HXE.out, rfl⟩)⟩
    · have HALL : Hid (∀ x ∈ xs, x.e = 0) := Lib.hid (fun x hx => by
        obtain ⟨j, hj, rfl⟩ := List.getElem_of_mem hx
        exact HE4.out j _ (by omega) (by simp [hj]))
      clear HE4
      go_wp2_with fail
      have HM3 : Hid (∀ j, (Value.slice va xs.length vc).ownBlock = some j → j < w2.heap.size) := Lib.hid (fun j hj => (HO2.out.lt j hj).2)
      have HK4 : Hid (Keeps (fun j => j = w2.heap.size) w3 wr) := Lib.hid (Keeps.of_belowS HB4.out)
      have HT4 := Lib.hid (HT3.out.below HB4.out (heap_lt HT3.out.box) HT3.out.map.lt)
      clear HB4
      go_loopw [36] (fun iv wr => ∃ k : Nat, iv = .int .i64 k ∧ k ≤ xs.length ∧ Hid (Keeps (fun j => j = w2.heap.size) w3 wr) ∧ Hid (TableAt wr (w2.heap.size + 1) w2.heap.size (tabO (xs.take k))) ∧ Hid (goodO (xs.take k))) (fun iv _ => xs.length - (intOf iv).toNat)
      case atStart => exact ⟨0, rfl, Nat.zero_le _, HK4, by simpa [tabO] using HT4, Lib.hid ⟨by simp, by simp⟩⟩
      case round =>
        clear HK4 HT4
        obtain ⟨k, rfl, hk, HK5, HT5, HG5⟩ := hrel
        by_cases hlt : k < xs.length
        · obtain ⟨x, hx⟩ : ∃ x, xs[k]? = some x := ⟨xs[k], by simp [hlt]⟩
          have HO5 := Lib.hid (owns_keptB HO3.out HK5.out (fun j hj e => by have := HM3.out j hj; have e' : j = w2.heap.size := e; omega))
          obtain ⟨g, cap, C, hv, hg, hC, hcap, hcm⟩ := one_at HO5.out hx
          injection hv with e1 e2 e3
          subst e1 e3
          have HGC := Lib.hid hg
          have HC := Lib.hid hC
          have HX := Lib.hid hx
          have hxw := HWF.out x (List.mem_of_getElem? hx)
          have hxe := HALL.out x (List.mem_of_getElem? hx)
          have HTK : Hid (xs.take (k + 1) = xs.take k ++ [x]) := Lib.hid (by rw [List.take_add_one, hx]; rfl)
          clear hg hC hx
          obtain ⟨xc, xn, ⟨ae, an, at_, av⟩, xe⟩ := x
          simp only at hxw hxe
          obtain ⟨hx0, hx1, hx2, hx3⟩ := hxw
          have HXE := Lib.hid hxe
          unfold One.cells at HC
          simp only at HC
          clear hxe
          obtain ⟨W6, hW6⟩ : ∃ W6, W6 = wr.alloc (.cells #[.int .u64 xc, .int .u64 xn, .int .i64 ae, .string an, .int .u64 at_, .int .i64 av, .int .i64 xe] 56) := ⟨_, rfl⟩
          have hz6 : W6.heap[wr.heap.size]? = some (.cells #[.int .u64 xc, .int .u64 xn, .int .i64 ae, .string an, .int .u64 at_, .int .i64 av, .int .i64 xe] 56 (0, 0)) := by rw [hW6]; exact heap_new _ _
          have HZ6 := Lib.hid hz6
          have HK6 : Hid (Keeps (fun j => j = w2.heap.size) w3 W6) := Lib.hid (by rw [hW6]; exact HK5.out.alloc _)
          have HT6 : Hid (TableAt W6 (w2.heap.size + 1) w2.heap.size (tabO (xs.take k))) := Lib.hid (by rw [hW6]; exact HT5.out.alloc _)
          have HB6 : Hid (Below w.heap.size w W6) := Lib.hid ((Keeps.of_below HB3.out).trans (HK6.out.mono fun j _ hj => by have h1 := HB2.out.size; have e' : j = w2.heap.size := hj; show w.heap.size ≤ j; omega) |>.below (Nat.le_refl _) fun j hj => hj)
          have HG6 : Hid (W6.heap[g]? = some (.cells C 56 (0, 0))) := Lib.hid (by rw [hW6]; exact aheap HGC.out _)
          have hgl := heap_lt HG6.out
          have HW6 := Lib.hid hW6
          clear hW6
          have c0 := blk_cell hz6 0 rfl
          have c1 := blk_cell hz6 1 rfl
          have c2 := blk_cell hz6 2 rfl
          have c3 := blk_cell hz6 3 rfl
          have c4 := blk_cell hz6 4 rfl
          have c5 := blk_cell hz6 5 rfl
          clear hz6
          go_wp2_with (first | (refine wpList_load_blk _ rfl _ _ rfl _ (k * 7) rfl _ _ _ HGC.out _ HC.out _ Try.underlying56 rfl info_one ?_) | (refine wpList_store_fresh _ rfl _ _ _ rfl _ rfl _ rfl wr _ _ rfl rfl ?_ ?_ info_one ?_ ?_; (focus (simp; done)); (focus (simp; done)); (focus (simp [OneCells, Value.oneCell']; done)); rw [← HW6.out]) | fail)
          have HMEM : Hid ((⟨xc, xn, ⟨ae, an, at_, av⟩, xe⟩ : One) ∈ xs) := Lib.hid (List.mem_of_getElem? HX.out)
          by_cases z1 : xc = 0
          · have HBAD : Hid (¬ goodO xs) := Lib.hid (fun hg => (hg.1 _ HMEM.out).2.1 z1)
            have y1 : (xc == 0) = true := by simpa using z1
            clear z1
            go_quiet (fail)
            go_wp2
            go_ret2
            exact ⟨below_drewN HB6.out nq, .inr (.inl ⟨H0.out, HBAD.out, 2, by decide, rfl⟩)⟩
          have y1 : (xc == 0) = false := by simpa using z1
          by_cases z2 : xn = 0
          · have HBAD : Hid (¬ goodO xs) := Lib.hid (fun hg => (hg.1 _ HMEM.out).2.2 z2)
            have y2 : (xn == 0) = true := by simpa using z2
            clear z1 z2
            go_quiet (fail)
            go_wp2
            go_ret2
            exact ⟨below_drewN HB6.out nq, .inr (.inl ⟨H0.out, HBAD.out, 2, by decide, rfl⟩)⟩
          have y2 : (xn == 0) = false := by simpa using z2
          have HZ1 := Lib.hid z1
          have HZ2 := Lib.hid z2
          clear z1 z2
          have HWX : Hid ((Lit.int .u64 xc).wf = true) := Lib.hid (wf_u64H hx0 hx1)
          by_cases hk0 : k = 0
          · have d1 : decide ((0 : Int) < (k : Int)) = false := by simp; omega
            have d2 : decide (0 < k) = false := by simp; omega
            have HGOOD : Hid (goodO (xs.take k ++ [(⟨xc, xn, ⟨ae, an, at_, av⟩, xe⟩ : One)])) := Lib.hid (by
              rw [hk0]
              refine ⟨fun y hy => ?_, by simp⟩
              simp at hy
              subst hy
              exact ⟨HXE.out, HZ1.out, HZ2.out⟩)
            clear hk0
            go_quiet (fail)
            go_wp2
            refine still_tail 8 (by kernel_rfl) (by kernel_rfl) ?_
            intro W hW
            have hTW : TableAt W (w2.heap.size + 1) w2.heap.size (tabO (xs.take k)) := by subst hW; exact ⟨HT6.out.box, HT6.out.map.same rfl⟩
            have hkW : Keeps (fun j => j = w2.heap.size) w3 W := by subst hW; exact (keeps_drewN HK6.out nq).drew
            have hzW : W.heap[wr.heap.size]? = some (.cells #[.int .u64 xc, .int .u64 xn, .int .i64 ae, .string an, .int .u64 at_, .int .i64 av, .int .i64 xe] 56 (0, 0)) := by subst hW; exact HZ6.out
            clear hW
            have hcell := cell_of_one hTW.box
            have hlt6 := lt_of_block hTW.box
            have c0 := blk_cell hzW 0 rfl
            have c1 := blk_cell hzW 1 rfl
            have c2 := blk_cell hzW 2 rfl
            have c3 := blk_cell hzW 3 rfl
            have c4 := blk_cell hzW 4 rfl
            have c5 := blk_cell hzW 5 rfl
            simp only [List.take_succ_cons, List.take_zero, List.drop_succ_cons, List.drop_zero]
            repeat still_step
            refine wpStill_nil ?_
            refine wpList_map_update W rfl _ _ _ _ rfl _ tkeyed keyU_inj Try.underlying59 w2.heap.size _ rfl hTW.map xc _ rfl (tkey HWX.out) (xn, ⟨ae, an, at_, av⟩) rfl ?_
            intro ob hM
            have hk2 : Keeps (fun j => j = w2.heap.size) w3 (setBlock W w2.heap.size ob) := hkW.setBlock (.inl rfl) ob
            have hT2 : TableAt (setBlock W w2.heap.size ob) (w2.heap.size + 1) w2.heap.size (aset xc (xn, ⟨ae, an, at_, av⟩) (tabO (xs.take k))) := ⟨(Keeps.setBlock (Keeps.refl (fun j => j = w2.heap.size) W) (.inl rfl) ob).heap (fun e => by have e' : w2.heap.size + 1 = w2.heap.size := e; omega) hTW.box, hM⟩
            have HK2 := Lib.hid hk2
            have HT2 := Lib.hid hT2
            clear hTW hkW hM hzW hcell hlt6 c0 c1 c2 c3 c4 c5 hk2 hT2
            go_wp2
            go_roundw
            case rel => exact ⟨k + 1, by go_num, by omega, HK2, Lib.hid (by rw [HTK.out, tabO_snoc (HGOOD.out)]; exact HT2.out), Lib.hid (by rw [HTK.out]; exact HGOOD.out)⟩
            case measure => simp [intOf]; omega
          · obtain ⟨q, hq⟩ : ∃ q, k = q + 1 := ⟨k - 1, by omega⟩
            obtain ⟨y, hy⟩ : ∃ y, xs[q]? = some y := ⟨xs[q], by simp⟩
            obtain ⟨g', cap', C', hv', hg', hC', _, _⟩ := one_at HO5.out hy
            injection hv' with e1 e2 e3
            injection e1 with e1
            injection e1 with e1 _ _
            subst e1
            rw [HGC.out] at hg'
            injection hg' with hg'
            injection hg' with hg' _ _
            subst hg'
            obtain ⟨yc, yn, ya, ye⟩ := y
            have hcy : C[q * 7]? = some (.int .u64 yc) := by
              have h1 : ((C.toList.drop (q * 7)).take 7)[0]? = some (.int .u64 yc) := by
                have h2 : (C.toList.drop (q * 7)).take 7 = _ := hC'
                rw [h2]; rfl
              rw [List.getElem?_take_of_lt (by omega), List.getElem?_drop] at h1
              simpa using h1
            have cy : W6.cell? ⟨g, q * 7, none⟩ = some (.int .u64 yc) := blk_cell HG6.out (q * 7) hcy
            have HYM : Hid ((⟨yc, yn, ya, ye⟩ : One) ∈ xs.take k) := Lib.hid (List.mem_of_getElem? (i := q) (by rw [List.getElem?_take_of_lt (by omega)]; exact hy))
            have HYX : Hid (goodO xs → yc < xc) := Lib.hid (fun hg => by
              have h1 := List.pairwise_iff_getElem.1 hg.2 q k (by simp; omega) (by simp; omega) (by omega)
              have h2 : (xs.map (·.c))[q]? = some yc := by rw [List.getElem?_map, hy]; rfl
              have h3 : (xs.map (·.c))[k]? = some xc := by rw [List.getElem?_map, HX.out]; rfl
              rw [List.getElem?_eq_getElem (by simp; omega)] at h2 h3
              injection h2 with h2
              injection h3 with h3
              rw [h2, h3] at h1
              exact h1)
            have HLAST : Hid ((xs.take k).getLast? = some ⟨yc, yn, ya, ye⟩) := Lib.hid (by
              rw [List.getLast?_eq_getElem?, List.length_take, Nat.min_eq_left (by omega), List.getElem?_take_of_lt (by omega), show k - 1 = q by omega]
              exact hy)
            have d1 : decide ((0 : Int) < (k : Int)) = true := by simp; omega
            have d2 : decide (0 < k) = true := by simp; omega
            have hw : IntKind.i64.wrap ((k : Int) - 1) = (q : Int) := by rw [IntKind.wrap_i64]; omega
            have hqn : q < xs.length := by omega
            have HQ := Lib.hid hq
            clear hy hC' hcy hq hk0 e2 e3
            by_cases hge : xc ≤ yc
            · have d3 : decide (xc ≤ yc) = true := by simpa using hge
              have HBAD : Hid (¬ goodO xs) := Lib.hid (fun hg => by have := HYX.out hg; omega)
              clear hge
              go_quiet (fail)
              go_wp2
              go_ret2
              exact ⟨below_drewN HB6.out nq, .inr (.inl ⟨H0.out, HBAD.out, 2, by decide, rfl⟩)⟩
            · have d3 : decide (xc ≤ yc) = false := by simpa using hge
              have HGOOD : Hid (goodO (xs.take k ++ [(⟨xc, xn, ⟨ae, an, at_, av⟩, xe⟩ : One)])) := Lib.hid (good_snoc HG5.out HLAST.out (show yc < xc by omega) HXE.out HZ1.out HZ2.out)
              clear hge
              go_quiet (fail)
              clear cy
              go_wp2
              refine still_tail 8 (by kernel_rfl) (by kernel_rfl) ?_
              intro W hW
              have hTW : TableAt W (w2.heap.size + 1) w2.heap.size (tabO (xs.take k)) := by subst hW; exact ⟨HT6.out.box, HT6.out.map.same rfl⟩
              have hkW : Keeps (fun j => j = w2.heap.size) w3 W := by subst hW; exact (keeps_drewN HK6.out nq).drew
              have hzW : W.heap[wr.heap.size]? = some (.cells #[.int .u64 xc, .int .u64 xn, .int .i64 ae, .string an, .int .u64 at_, .int .i64 av, .int .i64 xe] 56 (0, 0)) := by subst hW; exact HZ6.out
              clear hW
              have hcell := cell_of_one hTW.box
              have hlt6 := lt_of_block hTW.box
              have c0 := blk_cell hzW 0 rfl
              have c1 := blk_cell hzW 1 rfl
              have c2 := blk_cell hzW 2 rfl
              have c3 := blk_cell hzW 3 rfl
              have c4 := blk_cell hzW 4 rfl
              have c5 := blk_cell hzW 5 rfl
              simp only [List.take_succ_cons, List.take_zero, List.drop_succ_cons, List.drop_zero]
              repeat still_step
              refine wpStill_nil ?_
              refine wpList_map_update W rfl _ _ _ _ rfl _ tkeyed keyU_inj Try.underlying59 w2.heap.size _ rfl hTW.map xc _ rfl (tkey HWX.out) (xn, ⟨ae, an, at_, av⟩) rfl ?_
              intro ob hM
              have hk2 : Keeps (fun j => j = w2.heap.size) w3 (setBlock W w2.heap.size ob) := hkW.setBlock (.inl rfl) ob
              have hT2 : TableAt (setBlock W w2.heap.size ob) (w2.heap.size + 1) w2.heap.size (aset xc (xn, ⟨ae, an, at_, av⟩) (tabO (xs.take k))) := ⟨(Keeps.setBlock (Keeps.refl (fun j => j = w2.heap.size) W) (.inl rfl) ob).heap (fun e => by have e' : w2.heap.size + 1 = w2.heap.size := e; omega) hTW.box, hM⟩
              have HK2 := Lib.hid hk2
              have HT2 := Lib.hid hT2
              clear hTW hkW hM hzW hcell hlt6 c0 c1 c2 c3 c4 c5 hk2 hT2
              go_wp2
              go_roundw
              case rel => exact ⟨k + 1, by go_num, by omega, HK2, Lib.hid (by rw [HTK.out, tabO_snoc (HGOOD.out)]; exact HT2.out), Lib.hid (by rw [HTK.out]; exact HGOOD.out)⟩
              case measure => simp [intOf]; omega
        · have e : xs.take k = xs := List.take_of_length_le (by omega)
          rw [e] at HT5 HG5
          have HB5 : Hid (Below w.heap.size w wr) := Lib.hid ((Keeps.of_below HB3.out).trans (HK5.out.mono fun j _ hj => by have h1 := HB2.out.size; have e' : j = w2.heap.size := hj; show w.heap.size ≤ j; omega) |>.below (Nat.le_refl _) fun j hj => hj)
          have hz2 := HB2.out.size
          clear HK5 e
          go_wp2
          go_ret2
          exact ⟨HB5.out, .inr (.inr ⟨H0.out, HG5.out, _, _, rfl, HT5.out, by omega, hz2⟩)⟩

end Go.Proofs.Ytckmenongeklpaa

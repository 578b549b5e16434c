/- The statement SessionPlays: its walk. PRINTED by wip/tools/gen_plays.py. -/
import Derived.Test.YtckmenongeklpaaPlaysF
import Derived.Deep.DeepCutAuto
import Derived.Deep.CutBlock
namespace Go.Proofs.Ytckmenongeklpaa
open Go.RowKit Go.Maps Go.ChangeMaps

theorem info_act20 : (Try.prog.info? 38).map (·.size) = some 7 := by kernel_rfl

/-- An act's cells. -/
def ActV.cells (x : ActV) : Array Value := #[.int .i64 x.kind, .int .u64 x.client, .int .u64 x.number, .int .i64 x.a.err, .string x.a.name, .int .u64 x.a.tok, .int .i64 x.a.val]

/-- What find gives. -/
def Fnd (L : List (Int × (Int × Ans))) (c iv : Int) (fl : Bool) : Prop :=
  (iv = -1 ∧ aget c L = none ∧ c ∉ keys L ∧ fl = decide (16 ≤ L.length)) ∨ ∃ (i : Nat) (y : Int × Ans), iv = i ∧ L[i]? = some (c, y) ∧ fl = false

/-- The world W at an act: its table (Lt) and its clients (Lo), its act x in block x0. -/
structure At20 (w0 W : World) (M x0 : Nat) (x : ActV) (v : Value) (Lt Lo : List (Int × (Int × Ans))) : Prop where
  T : TableAt W (M + 1) M Lt
  O : OnesFrom W (M + 2) v Lo
  B : Below w0.heap.size w0 W
  X : W.heap[x0]? = some (.cells x.cells 38 (0, 0))
  ne : x0 ≠ M
  ne1 : x0 ≠ M + 1

section
variable {w0 W W' : World} {M x0 : Nat} {x : ActV} {v : Value} {Lt Lo : List (Int × (Int × Ans))}
theorem At20.lt (h : At20 w0 W M x0 x v Lt Lo) : x0 < W.heap.size := heap_lt h.X
theorem At20.alloc (h : At20 w0 W M x0 x v Lt Lo) (o : Obj) : At20 w0 (W.alloc o) M x0 x v Lt Lo := ⟨h.T.alloc o, h.O.alloc o, h.B.alloc h.B.size o, aheap h.X o, h.ne, h.ne1⟩
theorem At20.drewN (h : At20 w0 W M x0 x v Lt Lo) (n : Nat) : At20 w0 (W.drewN n) M x0 x v Lt Lo := ⟨⟨h.T.box, h.T.map⟩, h.O, bel_drewNp h.B n, h.X, h.ne, h.ne1⟩
theorem At20.drew (h : At20 w0 W M x0 x v Lt Lo) : At20 w0 W.drew M x0 x v Lt Lo := ⟨h.T.drew, h.O, belowN h.B, h.X, h.ne, h.ne1⟩
theorem At20.below (h : At20 w0 W M x0 x v Lt Lo) (hb : Below W.heap.size W W') : At20 w0 W' M x0 x v Lt Lo :=
  ⟨h.T.below hb (heap_lt h.T.box) h.T.map.lt, h.O.below hb, h.B.trans (hb.mono h.B.size), bheap hb h.X (heap_lt h.X), h.ne, h.ne1⟩
/-- After Keep. -/
theorem At20.kept (h : At20 w0 W M x0 x v Lt Lo) (hw : w0.heap.size ≤ M) {L' : List (Int × (Int × Ans))} (hT : TableAt W' (M + 1) M L') (hk : Keeps (fun k => k = M) W W') : At20 w0 W' M x0 x v L' Lo :=
  ⟨hT, h.O.keeps hk (fun k hkN e => by omega), h.B.trans (hk.below h.B.size (fun k hk2 => by omega)), hk.heap h.ne h.X, h.ne, h.ne1⟩
theorem At20.own (h : At20 w0 W M x0 x v Lt Lo) {g : Nat} (hg : v.ownBlock = some g) : M + 2 ≤ g ∧ g ≠ x0 := by
  refine ⟨(h.O.lt g hg).1, fun e => ?_⟩
  have hX := h.X
  rcases h.O.2 with ⟨rfl, _⟩ | ⟨g', cap, cur, rfl, _, hgg, _⟩
  · simp [Value.ownBlock] at hg
  · simp [Value.ownBlock] at hg
    rw [← e, ← hg, hgg] at hX
    injection hX with hX
    injection hX with _ h2
    exact absurd h2 (by decide)
/-- After the slice alone was written. -/
theorem At20.wrote (h : At20 w0 W M x0 x v Lt Lo) (hw : w0.heap.size ≤ M) (hk : Keeps (fun k => v.ownBlock = some k) W W') {v' : Value} {L' : List (Int × (Int × Ans))} (hO : OnesFrom W' (M + 2) v' L') : At20 w0 W' M x0 x v' Lt L' :=
  ⟨h.T.kept hk (fun e => by have := (h.own e).1; omega) (fun e => by have := (h.own e).1; omega), hO, h.B.trans (hk.below h.B.size (fun k hk2 => by have := (h.own hk2).1; omega)), hk.heap (fun e => (h.own e).2 rfl) h.X, h.ne, h.ne1⟩
theorem keeps_grown {w w' : World} {row : Option Nat} (hg : w.grownBy w' row) : Keeps (fun k => row = some k) w w' := ⟨hg.os, hg.tape, hg.output, hg.size, fun k hk hn => hg.block k hk (fun e => hn e.symm)⟩
end

/-- A client put anew. -/
theorem At20.put5 {w0 W : World} {M x0 g vc i len : Nat} {x : ActV} {C : Array Value} {c n : Int} {a : Ans} {y : Int × Ans} {Lt Lo : List (Int × (Int × Ans))}
    (h : At20 w0 W M x0 x (.slice (some ⟨g, 0, none⟩) len vc) Lt Lo) (hw : w0.heap.size ≤ M) (hi : Lo[i]? = some (c, y)) (hg : W.heap[g]? = some (.cells C 43 (0, 0))) :
    At20 w0 (((((W.setCell ⟨g, i * 6 + 1, none⟩ (.int .u64 n)).setCell ⟨g, i * 6 + 2, none⟩ (.int .i64 a.err)).setCell ⟨g, i * 6 + 2 + 1, none⟩ (.string a.name)).setCell ⟨g, i * 6 + 2 + 2, none⟩ (.int .u64 a.tok)).setCell ⟨g, i * 6 + 2 + 3, none⟩ (.int .i64 a.val)).drew M x0 x (.slice (some ⟨g, 0, none⟩) len vc) Lt (Lo.set i (c, (n, a))) := by
  have q : ∀ {w' : World}, Keeps (fun k => (Value.slice (some ⟨g, 0, none⟩) len vc).ownBlock = some k) W w' → ∀ (o : Nat) (v : Value), Keeps (fun k => (Value.slice (some ⟨g, 0, none⟩) len vc).ownBlock = some k) W (w'.setCell ⟨g, o, none⟩ v) := fun h o v => h.setCell (p := ⟨g, o, none⟩) (.inl (show (Value.slice (some ⟨g, 0, none⟩) len vc).ownBlock = some g from rfl)) v
  have hk : Keeps (fun k => (Value.slice (some ⟨g, 0, none⟩) len vc).ownBlock = some k) W (((((W.setCell ⟨g, i * 6 + 1, none⟩ (.int .u64 n)).setCell ⟨g, i * 6 + 2, none⟩ (.int .i64 a.err)).setCell ⟨g, i * 6 + 2 + 1, none⟩ (.string a.name)).setCell ⟨g, i * 6 + 2 + 2, none⟩ (.int .u64 a.tok)).setCell ⟨g, i * 6 + 2 + 3, none⟩ (.int .i64 a.val)) :=
    q (q (q (q (q (Keeps.refl _ W) _ _) _ _) _ _) _ _) _ _
  have hb := blk_set (blk_set (blk_set (blk_set (blk_set hg (i * 6 + 1) (.int .u64 n)) (i * 6 + 2) (.int .i64 a.err)) (i * 6 + 2 + 1) (.string a.name)) (i * 6 + 2 + 2) (.int .u64 a.tok)) (i * 6 + 2 + 3) (.int .i64 a.val)
  exact (h.wrote hw hk (h.O.put hi hg rfl hb)).drew

theorem info_one20 : (Try.prog.info? 43).map (fun i => (i.zero, i.size, i.bytes)) = some (some (.agg #[.int .u64 0, .int .u64 0, .int .i64 0, .string ⟨#[]⟩, .int .u64 0, .int .i64 0]), 6, 56) := by kernel_rfl

theorem far_cell {W : World} {g x o j : Nat} {v u : Value} (h : g ≠ x) (p : W.cell? ⟨x, j, none⟩ = some u) : (W.setCell ⟨g, o, none⟩ v).cell? ⟨x, j, none⟩ = some u := (World.cell?_setCell_far _ _ _ _ h).trans p
theorem drew_cell {W : World} {a : Addr} {u : Value} (p : W.cell? a = some u) : W.drew.cell? a = some u := p
theorem far_cellD {W : World} {g x o j : Nat} {v u : Value} (h : g ≠ x) (p : W.cell? ⟨x, j, none⟩ = some u) : (W.setCell ⟨g, o, none⟩ v).drew.cell? ⟨x, j, none⟩ = some u := far_cell h p

theorem cells6_new (W : World) (a b c d e f : Value) (T : TypeId) : ∀ j u, [a, b, c, d, e, f][j]? = some u → (W.alloc (.cells #[a, b, c, d, e, f] T)).cell? ((⟨W.heap.size, 0, none⟩ : Addr).add j) = some u := by
  intro j u hu
  rw [Addr.add_mid]
  exact blk_cell (heap_new _ _) _ (by simpa using hu)

set_option maxRecDepth 100000 in
set_option maxHeartbeats 40000000 in
theorem plays_main (w : World) (a : Option Addr) (len cap : Nat) (xs : Nat → ActV) (hr : ActRow w a len cap xs) (hl80 : len ≤ 80) :
    Calls Try.prog 4 #[.slice a len cap] w (RetB (.bool true) w) := by
  have HR := Lib.hid hr
  clear hr
  go_enter Try.func4, Try.ntmps4
  go_wp2_with fail
  refine (lives20 _).mono ?_
  rintro e w1 ⟨rfl, hb1⟩
  go_wp2_with fail
  refine (new_any _).mono ?_
  rintro e w2 ⟨rfl, hT2, hb2⟩
  have HT2 := Lib.hid hT2
  have HB2 := Lib.hid (hb1.trans (hb2.mono hb1.size))
  have s1 := hb1.size
  generalize w1.heap.size = M at *
  clear hb1 hb2 hT2 w1
  go_wp2_with fail
  go_loopw [4, 33] (fun v i wr => ∃ (k : Nat) (L : List (Int × (Int × Ans))), i = .int .i64 k ∧ k ≤ len ∧ Hid (TableAt wr (M + 1) M L) ∧ Hid (OnesFrom wr (M + 2) v L) ∧ Hid (LOk L) ∧ Hid (Below w.heap.size w wr)) (fun _ i _ => len - (intOf i).toNat)
  case atStart => exact ⟨0, [], rfl, Nat.zero_le _, HT2, Lib.hid (World.ownsRow_nil _ _ _ _), Lib.hid LOk.nil, HB2⟩
  case round =>
    obtain ⟨k, L, rfl, hk, HT, HO, HL, HB⟩ := hrel
    clear HT2 HB2
    obtain ⟨va, vc, rfl⟩ : ∃ va vc, u4 = .slice va L.length vc := by
      rcases HO.out.2 with ⟨e1, e2⟩ | ⟨g, c, cur, e1, _⟩
      · exact ⟨none, 0, by rw [e1, e2]⟩
      · exact ⟨_, _, e1⟩
    by_cases hlt : k < len
    · obtain ⟨b, off, rfl, hbl, hall⟩ := HR.out.2.2.resolve_left (by omega)
      obtain ⟨hat, hok⟩ := hall k hlt
      generalize xs k = x at *
      have HOK := Lib.hid hok
      obtain ⟨a0, a1, a2, a3, a4, a5, a6⟩ := hat
      have hlL := HL.out.len
      replace a0 := (bcell HB.out b _ hbl).trans a0
      replace a1 := (bcell HB.out b _ hbl).trans a1
      replace a2 := (bcell HB.out b _ hbl).trans a2
      replace a3 := (bcell HB.out b _ hbl).trans a3
      replace a4 := (bcell HB.out b _ hbl).trans a4
      replace a5 := (bcell HB.out b _ hbl).trans a5
      replace a6 := (bcell HB.out b _ hbl).trans a6
      have hns := hok.2.2.2.2.1
      unfold maxLen at hns
      clear hall hbl hok
      by_cases t1 : 300 < x.a.name.size
      · have d1 : decide ((300 : Int) < (x.a.name.size : Int)) = true := by simp; omega
        go_wp2_with (first | (refine wpList_store_fresh _ rfl _ _ _ rfl _ rfl _ rfl _ _ _ rfl ?_ ?_ rfl info_act20 ?_ ?_; (focus (simp; done)); (focus (simp; done)); (focus (simp [OneCells, Value.oneCell']; done))) | fail)
        go_ret
        exact RetB.mk rfl (HB.out.alloc HB.out.size _)
      have d1 : decide ((300 : Int) < (x.a.name.size : Int)) = false := by simp; omega
      by_cases t2 : x.a.err < 0
      · have d2 : decide (x.a.err < 0) = true := by simpa using t2
        go_wp2_with (first | (refine wpList_store_fresh _ rfl _ _ _ rfl _ rfl _ rfl _ _ _ rfl ?_ ?_ rfl info_act20 ?_ ?_; (focus (simp; done)); (focus (simp; done)); (focus (simp [OneCells, Value.oneCell']; done))) | fail)
        go_ret
        exact RetB.mk rfl (HB.out.alloc HB.out.size _)
      have d2 : decide (x.a.err < 0) = false := by simpa using t2
      by_cases t3 : 2147483647 < x.a.err
      · have d3 : decide (2147483647 < x.a.err) = true := by simpa using t3
        go_wp2_with (first | (refine wpList_store_fresh _ rfl _ _ _ rfl _ rfl _ rfl _ _ _ rfl ?_ ?_ rfl info_act20 ?_ ?_; (focus (simp; done)); (focus (simp; done)); (focus (simp [OneCells, Value.oneCell']; done))) | fail)
        go_ret
        exact RetB.mk rfl (HB.out.alloc HB.out.size _)
      have d3 : decide (2147483647 < x.a.err) = false := by simpa using t3
      go_wp2_with (first | (refine wpList_store_fresh _ rfl _ _ _ rfl _ rfl _ rfl _ _ _ rfl ?_ ?_ rfl info_act20 ?_ ?_; (focus (simp; done)); (focus (simp; done)); (focus (simp [OneCells, Value.oneCell']; done))) | fail)
      obtain ⟨W1, hW1⟩ : ∃ W1, W1 = wr.alloc (.cells #[.int .i64 x.kind, .int .u64 x.client, .int .u64 x.number, .int .i64 x.a.err, .string x.a.name, .int .u64 x.a.tok, .int .i64 x.a.val] 38) := ⟨_, rfl⟩
      rw [← hW1]
      have hmw : M + 1 < wr.heap.size := heap_lt HT.out.box
      have H1 : Hid (At20 w W1 M wr.heap.size x (.slice va L.length vc) L L) := Lib.hid (by rw [hW1]; exact ⟨HT.out.alloc _, HO.out.alloc _, HB.out.alloc HB.out.size _, heap_new _ _, by omega, by omega⟩)
      have HX1 : Hid (W1.heap[wr.heap.size]? = some (.cells x.cells 38 (0, 0))) := Lib.hid H1.out.X
      have n0 : W1.cell? ⟨wr.heap.size, 0, none⟩ = some (.int .i64 x.kind) := blk_cell HX1.out 0 rfl
      have n1 : W1.cell? ⟨wr.heap.size, 1, none⟩ = some (.int .u64 x.client) := blk_cell HX1.out 1 rfl
      have n2 : W1.cell? ⟨wr.heap.size, 2, none⟩ = some (.int .u64 x.number) := blk_cell HX1.out 2 rfl
      have n3 : W1.cell? ⟨wr.heap.size, 3, none⟩ = some (.int .i64 x.a.err) := blk_cell HX1.out 3 rfl
      have n4 : W1.cell? ⟨wr.heap.size, 4, none⟩ = some (.string x.a.name) := blk_cell HX1.out 4 rfl
      have n5 : W1.cell? ⟨wr.heap.size, 5, none⟩ = some (.int .u64 x.a.tok) := blk_cell HX1.out 5 rfl
      have n6 : W1.cell? ⟨wr.heap.size, 6, none⟩ = some (.int .i64 x.a.val) := blk_cell HX1.out 6 rfl
      have HERR : Hid (0 ≤ x.a.err ∧ x.a.err ≤ 2147483647) := Lib.hid (by omega)
      have hent : x.a.name.size ≤ 255 → (0 < x.client → 0 < x.number → EntOk (x.client, (x.number, x.a))) := fun h hc hn => by
        have b1 := bounds_u64 HOK.out.2.1
        have b2 := bounds_u64 HOK.out.2.2.1
        have b3 := bounds_u64 HOK.out.2.2.2.2.2.1
        have b4 := bounds_i64 HOK.out.2.2.2.2.2.2
        have b5 := HERR.out
        exact ⟨hc, b1.2, hn, b2.2, ⟨b5.1, b5.2, h, b3.1, b3.2, b4.1, b4.2⟩⟩
      clear hW1 a0 a1 a2 a3 a4 a5 a6 HT HO HB t1 t2 t3 d1 d2 d3
      refine (find_any W1 _ L H1.out.O.at x.client (by omega)).mono ?_
      rintro e w' ⟨rfl, hf⟩
      obtain ⟨iv, fl, rfl, hfd⟩ : ∃ iv fl, e = .returned (.int .i64 iv) ∧ Fnd L x.client iv fl := by
        rcases hf with ⟨rfl, hn⟩ | ⟨i, y, rfl, hi⟩
        · exact ⟨_, _, rfl, .inl ⟨rfl, none_aget hn, aget_none.1 (none_aget hn), rfl⟩⟩
        · exact ⟨_, _, rfl, .inr ⟨i, y, rfl, hi, rfl⟩⟩
      have HFD := Lib.hid hfd
      clear hf hfd
      go_upto_region 11 with (fail)
      go_cut [8] (fun f wx => f = .bool fl ∧ wx = W1)
      case first =>
        rcases HFD.out with ⟨rfl, _, _, hfl⟩ | ⟨i, y, rfl, hi, rfl⟩
        · have HFL := Lib.hid hfl
          clear hfl
          by_cases h16 : 16 ≤ L.length
          · have g1 : decide ((16 : Int) ≤ (L.length : Int)) = true := by simp; omega
            have g2 : decide (16 ≤ L.length) = true := by simpa using h16
            have g3 : (16 : Int) ≤ (L.length : Int) := by omega
            have G2 := Lib.hid g2
            go_wp2_with fail
            go_meet
            exact ⟨by rw [HFL.out, G2.out], rfl⟩
          · have g1 : decide ((16 : Int) ≤ (L.length : Int)) = false := by simp; omega
            have g2 : decide (16 ≤ L.length) = false := by simpa using h16
            have g3 : ¬ (16 : Int) ≤ (L.length : Int) := by omega
            have G2 := Lib.hid g2
            go_wp2_with fail
            go_meet
            exact ⟨by rw [HFL.out, G2.out], rfl⟩
        · have g1 : decide ((i : Int) < 0) = false := by simp
          have g2 : ¬ ((i : Int) < 0) := by omega
          go_wp2_with fail
          go_meet
          exact ⟨rfl, rfl⟩
      obtain ⟨rfl, hwc⟩ := hcut
      rw [hwc]
      clear hwc wc
      go_upto_block 2 with (fail)
      go_cut [4] (fun v wx => ∃ L', Hid (LOk L') ∧ Hid (At20 w wx M wr.heap.size x v L' L'))
      case first =>
        by_cases hoth : x.kind ≠ 0 ∧ x.kind ≠ 1 ∧ x.kind ≠ 2
        · obtain ⟨hkd0, hkd1, hkd2⟩ := hoth
          have k0 : (x.kind == 0) = false := by simpa using hkd0
          have k1 : (x.kind == 1) = false := by simpa using hkd1
          have k2 : (x.kind == 2) = false := by simpa using hkd2
          clear hkd0 hkd1 hkd2
          as_aux_lemma =>
            go_wp2_with fail
            refine (tcopy_any W1 (M + 1) M L H1.out.T).mono ?_
            rintro e w3 ⟨t', m', rfl, hT3, hb3, ht3, hm3⟩
            have hw1 := H1.out.lt
            have H3 := Lib.hid (H1.out.below hb3)
            have HX3 := Lib.hid H3.out.X
            have q3 : wr.heap.size < w3.heap.size := H3.out.lt
            have m0 : w3.cell? ⟨wr.heap.size, 0, none⟩ = some (.int .i64 x.kind) := blk_cell HX3.out 0 rfl
            have m1 : w3.cell? ⟨wr.heap.size, 1, none⟩ = some (.int .u64 x.client) := blk_cell HX3.out 1 rfl
            have m2 : w3.cell? ⟨wr.heap.size, 2, none⟩ = some (.int .u64 x.number) := blk_cell HX3.out 2 rfl
            have m3 : w3.cell? ⟨wr.heap.size, 3, none⟩ = some (.int .i64 x.a.err) := blk_cell HX3.out 3 rfl
            have m4 : w3.cell? ⟨wr.heap.size, 4, none⟩ = some (.string x.a.name) := blk_cell HX3.out 4 rfl
            have m5 : w3.cell? ⟨wr.heap.size, 5, none⟩ = some (.int .u64 x.a.tok) := blk_cell HX3.out 5 rfl
            have m6 : w3.cell? ⟨wr.heap.size, 6, none⟩ = some (.int .i64 x.a.val) := blk_cell HX3.out 6 rfl
            clear n0 n1 n2 n3 n4 n5 n6
            have HT3 := Lib.hid hT3
            have hbs := hb3.size
            have HBB := Lib.hid hb3
            clear hb3 hT3
            go_wp2_with fail
            refine (show Calls Try.prog 12 #[.pointer (some ⟨t', 0, none⟩), .int .u64 x.client, .int .u64 9223372036854775808, .agg #[.int .i64 x.a.err, .string x.a.name, .int .u64 x.a.tok, .int .i64 x.a.val]] w3 _ from keep_any w3 t' m' L x.client HOK.out.2.1 HT3.out 9223372036854775808 x.a (by omega)).mono ?_
            rintro e w5 ⟨⟨z, rfl⟩, hk5⟩
            have H5 := Lib.hid (H1.out.below (HBB.out.trans (hk5.below hbs (fun k hk => by omega))))
            clear hk5 m0 m1 m2 m3 m4 m5 m6
            go_wp2_with fail
            go_meet
            exact ⟨L, HL, H5⟩
        rcases HFD.out with ⟨rfl, hag, hni, hfl⟩ | ⟨i, y, rfl, hi, rfl⟩
        · have HAG := Lib.hid hag
          have HNI := Lib.hid hni
          have HLN : Hid (lastN L x.client = 0) := Lib.hid (by unfold lastN; rw [hag]; rfl)
          have HKN : Hid (∀ n : Int, (!(aget x.client L).isSome && decide (16 ≤ L.length)) = fl) := Lib.hid (fun n => by rw [hag, hfl]; rfl)
          have h16' : fl = true ↔ 16 ≤ L.length := by rw [hfl]; simp
          clear hag hni hfl
          by_cases hkd0 : x.kind = 0
          · clear hoth
            have hkd := hkd0
            clear hkd0
            have k0 : (x.kind == 0) = true := by rw [hkd]; rfl
            clear hkd
            by_cases hc0 : x.client = 0
            · have c0 : (x.client == 0) = true := by rw [hc0]; rfl
              have c0' : (x.client != 0) = false := by rw [hc0]; rfl
              have HC0 := Lib.hid hc0
              clear hc0 h16' 
              as_aux_lemma =>
                go_wp2_with fail
                refine (show Calls Try.prog 11 #[.pointer (some ⟨M + 1, 0, none⟩), .int .u64 x.client, .int .u64 x.number] W1 (RetB (.tuple #[.agg #[.int .i64 0, .string ⟨#[]⟩, .int .u64 0, .int .i64 0], .bool false]) W1) from look_zero W1 (M + 1) M L x.client HOK.out.2.1 H1.out.T x.number HC0.out).mono ?_
                rintro e w3 ⟨rfl, hb3⟩
                have H3 := Lib.hid (H1.out.below hb3)
                have HX3 := Lib.hid H3.out.X
                have q3 : wr.heap.size < w3.heap.size := H3.out.lt
                have m0 : w3.cell? ⟨wr.heap.size, 0, none⟩ = some (.int .i64 x.kind) := blk_cell HX3.out 0 rfl
                have m1 : w3.cell? ⟨wr.heap.size, 1, none⟩ = some (.int .u64 x.client) := blk_cell HX3.out 1 rfl
                have m2 : w3.cell? ⟨wr.heap.size, 2, none⟩ = some (.int .u64 x.number) := blk_cell HX3.out 2 rfl
                have m3 : w3.cell? ⟨wr.heap.size, 3, none⟩ = some (.int .i64 x.a.err) := blk_cell HX3.out 3 rfl
                have m4 : w3.cell? ⟨wr.heap.size, 4, none⟩ = some (.string x.a.name) := blk_cell HX3.out 4 rfl
                have m5 : w3.cell? ⟨wr.heap.size, 5, none⟩ = some (.int .u64 x.a.tok) := blk_cell HX3.out 5 rfl
                have m6 : w3.cell? ⟨wr.heap.size, 6, none⟩ = some (.int .i64 x.a.val) := blk_cell HX3.out 6 rfl
                clear hb3 n0 n1 n2 n3 n4 n5 n6
                go_wp2_with fail
                go_meet
                exact ⟨L, HL, Lib.hid ((H3.out.alloc _).alloc _)⟩
            · have c0 : (x.client == 0) = false := by simpa using hc0
              have c0' : (x.client != 0) = true := by simpa using hc0
              clear hc0
              have hlk := look_none W1 (M + 1) M L x.client HOK.out.2.1 H1.out.T x.number c0 (by omega) HAG.out
              cases fl
              case false =>
                have h16 : ¬ 16 ≤ L.length := by simpa using h16'
                have g2 : decide (16 ≤ L.length) = false := by simpa using h16
                rw [g2, if_neg h16] at hlk
                have HLK : Hid (Calls Try.prog 11 #[.pointer (some ⟨M + 1, 0, none⟩), .int .u64 x.client, .int .u64 x.number] W1 (RetB (.tuple #[.agg #[.int .i64 0, .string ⟨#[]⟩, .int .u64 0, .int .i64 0], .bool false]) W1)) := Lib.hid hlk
                clear hlk h16 h16' g2
                as_aux_lemma =>
                  go_wp2_with fail
                  refine (HLK.out).mono ?_
                  rintro e w3 ⟨rfl, hb3⟩
                  have H3 := Lib.hid (H1.out.below hb3)
                  have HX3 := Lib.hid H3.out.X
                  have q3 : wr.heap.size < w3.heap.size := H3.out.lt
                  have m0 : w3.cell? ⟨wr.heap.size, 0, none⟩ = some (.int .i64 x.kind) := blk_cell HX3.out 0 rfl
                  have m1 : w3.cell? ⟨wr.heap.size, 1, none⟩ = some (.int .u64 x.client) := blk_cell HX3.out 1 rfl
                  have m2 : w3.cell? ⟨wr.heap.size, 2, none⟩ = some (.int .u64 x.number) := blk_cell HX3.out 2 rfl
                  have m3 : w3.cell? ⟨wr.heap.size, 3, none⟩ = some (.int .i64 x.a.err) := blk_cell HX3.out 3 rfl
                  have m4 : w3.cell? ⟨wr.heap.size, 4, none⟩ = some (.string x.a.name) := blk_cell HX3.out 4 rfl
                  have m5 : w3.cell? ⟨wr.heap.size, 5, none⟩ = some (.int .u64 x.a.tok) := blk_cell HX3.out 5 rfl
                  have m6 : w3.cell? ⟨wr.heap.size, 6, none⟩ = some (.int .i64 x.a.val) := blk_cell HX3.out 6 rfl
                  clear hb3 n0 n1 n2 n3 n4 n5 n6
                  go_wp2_with fail
                  go_quiet (fail)
                  go_wp2_with fail
                  go_quiet (fail)
                  go_wp2_with fail
                  go_meet
                  exact ⟨L, HL, Lib.hid (((H3.out.alloc _).alloc _).drewN _)⟩
              case true =>
                have h16 : 16 ≤ L.length := by simpa using h16'
                have g2 : decide (16 ≤ L.length) = true := by simpa using h16
                rw [g2, if_pos h16] at hlk
                have HLK : Hid (Calls Try.prog 11 #[.pointer (some ⟨M + 1, 0, none⟩), .int .u64 x.client, .int .u64 x.number] W1 (RetB (.tuple #[.agg #[.int .i64 6, .string ⟨#[]⟩, .int .u64 0, .int .i64 0], .bool true]) W1)) := Lib.hid hlk
                clear hlk h16 h16' g2
                as_aux_lemma =>
                  go_wp2_with fail
                  refine (HLK.out).mono ?_
                  rintro e w3 ⟨rfl, hb3⟩
                  have H3 := Lib.hid (H1.out.below hb3)
                  have HX3 := Lib.hid H3.out.X
                  have q3 : wr.heap.size < w3.heap.size := H3.out.lt
                  have m0 : w3.cell? ⟨wr.heap.size, 0, none⟩ = some (.int .i64 x.kind) := blk_cell HX3.out 0 rfl
                  have m1 : w3.cell? ⟨wr.heap.size, 1, none⟩ = some (.int .u64 x.client) := blk_cell HX3.out 1 rfl
                  have m2 : w3.cell? ⟨wr.heap.size, 2, none⟩ = some (.int .u64 x.number) := blk_cell HX3.out 2 rfl
                  have m3 : w3.cell? ⟨wr.heap.size, 3, none⟩ = some (.int .i64 x.a.err) := blk_cell HX3.out 3 rfl
                  have m4 : w3.cell? ⟨wr.heap.size, 4, none⟩ = some (.string x.a.name) := blk_cell HX3.out 4 rfl
                  have m5 : w3.cell? ⟨wr.heap.size, 5, none⟩ = some (.int .u64 x.a.tok) := blk_cell HX3.out 5 rfl
                  have m6 : w3.cell? ⟨wr.heap.size, 6, none⟩ = some (.int .i64 x.a.val) := blk_cell HX3.out 6 rfl
                  clear hb3 n0 n1 n2 n3 n4 n5 n6
                  go_wp2_with fail
                  go_meet
                  exact ⟨L, HL, Lib.hid ((H3.out.alloc _).alloc _)⟩
          have hkd12 : x.kind = 1 ∨ x.kind = 2 := by omega
          · clear hkd0 hoth
            by_cases hc0 : x.client = 0
            · have c0 : (x.client == 0) = true := by rw [hc0]; rfl
              have HK : Hid (Calls Try.prog 12 #[.pointer (some ⟨M + 1, 0, none⟩), .int .u64 x.client, .int .u64 x.number, .agg #[.int .i64 x.a.err, .string x.a.name, .int .u64 x.a.tok, .int .i64 x.a.val]] (W1) (RetB (.int .i64 1) (W1))) := Lib.hid (keep_arg W1 (M + 1) M L x.client H1.out.T x.number x.a (.inl c0))
              clear hc0 h16'
              rcases hkd12 with hkd | hkd
              · have k0 : (x.kind == 0) = false := by rw [hkd]; rfl
                have k1 : (x.kind == 1) = true := by rw [hkd]; rfl
                clear hkd
                as_aux_lemma =>
                  go_wp2_with fail
                  refine (HK.out).mono ?_
                  rintro e w3 ⟨rfl, hb3⟩
                  have H3 := Lib.hid ((H1.out).below hb3)
                  clear hb3
                  go_wp2_with fail
                  go_meet
                  exact ⟨L, HL, H3⟩
              · have k0 : (x.kind == 0) = false := by rw [hkd]; rfl
                have k1 : (x.kind == 1) = false := by rw [hkd]; rfl
                have k2 : (x.kind == 2) = true := by rw [hkd]; rfl
                clear hkd
                as_aux_lemma =>
                  go_wp2_with fail
                  refine (HK.out).mono ?_
                  rintro e w3 ⟨rfl, hb3⟩
                  have H3 := Lib.hid ((H1.out).below hb3)
                  clear hb3
                  go_wp2_with fail
                  go_meet
                  exact ⟨L, HL, H3⟩
            have c0 : (x.client == 0) = false := by simpa using hc0
            clear hc0
            by_cases hn0 : x.number = 0
            · have c1 : (x.number == 0) = true := by rw [hn0]; rfl
              have HK : Hid (Calls Try.prog 12 #[.pointer (some ⟨M + 1, 0, none⟩), .int .u64 x.client, .int .u64 x.number, .agg #[.int .i64 x.a.err, .string x.a.name, .int .u64 x.a.tok, .int .i64 x.a.val]] (W1) (RetB (.int .i64 1) (W1))) := Lib.hid (keep_arg W1 (M + 1) M L x.client H1.out.T x.number x.a (.inr ⟨c0, c1⟩))
              clear hn0 h16'
              rcases hkd12 with hkd | hkd
              · have k0 : (x.kind == 0) = false := by rw [hkd]; rfl
                have k1 : (x.kind == 1) = true := by rw [hkd]; rfl
                clear hkd
                as_aux_lemma =>
                  go_wp2_with fail
                  refine (HK.out).mono ?_
                  rintro e w3 ⟨rfl, hb3⟩
                  have H3 := Lib.hid ((H1.out).below hb3)
                  clear hb3
                  go_wp2_with fail
                  go_meet
                  exact ⟨L, HL, H3⟩
              · have k0 : (x.kind == 0) = false := by rw [hkd]; rfl
                have k1 : (x.kind == 1) = false := by rw [hkd]; rfl
                have k2 : (x.kind == 2) = true := by rw [hkd]; rfl
                clear hkd
                as_aux_lemma =>
                  go_wp2_with fail
                  refine (HK.out).mono ?_
                  rintro e w3 ⟨rfl, hb3⟩
                  have H3 := Lib.hid ((H1.out).below hb3)
                  clear hb3
                  go_wp2_with fail
                  go_meet
                  exact ⟨L, HL, H3⟩
            have c1 : (x.number == 0) = false := by simpa using hn0
            have HCP : Hid (0 < x.client) := Lib.hid (by
              have h1 := bounds_u64 HOK.out.2.1
              have h2 : x.client ≠ 0 := by simpa using c0
              omega)
            have HNP : Hid (0 < x.number ∧ x.number ≤ 18446744073709551615) := Lib.hid (by have := bounds_u64 HOK.out.2.2.1; omega)
            clear hn0
            cases fl
            case true =>
              have HK : Hid (∀ n, Calls Try.prog 12 #[.pointer (some ⟨M + 1, 0, none⟩), .int .u64 x.client, .int .u64 x.number, .agg #[.int .i64 x.a.err, .string x.a.name, .int .u64 x.a.tok, .int .i64 x.a.val]] (W1.drewN n) (RetB (.int .i64 6) (W1.drewN n))) := Lib.hid (fun n => keep_no (W1.drewN n) (M + 1) M L x.client HOK.out.2.1 (H1.out.drewN n).T x.number x.a c0 c1 (by omega) 6 (.inr (.inl ⟨by rw [HLN.out]; exact HNP.out.1, HKN.out 0, rfl⟩)))
              clear h16'
              rcases hkd12 with hkd | hkd
              · have k0 : (x.kind == 0) = false := by rw [hkd]; rfl
                have k1 : (x.kind == 1) = true := by rw [hkd]; rfl
                clear hkd
                as_aux_lemma =>
                  go_wp2_with fail
                  go_quiet (fail)
                  go_wp2_with fail
                  refine (HK.out _).mono ?_
                  rintro e w3 ⟨rfl, hb3⟩
                  have H3 := Lib.hid ((H1.out.drewN _).below hb3)
                  clear hb3
                  go_wp2_with fail
                  go_meet
                  exact ⟨L, HL, H3⟩
              · have k0 : (x.kind == 0) = false := by rw [hkd]; rfl
                have k1 : (x.kind == 1) = false := by rw [hkd]; rfl
                have k2 : (x.kind == 2) = true := by rw [hkd]; rfl
                clear hkd
                as_aux_lemma =>
                  go_wp2_with fail
                  go_quiet (fail)
                  go_wp2_with fail
                  refine (HK.out _).mono ?_
                  rintro e w3 ⟨rfl, hb3⟩
                  have H3 := Lib.hid ((H1.out.drewN _).below hb3)
                  clear hb3
                  go_wp2_with fail
                  go_meet
                  exact ⟨L, HL, H3⟩
            case false =>
              have h16 : ¬ 16 ≤ L.length := by simpa using h16'
              clear h16'
              by_cases h255 : 255 < x.a.name.size
              · have g1 : decide ((255 : Int) < (x.a.name.size : Int)) = true := by simp; omega
                have HK : Hid (∀ n, Calls Try.prog 12 #[.pointer (some ⟨M + 1, 0, none⟩), .int .u64 x.client, .int .u64 x.number, .agg #[.int .i64 x.a.err, .string x.a.name, .int .u64 x.a.tok, .int .i64 x.a.val]] (W1.drewN n) (RetB (.int .i64 15) (W1.drewN n))) := Lib.hid (fun n => keep_no (W1.drewN n) (M + 1) M L x.client HOK.out.2.1 (H1.out.drewN n).T x.number x.a c0 c1 (by omega) 15 (.inr (.inr ⟨by rw [HLN.out]; exact HNP.out.1, HKN.out 0, h255, rfl⟩)))
                clear h255 h16
                rcases hkd12 with hkd | hkd
                · have k0 : (x.kind == 0) = false := by rw [hkd]; rfl
                  have k1 : (x.kind == 1) = true := by rw [hkd]; rfl
                  clear hkd
                  as_aux_lemma =>
                    go_wp2_with fail
                    go_quiet (fail)
                    go_wp2_with fail
                    refine (HK.out _).mono ?_
                    rintro e w3 ⟨rfl, hb3⟩
                    have H3 := Lib.hid ((H1.out.drewN _).below hb3)
                    clear hb3
                    go_wp2_with fail
                    go_meet
                    exact ⟨L, HL, H3⟩
                · have k0 : (x.kind == 0) = false := by rw [hkd]; rfl
                  have k1 : (x.kind == 1) = false := by rw [hkd]; rfl
                  have k2 : (x.kind == 2) = true := by rw [hkd]; rfl
                  clear hkd
                  as_aux_lemma =>
                    go_wp2_with fail
                    go_quiet (fail)
                    go_wp2_with fail
                    refine (HK.out _).mono ?_
                    rintro e w3 ⟨rfl, hb3⟩
                    have H3 := Lib.hid ((H1.out.drewN _).below hb3)
                    clear hb3
                    go_wp2_with fail
                    go_meet
                    exact ⟨L, HL, H3⟩
              · have g1 : decide ((255 : Int) < (x.a.name.size : Int)) = false := by simp; omega
                have hs255 : x.a.name.size ≤ 255 := by omega
                have HM0 : Hid (L.length + 1 ≤ maxLen) := Lib.hid (by unfold maxLen; omega)
                have HM1 : Hid ((L.length + 1) * 56 ≤ 140737488355328) := Lib.hid (by omega)
                have HEN := Lib.hid (hent hs255 HCP.out HNP.out.1)
                have HLQ : Hid (L.length < 16) := Lib.hid (by omega)
                obtain ⟨i0, hi, hz0, hz1, hz2⟩ := info_parts info_one20
                have HS255 := Lib.hid hs255
                clear h255 h16 hs255
                rcases hkd12 with hkd | hkd
                · have k0 : (x.kind == 0) = false := by rw [hkd]; rfl
                  have k1 : (x.kind == 1) = true := by rw [hkd]; rfl
                  clear hkd
                  go_wp2_with fail
                  go_quiet (fail)
                  go_wp2_with (first | (at_builtin; refine wpList_append_own _ rfl _ _ _ rfl (M + 2) 43 i0 _ 6 56 Try.underlying33 hi hz0 hz1 hz2 rfl (by decide) _ L.length (flatT L) rfl (((H1.out.drewN _).alloc _).O) ⟨W1.heap.size, 0, none⟩ 1 1 [.int .u64 x.client, .int .u64 x.number, .int .i64 x.a.err, .string x.a.name, .int .u64 x.a.tok, .int .i64 x.a.val] rfl rfl (cells6_new _ _ _ _ _ _ _ _) (by simp [Value.oneCell']) HM0.out HM1.out (by have := heap_lt H1.out.T.box; simp; omega) ?_; intro v' w4 hown4 hg4 hnil4; have H4 := Lib.hid (((H1.out.drewN _).alloc _).wrote s1 (keeps_grown hg4) (show OnesFrom w4 (M + 2) v' (L ++ [(x.client, (x.number, x.a))]) by unfold OnesFrom; rw [flatT_snoc, List.length_append]; exact hown4)); clear hown4 hg4 hnil4; have m0 : w4.cell? ⟨wr.heap.size, 0, none⟩ = some (.int .i64 x.kind) := blk_cell H4.out.X 0 rfl; have m1 : w4.cell? ⟨wr.heap.size, 1, none⟩ = some (.int .u64 x.client) := blk_cell H4.out.X 1 rfl; have m2 : w4.cell? ⟨wr.heap.size, 2, none⟩ = some (.int .u64 x.number) := blk_cell H4.out.X 2 rfl; have m3 : w4.cell? ⟨wr.heap.size, 3, none⟩ = some (.int .i64 x.a.err) := blk_cell H4.out.X 3 rfl; have m4 : w4.cell? ⟨wr.heap.size, 4, none⟩ = some (.string x.a.name) := blk_cell H4.out.X 4 rfl; have m5 : w4.cell? ⟨wr.heap.size, 5, none⟩ = some (.int .u64 x.a.tok) := blk_cell H4.out.X 5 rfl; have m6 : w4.cell? ⟨wr.heap.size, 6, none⟩ = some (.int .i64 x.a.val) := blk_cell H4.out.X 6 rfl) | fail)
                  refine (show Calls Try.prog 12 #[.pointer (some ⟨M + 1, 0, none⟩), .int .u64 x.client, .int .u64 x.number, .agg #[.int .i64 x.a.err, .string x.a.name, .int .u64 x.a.tok, .int .i64 x.a.val]] w4 _ from keep_yes w4 (M + 1) M L x.client HOK.out.2.1 H4.out.T x.number x.a c0 c1 (by omega) (by rw [HLN.out]; exact HNP.out.1) (HKN.out 0) HS255.out).mono ?_
                  rintro e w5 ⟨rfl, hT5, hk5⟩
                  have H5 := Lib.hid (H4.out.kept s1 hT5 hk5)
                  clear hT5 hk5 m0 m1 m2 m3 m4 m5 m6 n0 n1 n2 n3 n4 n5 n6
                  go_wp2_with fail
                  go_meet
                  have H6 : At20 w w5 M wr.heap.size x v' (aset x.client (x.number, x.a) L) (aset x.client (x.number, x.a) L) := by
                    have h6 := H5.out
                    rw [aset_new HNI.out] at h6 ⊢
                    exact h6
                  have H7 : LOk (aset x.client (x.number, x.a) L) := LOk.put HL.out (c := x.client) (x := (x.number, x.a)) HEN.out (Or.inr HLQ.out)
                  exact ⟨_, Lib.hid H7, Lib.hid H6⟩
                · have k0 : (x.kind == 0) = false := by rw [hkd]; rfl
                  have k1 : (x.kind == 1) = false := by rw [hkd]; rfl
                  have k2 : (x.kind == 2) = true := by rw [hkd]; rfl
                  clear hkd
                  go_wp2_with fail
                  go_quiet (fail)
                  go_wp2_with (first | (at_builtin; refine wpList_append_own _ rfl _ _ _ rfl (M + 2) 43 i0 _ 6 56 Try.underlying33 hi hz0 hz1 hz2 rfl (by decide) _ L.length (flatT L) rfl (((H1.out.drewN _).alloc _).O) ⟨W1.heap.size, 0, none⟩ 1 1 [.int .u64 x.client, .int .u64 x.number, .int .i64 x.a.err, .string x.a.name, .int .u64 x.a.tok, .int .i64 x.a.val] rfl rfl (cells6_new _ _ _ _ _ _ _ _) (by simp [Value.oneCell']) HM0.out HM1.out (by have := heap_lt H1.out.T.box; simp; omega) ?_; intro v' w4 hown4 hg4 hnil4; have H4 := Lib.hid (((H1.out.drewN _).alloc _).wrote s1 (keeps_grown hg4) (show OnesFrom w4 (M + 2) v' (L ++ [(x.client, (x.number, x.a))]) by unfold OnesFrom; rw [flatT_snoc, List.length_append]; exact hown4)); clear hown4 hg4 hnil4; have m0 : w4.cell? ⟨wr.heap.size, 0, none⟩ = some (.int .i64 x.kind) := blk_cell H4.out.X 0 rfl; have m1 : w4.cell? ⟨wr.heap.size, 1, none⟩ = some (.int .u64 x.client) := blk_cell H4.out.X 1 rfl; have m2 : w4.cell? ⟨wr.heap.size, 2, none⟩ = some (.int .u64 x.number) := blk_cell H4.out.X 2 rfl; have m3 : w4.cell? ⟨wr.heap.size, 3, none⟩ = some (.int .i64 x.a.err) := blk_cell H4.out.X 3 rfl; have m4 : w4.cell? ⟨wr.heap.size, 4, none⟩ = some (.string x.a.name) := blk_cell H4.out.X 4 rfl; have m5 : w4.cell? ⟨wr.heap.size, 5, none⟩ = some (.int .u64 x.a.tok) := blk_cell H4.out.X 5 rfl; have m6 : w4.cell? ⟨wr.heap.size, 6, none⟩ = some (.int .i64 x.a.val) := blk_cell H4.out.X 6 rfl) | fail)
                  refine (show Calls Try.prog 12 #[.pointer (some ⟨M + 1, 0, none⟩), .int .u64 x.client, .int .u64 x.number, .agg #[.int .i64 x.a.err, .string x.a.name, .int .u64 x.a.tok, .int .i64 x.a.val]] w4 _ from keep_yes w4 (M + 1) M L x.client HOK.out.2.1 H4.out.T x.number x.a c0 c1 (by omega) (by rw [HLN.out]; exact HNP.out.1) (HKN.out 0) HS255.out).mono ?_
                  rintro e w5 ⟨rfl, hT5, hk5⟩
                  have H5 := Lib.hid (H4.out.kept s1 hT5 hk5)
                  clear hT5 hk5 m0 m1 m2 m3 m4 m5 m6 n0 n1 n2 n3 n4 n5 n6
                  go_wp2_with fail
                  go_meet
                  have H6 : At20 w w5 M wr.heap.size x v' (aset x.client (x.number, x.a) L) (aset x.client (x.number, x.a) L) := by
                    have h6 := H5.out
                    rw [aset_new HNI.out] at h6 ⊢
                    exact h6
                  have H7 : LOk (aset x.client (x.number, x.a) L) := LOk.put HL.out (c := x.client) (x := (x.number, x.a)) HEN.out (Or.inr HLQ.out)
                  exact ⟨_, Lib.hid H7, Lib.hid H6⟩
        · have HI := Lib.hid hi
          have hag := find_aget HL.out.nodup hi
          have HAG := Lib.hid hag
          have HLN : Hid (lastN L x.client = y.1) := Lib.hid (by unfold lastN; rw [hag]; rfl)
          have HKN : Hid ((!(aget x.client L).isSome && decide (16 ≤ L.length)) = false) := Lib.hid (by rw [hag]; rfl)
          have hek := HL.out.ent _ (List.mem_of_getElem? hi)
          have hcp : 0 < x.client := hek.c0
          have hyp : 0 < y.1 := hek.n0
          have HYP := Lib.hid hyp
          have HCP := Lib.hid hcp
          have c0 : (x.client == 0) = false := by simp; omega
          have c0' : (x.client != 0) = true := by simp; omega
          have d1 : decide ((i : Int) < 0) = false := by simp
          have d2 : ¬ ((i : Int) < 0) := by omega
          have d3 : decide ((0 : Int) ≤ (i : Int)) = true := by simp
          have d4 : (0 : Int) ≤ (i : Int) := by omega
          have d5 : i < L.length := (List.getElem?_eq_some_iff.1 hi).1
          obtain ⟨g, gc, C, hv, hg, hC, hcap, hcm, hCs⟩ := ent_at H1.out.O.at hi
          injection hv with e1 e2 e3
          subst e1 e3
          have hlnat : L.length ≤ vc := hcap
          obtain ⟨yn, ye, ynm, yt, yv⟩ := y
          have y1 : W1.cell? ⟨g, i * 6 + 1, none⟩ = some (.int .u64 yn) := blk_cell hg _ (ent_cell hC (i := 1) (by omega))
          have y2 : W1.cell? ⟨g, i * 6 + 2, none⟩ = some (.int .i64 ye) := blk_cell hg _ (ent_cell hC (i := 2) (by omega))
          have y3 : W1.cell? ⟨g, i * 6 + 3, none⟩ = some (.string ynm) := blk_cell hg _ (ent_cell hC (i := 3) (by omega))
          have y4 : W1.cell? ⟨g, i * 6 + 4, none⟩ = some (.int .u64 yt) := blk_cell hg _ (ent_cell hC (i := 4) (by omega))
          have y5 : W1.cell? ⟨g, i * 6 + 5, none⟩ = some (.int .i64 yv) := blk_cell hg _ (ent_cell hC (i := 5) (by omega))
          have hgl : g < W1.heap.size := heap_lt hg
          have HG := Lib.hid hg
          have HCS : Hid (C.size = vc * 6) := Lib.hid hCs
          have hgo := H1.out.own (g := g) rfl
          have HGO := Lib.hid hgo
          clear hek hcp hyp hi hag hC hCs hcap hg hgo
          by_cases hkd0 : x.kind = 0
          · have hkd := hkd0
            clear hkd0 hoth
            have k0 : (x.kind == 0) = true := by rw [hkd]; rfl
            clear hkd
            have hlk := look_some W1 (M + 1) M L x.client HOK.out.2.1 H1.out.T x.number c0 (by omega) (yn, ⟨ye, ynm, yt, yv⟩) HAG.out
            simp only at hlk
            by_cases hn1 : x.number = yn
            · rw [if_pos hn1, show decide (x.number ≤ yn) = true by simp; omega] at hlk
              have HLK : Hid (Calls Try.prog 11 #[.pointer (some ⟨M + 1, 0, none⟩), .int .u64 x.client, .int .u64 x.number] W1 (RetB (.tuple #[.agg #[.int .i64 ye, .string ynm, .int .u64 yt, .int .i64 yv], .bool true]) W1)) := Lib.hid hlk
              have f1 : (yn == x.number) = true := by simpa using hn1.symm
              clear hlk hn1
              as_aux_lemma =>
                go_wp2_with fail
                refine (HLK.out).mono ?_
                rintro e w3 ⟨rfl, hb3⟩
                have H3 := Lib.hid (H1.out.below hb3)
                have HX3 := Lib.hid H3.out.X
                have q3 : wr.heap.size < w3.heap.size := H3.out.lt
                have m0 : w3.cell? ⟨wr.heap.size, 0, none⟩ = some (.int .i64 x.kind) := blk_cell HX3.out 0 rfl
                have m1 : w3.cell? ⟨wr.heap.size, 1, none⟩ = some (.int .u64 x.client) := blk_cell HX3.out 1 rfl
                have m2 : w3.cell? ⟨wr.heap.size, 2, none⟩ = some (.int .u64 x.number) := blk_cell HX3.out 2 rfl
                have m3 : w3.cell? ⟨wr.heap.size, 3, none⟩ = some (.int .i64 x.a.err) := blk_cell HX3.out 3 rfl
                have m4 : w3.cell? ⟨wr.heap.size, 4, none⟩ = some (.string x.a.name) := blk_cell HX3.out 4 rfl
                have m5 : w3.cell? ⟨wr.heap.size, 5, none⟩ = some (.int .u64 x.a.tok) := blk_cell HX3.out 5 rfl
                have m6 : w3.cell? ⟨wr.heap.size, 6, none⟩ = some (.int .i64 x.a.val) := blk_cell HX3.out 6 rfl
                have z1 : w3.cell? ⟨g, i * 6 + 1, none⟩ = some (.int .u64 yn) := (bcell hb3 g _ hgl).trans y1
                have z2 : w3.cell? ⟨g, i * 6 + 2, none⟩ = some (.int .i64 ye) := (bcell hb3 g _ hgl).trans y2
                have z3 : w3.cell? ⟨g, i * 6 + 3, none⟩ = some (.string ynm) := (bcell hb3 g _ hgl).trans y3
                have z4 : w3.cell? ⟨g, i * 6 + 4, none⟩ = some (.int .u64 yt) := (bcell hb3 g _ hgl).trans y4
                have z5 : w3.cell? ⟨g, i * 6 + 5, none⟩ = some (.int .i64 yv) := (bcell hb3 g _ hgl).trans y5
                have zg : g < w3.heap.size := by have := hb3.size; omega
                clear hb3 y1 y2 y3 y4 y5 hgl n0 n1 n2 n3 n4 n5 n6
                go_wp2_with fail
                go_quiet (fail)
                go_wp2_with fail
                go_meet
                exact ⟨L, HL, Lib.hid (H3.out.below (((((bel_drewNp (((Below.refl _ _).alloc (Nat.le_refl _) _).alloc (by simp) _) _).setCell (by simp) _).setCell (by simp) _).setCell (by simp) _).setCell (by simp) _))⟩
            rw [if_neg hn1] at hlk
            have f1 : (yn == x.number) = false := by simpa using fun e => hn1 e.symm
            by_cases hn2 : x.number < yn
            · rw [if_pos hn2, show decide (x.number ≤ yn) = true by simp; omega] at hlk
              have HLK : Hid (Calls Try.prog 11 #[.pointer (some ⟨M + 1, 0, none⟩), .int .u64 x.client, .int .u64 x.number] W1 (RetB (.tuple #[.agg #[.int .i64 21, .string ⟨#[]⟩, .int .u64 0, .int .i64 0], .bool true]) W1)) := Lib.hid hlk
              have f2 : decide (x.number < yn) = true := by simpa using hn2
              clear hlk hn1 hn2
              as_aux_lemma =>
                go_wp2_with fail
                refine (HLK.out).mono ?_
                rintro e w3 ⟨rfl, hb3⟩
                have H3 := Lib.hid (H1.out.below hb3)
                have HX3 := Lib.hid H3.out.X
                have q3 : wr.heap.size < w3.heap.size := H3.out.lt
                have m0 : w3.cell? ⟨wr.heap.size, 0, none⟩ = some (.int .i64 x.kind) := blk_cell HX3.out 0 rfl
                have m1 : w3.cell? ⟨wr.heap.size, 1, none⟩ = some (.int .u64 x.client) := blk_cell HX3.out 1 rfl
                have m2 : w3.cell? ⟨wr.heap.size, 2, none⟩ = some (.int .u64 x.number) := blk_cell HX3.out 2 rfl
                have m3 : w3.cell? ⟨wr.heap.size, 3, none⟩ = some (.int .i64 x.a.err) := blk_cell HX3.out 3 rfl
                have m4 : w3.cell? ⟨wr.heap.size, 4, none⟩ = some (.string x.a.name) := blk_cell HX3.out 4 rfl
                have m5 : w3.cell? ⟨wr.heap.size, 5, none⟩ = some (.int .u64 x.a.tok) := blk_cell HX3.out 5 rfl
                have m6 : w3.cell? ⟨wr.heap.size, 6, none⟩ = some (.int .i64 x.a.val) := blk_cell HX3.out 6 rfl
                have z1 : w3.cell? ⟨g, i * 6 + 1, none⟩ = some (.int .u64 yn) := (bcell hb3 g _ hgl).trans y1
                have z2 : w3.cell? ⟨g, i * 6 + 2, none⟩ = some (.int .i64 ye) := (bcell hb3 g _ hgl).trans y2
                have z3 : w3.cell? ⟨g, i * 6 + 3, none⟩ = some (.string ynm) := (bcell hb3 g _ hgl).trans y3
                have z4 : w3.cell? ⟨g, i * 6 + 4, none⟩ = some (.int .u64 yt) := (bcell hb3 g _ hgl).trans y4
                have z5 : w3.cell? ⟨g, i * 6 + 5, none⟩ = some (.int .i64 yv) := (bcell hb3 g _ hgl).trans y5
                have zg : g < w3.heap.size := by have := hb3.size; omega
                clear hb3 y1 y2 y3 y4 y5 hgl n0 n1 n2 n3 n4 n5 n6
                go_wp2_with fail
                go_quiet (fail)
                go_wp2_with fail
                go_quiet (fail)
                go_wp2_with fail
                go_meet
                exact ⟨L, HL, Lib.hid (H3.out.below ((bel_drewNp (((Below.refl _ _).alloc (Nat.le_refl _) _).alloc (by simp) _) _).setCell (by simp) _))⟩
            · rw [if_neg hn2, show decide (x.number ≤ yn) = false by simp; omega] at hlk
              have HLK : Hid (Calls Try.prog 11 #[.pointer (some ⟨M + 1, 0, none⟩), .int .u64 x.client, .int .u64 x.number] W1 (RetB (.tuple #[.agg #[.int .i64 0, .string ⟨#[]⟩, .int .u64 0, .int .i64 0], .bool false]) W1)) := Lib.hid hlk
              have f2 : decide (x.number < yn) = false := by simpa using hn2
              clear hlk hn1 hn2
              as_aux_lemma =>
                go_wp2_with fail
                refine (HLK.out).mono ?_
                rintro e w3 ⟨rfl, hb3⟩
                have H3 := Lib.hid (H1.out.below hb3)
                have HX3 := Lib.hid H3.out.X
                have q3 : wr.heap.size < w3.heap.size := H3.out.lt
                have m0 : w3.cell? ⟨wr.heap.size, 0, none⟩ = some (.int .i64 x.kind) := blk_cell HX3.out 0 rfl
                have m1 : w3.cell? ⟨wr.heap.size, 1, none⟩ = some (.int .u64 x.client) := blk_cell HX3.out 1 rfl
                have m2 : w3.cell? ⟨wr.heap.size, 2, none⟩ = some (.int .u64 x.number) := blk_cell HX3.out 2 rfl
                have m3 : w3.cell? ⟨wr.heap.size, 3, none⟩ = some (.int .i64 x.a.err) := blk_cell HX3.out 3 rfl
                have m4 : w3.cell? ⟨wr.heap.size, 4, none⟩ = some (.string x.a.name) := blk_cell HX3.out 4 rfl
                have m5 : w3.cell? ⟨wr.heap.size, 5, none⟩ = some (.int .u64 x.a.tok) := blk_cell HX3.out 5 rfl
                have m6 : w3.cell? ⟨wr.heap.size, 6, none⟩ = some (.int .i64 x.a.val) := blk_cell HX3.out 6 rfl
                have z1 : w3.cell? ⟨g, i * 6 + 1, none⟩ = some (.int .u64 yn) := (bcell hb3 g _ hgl).trans y1
                have z2 : w3.cell? ⟨g, i * 6 + 2, none⟩ = some (.int .i64 ye) := (bcell hb3 g _ hgl).trans y2
                have z3 : w3.cell? ⟨g, i * 6 + 3, none⟩ = some (.string ynm) := (bcell hb3 g _ hgl).trans y3
                have z4 : w3.cell? ⟨g, i * 6 + 4, none⟩ = some (.int .u64 yt) := (bcell hb3 g _ hgl).trans y4
                have z5 : w3.cell? ⟨g, i * 6 + 5, none⟩ = some (.int .i64 yv) := (bcell hb3 g _ hgl).trans y5
                have zg : g < w3.heap.size := by have := hb3.size; omega
                clear hb3 y1 y2 y3 y4 y5 hgl n0 n1 n2 n3 n4 n5 n6
                go_wp2_with fail
                go_quiet (fail)
                go_wp2_with fail
                go_quiet (fail)
                go_wp2_with fail
                go_meet
                exact ⟨L, HL, Lib.hid (((H3.out.alloc _).alloc _).drewN _)⟩
          have hkd12 : x.kind = 1 ∨ x.kind = 2 := by omega
          clear hkd0 hoth c0'
          by_cases hn0 : x.number = 0
          · have c1 : (x.number == 0) = true := by rw [hn0]; rfl
            have HK : Hid (Calls Try.prog 12 #[.pointer (some ⟨M + 1, 0, none⟩), .int .u64 x.client, .int .u64 x.number, .agg #[.int .i64 x.a.err, .string x.a.name, .int .u64 x.a.tok, .int .i64 x.a.val]] (W1) (RetB (.int .i64 1) (W1))) := Lib.hid (keep_arg W1 (M + 1) M L x.client H1.out.T x.number x.a (.inr ⟨c0, c1⟩))
            clear hn0
            rcases hkd12 with hkd | hkd
            · have k0 : (x.kind == 0) = false := by rw [hkd]; rfl
              have k1 : (x.kind == 1) = true := by rw [hkd]; rfl
              clear hkd
              as_aux_lemma =>
                go_wp2_with fail
                refine (HK.out).mono ?_
                rintro e w3 ⟨rfl, hb3⟩
                have H3 := Lib.hid ((H1.out).below hb3)
                clear hb3
                go_wp2_with fail
                go_meet
                exact ⟨L, HL, H3⟩
            · have k0 : (x.kind == 0) = false := by rw [hkd]; rfl
              have k1 : (x.kind == 1) = false := by rw [hkd]; rfl
              have k2 : (x.kind == 2) = true := by rw [hkd]; rfl
              clear hkd
              as_aux_lemma =>
                go_wp2_with fail
                refine (HK.out).mono ?_
                rintro e w3 ⟨rfl, hb3⟩
                have H3 := Lib.hid ((H1.out).below hb3)
                clear hb3
                go_wp2_with fail
                go_meet
                exact ⟨L, HL, H3⟩
          have c1 : (x.number == 0) = false := by simpa using hn0
          have HNP : Hid (0 < x.number ∧ x.number ≤ 18446744073709551615) := Lib.hid (by have := bounds_u64 HOK.out.2.2.1; omega)
          clear hn0
          by_cases hn1 : x.number ≤ yn
          · have f1 : decide (x.number ≤ yn) = true := by simpa using hn1
            have HK : Hid (∀ n, Calls Try.prog 12 #[.pointer (some ⟨M + 1, 0, none⟩), .int .u64 x.client, .int .u64 x.number, .agg #[.int .i64 x.a.err, .string x.a.name, .int .u64 x.a.tok, .int .i64 x.a.val]] (W1.drewN n) (RetB (.int .i64 21) (W1.drewN n))) := Lib.hid (fun n => keep_no (W1.drewN n) (M + 1) M L x.client HOK.out.2.1 (H1.out.drewN n).T x.number x.a c0 c1 (by omega) 21 (.inl ⟨by rw [HLN.out]; exact hn1, rfl⟩))
            rcases hkd12 with hkd | hkd
            · have k0 : (x.kind == 0) = false := by rw [hkd]; rfl
              have k1 : (x.kind == 1) = true := by rw [hkd]; rfl
              clear hkd
              as_aux_lemma =>
                go_wp2_with fail
                go_quiet (fail)
                go_wp2_with fail
                refine (HK.out _).mono ?_
                rintro e w3 ⟨rfl, hb3⟩
                have H3 := Lib.hid ((H1.out.drewN _).below hb3)
                clear hb3
                go_wp2_with fail
                go_meet
                exact ⟨L, HL, H3⟩
            · have k0 : (x.kind == 0) = false := by rw [hkd]; rfl
              have k1 : (x.kind == 1) = false := by rw [hkd]; rfl
              have k2 : (x.kind == 2) = true := by rw [hkd]; rfl
              clear hkd
              as_aux_lemma =>
                go_wp2_with fail
                go_quiet (fail)
                go_wp2_with fail
                refine (HK.out _).mono ?_
                rintro e w3 ⟨rfl, hb3⟩
                have H3 := Lib.hid ((H1.out.drewN _).below hb3)
                clear hb3
                go_wp2_with fail
                go_meet
                exact ⟨L, HL, H3⟩
          have f1 : decide (x.number ≤ yn) = false := by simpa using hn1
          have HGT : Hid (lastN L x.client < x.number) := Lib.hid (by rw [HLN.out]; show yn < _; omega)
          by_cases h255 : 255 < x.a.name.size
          · have g1 : decide ((255 : Int) < (x.a.name.size : Int)) = true := by simp; omega
            have HK : Hid (∀ n, Calls Try.prog 12 #[.pointer (some ⟨M + 1, 0, none⟩), .int .u64 x.client, .int .u64 x.number, .agg #[.int .i64 x.a.err, .string x.a.name, .int .u64 x.a.tok, .int .i64 x.a.val]] (W1.drewN n) (RetB (.int .i64 15) (W1.drewN n))) := Lib.hid (fun n => keep_no (W1.drewN n) (M + 1) M L x.client HOK.out.2.1 (H1.out.drewN n).T x.number x.a c0 c1 (by omega) 15 (.inr (.inr ⟨HGT.out, HKN.out, h255, rfl⟩)))
            clear h255 hn1
            rcases hkd12 with hkd | hkd
            · have k0 : (x.kind == 0) = false := by rw [hkd]; rfl
              have k1 : (x.kind == 1) = true := by rw [hkd]; rfl
              clear hkd
              as_aux_lemma =>
                go_wp2_with fail
                go_quiet (fail)
                go_wp2_with fail
                refine (HK.out _).mono ?_
                rintro e w3 ⟨rfl, hb3⟩
                have H3 := Lib.hid ((H1.out.drewN _).below hb3)
                clear hb3
                go_wp2_with fail
                go_meet
                exact ⟨L, HL, H3⟩
            · have k0 : (x.kind == 0) = false := by rw [hkd]; rfl
              have k1 : (x.kind == 1) = false := by rw [hkd]; rfl
              have k2 : (x.kind == 2) = true := by rw [hkd]; rfl
              clear hkd
              as_aux_lemma =>
                go_wp2_with fail
                go_quiet (fail)
                go_wp2_with fail
                refine (HK.out _).mono ?_
                rintro e w3 ⟨rfl, hb3⟩
                have H3 := Lib.hid ((H1.out.drewN _).below hb3)
                clear hb3
                go_wp2_with fail
                go_meet
                exact ⟨L, HL, H3⟩
          have g1 : decide ((255 : Int) < (x.a.name.size : Int)) = false := by simp; omega
          have HS255 : Hid (x.a.name.size ≤ 255) := Lib.hid (by omega)
          have HEN := Lib.hid (hent HS255.out HCP.out HNP.out.1)
          clear h255 hn1
          rcases hkd12 with hkd | hkd
          · have k0 : (x.kind == 0) = false := by rw [hkd]; rfl
            have k1 : (x.kind == 1) = true := by rw [hkd]; rfl
            clear hkd
            as_aux_lemma =>
              go_wp2_with fail
              go_quiet (fail)
              go_wp2_with fail
              have p2 : (W1.drewN nq).cell? ⟨wr.heap.size, 2, none⟩ = some (.int .u64 x.number) := n2
              have p3 : (W1.drewN nq).cell? ⟨wr.heap.size, 3, none⟩ = some (.int .i64 x.a.err) := n3
              have p4 : (W1.drewN nq).cell? ⟨wr.heap.size, 4, none⟩ = some (.string x.a.name) := n4
              have p5 : (W1.drewN nq).cell? ⟨wr.heap.size, 5, none⟩ = some (.int .u64 x.a.tok) := n5
              have p6 : (W1.drewN nq).cell? ⟨wr.heap.size, 6, none⟩ = some (.int .i64 x.a.val) := n6
              have z1 : (W1.drewN nq).cell? ⟨g, i * 6 + 1, none⟩ = some (.int .u64 yn) := y1
              have z2 : (W1.drewN nq).cell? ⟨g, i * 6 + 2, none⟩ = some (.int .i64 ye) := y2
              have z3 : (W1.drewN nq).cell? ⟨g, i * 6 + 3, none⟩ = some (.string ynm) := y3
              have z4 : (W1.drewN nq).cell? ⟨g, i * 6 + 4, none⟩ = some (.int .u64 yt) := y4
              have z5 : (W1.drewN nq).cell? ⟨g, i * 6 + 5, none⟩ = some (.int .i64 yv) := y5
              have HG2 : Hid ((W1.drewN nq).heap[g]? = some (.cells C 43 (0, 0))) := HG
              have H2 := Lib.hid (H1.out.drewN nq)
              obtain ⟨W2, hW2⟩ : ∃ W2, W2 = W1.drewN nq := ⟨_, rfl⟩
              rw [← hW2] at p2 p3 p4 p5 p6 z1 z2 z3 z4 z5 HG2 H2 ⊢
              clear hW2 n0 n1 n2 n3 n4 n5 n6 y1 y2 y3 y4 y5
              have hgx : g ≠ wr.heap.size := HGO.out.2
              have fz1 : W2.frozen? ⟨g, i * 6 + 1, none⟩ = false := blk_free HG2.out _
              have fz2 : W2.frozen? ⟨g, i * 6 + 2, none⟩ = false := blk_free HG2.out _
              have fz3 : W2.frozen? ⟨g, i * 6 + 3, none⟩ = false := blk_free HG2.out _
              have fz4 : W2.frozen? ⟨g, i * 6 + 4, none⟩ = false := blk_free HG2.out _
              have fz5 : W2.frozen? ⟨g, i * 6 + 5, none⟩ = false := blk_free HG2.out _
              go_region_held3 (fun w' => w'.cell? ⟨wr.heap.size, 2, none⟩ = some (.int .u64 x.number) ∧ w'.cell? ⟨wr.heap.size, 3, none⟩ = some (.int .i64 x.a.err) ∧ w'.cell? ⟨wr.heap.size, 4, none⟩ = some (.string x.a.name) ∧ w'.cell? ⟨wr.heap.size, 5, none⟩ = some (.int .u64 x.a.tok) ∧ w'.cell? ⟨wr.heap.size, 6, none⟩ = some (.int .i64 x.a.val)) (first | with_reducible exact ⟨p2, p3, p4, p5, p6⟩ | with_reducible exact ⟨(drew_cell p2), (drew_cell p3), (drew_cell p4), (drew_cell p5), (drew_cell p6)⟩ | with_reducible exact ⟨far_cellD hgx p2, far_cellD hgx p3, far_cellD hgx p4, far_cellD hgx p5, far_cellD hgx p6⟩ | with_reducible exact ⟨far_cell hgx p2, far_cell hgx p3, far_cell hgx p4, far_cell hgx p5, far_cell hgx p6⟩ | with_reducible exact ⟨far_cellD hgx (far_cell hgx (far_cell hgx (far_cell hgx (far_cell hgx p2)))), far_cellD hgx (far_cell hgx (far_cell hgx (far_cell hgx (far_cell hgx p3)))), far_cellD hgx (far_cell hgx (far_cell hgx (far_cell hgx (far_cell hgx p4)))), far_cellD hgx (far_cell hgx (far_cell hgx (far_cell hgx (far_cell hgx p5)))), far_cellD hgx (far_cell hgx (far_cell hgx (far_cell hgx (far_cell hgx p6))))⟩ | with_reducible exact ⟨far_cell hgx (far_cell hgx (far_cell hgx (far_cell hgx (far_cell hgx p2)))), far_cell hgx (far_cell hgx (far_cell hgx (far_cell hgx (far_cell hgx p3)))), far_cell hgx (far_cell hgx (far_cell hgx (far_cell hgx (far_cell hgx p4)))), far_cell hgx (far_cell hgx (far_cell hgx (far_cell hgx (far_cell hgx p5)))), far_cell hgx (far_cell hgx (far_cell hgx (far_cell hgx (far_cell hgx p6))))⟩) (fail)
              have H4 := Lib.hid (H2.out.put5 s1 HI.out HG2.out (n := x.number) (a := x.a))
              obtain ⟨w4, hw4⟩ : ∃ w4, w4 = (((((W2.setCell ⟨g, i * 6 + 1, none⟩ (.int .u64 x.number)).setCell ⟨g, i * 6 + 2, none⟩ (.int .i64 x.a.err)).setCell ⟨g, i * 6 + 2 + 1, none⟩ (.string x.a.name)).setCell ⟨g, i * 6 + 2 + 2, none⟩ (.int .u64 x.a.tok)).setCell ⟨g, i * 6 + 2 + 3, none⟩ (.int .i64 x.a.val)).drew := ⟨_, rfl⟩
              rw [← hw4] at H4 ⊢
              clear hw4 p2 p3 p4 p5 p6 z1 z2 z3 z4 z5 HG2 H2 fz1 fz2 fz3 fz4 fz5 hgl
              have m0 : w4.cell? ⟨wr.heap.size, 0, none⟩ = some (.int .i64 x.kind) := blk_cell H4.out.X 0 rfl; have m1 : w4.cell? ⟨wr.heap.size, 1, none⟩ = some (.int .u64 x.client) := blk_cell H4.out.X 1 rfl; have m2 : w4.cell? ⟨wr.heap.size, 2, none⟩ = some (.int .u64 x.number) := blk_cell H4.out.X 2 rfl; have m3 : w4.cell? ⟨wr.heap.size, 3, none⟩ = some (.int .i64 x.a.err) := blk_cell H4.out.X 3 rfl; have m4 : w4.cell? ⟨wr.heap.size, 4, none⟩ = some (.string x.a.name) := blk_cell H4.out.X 4 rfl; have m5 : w4.cell? ⟨wr.heap.size, 5, none⟩ = some (.int .u64 x.a.tok) := blk_cell H4.out.X 5 rfl; have m6 : w4.cell? ⟨wr.heap.size, 6, none⟩ = some (.int .i64 x.a.val) := blk_cell H4.out.X 6 rfl
              go_wp2_with fail
              refine (show Calls Try.prog 12 #[.pointer (some ⟨M + 1, 0, none⟩), .int .u64 x.client, .int .u64 x.number, .agg #[.int .i64 x.a.err, .string x.a.name, .int .u64 x.a.tok, .int .i64 x.a.val]] w4 _ from keep_yes w4 (M + 1) M L x.client HOK.out.2.1 H4.out.T x.number x.a c0 c1 (by omega) HGT.out HKN.out HS255.out).mono ?_
              rintro e w5 ⟨rfl, hT5, hk5⟩
              have H5 := Lib.hid (H4.out.kept s1 hT5 hk5)
              clear hT5 hk5 m0 m1 m2 m3 m4 m5 m6
              go_wp2_with fail
              go_meet
              have H6 : At20 w w5 M wr.heap.size x (.slice (some ⟨g, 0, none⟩) L.length vc) (aset x.client (x.number, x.a) L) (aset x.client (x.number, x.a) L) := by
                have h6 := H5.out
                rw [aset_at HL.out.nodup HI.out] at h6 ⊢
                exact h6
              have H7 : LOk (aset x.client (x.number, x.a) L) := LOk.put HL.out (c := x.client) (x := (x.number, x.a)) HEN.out (.inl (List.mem_map.2 ⟨_, aget_some_mem HAG.out, rfl⟩))
              exact ⟨_, Lib.hid H7, Lib.hid H6⟩
          · have k0 : (x.kind == 0) = false := by rw [hkd]; rfl
            have k1 : (x.kind == 1) = false := by rw [hkd]; rfl
            have k2 : (x.kind == 2) = true := by rw [hkd]; rfl
            clear hkd
            as_aux_lemma =>
              go_wp2_with fail
              go_quiet (fail)
              go_wp2_with fail
              have p2 : (W1.drewN nq).cell? ⟨wr.heap.size, 2, none⟩ = some (.int .u64 x.number) := n2
              have p3 : (W1.drewN nq).cell? ⟨wr.heap.size, 3, none⟩ = some (.int .i64 x.a.err) := n3
              have p4 : (W1.drewN nq).cell? ⟨wr.heap.size, 4, none⟩ = some (.string x.a.name) := n4
              have p5 : (W1.drewN nq).cell? ⟨wr.heap.size, 5, none⟩ = some (.int .u64 x.a.tok) := n5
              have p6 : (W1.drewN nq).cell? ⟨wr.heap.size, 6, none⟩ = some (.int .i64 x.a.val) := n6
              have z1 : (W1.drewN nq).cell? ⟨g, i * 6 + 1, none⟩ = some (.int .u64 yn) := y1
              have z2 : (W1.drewN nq).cell? ⟨g, i * 6 + 2, none⟩ = some (.int .i64 ye) := y2
              have z3 : (W1.drewN nq).cell? ⟨g, i * 6 + 3, none⟩ = some (.string ynm) := y3
              have z4 : (W1.drewN nq).cell? ⟨g, i * 6 + 4, none⟩ = some (.int .u64 yt) := y4
              have z5 : (W1.drewN nq).cell? ⟨g, i * 6 + 5, none⟩ = some (.int .i64 yv) := y5
              have HG2 : Hid ((W1.drewN nq).heap[g]? = some (.cells C 43 (0, 0))) := HG
              have H2 := Lib.hid (H1.out.drewN nq)
              obtain ⟨W2, hW2⟩ : ∃ W2, W2 = W1.drewN nq := ⟨_, rfl⟩
              rw [← hW2] at p2 p3 p4 p5 p6 z1 z2 z3 z4 z5 HG2 H2 ⊢
              clear hW2 n0 n1 n2 n3 n4 n5 n6 y1 y2 y3 y4 y5
              have hgx : g ≠ wr.heap.size := HGO.out.2
              have fz1 : W2.frozen? ⟨g, i * 6 + 1, none⟩ = false := blk_free HG2.out _
              have fz2 : W2.frozen? ⟨g, i * 6 + 2, none⟩ = false := blk_free HG2.out _
              have fz3 : W2.frozen? ⟨g, i * 6 + 3, none⟩ = false := blk_free HG2.out _
              have fz4 : W2.frozen? ⟨g, i * 6 + 4, none⟩ = false := blk_free HG2.out _
              have fz5 : W2.frozen? ⟨g, i * 6 + 5, none⟩ = false := blk_free HG2.out _
              go_region_held3 (fun w' => w'.cell? ⟨wr.heap.size, 2, none⟩ = some (.int .u64 x.number) ∧ w'.cell? ⟨wr.heap.size, 3, none⟩ = some (.int .i64 x.a.err) ∧ w'.cell? ⟨wr.heap.size, 4, none⟩ = some (.string x.a.name) ∧ w'.cell? ⟨wr.heap.size, 5, none⟩ = some (.int .u64 x.a.tok) ∧ w'.cell? ⟨wr.heap.size, 6, none⟩ = some (.int .i64 x.a.val)) (first | with_reducible exact ⟨p2, p3, p4, p5, p6⟩ | with_reducible exact ⟨(drew_cell p2), (drew_cell p3), (drew_cell p4), (drew_cell p5), (drew_cell p6)⟩ | with_reducible exact ⟨far_cellD hgx p2, far_cellD hgx p3, far_cellD hgx p4, far_cellD hgx p5, far_cellD hgx p6⟩ | with_reducible exact ⟨far_cell hgx p2, far_cell hgx p3, far_cell hgx p4, far_cell hgx p5, far_cell hgx p6⟩ | with_reducible exact ⟨far_cellD hgx (far_cell hgx (far_cell hgx (far_cell hgx (far_cell hgx p2)))), far_cellD hgx (far_cell hgx (far_cell hgx (far_cell hgx (far_cell hgx p3)))), far_cellD hgx (far_cell hgx (far_cell hgx (far_cell hgx (far_cell hgx p4)))), far_cellD hgx (far_cell hgx (far_cell hgx (far_cell hgx (far_cell hgx p5)))), far_cellD hgx (far_cell hgx (far_cell hgx (far_cell hgx (far_cell hgx p6))))⟩ | with_reducible exact ⟨far_cell hgx (far_cell hgx (far_cell hgx (far_cell hgx (far_cell hgx p2)))), far_cell hgx (far_cell hgx (far_cell hgx (far_cell hgx (far_cell hgx p3)))), far_cell hgx (far_cell hgx (far_cell hgx (far_cell hgx (far_cell hgx p4)))), far_cell hgx (far_cell hgx (far_cell hgx (far_cell hgx (far_cell hgx p5)))), far_cell hgx (far_cell hgx (far_cell hgx (far_cell hgx (far_cell hgx p6))))⟩) (fail)
              have H4 := Lib.hid (H2.out.put5 s1 HI.out HG2.out (n := x.number) (a := x.a))
              obtain ⟨w4, hw4⟩ : ∃ w4, w4 = (((((W2.setCell ⟨g, i * 6 + 1, none⟩ (.int .u64 x.number)).setCell ⟨g, i * 6 + 2, none⟩ (.int .i64 x.a.err)).setCell ⟨g, i * 6 + 2 + 1, none⟩ (.string x.a.name)).setCell ⟨g, i * 6 + 2 + 2, none⟩ (.int .u64 x.a.tok)).setCell ⟨g, i * 6 + 2 + 3, none⟩ (.int .i64 x.a.val)).drew := ⟨_, rfl⟩
              rw [← hw4] at H4 ⊢
              clear hw4 p2 p3 p4 p5 p6 z1 z2 z3 z4 z5 HG2 H2 fz1 fz2 fz3 fz4 fz5 hgl
              have m0 : w4.cell? ⟨wr.heap.size, 0, none⟩ = some (.int .i64 x.kind) := blk_cell H4.out.X 0 rfl; have m1 : w4.cell? ⟨wr.heap.size, 1, none⟩ = some (.int .u64 x.client) := blk_cell H4.out.X 1 rfl; have m2 : w4.cell? ⟨wr.heap.size, 2, none⟩ = some (.int .u64 x.number) := blk_cell H4.out.X 2 rfl; have m3 : w4.cell? ⟨wr.heap.size, 3, none⟩ = some (.int .i64 x.a.err) := blk_cell H4.out.X 3 rfl; have m4 : w4.cell? ⟨wr.heap.size, 4, none⟩ = some (.string x.a.name) := blk_cell H4.out.X 4 rfl; have m5 : w4.cell? ⟨wr.heap.size, 5, none⟩ = some (.int .u64 x.a.tok) := blk_cell H4.out.X 5 rfl; have m6 : w4.cell? ⟨wr.heap.size, 6, none⟩ = some (.int .i64 x.a.val) := blk_cell H4.out.X 6 rfl
              go_wp2_with fail
              refine (show Calls Try.prog 12 #[.pointer (some ⟨M + 1, 0, none⟩), .int .u64 x.client, .int .u64 x.number, .agg #[.int .i64 x.a.err, .string x.a.name, .int .u64 x.a.tok, .int .i64 x.a.val]] w4 _ from keep_yes w4 (M + 1) M L x.client HOK.out.2.1 H4.out.T x.number x.a c0 c1 (by omega) HGT.out HKN.out HS255.out).mono ?_
              rintro e w5 ⟨rfl, hT5, hk5⟩
              have H5 := Lib.hid (H4.out.kept s1 hT5 hk5)
              clear hT5 hk5 m0 m1 m2 m3 m4 m5 m6
              go_wp2_with fail
              go_meet
              have H6 : At20 w w5 M wr.heap.size x (.slice (some ⟨g, 0, none⟩) L.length vc) (aset x.client (x.number, x.a) L) (aset x.client (x.number, x.a) L) := by
                have h6 := H5.out
                rw [aset_at HL.out.nodup HI.out] at h6 ⊢
                exact h6
              have H7 : LOk (aset x.client (x.number, x.a) L) := LOk.put HL.out (c := x.client) (x := (x.number, x.a)) HEN.out (.inl (List.mem_map.2 ⟨_, aget_some_mem HAG.out, rfl⟩))
              exact ⟨_, Lib.hid H7, Lib.hid H6⟩
      obtain ⟨L', HL', HA⟩ := hcut
      clear HR HFD hent HERR H1 HX1 n0 n1 n2 n3 n4 n5 n6 hlL
      obtain ⟨va', vc', rfl⟩ : ∃ va vc, u4 = .slice va L'.length vc := by
        rcases HA.out.O.2 with ⟨e1, e2⟩ | ⟨g, c, cur, e1, _⟩
        · exact ⟨none, 0, by rw [e1, e2]⟩
        · exact ⟨_, _, e1⟩
      have hlL' := HL'.out.len
      have m1 : wc.cell? ⟨wr.heap.size, 1, none⟩ = some (.int .u64 x.client) := blk_cell HA.out.X 1 rfl
      have HLS : Hid (∀ z : Int, lastN L' x.client = z → Calls Try.prog 14 #[.pointer (some ⟨M + 1, 0, none⟩), .int .u64 x.client] wc (Ret (.int .u64 z) wc)) := Lib.hid (fun z hz => by
        have h := last_any wc (M + 1) M L' x.client HOK.out.2.1 HA.out.T
        rw [← hz]; exact h)
      have HTL : Hid (Calls Try.prog 8 #[.pointer (some ⟨M + 1, 0, none⟩)] wc (Ret (.int .i64 L'.length) wc)) := Lib.hid (tlen_any wc (M + 1) M L' HA.out.T)
      have HREL : Hid (∃ (k' : Nat) (L : List (Int × (Int × Ans))), Value.int .i64 ((k : Int) + 1) = .int .i64 k' ∧ k' ≤ len ∧ Hid (TableAt wc (M + 1) M L) ∧ Hid (OnesFrom wc (M + 2) (.slice va' L'.length vc') L) ∧ Hid (LOk L) ∧ Hid (Below w.heap.size w wc)) := Lib.hid ⟨k + 1, L', by simp, by omega, Lib.hid HA.out.T, Lib.hid HA.out.O, HL', Lib.hid HA.out.B⟩
      as_aux_lemma =>
        go_wp2_with fail
        refine (find_any wc _ L' HA.out.O.at x.client (by omega)).mono ?_
        rintro e w' ⟨rfl, hf⟩
        rcases hf with ⟨rfl, hn⟩ | ⟨i, y, rfl, hi⟩
        · have HLZ := Lib.hid (HLS.out 0 (by unfold lastN; rw [none_aget hn]; rfl))
          have db : decide ((0 : Int) ≤ -1) = false := by decide
          clear hn
          go_wp2_with fail
          refine HTL.out.mono ?_
          rintro e w' ⟨rfl, rfl⟩
          go_wp2_with fail
          refine HLZ.out.mono ?_
          rintro e w' ⟨rfl, rfl⟩
          go_wp2_with fail
          go_round
          case rel => exact HREL.out
          case measure => simp [intOf]; omega
        · obtain ⟨yn, ya⟩ := y
          have HLZ := Lib.hid (HLS.out yn (by unfold lastN; rw [find_aget HL'.out.nodup hi]; rfl))
          have db : decide ((0 : Int) ≤ (i : Int)) = true := by simp
          have db2 : (0 : Int) ≤ (i : Int) := by omega
          have hiL : i < L'.length := (List.getElem?_eq_some_iff.1 hi).1
          obtain ⟨g, gc, C, hv, hg, hC, hcap, hcm, hCs⟩ := ent_at HA.out.O.at hi
          injection hv with e1 e2 e3
          subst e1 e3
          have y1 : wc.cell? ⟨g, i * 6 + 1, none⟩ = some (.int .u64 yn) := blk_cell hg _ (ent_cell hC (i := 1) (by omega))
          clear hi hg hC hcap hcm hCs
          go_wp2_with fail
          refine HTL.out.mono ?_
          rintro e w' ⟨rfl, rfl⟩
          go_wp2_with fail
          refine HLZ.out.mono ?_
          rintro e w' ⟨rfl, rfl⟩
          go_wp2_with fail
          go_round
          case rel => exact HREL.out
          case measure => simp [intOf]; omega
    · have HOKT := Lib.hid HL.out.tab
      have hlL := HL.out.len
      have HBY0 := Lib.hid (bytes_any wr (M + 1) M L HT.out HOKT.out)
      as_aux_lemma =>
        go_wp2_with fail
        refine HBY0.out.mono ?_
        rintro e w3 ⟨ys, hp, hr, u, rfl, hb3, hs3, ho3, hn3⟩
        have HTL := Lib.hid (table_len HL.out ys (by rw [hp.length_eq]; simpa [keys] using hlL))
        have HOT := Lib.hid (of_table HL.out hp hr)
        have HRB := Lib.hid (fun W (hW : OnesAt W (.slice va L.length vc) L) => refbytes_any W _ L hW HOKT.out (fun p hp => (HL.out.ent p hp).c0) ys hp hr)
        have hyl : ys.length = L.length := by rw [hp.length_eq]; simp [keys]
        obtain ⟨bs, hbs⟩ : ∃ bs, bs = numB ys.length ++ entsB L ys := ⟨_, rfl⟩
        rw [← hbs] at hs3 HTL HOT
        rw [show numB L.length ++ entsB L ys = bs by rw [hbs, hyl]] at HRB
        obtain ⟨a', c', rfl, _⟩ := id hs3
        have HS3 := Lib.hid hs3
        have HO3 := Lib.hid (HO.out.below hb3)
        have HB3 := Lib.hid (HB.out.trans (hb3.mono HB.out.size))
        clear hp hr hb3 hs3 ho3 hn3 hbs hyl HBY0 HT HO HB
        go_wp2_with fail
        refine (of_any w3 a' _ c' bs HS3.out HTL.out).mono ?_
        rintro e w4 ⟨hb4, hcase⟩
        rcases hcase with ⟨h0, _⟩ | ⟨_, h1, _⟩ | ⟨h0, h1, t, m, rfl, hT4, ht1, ht2⟩
        · exact absurd HOT.out.1 h0
        · exact absurd HOT.out.2 h1
        have hob := of_bytes h0 h1
        generalize tabO (getO ⟨bs, 0⟩).1 = l at *
        obtain ⟨hok, hby⟩ := hob
        have HBY := Lib.hid hby
        have HOK := Lib.hid hok
        have HT4 := Lib.hid hT4
        have HS4 := Lib.hid (HS3.out.below hb4 HS3.out.row_lt)
        have HO4 := Lib.hid (HO3.out.below hb4)
        have HB4 := Lib.hid (HB3.out.trans (hb4.mono HB3.out.size))
        clear hby hok hT4 h0 h1 ht1 ht2 hb4 HOT HS3 HO3 HB3
        have hst := sl_string (show Sl u8v w4.drew _ bs from HS4.out) Try.underlying22
        go_wp2_with fail
        refine wp_region_noPanic ?_
        refine wp_region_held_drew (S := (fun w' => (convert 22 9 (.slice a' bs.length c')).run Try.prog w' = .ok (.string ⟨bs.toArray⟩) w')) (by kernel_rfl) hst (fun hHeld => ?_)
        refine wpAnyH_take (i := 0) (oi := ({ dst := some 236, op := _, type := _, pos := _, after := _, guard := _ } : Oper)) (v := ?_) rfl (by kernel_rfl) (by kernel_rfl) (by kernel_rfl) (fun _ _ _ h => h) (Or.inl ⟨by rfl, ?_⟩) (by assumption) ?_
        rotate_left
        · (intro w' hSw; (try dsimp only at hSw); go_simp; try with_reducible rfl)
        simp only [Act.put, List.setIfInBounds_toArray, List.set_cons_zero, List.set_cons_succ]
        refine wpAnyH_take (i := 1) (oi := ({ dst := some 237, op := _, type := _, pos := _, after := _, guard := _ } : Oper)) (v := ?_) rfl (by kernel_rfl) (by kernel_rfl) (by kernel_rfl) (fun _ _ _ h => h) (Or.inl ⟨by rfl, ?_⟩) (by assumption) ?_
        rotate_left
        · (intro w' hSw; (try dsimp only at hSw); go_simp; try with_reducible rfl)
        simp only [Act.put, List.setIfInBounds_toArray, List.set_cons_zero, List.set_cons_succ]
        refine wpAnyH_take (i := 2) (oi := ({ dst := some 238, op := _, type := _, pos := _, after := _, guard := _ } : Oper)) (v := ?_) rfl (by kernel_rfl) (by kernel_rfl) (by kernel_rfl) (fun _ _ _ h => h) (Or.inl ⟨by rfl, ?_⟩) (by assumption) ?_
        rotate_left
        · (intro w' hSw; (try dsimp only at hSw); go_simp; try with_reducible rfl)
        simp only [Act.put, List.setIfInBounds_toArray, List.set_cons_zero, List.set_cons_succ]
        refine wpAnyH_ready (rs := [3]) (by kernel_rfl) (by simp) (AllReadyH.cons (o := ({ dst := some 239, op := _, type := _, pos := _, after := _, guard := _ } : Oper)) rfl (fun K hK => ?_) AllReadyH.nil)
        go_simp
        refine (HRB.out _ HO4.out.drew.at).mono ?_
        rintro e w6 ⟨rfl, hb6⟩
        have HB6 := Lib.hid ((show Below w.heap.size w w4.drew from belowN HB4.out).trans (hb6.mono HB4.out.size))
        have HS6 := Lib.hid ((show Sl u8v w4.drew _ bs from HS4.out).below hb6 HS4.out.row_lt)
        have HO6 := Lib.hid (HO4.out.drew.below hb6)
        have HT6 := Lib.hid (HT4.out.drew.below hb6 (heap_lt HT4.out.box) HT4.out.map.lt)
        have hst6 := sl_string HS6.out Try.underlying22
        clear hb6 hHeld hst
        go_wp2_with fail
        refine hK.out _ _ (hst6) (fun hHeld => ?_)
        clear hK K
        try simp only [Act.put, List.setIfInBounds_toArray, List.set_cons_zero, List.set_cons_succ]
        refine wpAnyH_take (i := 4) (oi := ({ dst := some 240, op := _, type := _, pos := _, after := _, guard := _ } : Oper)) (v := ?_) rfl (by kernel_rfl) (by kernel_rfl) (by kernel_rfl) (fun _ _ _ h => h) (Or.inl ⟨by rfl, ?_⟩) (by assumption) ?_
        rotate_left
        · (intro w' hSw; (try dsimp only at hSw); go_simp; try with_reducible rfl)
        simp only [Act.put, List.setIfInBounds_toArray, List.set_cons_zero, List.set_cons_succ]
        refine wpAnyH_done (by kernel_rfl) ?_ _
        refine NoPanic.normal ?_
        clear hHeld hst6 HS4 HO4 HT4 HB4 HRB
        go_wp2_with fail
        go_loopw [243] (fun jv wx => ∃ j : Nat, jv = .int .i64 j ∧ j ≤ L.length ∧ Hid (Below w.heap.size w wx) ∧ Hid (Sl u8v wx (.slice a' bs.length c') bs) ∧ Hid (TableAt wx t m l) ∧ Hid (OnesFrom wx (M + 2) (.slice va L.length vc) L)) (fun jv _ => L.length - (intOf jv).toNat)
        case atStart => exact ⟨0, rfl, Nat.zero_le _, HB6, HS6, HT6, HO6⟩
        case round =>
          obtain ⟨j, rfl, hj, HB7, HS7, HT7, HO7⟩ := hrel
          clear HB6 HS6 HT6 HO6
          by_cases hlt : j < L.length
          · obtain ⟨p, hp⟩ : ∃ p, L[j]? = some p := ⟨L[j], by simp [hlt]⟩
            obtain ⟨g, gc, C, hv, hg, hC, hcap, hcm, hCs⟩ := ent_at HO7.out.at hp
            injection hv with e1 e2 e3
            subst e1 e3
            have hwf := (HL.out.ent p (List.mem_of_getElem? hp)).a
            have hans := refans_any (wr.alloc (.cells (entC p) 43)) p.2.2 (wf_fit hwf)
            obtain ⟨q, hq⟩ : ∃ q : ByteArray, q = ⟨(ansB p.2.2).toArray⟩ := ⟨_, rfl⟩
            have hqs : q.size ≤ 300 := by rw [hq]; show (ansB p.2.2).toArray.size ≤ 300; rw [List.size_toArray]; exact ansB_len300 hwf
            rw [← hq] at hans
            obtain ⟨pc, pn, pe, pm, pt, pv⟩ := p
            have HAN := Lib.hid hans
            have d0 : decide ((300 : Int) < (q.size : Int)) = false := by simp; omega
            clear hq hp hwf hans
            have hx : (wr.alloc (.cells (entC (pc, pn, ⟨pe, pm, pt, pv⟩)) 43)).heap[wr.heap.size]? = some (.cells (entC (pc, pn, ⟨pe, pm, pt, pv⟩)) 43 (0, 0)) := heap_new _ _
            have x2 : (wr.alloc (.cells (entC (pc, pn, ⟨pe, pm, pt, pv⟩)) 43)).cell? ⟨wr.heap.size, 2, none⟩ = some (.int .i64 pe) := blk_cell hx 2 rfl
            have x3 : (wr.alloc (.cells (entC (pc, pn, ⟨pe, pm, pt, pv⟩)) 43)).cell? ⟨wr.heap.size, 3, none⟩ = some (.string pm) := blk_cell hx 3 rfl
            have x4 : (wr.alloc (.cells (entC (pc, pn, ⟨pe, pm, pt, pv⟩)) 43)).cell? ⟨wr.heap.size, 4, none⟩ = some (.int .u64 pt) := blk_cell hx 4 rfl
            have x5 : (wr.alloc (.cells (entC (pc, pn, ⟨pe, pm, pt, pv⟩)) 43)).cell? ⟨wr.heap.size, 5, none⟩ = some (.int .i64 pv) := blk_cell hx 5 rfl
            go_wp2_with (first | (refine wpList_load_blk _ rfl _ _ rfl _ _ rfl _ _ _ hg (entC (pc, pn, ⟨pe, pm, pt, pv⟩)) hC _ Try.underlying43 rfl info_lone ?_) | (refine wpList_store_fresh _ rfl _ _ _ rfl _ rfl _ rfl _ _ _ rfl ?_ ?_ rfl info_lone ?_ ?_; (focus (simp [entC]; done)); (focus (simp [entC]; done)); (focus (simp [entC, OneCells, Value.oneCell']; done))) | fail)
            obtain ⟨W, hW⟩ : ∃ W, W = wr.alloc (.cells (entC (pc, pn, ⟨pe, pm, pt, pv⟩)) 43) := ⟨_, rfl⟩
            have HB8 : Hid (Below w.heap.size w W) := Lib.hid (by subst hW; exact HB7.out.alloc HB7.out.size _)
            have HS8 : Hid (Sl u8v W (.slice a' bs.length c') bs) := Lib.hid (by subst hW; exact HS7.out.alloc _)
            have HT8 : Hid (TableAt W t m l) := Lib.hid (by subst hW; exact HT7.out.alloc _)
            have HO8 : Hid (OnesFrom W (M + 2) (.slice (some ⟨g, 0, none⟩) L.length vc) L) := Lib.hid (by subst hW; exact HO7.out.alloc _)
            rw [← hW] at HAN ⊢
            clear hW hx hg hC hcap hcm hCs HB7 HS7 HT7 HO7 x2 x3 x4 x5
            refine HAN.out.mono ?_
            rintro e w8 ⟨rfl, hb8⟩
            have HB9 := Lib.hid (HB8.out.trans (hb8.mono HB8.out.size))
            have HS9 := Lib.hid (HS8.out.below hb8 HS8.out.row_lt)
            have HT9 := Lib.hid (HT8.out.below hb8 (heap_lt HT8.out.box) HT8.out.map.lt)
            have HO9 := Lib.hid (HO8.out.below hb8)
            clear hb8 HB8 HS8 HT8 HO8
            go_wp2_with fail
            go_round
            case rel => exact ⟨j + 1, by go_num, by omega, HB9, HS9, HT9, HO9⟩
            case measure => simp [intOf]; omega
          · have hl16 := HOK.out.2.1
            have HBT := Lib.hid (bytes_any wr.drew t m l HT7.out.drew HOK.out)
            have HSD : Hid (Sl u8v wr.drew (.slice a' bs.length c') bs) := Lib.hid (HS7.out)
            have HBD : Hid (Below w.heap.size w wr.drew) := Lib.hid (belowN HB7.out)
            have hst := sl_string HSD.out Try.underlying22
            clear HT7 HS7 HB7 HO7
            go_wp2_with fail
            refine wp_region_noPanic ?_
            refine wp_region_held_drew (S := (fun w' => (convert 22 9 (.slice a' bs.length c')).run Try.prog w' = .ok (.string ⟨bs.toArray⟩) w')) (by kernel_rfl) hst (fun hHeld => ?_)
            refine wpAnyH_take (i := 0) (oi := ({ dst := some 259, op := _, type := _, pos := _, after := _, guard := _ } : Oper)) (v := ?_) rfl (by kernel_rfl) (by kernel_rfl) (by kernel_rfl) (fun _ _ _ h => h) (Or.inl ⟨by rfl, ?_⟩) (by assumption) ?_
            rotate_left
            · (intro w' hSw; (try dsimp only at hSw); go_simp; try with_reducible rfl)
            simp only [Act.put, List.setIfInBounds_toArray, List.set_cons_zero, List.set_cons_succ]
            refine wpAnyH_take (i := 1) (oi := ({ dst := some 260, op := _, type := _, pos := _, after := _, guard := _ } : Oper)) (v := ?_) rfl (by kernel_rfl) (by kernel_rfl) (by kernel_rfl) (fun _ _ _ h => h) (Or.inl ⟨by rfl, ?_⟩) (by assumption) ?_
            rotate_left
            · (intro w' hSw; (try dsimp only at hSw); go_simp; try with_reducible rfl)
            simp only [Act.put, List.setIfInBounds_toArray, List.set_cons_zero, List.set_cons_succ]
            refine wpAnyH_take (i := 2) (oi := ({ dst := some 261, op := _, type := _, pos := _, after := _, guard := _ } : Oper)) (v := ?_) rfl (by kernel_rfl) (by kernel_rfl) (by kernel_rfl) (fun _ _ _ h => h) (Or.inl ⟨by rfl, ?_⟩) (by assumption) ?_
            rotate_left
            · (intro w' hSw; (try dsimp only at hSw); go_simp; try with_reducible rfl)
            simp only [Act.put, List.setIfInBounds_toArray, List.set_cons_zero, List.set_cons_succ]
            refine wpAnyH_take (i := 3) (oi := ({ dst := some 262, op := _, type := _, pos := _, after := _, guard := _ } : Oper)) (v := ?_) rfl (by kernel_rfl) (by kernel_rfl) (by kernel_rfl) (fun _ _ _ h => h) (Or.inl ⟨by rfl, ?_⟩) (by assumption) ?_
            rotate_left
            · (intro w' hSw; (try dsimp only at hSw); go_simp; try with_reducible rfl)
            simp only [Act.put, List.setIfInBounds_toArray, List.set_cons_zero, List.set_cons_succ]
            refine wpAnyH_take (i := 6) (oi := ({ dst := some 265, op := _, type := _, pos := _, after := _, guard := _ } : Oper)) (v := ?_) rfl (by kernel_rfl) (by kernel_rfl) (by kernel_rfl) (fun _ _ _ h => h) (Or.inl ⟨by rfl, ?_⟩) (by assumption) ?_
            rotate_left
            · (intro w' hSw; (try dsimp only at hSw); go_simp; try with_reducible rfl)
            simp only [Act.put, List.setIfInBounds_toArray, List.set_cons_zero, List.set_cons_succ]
            refine wpAnyH_take (i := 7) (oi := ({ dst := some 266, op := _, type := _, pos := _, after := _, guard := _ } : Oper)) (v := ?_) rfl (by kernel_rfl) (by kernel_rfl) (by kernel_rfl) (fun _ _ _ h => h) (Or.inl ⟨by rfl, ?_⟩) (by assumption) ?_
            rotate_left
            · (intro w' hSw; (try dsimp only at hSw); go_simp; try with_reducible rfl)
            simp only [Act.put, List.setIfInBounds_toArray, List.set_cons_zero, List.set_cons_succ]
            refine wpAnyH_ready (rs := [4]) (by kernel_rfl) (by simp) (AllReadyH.cons (o := ({ dst := some 263, op := _, type := _, pos := _, after := _, guard := _ } : Oper)) rfl (fun K hK => ?_) AllReadyH.nil)
            go_simp
            refine HBT.out.mono ?_
            rintro e w6 ⟨ys, hp, hr, u, rfl, hb6, hs6, ho6, hn6⟩
            rw [HBY.out ys hp hr] at hs6
            obtain ⟨a2, c2, rfl, _⟩ := id hs6
            have hs2 := sl_string hs6 Try.underlying22
            have hs3 := sl_string (HSD.out.below hb6 HSD.out.row_lt) Try.underlying22
            have HB7 := Lib.hid (HBD.out.trans (hb6.mono HBD.out.size))
            clear hp hr hb6 hs6 ho6 hn6 hHeld hst
            go_wp2_with fail
            refine hK.out _ _ (hs3) (fun hHeld => ?_)
            clear hK K
            try simp only [Act.put, List.setIfInBounds_toArray, List.set_cons_zero, List.set_cons_succ]
            refine wpAnyH_ready (rs := [5]) (by kernel_rfl) (by simp) (AllReadyH.cons (o := ({ dst := some 264, op := _, type := _, pos := _, after := _, guard := _ } : Oper)) rfl (fun K hK => ?_) AllReadyH.nil)
            go_simp
            refine hK.out _ _ (hs3) (fun hHeld => ?_)
            clear hK K
            try simp only [Act.put, List.setIfInBounds_toArray, List.set_cons_zero, List.set_cons_succ]
            refine wpAnyH_take (i := 8) (oi := ({ dst := some 267, op := _, type := _, pos := _, after := _, guard := _ } : Oper)) (v := ?_) rfl (by kernel_rfl) (by kernel_rfl) (by kernel_rfl) (fun _ _ _ h => h) (Or.inl ⟨by rfl, ?_⟩) (by assumption) ?_
            rotate_left
            · (intro w' hSw; (try dsimp only at hSw); go_simp; try with_reducible rfl)
            simp only [Act.put, List.setIfInBounds_toArray, List.set_cons_zero, List.set_cons_succ]
            refine wpAnyH_take (i := 9) (oi := ({ dst := some 268, op := _, type := _, pos := _, after := _, guard := _ } : Oper)) (v := ?_) rfl (by kernel_rfl) (by kernel_rfl) (by kernel_rfl) (fun _ _ _ h => h) (Or.inl ⟨by rfl, ?_⟩) (by assumption) ?_
            rotate_left
            · (intro w' hSw; (try dsimp only at hSw); go_simp; try with_reducible rfl)
            simp only [Act.put, List.setIfInBounds_toArray, List.set_cons_zero, List.set_cons_succ]
            refine wpAnyH_take (i := 10) (oi := ({ dst := some 2, op := _, type := _, pos := _, after := _, guard := _ } : Oper)) (v := ?_) rfl (by kernel_rfl) (by kernel_rfl) (by kernel_rfl) (fun _ _ _ h => h) (Or.inl ⟨by rfl, ?_⟩) (by assumption) ?_
            rotate_left
            · (intro w' hSw; (try dsimp only at hSw); go_simp; try with_reducible rfl)
            simp only [Act.put, List.setIfInBounds_toArray, List.set_cons_zero, List.set_cons_succ]
            refine wpAnyH_done (by kernel_rfl) ?_ _
            refine NoPanic.normal ?_
            go_wp2_with fail
            go_ret
            exact RetB.mk rfl HB7.out

end Go.Proofs.Ytckmenongeklpaa

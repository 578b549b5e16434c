/- Package image: Parts, bytes cut. -/
import Derived.Test.YtjijekbbjegghaaChunk
import Derived.Test.YtjijekbbjegghaaOwnB
import Derived.Stop.RegionWithIn
import Derived.Maps.AppendAt
namespace Go.Proofs.Ytjijekbbjegghaa
open Go.RowKit Go.ChangeMaps Go.Sort

attribute [local go_sem] Oper.semAt_some
attribute [-go_sem] Builtin.append_

/-- While the parts are gathered: the variable in block o, the parts' own rows. -/
def PartsI (w3 : World) (o : Nat) (bs : List UInt8) (p : List (Nat × Nat)) (A : World) : Prop :=
  ∃ v vs, A.heap[o]? = some (.cells #[v] 24 (0, 0)) ∧ A.ownsRow w3.heap.size 22 1 v p.length vs ∧ vs.length = p.length ∧ Keeps (fun k => k = o) w3 A ∧
    ∀ (j : Nat) (x : Nat × Nat) (u : Value), p[j]? = some x → vs[j]? = some u → Sl u8v A u ((bs.drop x.1).take x.2) ∧ ∀ k, u.ownBlock = some k → w3.heap.size ≤ k ∧ k < A.heap.size ∧ v.ownBlock ≠ some k

theorem PartsI.below {w3 : World} {o : Nat} {bs : List UInt8} {p : List (Nat × Nat)} {A B : World} (h : PartsI w3 o bs p A) (hb : Below A.heap.size A B) : PartsI w3 o bs p B := by
  obtain ⟨v, vs, h1, h2, h3, h4, h5⟩ := h
  exact ⟨v, vs, bheap hb h1 (heap_lt h1), owns_below h2 hb, h3, h4.trans (Keeps.of_belowS hb), fun j x u hj hu => ⟨(h5 j x u hj hu).1.below hb (h5 j x u hj hu).1.row_lt, fun k hk => by
    have := (h5 j x u hj hu).2 k hk
    have := hb.size
    exact ⟨by omega, by omega, (by assumption : _ ∧ _ ∧ _).2.2⟩⟩⟩

theorem keeps_putObj {S : Nat → Prop} {a w : World} (h : Keeps S a w) {l : Nat} (hl : a.heap.size ≤ l) (o : Obj) : Keeps S a (w.putObj l o) :=
  ⟨h.os, h.tape, h.output, by simpa using h.size, fun k hk hn => (World.putObj_heap_other (by omega)).trans (h.block k hk hn)⟩
theorem sl_putObj {α : Type} {enc : α → Value} {A : World} {v : Value} {l : List α} (h : Sl enc A v l) {k : Nat} {o : Obj} (o' : Obj) (ho : A.heap[k]? = some o) (hc : o.isCells = false) : Sl enc (A.putObj k o') v l := by
  obtain ⟨a, cap, he, h1, h2, h3⟩ := h
  refine ⟨a, cap, he, h1, h2, ?_⟩
  rcases h3 with h3 | ⟨b, f, e, hb, hx⟩
  · exact .inl h3
  · refine .inr ⟨b, f, e, by simpa using hb, fun i x hi => ?_⟩
    have h4 := hx i x hi
    by_cases hbk : b = k
    · subst hbk
      exfalso
      unfold World.cell? at h4
      rw [ho] at h4
      cases o <;> simp_all [Obj.isCells]
    · unfold World.cell? at h4 ⊢
      rw [World.putObj_heap_other (by simpa using fun e => hbk e)]
      exact h4
theorem sl_part {α : Type} {enc : α → Value} {A : World} {b f L cap i e : Nat} {l : List α} (h : Sl enc A (.slice (some ⟨b, f, none⟩) L cap) l) (hb : b < A.heap.size) (hie : i + e ≤ L) : Sl enc A (.slice (some ⟨b, f + i, none⟩) e e) ((l.drop i).take e) := by
  obtain ⟨a, cap', he, h1, h2, h3⟩ := h
  injection he with e1 e2 e3
  subst e1 e3
  have hl : ((l.drop i).take e).length = e := by rw [List.length_take, List.length_drop]; omega
  refine ⟨_, e, by rw [hl], by omega, by omega, .inr ⟨b, f + i, rfl, hb, fun j x hj => ?_⟩⟩
  rcases h3 with ⟨h3, _⟩ | ⟨b', f', he', hb', hx⟩
  · cases h3
  · injection he' with he'
    injection he' with g1 g2
    subst g1 g2
    rw [Nat.add_assoc]
    refine hx (i + j) x ?_
    rw [List.getElem?_take] at hj
    split at hj
    · rw [List.getElem?_drop] at hj; exact hj
    · cases hj
theorem chunk_mem {n : Nat} (hn : 1 ≤ n) : ∀ (k i r : Nat) (x : Nat × Nat), x ∈ chunkF n k i r → x.1 + x.2 ≤ i + r ∧ x.2 ≤ n ∧ 1 ≤ x.2
  | 0, i, r, x, h => by simp [chunkF] at h
  | k + 1, i, r, x, h => by
    unfold chunkF at h
    split at h
    · simp at h
    · rename_i hr
      rcases List.mem_cons.1 h with rfl | h
      · simp only; omega
      · by_cases hrn : r ≤ n
        · rw [Nat.sub_eq_zero_of_le hrn, chunkF_nil] at h; cases h
        · have := chunk_mem hn k (i + n) (r - n) x h
          omega

theorem app_keeps {W w1 : World} {bT : Nat} {q q' : Value} {tmp : Obj} (hg : (W.alloc tmp).grownBy w1 q.ownBlock) : Keeps (fun k => k = bT ∨ q.ownBlock = some k) W (w1.setCell ⟨bT, 0, none⟩ q') := by
  have hs := hg.size
  refine ⟨hg.os, hg.tape, hg.output, by simp at hs ⊢; omega, fun k hk hn => ?_⟩
  refine (Below.heap_setCell _ _ _ _ (fun e => hn (.inl e))).trans ((hg.block k (by simp; omega) fun e => hn (.inr e.symm)).trans (Below.heap_alloc W tmp k hk))

theorem parts_next {w3 W w1 w4 : World} {o : Nat} {bs ys : List UInt8} {p : List (Nat × Nat)} {x : Nat × Nat} {va ua : Option Addr} {vc uc g4 cap4 : Nat} {vs : List Value} {tmp : Obj}
    (h1 : W.heap[o]? = some (.cells #[.slice va p.length vc] 24 (0, 0))) (h2 : W.ownsRow w3.heap.size 22 1 (.slice va p.length vc) p.length vs) (h3 : vs.length = p.length) (h4 : Keeps (fun k => k = o) w3 W)
    (h5 : ∀ (j : Nat) (x : Nat × Nat) (u : Value), p[j]? = some x → vs[j]? = some u → Sl u8v W u ((bs.drop x.1).take x.2) ∧ ∀ k, u.ownBlock = some k → w3.heap.size ≤ k ∧ k < W.heap.size ∧ (Value.slice va p.length vc).ownBlock ≠ some k)
    (how : o < w3.heap.size) (hb : Below W.heap.size W w1) (hsu : Sl u8v w1 (.slice ua ys.length uc) ys) (hnew : ∀ k, (Value.slice ua ys.length uc).ownBlock = some k → W.heap.size ≤ k)
    (ho4 : w4.ownsRow w3.heap.size 22 1 (.slice (some ⟨g4, 0, none⟩) (p.length + 1) cap4) (p.length + 1) (vs ++ [.slice ua ys.length uc])) (hg4 : (w1.alloc tmp).grownBy w4 (Value.slice va p.length vc).ownBlock)
    (hob : (Value.slice (some ⟨g4, 0, none⟩) (p.length + 1) cap4).ownBlock = (Value.slice va p.length vc).ownBlock ∨ (Value.slice (some ⟨g4, 0, none⟩) (p.length + 1) cap4).ownBlock = some (w1.alloc tmp).heap.size) (hys : ys = (bs.drop x.1).take x.2) :
    KeepsOthers W (w4.setCell ⟨o, 0, none⟩ (.slice (some ⟨g4, 0, none⟩) (p.length + 1) cap4)) ∧ PartsI w3 o bs (p ++ [x]) (w4.setCell ⟨o, 0, none⟩ (.slice (some ⟨g4, 0, none⟩) (p.length + 1) cap4)) := by
  have hsz := h4.size
  have hb1 := hb.size
  have h21 := owns_below h2 hb
  obtain ⟨d1, d2, d3, d4, d5, d6⟩ := due_app (bheap hb h1 (heap_lt h1)) how (by omega) h21 ho4 hg4
  have hrow : ∀ k, (Value.slice va p.length vc).ownBlock = some k → w3.heap.size ≤ k ∧ k < W.heap.size := fun k hk => by
    rcases h2.2 with ⟨e1, _⟩ | ⟨g, c, cur, e1, e2, e3, _⟩
    · rw [e1] at hk; cases hk
    · rw [e1] at hk
      obtain rfl : g = k := by simpa [Value.ownBlock] using hk
      exact ⟨e2, heap_lt e3⟩
  have hk := app_keeps (bT := o) (q' := .slice (some ⟨g4, 0, none⟩) (p.length + 1) cap4) hg4
  have hg4s := hg4.size
  have hW' : w1.heap.size + 1 ≤ (w4.setCell ⟨o, 0, none⟩ (.slice (some ⟨g4, 0, none⟩) (p.length + 1) cap4)).heap.size := by simp at hg4s ⊢; omega
  have hg4v : (Value.slice va p.length vc).ownBlock = some g4 ∨ g4 = w1.heap.size + 1 := by
    rcases hob with e | e
    · left; rw [← e]; rfl
    · right; simpa [Value.ownBlock] using e
  refine ⟨(⟨hb.size, fun k ob hk _ => (hb.block k (heap_lt hk)).trans hk⟩ : KeepsOthers W w1).trans d5, .slice (some ⟨g4, 0, none⟩) (p.length + 1) cap4, vs ++ [.slice ua ys.length uc], d3, by simpa using d4, by simp [h3], d6 _ w3 rfl rfl (h4.trans (Keeps.of_belowS hb)), ?_⟩
  intro j z u hj hu
  by_cases hlt : j < p.length
  · rw [List.getElem?_append_left hlt] at hj
    rw [List.getElem?_append_left (by omega)] at hu
    obtain ⟨g1, g2⟩ := h5 j z u hj hu
    refine ⟨(g1.below hb g1.row_lt).kept hk fun k hkk => ?_, fun k hkk => ?_⟩
    · have g3 := g2 k hkk
      rintro (e | e)
      · omega
      · exact g3.2.2 e
    · have g3 := g2 k hkk
      refine ⟨g3.1, by omega, ?_⟩
      show some g4 ≠ some k
      intro e
      obtain rfl := Option.some.inj e
      rcases hg4v with e1 | e1
      · exact g3.2.2 e1
      · omega
  · have hjl := (List.getElem?_eq_some_iff.1 hj).1
    simp at hjl
    obtain rfl : j = p.length := by omega
    rw [List.getElem?_append_right (Nat.le_refl _), Nat.sub_self] at hj
    rw [List.getElem?_append_right (by omega), h3, Nat.sub_self] at hu
    simp at hj hu
    subst hj hu
    rw [← hys]
    have hlt1 := hsu.row_lt
    refine ⟨hsu.kept hk fun k hkk => ?_, fun k hkk => ?_⟩
    · have g3 := hnew k hkk
      rintro (e | e)
      · omega
      · have := hrow k e; omega
    · have g3 := hnew k hkk
      have g5 := hlt1 k hkk
      refine ⟨by omega, by omega, ?_⟩
      show some g4 ≠ some k
      intro e
      obtain rfl := Option.some.inj e
      rcases hg4v with e1 | e1
      · have := hrow _ e1; omega
      · omega

theorem chunk_len (n : Nat) : ∀ (k i r : Nat), (chunkF n k i r).length ≤ k
  | 0, i, r => by simp [chunkF]
  | k + 1, i, r => by
    have := chunk_len n k (i + n) (r - n)
    unfold chunkF
    split <;> simp <;> omega
theorem info_u8s : (Try.prog.info? 22).map (fun i => (i.zero, i.size, i.bytes)) = some (some (.slice none 0 0), 1, 24) := by kernel_rfl

def idV (v : Value) : Value := v
/-- What Parts leaves: the parts, each in a row of its own, all new. -/
def PartsR (w w' : World) (v : Value) (xs : List (Nat × Nat)) (bs : List UInt8) : Prop :=
  ∃ vs : List Value, Sl idV w' v vs ∧ vs.length = xs.length ∧ (∀ k, v.ownBlock = some k → w.heap.size ≤ k) ∧
    ∀ (j : Nat) (x : Nat × Nat) (u : Value), xs[j]? = some x → vs[j]? = some u → Sl u8v w' u ((bs.drop x.1).take x.2) ∧ ∀ k, u.ownBlock = some k → w.heap.size ≤ k

set_option maxRecDepth 100000 in
set_option maxHeartbeats 4000000 in
theorem parts_yes (w : World) (b ob L cap n : Nat) (bs : List UInt8) (hs : Sl u8v w (.slice (some ⟨b, ob, none⟩) L cap) bs) (hL : L ≤ 1000000) (hn : 1 ≤ n) (hn2 : n ≤ 9223372036854775807) (hb : b < w.heap.size) :
    Calls Try.prog 5 #[.slice (some ⟨b, ob, none⟩) L cap, .int .i64 n] w (fun e w' => ∃ v, e = .returned (.tuple #[v, .int .i64 0]) ∧ Below w.heap.size w w' ∧ PartsR w w' v (chunkF n L 0 L) bs) := by
  refine (callsIn_wide (n := 5)).1 (callsIn_of_wp_marks Try.func5 rfl trivial ?_ rfl)
  simp only [Try.ntmps5, List.size_toArray, List.length_cons, List.length_nil, Nat.reduceAdd, Nat.reduceSub, Array.replicate_succ, Array.replicate_zero, List.push_toArray, List.append_toArray, List.nil_append, List.cons_append]
  have HS := Lib.hid hs
  have hbnd : L ≤ cap ∧ cap ≤ 9223372036854775807 ∧ bs.length = L := by
    obtain ⟨a', cap', he, h1, h2, _⟩ := hs
    injection he with e1 e2 e3
    unfold maxLen at h2
    omega
  obtain ⟨hLc, hcm, hbl⟩ := hbnd
  have HC := Lib.hid fun W => chunk_any W (some ⟨b, ob, none⟩) L cap n (by omega)
  clear hs
  refine wpIn_wide.2 ?_
  have hn1 : ¬ (n : Int) < 1 := by omega
  have hn11 : (1 : Int) ≤ (n : Int) := by omega
  go_wp2_with fail
  refine (HC.out _).mono ?_
  rintro e w3 ⟨rfl, hw3⟩
  have hsz : w3.heap.size = w.heap.size + 3 := by rw [hw3]; simp
  have h0 : w3.heap[w.heap.size]? = some (.cells #[.slice none 0 0] 24 (0, 0)) := by rw [hw3]; exact aheap (aheap (heap_new _ _) _) _
  have hr : ChunkR (w.heap.size + 1) (w.heap.size + 2) b ob L cap n w3 := by
    rw [hw3]
    exact ⟨aheap (heap_newAt' (by simp)) _, heap_newAt' (by simp)⟩
  have hb3 : Below w.heap.size w w3 := by rw [hw3]; exact (((Below.refl _ _).alloc (Nat.le_refl _) _).alloc (by simp) _).alloc (by simp; omega) _
  simp only [World.size_alloc]
  clear hw3
  have HSL : Hid (Sl u8v w3 (.slice (some ⟨b, ob, none⟩) L cap) bs) := Lib.hid (HS.out.below hb3 HS.out.row_lt)
  go_wp2_with fail
  refine (wpIn_wide (n := 5)).1 ?_
  refine range_seq (n := 5) (enc := partV b ob) (gf := 28) (lb := #[.pointer (some ⟨w.heap.size + 1, 0, none⟩), .pointer (some ⟨w.heap.size + 1 + 1, 0, none⟩)]) rfl (enters_of Try.func28 (by kernel_rfl) rfl) rfl
    (chunk_iter 4 (w.heap.size + 1) (w.heap.size + 1 + 1) b ob L cap n hn hn2 hL hLc hcm)
    (PartsI w3 w.heap.size bs) ?ib ?ir ?io ?h0 ?a1 ?assign ?body ?done
  case assign =>
    intro l z W K hK
    gi_wp2
    exact hK
  case ib => exact fun p A B h hb => h.below hb
  case ir =>
    rintro p A ⟨v, vs, h1, h2, h3, h4, h5⟩
    exact ⟨h4.heap (by omega) hr.1, h4.heap (by omega) hr.2⟩
  case io =>
    rintro p A l o o' ⟨v, vs, h1, h2, h3, h4, h5⟩ hl ho hc
    exact ⟨v, vs, (World.putObj_heap_other (by omega)).trans h1, ownsRow_putObj h2 o' ho hc, h3, keeps_putObj h4 hl o', fun j x u hj hu => ⟨sl_putObj (h5 j x u hj hu).1 o' ho hc, fun k hk => by simpa using (h5 j x u hj hu).2 k hk⟩⟩
  case h0 =>
    exact ⟨.slice none 0 0, [], h0, World.ownsRow_nil _ _ _ _, rfl, Keeps.refl _ _, fun j x u hj => by simp at hj⟩
  case body =>
    rintro l p x q W hpx hsW ⟨v, vs, h1, h2, h3, h4, h5⟩
    obtain ⟨va, vc, rfl⟩ : ∃ va vc, v = .slice va p.length vc := by
      rcases h2.2 with ⟨e1, e2⟩ | ⟨g, c, cur, e1, _⟩
      · exact ⟨none, 0, by rw [e1, e2]⟩
      · exact ⟨_, _, e1⟩
    have hxb := chunk_mem hn L 0 L x (by rw [← hpx]; simp)
    have hbw : b < W.heap.size := by omega
    have hs0 : Sl u8v W (.slice (some ⟨b, ob, none⟩) L cap) bs := HSL.out.kept h4 fun k hk e => by have := HS.out.row_lt k hk; omega
    have hsl := sl_part hs0 hbw (i := x.1) (e := x.2) (by omega)
    have hcl := fun W' (hb' : Below W.heap.size W W') => clone_any W' (some ⟨b, ob + x.1, none⟩) x.2 x.2 _ (hsl.below hb' hsl.row_lt) (by rw [List.length_take]; omega)
    have HCL := Lib.hid hcl
    have c0 : W.cell? ⟨w.heap.size, 0, none⟩ = some (.slice va p.length vc) := blk_cell h1 0 rfl
    have H1 := Lib.hid h1
    have H2 := Lib.hid h2
    have H3 := Lib.hid h3
    have H4 := Lib.hid h4
    have H5 := Lib.hid h5
    clear hs0 hsl hcl h1 h2 h3 h4 h5 hr h0 hxb
    unfold partV
    gi_wp2
    obtain ⟨i0, hi, hz0, hz1, hz2⟩ := info_parts info_u8s
    obtain ⟨ys, hys⟩ : ∃ ys, ys = (bs.drop x.1).take x.2 := ⟨_, rfl⟩
    rw [← hys] at HCL
    have HYS := Lib.hid hys
    clear hys
    have HCD : Hid (Calls Try.prog 11 #[.slice (some ⟨b, ob + x.1, none⟩) x.2 x.2] W.drew (Cloned W.drew ys)) := Lib.hid (HCL.out W.drew ⟨rfl, rfl, rfl, Nat.le_refl _, fun _ _ => rfl⟩)
    have hpl := chunk_len n L 0 L
    rw [← hpx] at hpl
    simp only [List.length_append, List.length_cons] at hpl
    have HL1 : Hid (p.length + 1 ≤ maxLen) := Lib.hid (by unfold maxLen; omega)
    have HL2 : Hid ((p.length + 1) * 24 ≤ 140737488355328) := Lib.hid (by omega)
    have HOW : Hid (w.heap.size < w3.heap.size) := Lib.hid (by omega)
    gi_region_with (first | (refine ⟨trivial, ?_⟩; refine (CallsIn.inRound l (callsIn_wide.2 HCD.out)).mono ?_; rintro en w1 ⟨u, rfl, hb1, hsu, _, hnew⟩; have HSU := Lib.hid hsu; have HNEW := Lib.hid hnew; obtain ⟨ua, uc, hue, _⟩ := id hsu; subst hue; have HB1 : Hid (Below W.heap.size W w1) := Lib.hid ⟨hb1.os, hb1.tape, hb1.output, hb1.size, hb1.block⟩; have G1 := Lib.hid (bheap HB1.out H1.out (heap_lt H1.out)); have c1 : w1.cell? ⟨w.heap.size, 0, none⟩ = some (.slice va p.length vc) := blk_cell G1.out 0 rfl; have c1b : (w1.alloc (.cells #[.slice ua ys.length uc] 22)).cell? ⟨w.heap.size, 0, none⟩ = some (.slice va p.length vc) := blk_cell (aheap G1.out _) 0 rfl; have G2 := Lib.hid (owns_below H2.out HB1.out); obtain ⟨v2, w4, hrun, hown4, hg4, _, hob⟩ := run_append_own_at (P := Try.prog) (w := w1.alloc (.cells #[.slice ua ys.length uc] 22)) w3.heap.size 24 24 22 i0 (.slice none 0 0) 1 24 Try.underlying24 hi hz0 hz1 hz2 rfl (by decide) (.slice va p.length vc) p.length vs (G2.out.alloc _) ⟨w1.heap.size, 0, none⟩ 1 1 [.slice ua ys.length uc] rfl (cell_one_new _ _ _) (by simp [Value.oneCell']) HL1.out HL2.out (by have h1 := HB1.out.size; simp; omega); have HO4 := Lib.hid hown4; have HG4 := Lib.hid hg4; have HOB := Lib.hid hob; obtain ⟨g4, cap4, rfl⟩ := ownsRow_succ hown4; have HDA := Lib.hid (due_app G1.out HOW.out (by have h1 := HB1.out.size; omega) G2.out HO4.out HG4.out); have c4 : w4.cell? ⟨w.heap.size, 0, none⟩ = some (.slice va p.length vc) := blk_cell HDA.out.1 0 rfl; have f4 : w4.frozen? ⟨w.heap.size, 0, none⟩ = false := blk_free HDA.out.1 0; clear hown4 hg4 hob hsu hnew hb1))
    all_goals
      have hpn := parts_next H1.out H2.out H3.out H4.out H5.out HOW.out HB1.out HSU.out HNEW.out HO4.out HG4.out HOB.out HYS.out
      exact ⟨rfl, hpn.1, hpn.2⟩
  case done =>
    rintro D W hD ⟨v, vs, h1, h2, h3, h4, h5⟩ hDef
    have hsl : Sl idV W v vs := by
      have := owns_sl (enc := idV) (l := vs) (w := W) (e := 22) (v := v) (by
        rw [h3]
        have := owns_mono h2 (Nat.zero_le _)
        rw [show vs.map idV = vs from (List.map_id vs)]
        exact this)
      exact this
    obtain ⟨va, vc, rfl, hrest⟩ := id hsl
    have c0 : W.cell? ⟨w.heap.size, 0, none⟩ = some (.slice va vs.length vc) := blk_cell h1 0 rfl
    have HDF := Lib.hid hDef
    have HB0 : Hid (Below w.heap.size w W) := Lib.hid ((Keeps.of_below hb3).trans (h4.mono fun j _ hj => by show w.heap.size ≤ j; omega) |>.below (Nat.le_refl _) fun j hj => hj)
    have HR : Hid (PartsR w (W.putObj D (.deferred none)) (.slice va vs.length vc) (chunkF n L 0 L) bs) := Lib.hid
      ⟨vs, sl_putObj hsl _ hDef rfl, h3, fun k hk => by
        rcases h2.2 with ⟨e1, _⟩ | ⟨g, c, cur, e1, e2, e3, _⟩
        · rw [e1] at hk; cases hk
        · rw [e1] at hk
          obtain rfl : g = k := by simpa [Value.ownBlock] using hk
          omega, fun j x u hj hu => ⟨sl_putObj (h5 j x u hj hu).1 _ hDef rfl, fun k hk => by have := (h5 j x u hj hu).2 k hk; omega⟩⟩
    have HB1 := Lib.hid (below_putObj HB0.out (l := D) (by omega) (.deferred none))
    clear h1 h2 h3 h4 h5 hsl hrest hDef hD
    go_wp2
    refine ⟨by simp, .inl ⟨_, _, rfl, run_takeDeferred HDF.out, ?_⟩⟩
    refine ⟨.tuple #[.slice va vs.length vc, .int .i64 0], by simp [results, Try.results5, go_sem], _, rfl, HB1.out, HR.out⟩

end Go.Proofs.Ytjijekbbjegghaa

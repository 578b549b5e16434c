/- raft, any node: New, of any state that may be. -/
import Derived.Test.YtdjooojpcepleaaGreatRsM32

namespace Go.Proofs.YtdjooojpcepleaaGreat
open Go.RowKit Go.Sort
def NewR (w : World) (M : Nat → Prop) (id el be : Int) (mem0 : List Int) (term vote ix tm : Int) (mem : List Int) (l : List Ent) (e : Ending) (w' : World) : Prop :=
 ∃ (p : Nat) (F : Nat → Prop) (x : NodeS), e = .returned (.tuple #[.pointer (some ⟨p, 0, none⟩), .int .i64 0]) ∧ Below w.heap.size w w' ∧ NodeAt w' (fun k => M k ∨ F k) F p x ∧ (∀ k, F k → w.heap.size ≤ k) ∧
  x.id = id ∧ x.el = el ∧ x.be = be ∧ x.term = term ∧ x.vote = vote ∧ x.role = 0 ∧ x.ix = ix ∧ x.tm = tm ∧ x.es.map Ent.pl = l.map Ent.pl ∧ x.mem = (if mem = [] then mem0 else mem) ∧ x.commit = ix ∧ x.pl = none ∧ x.tr = none ∧ x.out = []
theorem pl_last {l k : List Ent} (h : l.map Ent.pl = k.map Ent.pl) (t : Int) : lT t l = lT t k := by
 unfold lT
 have h1 := congrArg List.getLast? h
 rw [List.getLast?_map, List.getLast?_map] at h1
 cases hl : l.getLast? with
 | none => rw [hl] at h1; cases hk : k.getLast? with
  | none => rfl
  | some b => rw [hk] at h1; cases h1
 | some a => rw [hl] at h1; cases hk : k.getLast? with
  | none => rw [hk] at h1; cases h1
  | some b =>
   rw [hk] at h1
   simp only [Option.map_some, Option.some.injEq, Ent.pl, Prod.mk.injEq] at h1
   exact h1.2.1
set_option maxRecDepth 100000 in
set_option maxHeartbeats 6400000 in
theorem new_node (w : World) (M : Nat → Prop) (hM : ∀ k, M k → k < w.heap.size) (id el be : Int) (ca : Option Addr) (cc : Nat) (mem0 : List Int) (hs : Sl intv w (.slice ca mem0.length cc) mem0) (hm0 : mB mem0 = true) (i1 : 1 ≤ id) (i7 : id ≤ 7) (e1 : 1 ≤ el) (e2 : el ≤ 1000) (b1 : 1 ≤ be) (b2 : be ≤ el)
  (term vote ix tm : Int) (ia : Option Addr) (ic : Nat) (mem : List Int) (him : Sl intv w (.slice ia mem.length ic) mem) (hmb : mem = [] ∨ mB mem = true) (da : Option Addr) (dc : Nat) (d : List UInt8) (hd : Sl u8v w (.slice da d.length dc) d) (hdl : d.length ≤ 1000)
  (va : Option Addr) (vc : Nat) (l : List Ent) (hl : RowE w (fun _ => False) (.slice va l.length vc) l) (hf : FolOk ix tm l) (ix0 : 0 ≤ ix) (ix1 : ix ≤ 1000) (tm0 : 0 ≤ tm) (tm1 : tm ≤ 2000) (hll : l.length ≤ 1024) (v0 : 0 ≤ vote) (v7 : vote ≤ 7) (hlt : lT tm l ≤ term) (hte : term ≤ 2000) :
  Calls Tryz.prog 22 #[.agg #[.int .i64 id, .slice ca mem0.length cc, .int .i64 el, .int .i64 be], .agg #[.int .u64 term, .int .i64 vote, .int .u64 ix, .int .u64 tm, .slice ia mem.length ic, .slice da d.length dc, .slice va l.length vc]] w (NewR w M id el be mem0 term vote ix tm mem l) := by
 have HM := hI hM
 have HS := hI hs
 have HIM := hI him
 have HD := hI hd
 have HE := hI hl
 have HF := hI hf
 have HM0 := hI hm0
 have HMB := hI hmb
 have HLT := hI hlt
 have hml0 := (mL hm0).2.1
 have hml : mem.length ≤ 7 := by
  rcases hmb with rfl | h
  ·simp
  ·exact (mL h).2.1
 obtain ⟨W, hW⟩ : ∃ W, W = (w.alloc (.cells #[.int .i64 id, .slice ca mem0.length cc, .int .i64 el, .int .i64 be] 64)).alloc (.cells #[.int .u64 term, .int .i64 vote, .int .u64 ix, .int .u64 tm, .slice ia mem.length ic, .slice da d.length dc, .slice va l.length vc] 43) := ⟨_, rfl⟩
 have hx : W.heap[w.heap.size]? = some (.cells #[.int .i64 id, .slice ca mem0.length cc, .int .i64 el, .int .i64 be] 64 (0, 0)) := by rw [hW]; exact aheap (bW _ _) _
 have hy : W.heap[w.heap.size + 1]? = some (.cells #[.int .u64 term, .int .i64 vote, .int .u64 ix, .int .u64 tm, .slice ia mem.length ic, .slice da d.length dc, .slice va l.length vc] 43 (0, 0)) := by
  rw [hW]
  have : (w.alloc (.cells #[.int .i64 id, .slice ca mem0.length cc, .int .i64 el, .int .i64 be] 64)).heap.size = w.heap.size + 1 := by simp
  rw [← this]
  exact bW _ _
 have HB : Hid (Below w.heap.size w W) := hI (by rw [hW]; exact (bR.alloc nL _).alloc (by simp) _)
 have HX := hI hx
 have HY := hI hy
 clear hx hy hs him hd hl hf hm0 hmb hlt hM
 have q1 : decide (el < 1) = false := by simp; omega
 have q2 : decide (1000 < el) = false := by simp; omega
 have q3 : decide (be < 1) = false := by simp; omega
 have q4 : decide (el < be) = false := by simp; omega
 go_enter Tryz.func22, Tryz.ntmps22
 go_wp2_with fail
 rw [← hW]
 clear hW
 refine (rnode_yes W id i1 i7).mono ?_
 rintro en w' ⟨rfl, rfl⟩
 have x1 : W.cell? ⟨w.heap.size, 1, none⟩ = some (.slice ca mem0.length cc) := bC HX.out 1 rfl
 have hr := right_any W ca mem0.length cc mem0 (HS.out.below HB.out HS.out.row_lt)
 rw [HM0.out] at hr
 have HR := hI hr
 clear hr
 go_wp2_with fail
 refine HR.out.mono ?_
 rintro en w2 ⟨rfl, hb2⟩
 have HX2 := hI (bH hb2 HX.out (heap_lt HX.out))
 have HY2 := hI (bH hb2 HY.out (heap_lt HY.out))
 have HB2 := hI (HB.out.trans (hb2.mono HB.out.size))
 have k0 : w2.cell? ⟨w.heap.size, 0, none⟩ = some (.int .i64 id) := bC HX2.out 0 rfl
 have k1 : w2.cell? ⟨w.heap.size, 1, none⟩ = some (.slice ca mem0.length cc) := bC HX2.out 1 rfl
 have k2 : w2.cell? ⟨w.heap.size, 2, none⟩ = some (.int .i64 el) := bC HX2.out 2 rfl
 have k3 : w2.cell? ⟨w.heap.size, 3, none⟩ = some (.int .i64 be) := bC HX2.out 3 rfl
 have HCM := hI (clone_anyI w2 ca mem0.length cc mem0 (HS.out.below HB2.out HS.out.row_lt) (by omega))
 clear hb2 HR x1
 go_wp2_with fail
 refine HCM.out.mono ?_
 rintro en w3 ⟨v, rfl, hb3, hs3, ho3, hn3⟩
 obtain ⟨ka, kc, rfl, _⟩ := _root_.id hs3
 have hx3 := bH hb3 HX2.out (heap_lt HX2.out)
 have hy3 := bH hb3 HY2.out (heap_lt HY2.out)
 have k1' : w3.cell? ⟨w.heap.size, 1, none⟩ = some (.slice ca mem0.length cc) := bC hx3 1 rfl
 have f1 := bF hx3 1
 have hz3 := HB2.out.size
 have hne : ∀ k, (Value.slice ka mem0.length kc).ownBlock = some k → w.heap.size + 2 ≤ k := fun k hk => by
  have := hn3 k hk
  have := heap_lt HY2.out
  omega
 have HNE := hI hne
 obtain ⟨W4, hW4⟩ : ∃ W4, W4 = w3.setCell ⟨w.heap.size, 1, none⟩ (.slice ka mem0.length kc) := ⟨_, rfl⟩
 have HX4 : Hid (W4.heap[w.heap.size]? = some (.cells #[.int .i64 id, .slice ka mem0.length kc, .int .i64 el, .int .i64 be] 64 (0, 0))) := hI (by rw [hW4]; exact blk_set hx3 1 _)
 have HY4 : Hid (W4.heap[w.heap.size + 1]? = some (.cells #[.int .u64 term, .int .i64 vote, .int .u64 ix, .int .u64 tm, .slice ia mem.length ic, .slice da d.length dc, .slice va l.length vc] 43 (0, 0))) := hI (by rw [hW4]; exact bO hy3 (by simp) _)
 have HS4 : Hid (Sl intv W4 (.slice ka mem0.length kc) mem0) := hI (by rw [hW4]; exact hs3.setCell (fun e => by have : w.heap.size + 2 ≤ w.heap.size := hne _ e; omega) _)
 have HB4 : Hid (Below w.heap.size w W4) := hI (by rw [hW4]; exact (HB2.out.trans (hb3.mono hz3)).setCell (by simp) _)
 have HC4 : Hid (∀ W', Below W4.heap.size W4 W' → W'.cell? ⟨w.heap.size, 0, none⟩ = some (.int .i64 id) ∧ W'.cell? ⟨w.heap.size, 1, none⟩ = some (.slice ka mem0.length kc) ∧ W'.cell? ⟨w.heap.size, 2, none⟩ = some (.int .i64 el) ∧ W'.cell? ⟨w.heap.size, 3, none⟩ = some (.int .i64 be) ∧ W'.cell? ⟨w.heap.size + 1, 0, none⟩ = some (.int .u64 term) ∧ W'.cell? ⟨w.heap.size + 1, 1, none⟩ = some (.int .i64 vote) ∧ W'.cell? ⟨w.heap.size + 1, 2, none⟩ = some (.int .u64 ix) ∧ W'.cell? ⟨w.heap.size + 1, 3, none⟩ = some (.int .u64 tm) ∧ W'.cell? ⟨w.heap.size + 1, 4, none⟩ = some (.slice ia mem.length ic) ∧ W'.cell? ⟨w.heap.size + 1, 5, none⟩ = some (.slice da d.length dc)) := hI (fun W' hb' => by
   have h1 := bH hb' HX4.out (heap_lt HX4.out)
   have h2 := bH hb' HY4.out (heap_lt HY4.out)
   exact ⟨bC h1 0 rfl, bC h1 1 rfl, bC h1 2 rfl, bC h1 3 rfl, bC h2 0 rfl, bC h2 1 rfl, bC h2 2 rfl, bC h2 3 rfl, bC h2 4 rfl, bC h2 5 rfl⟩)
 clear hb3 hs3 ho3 hn3 hx3 hy3 hne k0 k1 k2 k3 hz3 HCM
 go_wp2_with fail
 rw [← hW4]
 clear hW4 k1' f1
 have hB0 : Below W4.heap.size W4 W4.drew := bD bR
 have hS0 := HC4.out _ hB0
 have HCL := hI (clone_img W4.drew ix tm ia ic mem (HIM.out.below (bD HB4.out) HIM.out.row_lt) (by omega) da dc d (HD.out.below (bD HB4.out) HD.out.row_lt) (by omega))
 go_region_held3 (fun w' => w'.cell? ⟨w.heap.size, 0, none⟩ = some (.int .i64 id) ∧ w'.cell? ⟨w.heap.size, 1, none⟩ = some (.slice ka mem0.length kc) ∧ w'.cell? ⟨w.heap.size, 2, none⟩ = some (.int .i64 el) ∧ w'.cell? ⟨w.heap.size, 3, none⟩ = some (.int .i64 be) ∧ w'.cell? ⟨w.heap.size + 1, 0, none⟩ = some (.int .u64 term) ∧ w'.cell? ⟨w.heap.size + 1, 1, none⟩ = some (.int .i64 vote) ∧ w'.cell? ⟨w.heap.size + 1, 2, none⟩ = some (.int .u64 ix) ∧ w'.cell? ⟨w.heap.size + 1, 3, none⟩ = some (.int .u64 tm) ∧ w'.cell? ⟨w.heap.size + 1, 4, none⟩ = some (.slice ia mem.length ic) ∧ w'.cell? ⟨w.heap.size + 1, 5, none⟩ = some (.slice da d.length dc)) (first | exact hS0 | exact hS5 | exact hS6 | exact HC4.out _ (hB6.alloc hB6.size _))
  (first
    | (go_at_call 28; refine HCL.out.mono ?_; rintro en w5 ⟨ja, jc, ua, uc, rfl, hb5, hsm5, hsd5, hnm5, hnd5⟩; have hB5 := hB0.trans (hb5.mono hB0.size); have hS5 := HC4.out _ hB5)
    | (go_at_call 48; refine (newlog_any _ ix tm).mono ?_; rintro en w6 ⟨rfl, hl6, hb6⟩; have hB6 := hB5.trans (hb6.mono hB5.size); have hS6 := HC4.out _ hB6))
 obtain ⟨lg, hlg⟩ : ∃ lg, lg = w5.heap.size := ⟨_, rfl⟩
 rw [← hlg]
 rw [← hlg] at hl6
 obtain ⟨p, hp⟩ : ∃ p, p = w6.heap.size := ⟨_, rfl⟩
 obtain ⟨W7, hW7⟩ : ∃ W7, W7 = w6.alloc (.cells #[.int .i64 id, .slice ka mem0.length kc, .int .i64 el, .int .i64 be, .int .u64 term, .int .i64 vote, .int .i64 0, .int .i64 0, .int .i64 0, .pointer (some ⟨lg, 0, none⟩), .int .u64 ix, .int .u64 tm, .slice ja mem.length jc, .slice ua d.length uc, .int .u64 ix, .pointer none, .pointer none, .slice none 0 0, .bool false, .bool false, .int .u64 0] 74) := ⟨_, rfl⟩
 rw [← hW7]
 rw [← hp]
 have hB7 : Below W4.heap.size W4 W7 := by rw [hW7]; exact hB6.alloc hB6.size _
 have HN7 : Hid (W7.heap[p]? = some (.cells #[.int .i64 id, .slice ka mem0.length kc, .int .i64 el, .int .i64 be, .int .u64 term, .int .i64 vote, .int .i64 0, .int .i64 0, .int .i64 0, .pointer (some ⟨lg, 0, none⟩), .int .u64 ix, .int .u64 tm, .slice ja mem.length jc, .slice ua d.length uc, .int .u64 ix, .pointer none, .pointer none, .slice none 0 0, .bool false, .bool false, .int .u64 0] 74 (0, 0))) := hI (by rw [hW7, hp]; exact bW _ _)
 have hb57 : Below w5.heap.size w5 W7 := by rw [hW7]; exact (hb6.alloc hb6.size _)
 have HL7 : Hid (LogAt W7 lg none ix tm []) := hI (by rw [hW7]; exact hl6.below (bR.alloc nL _))
 have HLP : Hid (W4.heap.size ≤ lg ∧ lg < p) := hI ⟨by rw [hlg]; exact hB5.size, by rw [hp]; exact hl6.lt⟩
 have HX7 := hI (bH hB7 HX4.out (heap_lt HX4.out))
 have HY7 := hI (bH hB7 HY4.out (heap_lt HY4.out))
 have HS7 := hI (HS4.out.below hB7 HS4.out.row_lt)
 have HB7 := hI (HB4.out.trans (hB7.mono HB4.out.size))
 have HSM7 := hI (hsm5.below hb57 hsm5.row_lt)
 have HSD7 := hI (hsd5.below hb57 hsd5.row_lt)
 have hl5 : W4.heap.size ≤ w5.heap.size := hB5.size
 have HNM : Hid (∀ k, (Value.slice ja mem.length jc).ownBlock = some k → W4.heap.size ≤ k ∧ k < lg) := hI fun k hk => ⟨hnm5 k hk, by rw [hlg]; exact hsm5.row_lt k hk⟩
 have HND : Hid (∀ k, (Value.slice ua d.length uc).ownBlock = some k → W4.heap.size ≤ k ∧ k < lg) := hI fun k hk => ⟨hnd5 k hk, by rw [hlg]; exact hsd5.row_lt k hk⟩
 have HSR := hI HS4.out.row_lt
 have hwz : w.heap.size + 1 < W4.heap.size := heap_lt HY4.out
 have HWZ := hI hwz
 have k1 : W7.cell? ⟨w.heap.size, 1, none⟩ = some (.slice ka mem0.length kc) := bC HX7.out 1 rfl
 clear hW7 hB0 hS0 hB5 hS5 hB6 hS6 hl6 hb5 hb6 hB7 hb57 hl5 hlg hp hsm5 hsd5 hnm5 hnd5 hwz HCL
 by_cases hme : mem = []
 ·subst hme
  have HCI := hI (clone_anyI W7 ka mem0.length kc mem0 HS7.out (by omega))
  have n12 : W7.cell? ⟨p, 12, none⟩ = some (.slice ja 0 jc) := bC HN7.out 12 rfl
  go_wp2_with fail
  refine HCI.out.mono ?_
  rintro en w8 ⟨v, rfl, hb8, hs8, ho8, hn8⟩
  obtain ⟨na, nc, rfl, _⟩ := _root_.id hs8
  have hbn8 := bH hb8 HN7.out (heap_lt HN7.out)
  have hby8 := bH hb8 HY7.out (heap_lt HY7.out)
  have m12 : w8.cell? ⟨p, 12, none⟩ = some (.slice ja 0 jc) := bC hbn8 12 rfl
  have f12 := bF hbn8 12
  have hp7 : p < W7.heap.size := heap_lt HN7.out
  obtain ⟨W9, hW9⟩ : ∃ W9, W9 = w8.setCell ⟨p, 12, none⟩ (.slice na mem0.length nc) := ⟨_, rfl⟩
  have hk9 : Keeps (fun k => k = p) w8 W9 := by rw [hW9]; exact (Keeps.refl (fun k => k = p) w8).setCell (p := ⟨p, 12, none⟩) (.inl rfl) _
  obtain ⟨L, hL⟩ : ∃ L, L = mem0 := ⟨_, rfl⟩
  have hlp := HLP.out
  have hwz := HWZ.out
  have hwz0 := HB4.out.size
  have hb8z := hb8.size
  have hrow8 := hs8.row_lt
  have HN9 : Hid (W9.heap[p]? = some (.cells #[.int .i64 id, .slice ka mem0.length kc, .int .i64 el, .int .i64 be, .int .u64 term, .int .i64 vote, .int .i64 0, .int .i64 0, .int .i64 0, .pointer (some ⟨lg, 0, none⟩), .int .u64 ix, .int .u64 tm, .slice na L.length nc, .slice ua d.length uc, .int .u64 ix, .pointer none, .pointer none, .slice none 0 0, .bool false, .bool false, .int .u64 0] 74 (0, 0))) := hI (by rw [hW9, hL]; exact blk_set hbn8 12 _)
  have HY9 := hI (hk9.heap (show ¬ w.heap.size + 1 = p by omega) hby8)
  have HLG9 : Hid (LogAt W9 lg none ix tm []) := hI ((HL7.out.below hb8).kept hk9 (by omega) (fun k hk => by cases hk) (fun e he => by cases he))
  have HB9 : Hid (Below w.heap.size w W9) := hI ((HB7.out.trans (hb8.mono HB7.out.size)).trans (hk9.below (by have := HB7.out.size; omega) fun k hk => by omega))
  have HNL : Hid (∀ k, (Value.slice na L.length nc).ownBlock = some k → W4.heap.size ≤ k ∧ k < W9.heap.size ∧ k ≠ lg ∧ k ≠ p) := hI fun k hk => by
   rw [hL] at hk
   have h1 := hn8 k hk
   have h2 := hrow8 k hk
   have h3 := hk9.size
   omega
  have HSL9 : Hid (Sl intv W9 (.slice na L.length nc) L) := hI (by rw [hL]; exact hs8.kept hk9 fun k hk e => by have := hn8 k hk; omega)
  have HSD9 : Hid (Sl u8v W9 (.slice ua d.length uc) d) := hI ((HSD7.out.below hb8 HSD7.out.row_lt).kept hk9 fun k hk e => by have := HND.out k hk; omega)
  have HML : Hid (mB L = true) := hI (by rw [hL]; exact HM0.out)
  have HLQ : Hid (L = if ([] : List Int) = [] then mem0 else []) := hI (by rw [if_pos rfl, hL])
  clear hb8 hs8 ho8 hn8 hk9 hbn8 hby8 hL hlp hwz hwz0 hb8z hrow8 k1 n12 HCI
  go_wp2_with fail
  rw [← hW9]
  clear hW9 m12 f12 hp7
  have n9 : W9.cell? ⟨p, 9, none⟩ = some (.pointer (some ⟨lg, 0, none⟩)) := bC HN9.out 9 rfl
  have s2 : W9.cell? ⟨w.heap.size + 1, 2, none⟩ = some (.int .u64 ix) := bC HY9.out 2 rfl
  have s3 : W9.cell? ⟨w.heap.size + 1, 3, none⟩ = some (.int .u64 tm) := bC HY9.out 3 rfl
  have s6 : W9.cell? ⟨w.heap.size + 1, 6, none⟩ = some (.slice va l.length vc) := bC HY9.out 6 rfl
  have hre : RowE W9.drew (fun k => k = lg) (.slice va l.length vc) l := by
   refine HE.out.mv ⟨Keeps.of_belowS (S := fun _ => False) (bD HB9.out), fun k hk => .inr ?_⟩
   have := HLP.out.1; have := HWZ.out
   rw [hk]; omega
  have HPUT := hI (put_fresh W9.drew lg ix tm (HLG9.out.below (bD bR)) ix0 (by omega) ⟨tm0, by omega⟩ (fun k => k = lg) rfl va vc l hre HF.out hll)
  clear hre
  go_region_held3 (fun w' => w'.cell? ⟨p, 9, none⟩ = some (.pointer (some ⟨lg, 0, none⟩)) ∧ w'.cell? ⟨w.heap.size + 1, 2, none⟩ = some (.int .u64 ix) ∧ w'.cell? ⟨w.heap.size + 1, 3, none⟩ = some (.int .u64 tm) ∧ w'.cell? ⟨w.heap.size + 1, 6, none⟩ = some (.slice va l.length vc)) (first | exact ⟨n9, s2, s3, s6⟩ | exact ⟨m9, r2, r3, r6⟩)
   (first
     | (go_at_call 49; refine HPUT.out.mono ?_; rintro en w10 ⟨ch, r', es', rfl, hlog, hpl, hrn, hen, hkp⟩; have HK10 := hI hkp; have HLG10 := hI hlog; have HPL := hI hpl; have HRN := hI hrn; have HEN := hI hen; have HY10 := hI (hkp.heap (show ¬ w.heap.size + 1 = lg by have := HLP.out.1; have := HWZ.out; omega) (show W9.drew.heap[w.heap.size + 1]? = _ from HY9.out)); have HN10 := hI (hkp.heap (show ¬ p = lg by have := HLP.out.2; omega) (show W9.drew.heap[p]? = _ from HN9.out)); have m9 : w10.cell? ⟨p, 9, none⟩ = some (.pointer (some ⟨lg, 0, none⟩)) := bC HN10.out 9 rfl; have r2 : w10.cell? ⟨w.heap.size + 1, 2, none⟩ = some (.int .u64 ix) := bC HY10.out 2 rfl; have r3 : w10.cell? ⟨w.heap.size + 1, 3, none⟩ = some (.int .u64 tm) := bC HY10.out 3 rfl; have r6 : w10.cell? ⟨w.heap.size + 1, 6, none⟩ = some (.slice va l.length vc) := bC HY10.out 6 rfl; clear hlog hpl hrn hen hkp))
  have hpo := put_ok (k := 0) (kp := 0) (es := []) (es' := es') (l := l) (i := ix) (term := tm) (ix := ix) (tm := tm) (LogOk.base ix0 (by omega) tm0 (by omega)) (fun e he => by cases he) HF.out tm0 (by rw [HPL.out]; simp) (by simp) (by omega) (by have := pl_len HPL.out; omega) (by omega)
  have HOK := hI hpo
  have hll' : es'.length = l.length := pl_len HPL.out
  have HLL := hI hll'
  have hls := last_any w10 lg r' ix tm es' HLG10.out hpo.1
  rw [pl_last HPL.out tm] at hls
  have q9 : decide (term < lT tm l) = false := by have := HLT.out; simp; omega
  generalize lT tm l = lt at *
  generalize hli : ix + (es'.length : Int) = li at *
  have HLI := hI hli
  have HLS := hI hls
  clear hls hpo hll' hli n9 s2 s3 s6 r2 r3 r6 HPUT
  go_wp2_with fail
  refine HLS.out.mono ?_
  rintro en w11 ⟨rfl, hb11⟩
  have HY11 := hI (bH hb11 HY10.out (heap_lt HY10.out))
  have HN11 := hI (bH hb11 HN10.out (heap_lt HN10.out))
  have HB11 := hI hb11
  have s0 : w11.cell? ⟨w.heap.size + 1, 0, none⟩ = some (.int .u64 term) := bC HY11.out 0 rfl
  have s1 : w11.cell? ⟨w.heap.size + 1, 1, none⟩ = some (.int .i64 vote) := bC HY11.out 1 rfl
  have s2 : w11.cell? ⟨w.heap.size + 1, 2, none⟩ = some (.int .u64 ix) := bC HY11.out 2 rfl
  have n12 : w11.cell? ⟨p, 12, none⟩ = some (.slice na L.length nc) := bC HN11.out 12 rfl
  have hk911 : Keeps (fun k => k = lg) W9 w11 := ((Keeps.of_belowS (S := fun k => k = lg) (bD (Below.refl _ W9))).trans HK10.out).trans (Keeps.of_belowS hb11)
  have HK911 := hI hk911
  have HSL11 := hI (HSL9.out.kept hk911 fun k hk e => by have := (HNL.out k hk).2; omega)
  have hrt := right_any w11 na L.length nc L HSL11.out
  rw [HML.out] at hrt
  have HRT := hI hrt
  clear hb11 hrt m9 hk911 HLS
  have q5 : decide (vote < 0) = false := by simp; omega
  have q6 : decide (7 < vote) = false := by simp; omega
  have q7 : decide (4611686018427387904 < term) = false := by simp; omega
  have q8 : decide (4611686018427387904 < ix) = false := by simp; omega
  go_wp2_with fail
  refine HRT.out.mono ?_
  rintro en w12 ⟨rfl, hb12⟩
  have HN12 := hI (bH hb12 HN11.out (heap_lt HN11.out))
  have HB12 := hI hb12
  have c20 : w12.cell? ⟨p, 20, none⟩ = some (.int .u64 0) := bC HN12.out 20 rfl
  have f20 := bF HN12.out 20
  clear hb12 s0 s1 s2 n12 HRT
  go_wp2_with fail
  go_ret2
  have hlp := HLP.out
  have hwz := HWZ.out
  have hwz0 := HB4.out.size
  have hkw : Keeps (fun k => k = lg ∨ k = p) W9 (w12.setCell ⟨p, 20, none⟩ (.int .u64 li)) := ((HK911.out.mono (T := fun k => k = lg ∨ k = p) fun k _ e => .inl e).trans (Keeps.of_belowS HB12.out)).trans ((Keeps.refl (fun k => k = lg ∨ k = p) w12).setCell (.inl (.inr rfl)) _)
  have hkl : Keeps (fun k => k = p) w10 (w12.setCell ⟨p, 20, none⟩ (.int .u64 li)) := ((Keeps.of_belowS (S := fun k => k = p) HB11.out).trans (Keeps.of_belowS HB12.out)).trans ((Keeps.refl (fun k => k = p) w12).setCell (.inl rfl) _)
  have hpl9 : p < W9.heap.size := heap_lt HN9.out
  have hz9 : W9.heap.size ≤ w10.heap.size := HK10.out.size
  have hlogF : LogAt (w12.setCell ⟨p, 20, none⟩ (.int .u64 li)) lg r' ix tm es' := HLG10.out.kept hkl (by omega) (fun k hk e => by have := HRN.out k hk; have h2 : W9.drew.heap.size = W9.heap.size := rfl; omega) (fun e he k hk e2 => by have := HEN.out e he k hk; have h2 : W9.drew.heap.size = W9.heap.size := rfl; omega)
  have hbox : (w12.setCell ⟨p, 20, none⟩ (.int .u64 li)).heap[p]? = some (.cells (NodeS.cells { id := id, mv := .slice ka mem0.length kc, el := el, be := be, term := term, vote := vote, role := 0, lead := 0, since := 0, lg := lg, r := r', ix := ix, tm := tm, es := es', imv := .slice na L.length nc, mem := L, idv := .slice ua d.length uc, commit := ix, pv := .pointer none, pl := none, tv := .pointer none, tr := none, ov := .slice none 0 0, out := [], hard := false, fresh := false, stable := li }) 74 (0, 0)) := blk_set HN12.out 20 _
  have hrl := hlogF.row_lt
  have hs12 : w10.heap.size ≤ (w12.setCell ⟨p, 20, none⟩ (.int .u64 li)).heap.size := hkl.size
  have him : ∀ k, (Value.slice na L.length nc).ownBlock = some k → ¬ ((fun k => M k ∨ (k = p ∨ k = lg ∨ r' = some k)) k) := fun k hk e => by
   obtain ⟨h1, h2, h3, h4⟩ := HNL.out k hk
   rcases e with e | e | e | e
   ·have := HM.out k e; omega
   ·omega
   ·omega
   ·have := HRN.out k e; have h5 : W9.drew.heap.size = W9.heap.size := rfl; omega
  have hid : ∀ k, (Value.slice ua d.length uc).ownBlock = some k → ¬ ((fun k => M k ∨ (k = p ∨ k = lg ∨ r' = some k)) k) := fun k hk e => by
   obtain ⟨h1, h2⟩ := HND.out k hk
   rcases e with e | e | e | e
   ·have := HM.out k e; omega
   ·omega
   ·omega
   ·have := HRN.out k e; have h5 : W9.drew.heap.size = W9.heap.size := rfl; omega
  refine ⟨p, fun k => k = p ∨ k = lg ∨ r' = some k, { id := id, mv := .slice ka mem0.length kc, el := el, be := be, term := term, vote := vote, role := 0, lead := 0, since := 0, lg := lg, r := r', ix := ix, tm := tm, es := es', imv := .slice na L.length nc, mem := L, idv := .slice ua d.length uc, commit := ix, pv := .pointer none, pl := none, tv := .pointer none, tr := none, ov := .slice none 0 0, out := [], hard := false, fresh := false, stable := li }, rfl, HB9.out.trans (hkw.below HB9.out.size fun k hk => by rcases hk with hk | hk <;> omega), ⟨fun j k => j = 0 ∧ (k = lg ∨ r' = some k), ?_⟩, fun k hk => ?_, rfl, rfl, rfl, rfl, rfl, rfl, rfl, rfl, HPL.out, HLQ.out, rfl, rfl, rfl, rfl⟩
  ·refine ⟨hbox, .inl rfl, fun j hj e => ?_, fun j k hj e => .inr e.2, fun k hk => .inr hk, fun k hk => ?_, fun i j k _ _ h1 h2 => h1.1.trans h2.1.symm, hlogF, ⟨rfl, .inl rfl⟩, fun k hk => ⟨rfl, .inr hk⟩, fun e he k hk e2 => ?_, HOK.out.1, HOK.out.2, by show es'.length ≤ 1024; have := HLL.out; omega, ⟨World.ownsRow_nil _ _ _ _, (fun k hk => by simp [Value.ownBlock] at hk), (fun m hm => by cases hm)⟩, rfl, rfl, HSL9.out.kept hkw fun k hk e => by obtain ⟨h1, h2, h3, h4⟩ := HNL.out k hk; rcases e with e | e <;> omega, him, ⟨d, HSD9.out.kept hkw fun k hk e => by obtain ⟨h1, h2⟩ := HND.out k hk; rcases e with e | e <;> omega, hdl⟩, hid⟩
   ·rcases e.2 with e | e
    ·omega
    ·have := HRN.out p e; have h5 : W9.drew.heap.size = W9.heap.size := rfl; omega
   ·rcases hk with hk | hk | hk
    ·rw [hk]; omega
    ·rw [hk]; omega
    ·exact hrl k hk
   ·obtain ⟨d1, d2⟩ := (hlogF.data e he).2 k hk
    have h6 := HEN.out e he k hk
    have h5 : W9.drew.heap.size = W9.heap.size := rfl
    rcases e2 with e2 | e2 | e2 | e2
    ·have := HM.out k e2; omega
    ·omega
    ·omega
    ·exact d2 e2
  ·rcases hk with hk | hk | hk
   ·omega
   ·omega
   ·have := HRN.out k hk; have h5 : W9.drew.heap.size = W9.heap.size := rfl; omega
 ·skip
  have n12 : W7.cell? ⟨p, 12, none⟩ = some (.slice ja mem.length jc) := bC HN7.out 12 rfl
  have hlpos : 0 < mem.length := List.length_pos_iff.2 hme
  have z0 : ((mem.length : Int) == 0) = false := beq_eq_false_iff_ne.2 (by omega)
  have z1 : mem.length ≠ 0 := by omega
  obtain ⟨na, hna⟩ : ∃ na, na = ja := ⟨_, rfl⟩
  obtain ⟨nc, hnc⟩ : ∃ nc, nc = jc := ⟨_, rfl⟩
  obtain ⟨L, hL⟩ : ∃ L, L = mem := ⟨_, rfl⟩
  have hp7 := heap_lt HN7.out
  have HN9 : Hid (W7.heap[p]? = some (.cells #[.int .i64 id, .slice ka mem0.length kc, .int .i64 el, .int .i64 be, .int .u64 term, .int .i64 vote, .int .i64 0, .int .i64 0, .int .i64 0, .pointer (some ⟨lg, 0, none⟩), .int .u64 ix, .int .u64 tm, .slice na L.length nc, .slice ua d.length uc, .int .u64 ix, .pointer none, .pointer none, .slice none 0 0, .bool false, .bool false, .int .u64 0] 74 (0, 0))) := hI (by rw [hna, hnc, hL]; exact HN7.out)
  have HY9 := HY7
  have HLG9 := HL7
  have HB9 := HB7
  have HNL : Hid (∀ k, (Value.slice na L.length nc).ownBlock = some k → W4.heap.size ≤ k ∧ k < W7.heap.size ∧ k ≠ lg ∧ k ≠ p) := hI fun k hk => by
   rw [hL, hna, hnc] at hk
   have h1 := HNM.out k hk
   have h2 := HLP.out
   omega
  have HSL9 : Hid (Sl intv W7 (.slice na L.length nc) L) := hI (by rw [hna, hnc, hL]; exact HSM7.out)
  have HSD9 : Hid (Sl u8v W7 (.slice ua d.length uc) d) := HSD7
  have HML : Hid (mB L = true) := hI (by rw [hL]; exact HMB.out.resolve_left hme)
  have HLQ : Hid (L = if mem = [] then mem0 else mem) := hI (by rw [if_neg hme, hL])
  clear hna hnc hL hp7 k1 hme hlpos
  go_wp2_with fail
  clear n12 z0 z1
  have n9 : W7.cell? ⟨p, 9, none⟩ = some (.pointer (some ⟨lg, 0, none⟩)) := bC HN9.out 9 rfl
  have s2 : W7.cell? ⟨w.heap.size + 1, 2, none⟩ = some (.int .u64 ix) := bC HY9.out 2 rfl
  have s3 : W7.cell? ⟨w.heap.size + 1, 3, none⟩ = some (.int .u64 tm) := bC HY9.out 3 rfl
  have s6 : W7.cell? ⟨w.heap.size + 1, 6, none⟩ = some (.slice va l.length vc) := bC HY9.out 6 rfl
  have hre : RowE W7.drew (fun k => k = lg) (.slice va l.length vc) l := by
   refine HE.out.mv ⟨Keeps.of_belowS (S := fun _ => False) (bD HB9.out), fun k hk => .inr ?_⟩
   have := HLP.out.1; have := HWZ.out
   rw [hk]; omega
  have HPUT := hI (put_fresh W7.drew lg ix tm (HLG9.out.below (bD bR)) ix0 (by omega) ⟨tm0, by omega⟩ (fun k => k = lg) rfl va vc l hre HF.out hll)
  clear hre
  go_region_held3 (fun w' => w'.cell? ⟨p, 9, none⟩ = some (.pointer (some ⟨lg, 0, none⟩)) ∧ w'.cell? ⟨w.heap.size + 1, 2, none⟩ = some (.int .u64 ix) ∧ w'.cell? ⟨w.heap.size + 1, 3, none⟩ = some (.int .u64 tm) ∧ w'.cell? ⟨w.heap.size + 1, 6, none⟩ = some (.slice va l.length vc)) (first | exact ⟨n9, s2, s3, s6⟩ | exact ⟨m9, r2, r3, r6⟩)
   (first
     | (go_at_call 49; refine HPUT.out.mono ?_; rintro en w10 ⟨ch, r', es', rfl, hlog, hpl, hrn, hen, hkp⟩; have HK10 := hI hkp; have HLG10 := hI hlog; have HPL := hI hpl; have HRN := hI hrn; have HEN := hI hen; have HY10 := hI (hkp.heap (show ¬ w.heap.size + 1 = lg by have := HLP.out.1; have := HWZ.out; omega) (show W7.drew.heap[w.heap.size + 1]? = _ from HY9.out)); have HN10 := hI (hkp.heap (show ¬ p = lg by have := HLP.out.2; omega) (show W7.drew.heap[p]? = _ from HN9.out)); have m9 : w10.cell? ⟨p, 9, none⟩ = some (.pointer (some ⟨lg, 0, none⟩)) := bC HN10.out 9 rfl; have r2 : w10.cell? ⟨w.heap.size + 1, 2, none⟩ = some (.int .u64 ix) := bC HY10.out 2 rfl; have r3 : w10.cell? ⟨w.heap.size + 1, 3, none⟩ = some (.int .u64 tm) := bC HY10.out 3 rfl; have r6 : w10.cell? ⟨w.heap.size + 1, 6, none⟩ = some (.slice va l.length vc) := bC HY10.out 6 rfl; clear hlog hpl hrn hen hkp))
  have hpo := put_ok (k := 0) (kp := 0) (es := []) (es' := es') (l := l) (i := ix) (term := tm) (ix := ix) (tm := tm) (LogOk.base ix0 (by omega) tm0 (by omega)) (fun e he => by cases he) HF.out tm0 (by rw [HPL.out]; simp) (by simp) (by omega) (by have := pl_len HPL.out; omega) (by omega)
  have HOK := hI hpo
  have hll' : es'.length = l.length := pl_len HPL.out
  have HLL := hI hll'
  have hls := last_any w10 lg r' ix tm es' HLG10.out hpo.1
  rw [pl_last HPL.out tm] at hls
  have q9 : decide (term < lT tm l) = false := by have := HLT.out; simp; omega
  generalize lT tm l = lt at *
  generalize hli : ix + (es'.length : Int) = li at *
  have HLI := hI hli
  have HLS := hI hls
  clear hls hpo hll' hli n9 s2 s3 s6 r2 r3 r6 HPUT
  go_wp2_with fail
  refine HLS.out.mono ?_
  rintro en w11 ⟨rfl, hb11⟩
  have HY11 := hI (bH hb11 HY10.out (heap_lt HY10.out))
  have HN11 := hI (bH hb11 HN10.out (heap_lt HN10.out))
  have HB11 := hI hb11
  have s0 : w11.cell? ⟨w.heap.size + 1, 0, none⟩ = some (.int .u64 term) := bC HY11.out 0 rfl
  have s1 : w11.cell? ⟨w.heap.size + 1, 1, none⟩ = some (.int .i64 vote) := bC HY11.out 1 rfl
  have s2 : w11.cell? ⟨w.heap.size + 1, 2, none⟩ = some (.int .u64 ix) := bC HY11.out 2 rfl
  have n12 : w11.cell? ⟨p, 12, none⟩ = some (.slice na L.length nc) := bC HN11.out 12 rfl
  have hk911 : Keeps (fun k => k = lg) W7 w11 := ((Keeps.of_belowS (S := fun k => k = lg) (bD (Below.refl _ W7))).trans HK10.out).trans (Keeps.of_belowS hb11)
  have HK911 := hI hk911
  have HSL11 := hI (HSL9.out.kept hk911 fun k hk e => by have := (HNL.out k hk).2; omega)
  have hrt := right_any w11 na L.length nc L HSL11.out
  rw [HML.out] at hrt
  have HRT := hI hrt
  clear hb11 hrt m9 hk911 HLS
  have q5 : decide (vote < 0) = false := by simp; omega
  have q6 : decide (7 < vote) = false := by simp; omega
  have q7 : decide (4611686018427387904 < term) = false := by simp; omega
  have q8 : decide (4611686018427387904 < ix) = false := by simp; omega
  go_wp2_with fail
  refine HRT.out.mono ?_
  rintro en w12 ⟨rfl, hb12⟩
  have HN12 := hI (bH hb12 HN11.out (heap_lt HN11.out))
  have HB12 := hI hb12
  have c20 : w12.cell? ⟨p, 20, none⟩ = some (.int .u64 0) := bC HN12.out 20 rfl
  have f20 := bF HN12.out 20
  clear hb12 s0 s1 s2 n12 HRT
  go_wp2_with fail
  go_ret2
  have hlp := HLP.out
  have hwz := HWZ.out
  have hwz0 := HB4.out.size
  have hkw : Keeps (fun k => k = lg ∨ k = p) W7 (w12.setCell ⟨p, 20, none⟩ (.int .u64 li)) := ((HK911.out.mono (T := fun k => k = lg ∨ k = p) fun k _ e => .inl e).trans (Keeps.of_belowS HB12.out)).trans ((Keeps.refl (fun k => k = lg ∨ k = p) w12).setCell (.inl (.inr rfl)) _)
  have hkl : Keeps (fun k => k = p) w10 (w12.setCell ⟨p, 20, none⟩ (.int .u64 li)) := ((Keeps.of_belowS (S := fun k => k = p) HB11.out).trans (Keeps.of_belowS HB12.out)).trans ((Keeps.refl (fun k => k = p) w12).setCell (.inl rfl) _)
  have hpl9 : p < W7.heap.size := heap_lt HN9.out
  have hz9 : W7.heap.size ≤ w10.heap.size := HK10.out.size
  have hlogF : LogAt (w12.setCell ⟨p, 20, none⟩ (.int .u64 li)) lg r' ix tm es' := HLG10.out.kept hkl (by omega) (fun k hk e => by have := HRN.out k hk; have h2 : W7.drew.heap.size = W7.heap.size := rfl; omega) (fun e he k hk e2 => by have := HEN.out e he k hk; have h2 : W7.drew.heap.size = W7.heap.size := rfl; omega)
  have hbox : (w12.setCell ⟨p, 20, none⟩ (.int .u64 li)).heap[p]? = some (.cells (NodeS.cells { id := id, mv := .slice ka mem0.length kc, el := el, be := be, term := term, vote := vote, role := 0, lead := 0, since := 0, lg := lg, r := r', ix := ix, tm := tm, es := es', imv := .slice na L.length nc, mem := L, idv := .slice ua d.length uc, commit := ix, pv := .pointer none, pl := none, tv := .pointer none, tr := none, ov := .slice none 0 0, out := [], hard := false, fresh := false, stable := li }) 74 (0, 0)) := blk_set HN12.out 20 _
  have hrl := hlogF.row_lt
  have hs12 : w10.heap.size ≤ (w12.setCell ⟨p, 20, none⟩ (.int .u64 li)).heap.size := hkl.size
  have him : ∀ k, (Value.slice na L.length nc).ownBlock = some k → ¬ ((fun k => M k ∨ (k = p ∨ k = lg ∨ r' = some k)) k) := fun k hk e => by
   obtain ⟨h1, h2, h3, h4⟩ := HNL.out k hk
   rcases e with e | e | e | e
   ·have := HM.out k e; omega
   ·omega
   ·omega
   ·have := HRN.out k e; have h5 : W7.drew.heap.size = W7.heap.size := rfl; omega
  have hid : ∀ k, (Value.slice ua d.length uc).ownBlock = some k → ¬ ((fun k => M k ∨ (k = p ∨ k = lg ∨ r' = some k)) k) := fun k hk e => by
   obtain ⟨h1, h2⟩ := HND.out k hk
   rcases e with e | e | e | e
   ·have := HM.out k e; omega
   ·omega
   ·omega
   ·have := HRN.out k e; have h5 : W7.drew.heap.size = W7.heap.size := rfl; omega
  refine ⟨p, fun k => k = p ∨ k = lg ∨ r' = some k, { id := id, mv := .slice ka mem0.length kc, el := el, be := be, term := term, vote := vote, role := 0, lead := 0, since := 0, lg := lg, r := r', ix := ix, tm := tm, es := es', imv := .slice na L.length nc, mem := L, idv := .slice ua d.length uc, commit := ix, pv := .pointer none, pl := none, tv := .pointer none, tr := none, ov := .slice none 0 0, out := [], hard := false, fresh := false, stable := li }, rfl, HB9.out.trans (hkw.below HB9.out.size fun k hk => by rcases hk with hk | hk <;> omega), ⟨fun j k => j = 0 ∧ (k = lg ∨ r' = some k), ?_⟩, fun k hk => ?_, rfl, rfl, rfl, rfl, rfl, rfl, rfl, rfl, HPL.out, HLQ.out, rfl, rfl, rfl, rfl⟩
  ·refine ⟨hbox, .inl rfl, fun j hj e => ?_, fun j k hj e => .inr e.2, fun k hk => .inr hk, fun k hk => ?_, fun i j k _ _ h1 h2 => h1.1.trans h2.1.symm, hlogF, ⟨rfl, .inl rfl⟩, fun k hk => ⟨rfl, .inr hk⟩, fun e he k hk e2 => ?_, HOK.out.1, HOK.out.2, by show es'.length ≤ 1024; have := HLL.out; omega, ⟨World.ownsRow_nil _ _ _ _, (fun k hk => by simp [Value.ownBlock] at hk), (fun m hm => by cases hm)⟩, rfl, rfl, HSL9.out.kept hkw fun k hk e => by obtain ⟨h1, h2, h3, h4⟩ := HNL.out k hk; rcases e with e | e <;> omega, him, ⟨d, HSD9.out.kept hkw fun k hk e => by obtain ⟨h1, h2⟩ := HND.out k hk; rcases e with e | e <;> omega, hdl⟩, hid⟩
   ·rcases e.2 with e | e
    ·omega
    ·have := HRN.out p e; have h5 : W7.drew.heap.size = W7.heap.size := rfl; omega
   ·rcases hk with hk | hk | hk
    ·rw [hk]; omega
    ·rw [hk]; omega
    ·exact hrl k hk
   ·obtain ⟨d1, d2⟩ := (hlogF.data e he).2 k hk
    have h6 := HEN.out e he k hk
    have h5 : W7.drew.heap.size = W7.heap.size := rfl
    rcases e2 with e2 | e2 | e2 | e2
    ·have := HM.out k e2; omega
    ·omega
    ·omega
    ·exact d2 e2
  ·rcases hk with hk | hk | hk
   ·omega
   ·omega
   ·have := HRN.out k hk; have h5 : W7.drew.heap.size = W7.heap.size := rfl; omega
end Go.Proofs.YtdjooojpcepleaaGreat

/- Package worker: the contracts of its exported methods. -/
import Derived.Test.YtebkdkoamiefjaaWorker
import Derived.Test.YtebkdkoamiefjaaRule
namespace Go.Proofs.Ytebkdkoamiefjaa
open Go.RowKit

/-- A worker's request, as it was asked last. -/
def Wk.req (s : Wk) : Array Value := #[.int .u64 s.ac, .int .u64 s.an, .int .i64 s.ak, .string s.anm, .string s.awk, .int .u64 s.atk, .int .i64 s.av, .string ⟨#[]⟩, .string ⟨#[]⟩, .int .i64 0, .int .i64 0, .slice none 0 0, .int .i64 0, .int .i64 0, .int .i64 0, .int .i64 0, .string ⟨#[]⟩, .int .i64 0]

/-- What it is behind Next. -/
def nextF (s : Wk) (draw : Int) : Wk :=
  if s.waits then s else
  { s with number := s.number + 1, ac := s.client, an := s.number + 1, ak := (wishF s draw).kind, anm := (wishF s draw).name, awk := (wishF s draw).worker, atk := (wishF s draw).tok, av := (wishF s draw).val, waits := true }

/-- What it is behind an answer that counts. -/
def takeF (s : Wk) (a : Ans) : Wk :=
  if s.ak = 2 then (if a.err = 0 then { s with waits := false, state := 1, hn := a.name, ht := a.tok, hu := a.val } else { s with waits := false }.freed) else
  toldF { s with waits := false } s.ak a

section
variable (w : World) (b : Nat) (s : Wk) (h : WAt w b s)
include h

theorem take_state (n : Int) (a : Ans) (hw : s.waits = false) :
    Calls Try.prog 23 #[.pointer (some ⟨b, 0, none⟩), .int .u64 n, a.v] w (RetW (.int .i64 10) b s w) := by
  unfold Ans.v
  have c25 := h.c_waits
  rw [hw] at c25
  have hlt := h.lt
  have H := Lib.hid h
  clear h
  go_enter Try.func23, Try.ntmps23
  go_wp2_with fail
  go_ret
  exact ⟨rfl, aheap H.out _, (Keeps.refl (fun k => k = b) w).alloc _⟩

theorem take_old (n : Int) (a : Ans) (hw : s.waits = true) (hn : (n == s.number) = false) :
    Calls Try.prog 23 #[.pointer (some ⟨b, 0, none⟩), .int .u64 n, a.v] w (RetW (.int .i64 21) b s w) := by
  unfold Ans.v
  have c25 := h.c_waits
  rw [hw] at c25
  have c2 := h.c_number
  have hn2 : (n != s.number) = true := by simpa using hn
  have hlt := h.lt
  have H := Lib.hid h
  clear h
  go_enter Try.func23, Try.ntmps23
  go_wp2_with fail
  go_ret
  exact ⟨rfl, aheap H.out _, (Keeps.refl (fun k => k = b) w).alloc _⟩

theorem take_again (a : Ans) (hw : s.waits = true) (ha : againB a.err = true) :
    Calls Try.prog 23 #[.pointer (some ⟨b, 0, none⟩), .int .u64 s.number, a.v] w (RetW (.int .i64 a.err) b s w) := by
  unfold Ans.v
  have c25 := h.c_waits
  rw [hw] at c25
  have c2 := h.c_number
  have hlt := h.lt
  have hag := fun w => again_any a.err w
  rw [ha] at hag
  have H := Lib.hid h
  clear h
  go_enter Try.func23, Try.ntmps23
  go_wp2_with (go_at_call 34; refine (hag _).mono ?_; rintro e w' ⟨rfl, rfl⟩)
  go_ret
  exact ⟨rfl, aheap H.out _, (Keeps.refl (fun k => k = b) w).alloc _⟩

theorem take_leased (a : Ans) (hw : s.waits = true) (ha : againB a.err = false) (hk : (s.ak == 2) = true) :
    Calls Try.prog 23 #[.pointer (some ⟨b, 0, none⟩), .int .u64 s.number, a.v] w (RetW (.int .i64 0) b (takeF s a) w) := by
  have c25 := h.c_waits
  rw [hw] at c25
  have c2 := h.c_number
  have c9 := h.c_ak
  have hf := h.free
  have hlt := h.lt
  have hag := fun w => again_any a.err w
  rw [ha] at hag
  have H := Lib.hid h
  have hk' : s.ak = 2 := by simpa using hk
  have hle : ∀ W, WAt W b { s with waits := false } → Calls Try.prog 35 #[.pointer (some ⟨b, 0, none⟩), a.v] W (RetW (.tuple #[]) b (takeF s a) W) := by
    intro W hW
    unfold takeF
    rw [if_pos hk']
    cases he : (a.err == 0)
    · rw [if_neg (by simpa using he)]
      exact leased_no W b _ hW a he
    · rw [if_pos (by simpa using he)]
      exact leased_yes W b _ hW a he
  unfold Ans.v at *
  clear h hk'
  go_enter Try.func23, Try.ntmps23
  go_wp2_with (first | (go_at_call 34; refine (hag _).mono ?_; rintro e w' ⟨rfl, rfl⟩) | (go_at_call 35; refine (hle _ (aheap (blk_set H.out 25 _) _)).mono ?_; rintro e w' ⟨rfl, h1, hk1⟩))
  go_ret
  exact ⟨rfl, h1, (((Keeps.refl (fun k => k = b) w).setCell (.inl rfl) _).alloc _).trans (hk1.mono (fun _ _ h => h))⟩

theorem take_told (a : Ans) (hw : s.waits = true) (ha : againB a.err = false) (hk : (s.ak == 2) = false) (hd : 0 ≤ s.done ∧ s.done ≤ 1000000) (hl : 0 ≤ s.lost ∧ s.lost ≤ 1000000) :
    Calls Try.prog 23 #[.pointer (some ⟨b, 0, none⟩), .int .u64 s.number, a.v] w (RetW (.int .i64 0) b (takeF s a) w) := by
  have c25 := h.c_waits
  rw [hw] at c25
  have c2 := h.c_number
  have c9 := h.c_ak
  have hf := h.free
  have hlt := h.lt
  have hag := fun w => again_any a.err w
  rw [ha] at hag
  have H := Lib.hid h
  have hk' : ¬ s.ak = 2 := by simpa using hk
  have hle : ∀ W, WAt W b { s with waits := false } → Calls Try.prog 36 #[.pointer (some ⟨b, 0, none⟩), .int .i64 s.ak, a.v] W (RetW (.tuple #[]) b (takeF s a) W) := by
    intro W hW
    unfold takeF
    rw [if_neg hk']
    exact told_any W b _ s.ak a hW hd hl
  unfold Ans.v at *
  clear h hk' hd hl
  go_enter Try.func23, Try.ntmps23
  go_wp2_with (first | (go_at_call 34; refine (hag _).mono ?_; rintro e w' ⟨rfl, rfl⟩))
  obtain ⟨W0, hW0⟩ : ∃ W, W = (w.setCell ⟨b, 25, none⟩ (.bool false)).alloc (.cells a.cells 38) := ⟨_, rfl⟩
  have hwp : ∀ {P : World → Prop}, P W0 → P ((w.setCell ⟨b, 25, none⟩ (.bool false)).alloc (.cells a.cells 38)) := fun h => hW0 ▸ h
  refine hwp (P := fun X => Code.wp _ _ _ _ X) ?_
  refine still_tail 8 (by kernel_rfl) (by kernel_rfl) ?_
  intro W hW
  have hT : WAt W b { s with waits := false } := by subst hW; subst hW0; exact aheap (blk_set H.out 25 _) _
  have hk2 : Keeps (fun k => k = b) w W := by subst hW; subst hW0; exact (((Keeps.refl (fun k => k = b) w).setCell (.inl rfl) _).alloc _).drew
  have hx : W.heap[w.heap.size]? = some (.cells a.cells 38) := by
    subst hW; subst hW0
    have := heap_new (w.setCell ⟨b, 25, none⟩ (.bool false)) (.cells a.cells 38)
    rw [World.size_setCell] at this
    exact this
  have hx4 := cells_of hx
  have c9 := hT.c_ak
  have T := Lib.hid hT
  clear hW hW0 hwp hT hx
  simp only [List.take_succ_cons, List.take_zero, List.drop_succ_cons, List.drop_zero]
  repeat still_step
  refine wpStill_nil ?_
  go_wp2_with (first | (go_at_call 36; refine (hle _ T.out).mono ?_; rintro e w' ⟨rfl, h1, hk1⟩))
  go_ret
  exact ⟨rfl, h1, hk2.trans (hk1.mono (fun _ _ h => h))⟩

theorem state_any : Calls Try.prog 27 #[.pointer (some ⟨b, 0, none⟩)] w (Ret (.int .i64 s.state) w) := by
  have c := h.c_state
  clear h
  go_enter Try.func27, Try.ntmps27
  go_wp2
  go_ret
  exact Ret.mk rfl

theorem done_any : Calls Try.prog 28 #[.pointer (some ⟨b, 0, none⟩)] w (Ret (.int .i64 s.done) w) := by
  have c := h.c_done
  clear h
  go_enter Try.func28, Try.ntmps28
  go_wp2
  go_ret
  exact Ret.mk rfl

theorem lost_any : Calls Try.prog 29 #[.pointer (some ⟨b, 0, none⟩)] w (Ret (.int .i64 s.lost) w) := by
  have c := h.c_lost
  clear h
  go_enter Try.func29, Try.ntmps29
  go_wp2
  go_ret
  exact Ret.mk rfl

theorem waits_any : Calls Try.prog 24 #[.pointer (some ⟨b, 0, none⟩)] w (Ret (.bool s.waits) w) := by
  have c := h.c_waits
  clear h
  go_enter Try.func24, Try.ntmps24
  go_wp2
  go_ret
  exact Ret.mk rfl

theorem job_any : Calls Try.prog 26 #[.pointer (some ⟨b, 0, none⟩)] w (fun e w' => e = .returned (.tuple #[.string s.hn, .int .u64 s.ht, .int .i64 s.hu]) ∧ w' = w.drew) := by
  have c4 := h.c_hn
  have c5 := h.c_ht
  have c6 := h.c_hu
  clear h
  go_enter Try.func26, Try.ntmps26
  go_wp2
  go_region
  go_wp2
  go_ret3
  exact ⟨rfl, rfl⟩

theorem wish_any (draw : Int) (hd : 0 ≤ draw ∧ draw ≤ 18446744073709551615) : Calls Try.prog 33 #[.pointer (some ⟨b, 0, none⟩), .int .u64 draw] w (RetB (wishF s draw).v w) := by
  cases hs : (s.state == 0)
  · exact wish_busy w b s draw h hs hd.1 hd.2
  · refine (wish_idle w b s draw h hs).mono ?_
    rintro e w' ⟨rfl, o, o', rfl⟩
    exact ⟨rfl, ((Below.refl _ _).alloc (Nat.le_refl _) _).alloc (by simp) _⟩

omit h in
theorem info_req : (Try.prog.info? 54).map (·.size) = some 18 := by kernel_rfl

theorem next_waits (draw : Int) (hw : s.waits = true) :
    Calls Try.prog 22 #[.pointer (some ⟨b, 0, none⟩), .int .u64 draw] w (fun e w' => e = .returned (.tuple #[.agg s.req, .int .i64 0]) ∧ WAt w' b s ∧ Below w.heap.size w w') := by
  have c25 := h.c_waits
  rw [hw] at c25
  have hlt := h.lt
  have H := Lib.hid h
  clear h
  go_enter Try.func22, Try.ntmps22
  go_wp2_with (first
    | (refine wpList_load_blk _ rfl _ _ rfl _ 7 rfl _ _ _ (aheap H.out _) s.req rfl _ Try.underlying54 rfl info_req ?_)
    | (refine wpList_store_fresh _ rfl _ _ _ rfl _ rfl _ rfl _ _ _ rfl ?_ ?_ rfl info_req ?_ ?_; (focus (simp; done)); (focus (simp [Wk.req]; done)); (focus (simp [Wk.req, OneCells, Value.oneCell']; done))))
  exact bodyPost_ret (results_blk2 Try.results22 _ _ _ _ _ _ rfl (heap_new w _) _ Try.underlying54 rfl info_req) rfl ⟨rfl, aheap H.out _, (Below.refl _ _).alloc (Nat.le_refl _) _⟩

theorem wish_stay (draw : Int) (hd : 0 ≤ draw ∧ draw ≤ 18446744073709551615) : Calls Try.prog 33 #[.pointer (some ⟨b, 0, none⟩), .int .u64 draw] w
    (fun e w' => e = .returned (.agg #[.int .i64 (wishF s draw).kind, .string (wishF s draw).name, .string (wishF s draw).worker, .int .u64 (wishF s draw).tok, .int .i64 (wishF s draw).val, .string ⟨#[]⟩, .string ⟨#[]⟩, .int .i64 0, .int .i64 0, .slice none 0 0, .int .i64 0, .int .i64 0, .int .i64 0, .int .i64 0, .string ⟨#[]⟩, .int .i64 0]) ∧ WAt w' b s ∧ w'.cell? ⟨b, 1, none⟩ = some (.int .u64 s.client) ∧ w'.cell? ⟨b, 2, none⟩ = some (.int .u64 s.number) ∧ (∀ i, w'.frozen? ⟨b, i, none⟩ = false) ∧ Below w.heap.size w w') := by
  have hlt := h.lt
  refine (wish_any w b s h draw hd).mono ?_
  rintro e w' ⟨rfl, hb⟩
  have h' := h.below hb hlt
  exact ⟨rfl, h', h'.c_client, h'.c_number, h'.free, hb⟩

/-- .. ahead of its last write. -/
def nextF' (s : Wk) (draw : Int) : Wk :=
  { s with number := s.number + 1, ac := s.client, an := s.number + 1, ak := (wishF s draw).kind, anm := (wishF s draw).name, awk := (wishF s draw).worker, atk := (wishF s draw).tok, av := (wishF s draw).val }

omit h in
theorem store_req {d : Option Tmp} {x y : Operand} {ty : TypeId} {pos : String} {af : Array Edge} {g : Option (Nat × Bool)} {a : Act} {w : World} {K : Act → World → Prop} {Q : Exit → Act → World → Prop}
    (h1 : ptrOk (a.eval x) = true) (h2 : aggOk (a.eval y) = true) (h3 : (aggL (a.eval y)).length = 18) (h4 : Fits w (ptrB (a.eval x)) 28) (h5 : ptrO (a.eval x) + 18 ≤ 28) (h6 : OneCells (aggL (a.eval y))) :
    Oper.wp Try.prog { dst := d, op := .store 54 x y, type := ty, pos := pos, after := af, guard := g } a w K Q = K (a.put d undef) (stored w (ptrB (a.eval x)) (ptrO (a.eval x)) (aggL (a.eval y))) := store_rule 28 (by decide) info_req h1 h2 h3 h4 h5 h6

attribute [local go_sem ↓] store_req
attribute [local go_sem] OneCells Value.oneCell'

omit h in
theorem next_spl (draw : Int) : spl ({ s with number := s.number + 1 } : Wk).cells 7 [.int .u64 s.client, .int .u64 (s.number + 1), .int .i64 (wishF s draw).kind, .string (wishF s draw).name, .string (wishF s draw).worker, .int .u64 (wishF s draw).tok, .int .i64 (wishF s draw).val, .string ⟨#[]⟩, .string ⟨#[]⟩, .int .i64 0, .int .i64 0, .slice none 0 0, .int .i64 0, .int .i64 0, .int .i64 0, .int .i64 0, .string ⟨#[]⟩, .int .i64 0] = (nextF' s draw).cells := by kernel_rfl

omit h in
theorem wish_stay' (draw : Int) (hd : 0 ≤ draw ∧ draw ≤ 18446744073709551615) (W : World) (hW : WAt W b { s with number := s.number + 1 }) : Calls Try.prog 33 #[.pointer (some ⟨b, 0, none⟩), .int .u64 draw] W
    (fun e w' => e = .returned (.agg #[.int .i64 (wishF s draw).kind, .string (wishF s draw).name, .string (wishF s draw).worker, .int .u64 (wishF s draw).tok, .int .i64 (wishF s draw).val, .string ⟨#[]⟩, .string ⟨#[]⟩, .int .i64 0, .int .i64 0, .slice none 0 0, .int .i64 0, .int .i64 0, .int .i64 0, .int .i64 0, .string ⟨#[]⟩, .int .i64 0]) ∧ WAt w' b { s with number := s.number + 1 } ∧ w'.cell? ⟨b, 1, none⟩ = some (.int .u64 s.client) ∧ w'.cell? ⟨b, 2, none⟩ = some (.int .u64 (s.number + 1)) ∧ (∀ i, w'.frozen? ⟨b, i, none⟩ = false) ∧ Below W.heap.size W w') :=
  wish_stay W b _ hW draw hd

theorem next_new (draw : Int) (hd : 0 ≤ draw ∧ draw ≤ 18446744073709551615) (hw : s.waits = false) (hn : 0 ≤ s.number ∧ s.number ≤ 1000000) :
    Calls Try.prog 22 #[.pointer (some ⟨b, 0, none⟩), .int .u64 draw] w (fun e w' => e = .returned (.tuple #[.agg (nextF s draw).req, .int .i64 0]) ∧ WAt w' b (nextF s draw) ∧ Keeps (fun k => k = b) w w') := by
  have c25 := h.c_waits
  rw [hw] at c25
  have c2 := h.c_number
  have hf := h.free
  have hlt := h.lt
  have H := Lib.hid h
  have HWt := Lib.hid hw
  obtain ⟨hn1, hn2⟩ := hn
  clear h hw
  go_enter Try.func22, Try.ntmps22
  go_wp2_with fail
  obtain ⟨W1, hW1⟩ : ∃ W, W = (w.setCell ⟨b, 2, none⟩ (.int .u64 (s.number + 1))).alloc (.cells (Wk.mk ⟨#[]⟩ 0 0 0 ⟨#[]⟩ 0 0 0 0 0 ⟨#[]⟩ ⟨#[]⟩ 0 0 false 0 0).req 54) := ⟨_, rfl⟩
  have hT : WAt W1 b { s with number := s.number + 1 } := by subst hW1; exact aheap (blk_set H.out 2 _) _
  have hR : W1.heap[w.heap.size]? = some (.cells (Wk.mk ⟨#[]⟩ 0 0 0 ⟨#[]⟩ 0 0 0 0 0 ⟨#[]⟩ ⟨#[]⟩ 0 0 false 0 0).req 54) := by
    subst hW1
    have := heap_new (w.setCell ⟨b, 2, none⟩ (.int .u64 (s.number + 1))) (.cells (Wk.mk ⟨#[]⟩ 0 0 0 ⟨#[]⟩ 0 0 0 0 0 ⟨#[]⟩ ⟨#[]⟩ 0 0 false 0 0).req 54)
    rw [World.size_setCell] at this
    exact this
  have hk : Keeps (fun k => k = b) w W1 := by subst hW1; exact ((Keeps.refl (fun k => k = b) w).setCell (.inl rfl) _).alloc _
  have hwp : ∀ {P : World → Prop}, P W1 → P ((w.setCell ⟨b, 2, none⟩ (.int .u64 (s.number + 1))).alloc (.cells (Wk.mk ⟨#[]⟩ 0 0 0 ⟨#[]⟩ 0 0 0 0 0 ⟨#[]⟩ ⟨#[]⟩ 0 0 false 0 0).req 54)) := fun h => hW1 ▸ h
  refine hwp (P := fun X => Code.wp _ _ _ _ X) ?_
  clear hwp hW1 c25 c2 hf
  have h1 := hT.c_client
  have h2 := hT.c_number
  have HT := Lib.hid hT
  clear hT
  go_region_held3 (fun w' => w'.cell? ⟨b, 1, none⟩ = some (.int .u64 s.client) ∧ w'.cell? ⟨b, 2, none⟩ = some (.int .u64 (s.number + 1))) (first | exact ⟨h1, h2⟩ | exact ⟨g1, g2⟩ | exact ⟨WAt.c_client (s := nextF' s draw) (stored_at gT (next_spl s draw)), WAt.c_number (s := nextF' s draw) (stored_at gT (next_spl s draw))⟩ | go_keep)
    (first
      | (go_at_call 33; refine (wish_stay' b s draw hd _ (WAt.drew HT.out)).mono ?_; rintro e w1 ⟨rfl, gT, g1, g2, gf, gb⟩; have gF : Fits w1 b 28 := Fits.of gT rfl))
  have q1 := heap_lt hR
  have gW : WAt (stored w1 b 7 [.int .u64 s.client, .int .u64 (s.number + 1), .int .i64 (wishF s draw).kind, .string (wishF s draw).name, .string (wishF s draw).worker, .int .u64 (wishF s draw).tok, .int .i64 (wishF s draw).val, .string ⟨#[]⟩, .string ⟨#[]⟩, .int .i64 0, .int .i64 0, .slice none 0 0, .int .i64 0, .int .i64 0, .int .i64 0, .int .i64 0, .string ⟨#[]⟩, .int .i64 0]) b (nextF' s draw) := stored_at gT (next_spl s draw)
  have gR := bheap gb hR q1
  have gk : Keeps (fun k => k = b) w (stored w1 b 7 [.int .u64 s.client, .int .u64 (s.number + 1), .int .i64 (wishF s draw).kind, .string (wishF s draw).name, .string (wishF s draw).worker, .int .u64 (wishF s draw).tok, .int .i64 (wishF s draw).val, .string ⟨#[]⟩, .string ⟨#[]⟩, .int .i64 0, .int .i64 0, .slice none 0 0, .int .i64 0, .int .i64 0, .int .i64 0, .int .i64 0, .string ⟨#[]⟩, .int .i64 0]) := stored_keeps (hk.drew.trans (Keeps.of_belowS gb)) (.inl rfl) 7 _
  have gR2 :=  Keeps.heap (stored_keeps (Keeps.refl (fun k => k = b) w1) (.inl rfl) 7 [.int .u64 s.client, .int .u64 (s.number + 1), .int .i64 (wishF s draw).kind, .string (wishF s draw).name, .string (wishF s draw).worker, .int .u64 (wishF s draw).tok, .int .i64 (wishF s draw).val, .string ⟨#[]⟩, .string ⟨#[]⟩, .int .i64 0, .int .i64 0, .slice none 0 0, .int .i64 0, .int .i64 0, .int .i64 0, .int .i64 0, .string ⟨#[]⟩, .int .i64 0]) (Nat.ne_of_gt hlt) gR
  revert gW gk gR2
  generalize stored w1 b 7 [.int .u64 s.client, .int .u64 (s.number + 1), .int .i64 (wishF s draw).kind, .string (wishF s draw).name, .string (wishF s draw).worker, .int .u64 (wishF s draw).tok, .int .i64 (wishF s draw).val, .string ⟨#[]⟩, .string ⟨#[]⟩, .int .i64 0, .int .i64 0, .slice none 0 0, .int .i64 0, .int .i64 0, .int .i64 0, .int .i64 0, .string ⟨#[]⟩, .int .i64 0] = W2
  intro gW gk gR2
  have c25 := gW.c_waits
  have hf := gW.free
  have HW2 := Lib.hid gW
  clear gT g1 g2 gf gb gR hR h1 h2 gF
  have hne := Nat.ne_of_gt hlt
  go_wp2_with (first
    | (refine wpList_load_blk _ rfl _ _ rfl _ 7 rfl _ _ _ (blk_set HW2.out 25 _) (nextF s draw).req ?_ _ Try.underlying54 rfl info_req ?_; (focus (unfold nextF; rw [HWt.out]; rfl)))
    | (refine wpList_store_all _ rfl _ _ _ rfl _ rfl _ rfl _ _ (blk_set_other gR2 hne _) ?_ ?_ info_req ?_ ?_; (focus (simp [Wk.req]; done)); (focus (simp [Wk.req]; done)); (focus (simp [Wk.req, OneCells, Value.oneCell']; done))))
  intro W3 gR3 hk3 hz3
  have gW3 : WAt W3 b (nextF s draw) := by
    have h1 := hk3.heap (Nat.ne_of_lt hlt) (blk_set HW2.out 25 (.bool true))
    unfold nextF
    rw [HWt.out]
    exact h1
  have hkk : Keeps (fun k => k = b) w W3 :=
    (gk.setCell (p := ⟨b, 25, none⟩) (.inl rfl) (.bool true)).andThen hk3 (fun i hi => .inl (Nat.le_of_eq hi.symm))
  clear gk hk3 gR2 HW2 c25 hf
  go_wp2_with fail
  exact bodyPost_ret (results_blk2 Try.results22 _ _ _ _ _ _ rfl gR3 _ Try.underlying54 rfl info_req) rfl ⟨rfl, gW3, hkk⟩
end

/-- A new one. -/
def Wk.fresh (name : ByteArray) (client : Int) : Wk := ⟨name, client, 0, 0, ⟨#[]⟩, 0, 0, 0, 0, 0, ⟨#[]⟩, ⟨#[]⟩, 0, 0, false, 0, 0⟩

theorem newW_name (w : World) (name : ByteArray) (client : Int) (hm : name.size ≤ maxLen) (h : nameB name = false) :
    Calls Try.prog 21 #[.string name, .int .u64 client] w (RetB (.tuple #[.pointer none, .int .i64 16]) w) := by
  have hn := fun w => name_any name w hm
  rw [h] at hn
  go_enter Try.func21, Try.ntmps21
  go_wp2_with (go_at_call 32; refine (hn _).mono ?_; rintro e w1 ⟨rfl, hb⟩)
  go_ret2
  exact RetB.mk rfl hb

theorem newW_arg (w : World) (name : ByteArray) (client : Int) (hm : name.size ≤ maxLen) (h : nameB name = true) (hc : (client == 0) = true) :
    Calls Try.prog 21 #[.string name, .int .u64 client] w (RetB (.tuple #[.pointer none, .int .i64 1]) w) := by
  have hn := fun w => name_any name w hm
  rw [h] at hn
  go_enter Try.func21, Try.ntmps21
  go_wp2_with (go_at_call 32; refine (hn _).mono ?_; rintro e w1 ⟨rfl, hb⟩)
  go_ret2
  exact RetB.mk rfl hb

theorem newW_yes (w : World) (name : ByteArray) (client : Int) (hm : name.size ≤ maxLen) (h : nameB name = true) (hc : (client == 0) = false) :
    Calls Try.prog 21 #[.string name, .int .u64 client] w (fun e w' => ∃ m, e = .returned (.tuple #[.pointer (some ⟨m, 0, none⟩), .int .i64 0]) ∧ w.heap.size ≤ m ∧ WAt w' m (Wk.fresh name client) ∧ Below w.heap.size w w') := by
  have hn := fun w => name_any name w hm
  rw [h] at hn
  go_enter Try.func21, Try.ntmps21
  go_wp2_with (go_at_call 32; refine (hn _).mono ?_; rintro e w1 ⟨rfl, hb⟩)
  go_ret2
  exact ⟨_, rfl, hb.size, heap_new _ _, hb.alloc hb.size _⟩

end Go.Proofs.Ytebkdkoamiefjaa

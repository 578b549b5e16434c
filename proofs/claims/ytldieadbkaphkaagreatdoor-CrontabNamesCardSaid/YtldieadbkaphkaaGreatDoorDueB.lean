/- Package crontab: Due of a template, over a span that may be. -/
import Derived.Test.YtldieadbkaphkaaGreatDoorTmpl
import Derived.Test.YtldieadbkaphkaaGreatDoorDueL
import Derived.RangeFuncBox
import Derived.BigRegionIn
namespace Go.Proofs.YtldieadbkaphkaaGreatDoor
open Go.RowKit Go.Shelf

attribute [local go_sem] Oper.semAt_some

/-- The cells that a round may turn. -/
def DS (v u : Nat) (k : Nat) : Prop := k = v + 1 ∨ k = v + 2 ∨ k = v + 3 ∨ k = u + 2
/-- Between two rounds. -/
def DI (w3 : World) (v u : Nat) (e : Ex) (to_ a0 : Int) (c K : Nat) (s : List Int × Int) (W : World) : Prop :=
  (∃ q, W.heap[v + 1]? = some (.cells #[q] 27) ∧ W.ownsRow w3.heap.size 2 1 q (min s.1.length c) ((s.1.take c).map (Value.int .i64))) ∧ W.heap[v + 2]? = some (.cells #[.int .i64 ((s.1.length - c : Nat) : Int)] 3) ∧
  W.heap[v + 3]? = some (.cells #[.int .i64 0] 28) ∧ W.heap[u + 2]? = some (.cells #[.int .i64 s.2] 2) ∧
  Keeps (DS v u) w3 W ∧ s.1.length ≤ K ∧ listF e to_ K a0 = s.1 ++ listF e to_ (K - s.1.length) s.2 ∧ -9223372036854775808 ≤ s.2 ∧ s.2 ≤ 9223372036854775807
def DI1 (w3 : World) (v u : Nat) (e : Ex) (to_ a0 : Int) (c K : Nat) (p : List Int) (b x : Int) (W : World) : Prop :=
  (∃ q, W.heap[v + 1]? = some (.cells #[q] 27) ∧ W.ownsRow w3.heap.size 2 1 q (min (p.length + 1) c) (((p ++ [x]).take c).map (Value.int .i64))) ∧ W.heap[v + 2]? = some (.cells #[.int .i64 ((p.length + 1 - c : Nat) : Int)] 3) ∧
  W.heap[v + 3]? = some (.cells #[.int .i64 0] 28) ∧ W.heap[u + 2]? = some (.cells #[.int .i64 b] 2) ∧
  Keeps (DS v u) w3 W ∧ p.length + 1 ≤ K ∧ listF e to_ K a0 = p ++ listF e to_ (K - p.length) b ∧ StepB e to_ b x
/-- What has come about when all is told, or when no more is counted. -/
def DE (w3 : World) (v u : Nat) (e : Ex) (to_ a0 : Int) (c : Nat) (W : World) : Prop :=
  (∃ q, W.heap[v + 1]? = some (.cells #[q] 27) ∧ W.ownsRow w3.heap.size 2 1 q (dueT e c a0 to_).length ((dueT e c a0 to_).map (Value.int .i64))) ∧ W.heap[v + 2]? = some (.cells #[.int .i64 (dueM e c a0 to_ : Int)] 3) ∧
  W.heap[v + 3]? = some (.cells #[.int .i64 0] 28) ∧ Keeps (DS v u) w3 W
def DX (w3 : World) (v u : Nat) (e : Ex) (to_ a0 : Int) (c : Nat) (cd : Code) (_p : List Int) (W : World) : Prop :=
  cd = .ret ∧ DE w3 v u e to_ a0 c W

/-- Behind 'ticks = append(ticks, t)'. -/
theorem due_app {W w1 : World} {B bT : Nat} {T e : TypeId} {q q' : Value} {k m : Nat} {xs ys : List Value} {tmp : Obj} (hT : W.heap[bT]? = some (.cells #[q] T)) (hTB : bT < B) (hB : B ≤ W.heap.size)
    (hown : W.ownsRow B e 1 q k xs) (hown' : w1.ownsRow B e 1 q' m ys) (hg : (W.alloc tmp).grownBy w1 q.ownBlock) :
    w1.heap[bT]? = some (.cells #[q] T) ∧ (∀ j, j < B → j ≠ bT → (w1.setCell ⟨bT, 0, none⟩ q').heap[j]? = W.heap[j]?) ∧ (w1.setCell ⟨bT, 0, none⟩ q').heap[bT]? = some (.cells #[q'] T) ∧ (w1.setCell ⟨bT, 0, none⟩ q').ownsRow B e 1 q' m ys ∧
    KeepsOthers W (w1.setCell ⟨bT, 0, none⟩ q') ∧ ∀ (S : Nat → Prop) (w0 : World), w0.heap.size = B → S bT → Keeps S w0 W → Keeps S w0 (w1.setCell ⟨bT, 0, none⟩ q') := by
  have hrow : ∀ j, some j = q.ownBlock → B ≤ j ∧ j < W.heap.size := fun j hj => by
    rcases hown.2 with ⟨rfl, _⟩ | ⟨g, cap, cur, rfl, hgB, hgb, _⟩
    · cases hj
    · obtain rfl : j = g := by simpa [Value.ownBlock] using hj
      exact ⟨hgB, heap_lt hgb⟩
  have old : ∀ j, j < B → w1.heap[j]? = W.heap[j]? := fun j hj => by
    have h1 := hg.block j (by simp; omega) fun e => by have := (hrow j e).1; omega
    exact h1.trans (Below.heap_alloc W tmp j (by omega))
  have h1T : w1.heap[bT]? = some (.cells #[q] T) := (old bT hTB).trans hT
  have hot : ∀ j, j < B → j ≠ bT → (w1.setCell ⟨bT, 0, none⟩ q').heap[j]? = W.heap[j]? := fun j hj hne => (Below.heap_setCell _ _ _ _ hne).trans (old j hj)
  refine ⟨h1T, hot, blk_set h1T 0 _, ?_, ?_, ?_⟩
  · refine ⟨hown'.1, ?_⟩
    rcases hown'.2 with h | ⟨g, cap, cur, h1, h2, h3, h4⟩
    · exact .inl h
    · exact .inr ⟨g, cap, cur, h1, h2, (Below.heap_setCell _ _ _ _ (by simp only; omega)).trans h3, h4⟩
  · refine ((KeepsOthers.alloc W tmp).trans (KeepsOthers.of_grownBy hg fun j o hj ho => ?_)).trans (KeepsOthers.setCell _ _ _)
    rcases hown.2 with ⟨rfl, _⟩ | ⟨g, cap, cur, rfl, hgB, hgb, _⟩
    · cases hj
    · obtain rfl : g = j := by simpa [Value.ownBlock] using hj
      rw [aheap hgb] at ho
      cases ho; rfl
  · intro S w0 h0 hS hk
    have hsz := hk.size
    refine ⟨?_, ?_, ?_, ?_, fun j hj hn => ?_⟩
    · exact hg.os.trans hk.os
    · exact hg.tape.trans hk.tape
    · exact hg.output.trans hk.output
    · have := hg.size
      simp at this ⊢
      omega
    · have hne : j ≠ bT := fun e => hn (e ▸ hS)
      exact (hot j (by omega) hne).trans (hk.block j hj hn)

theorem info_i64t : (Tryz.prog.info? 2).map (fun i => (i.zero, i.size, i.bytes)) = some (some (.int .i64 0), 1, 8) := by kernel_rfl
theorem info64_parts : ∃ i, Tryz.prog.info? 2 = some i ∧ i.zero = some (.int .i64 0) ∧ i.size = 1 ∧ i.bytes = 8 := by
  have h := info_i64t
  cases hi : Tryz.prog.info? 2 with
  | none => rw [hi] at h; cases h
  | some i =>
    rw [hi] at h
    simp at h
    exact ⟨i, rfl, h.1, h.2.1, h.2.2⟩
theorem owns_below {A B : World} {base : Nat} {e : TypeId} {size : Nat} {v : Value} {k : Nat} {xs : List Value} (h : A.ownsRow base e size v k xs) (hb : Below A.heap.size A B) : B.ownsRow base e size v k xs := by
  refine ⟨h.1, ?_⟩
  rcases h.2 with h | ⟨g, cap, cur, h1, h2, h3, h4⟩
  · exact .inl h
  · exact .inr ⟨g, cap, cur, h1, h2, bheap hb h3 (heap_lt h3), h4⟩
theorem owns_setCell {A : World} {base : Nat} {e : TypeId} {size : Nat} {v : Value} {k : Nat} {xs : List Value} (h : A.ownsRow base e size v k xs) {a : Addr} (ha : a.block < base) (u : Value) : (A.setCell a u).ownsRow base e size v k xs := by
  refine ⟨h.1, ?_⟩
  rcases h.2 with h | ⟨g, cap, cur, h1, h2, h3, h4⟩
  · exact .inl h
  · exact .inr ⟨g, cap, cur, h1, h2, (Below.heap_setCell _ _ _ _ (by omega)).trans h3, h4⟩

/-- While the results are laid. -/
def EInv (w3 W0 : World) (v u : Nat) (q : Value) (m n : Nat) (xs : List Value) (W : World) : Prop :=
  W.heap[v + 1]? = some (.cells #[q] 27) ∧ W.heap[v + 2]? = some (.cells #[.int .i64 (m : Int)] 3) ∧ W.heap[v + 3]? = some (.cells #[.int .i64 0] 28) ∧
  W.ownsRow w3.heap.size 2 1 q n xs ∧ Keeps (DS v u) w3 W ∧ KeepsOthers W0 W
section
variable {w3 W0 : World} {v u : Nat} {q : Value} {m n : Nat} {xs : List Value} {W : World}
theorem EInv.drew (h : EInv w3 W0 v u q m n xs W) : EInv w3 W0 v u q m n xs W.drew := by
  obtain ⟨h1, h2, h3, h4, h5, h6⟩ := h
  exact ⟨h1, h2, h3, h4, h5.drew, h6.trans (KeepsOthers.drew W)⟩
theorem EInv.s1 (h : EInv w3 W0 v u q m n xs W) (hv : v + 3 < w3.heap.size) : EInv w3 W0 v u q m n xs (W.setCell ⟨v + 1, 0, none⟩ q) := by
  obtain ⟨h1, h2, h3, h4, h5, h6⟩ := h
  exact ⟨blk_set h1 0 _, blk_set_other h2 (by simp) _, blk_set_other h3 (by simp) _, owns_setCell h4 (by simp only; omega) _, h5.setCell (.inl (.inl rfl)) _, h6.trans (KeepsOthers.setCell _ _ _)⟩
theorem EInv.s2 (h : EInv w3 W0 v u q m n xs W) (hv : v + 3 < w3.heap.size) : EInv w3 W0 v u q m n xs (W.setCell ⟨v + 1 + 1, 0, none⟩ (.int .i64 (m : Int))) := by
  obtain ⟨h1, h2, h3, h4, h5, h6⟩ := h
  exact ⟨blk_set_other h1 (by simp) _, blk_set h2 0 _, blk_set_other h3 (by simp) _, owns_setCell h4 (by simp only; omega) _, h5.setCell (.inl (.inr (.inl rfl))) _, h6.trans (KeepsOthers.setCell _ _ _)⟩
theorem EInv.s3 (h : EInv w3 W0 v u q m n xs W) (hv : v + 3 < w3.heap.size) : EInv w3 W0 v u q m n xs (W.setCell ⟨v + 1 + 1 + 1, 0, none⟩ (.int .i64 0)) := by
  obtain ⟨h1, h2, h3, h4, h5, h6⟩ := h
  exact ⟨blk_set_other h1 (by simp) _, blk_set_other h2 (by simp) _, blk_set h3 0 _, owns_setCell h4 (by simp only; omega) _, h5.setCell (.inl (.inr (.inr (.inl rfl)))) _, h6.trans (KeepsOthers.setCell _ _ _)⟩
end
theorem owns_mono {w : World} {base base' : Nat} {e : TypeId} {size : Nat} {v : Value} {n : Nat} {xs : List Value} (h : w.ownsRow base e size v n xs) (hb : base' ≤ base) : w.ownsRow base' e size v n xs := by
  refine ⟨h.1, ?_⟩
  rcases h.2 with h | ⟨g, cap, cur, h1, h2, h3⟩
  · exact .inl h
  · exact .inr ⟨g, cap, cur, h1, by omega, h3⟩
theorem EInv.ends {w3 W0 : World} {v u : Nat} {q : Value} {m n : Nat} {p : List Int} {W : World} {e : Ex} {c : Nat} {x y : Int} (h : EInv w3 W0 v u q m n ((p.take c).map (Value.int .i64)) W) (hd : dueT e c x y = p.take c ∧ dueM e c x y = m) :
    DE w3 v u e y x c W := by
  obtain ⟨h1, h2, h3, h4, h5, _⟩ := h
  have hn : n = (p.take c).length := by have := h4.1; simpa using this.symm
  subst hn
  refine ⟨⟨q, h1, ?_⟩, ?_, h3, h5⟩
  · rw [hd.1]; exact h4
  · rw [hd.2]; exact h2
theorem eInv_round {w3 W0 : World} {v u : Nat} {q : Value} {m n : Nat} {p : List Int} {z : Int} {W : World} {e : Ex} {c : Nat} {x y : Int} {I1 : World → Prop} {a : Act} (hd : dueT e c x y = p.take c ∧ dueM e c x y = m) (h : EInv w3 W0 v u q m n ((p.take c).map (Value.int .i64)) W) :
    roundEnd (fun _ A => I1 A) (DX w3 v u e y x c) (p ++ [z]) W0 .ret a W :=
  ⟨h.2.2.2.2.2, rfl, h.ends hd⟩

/-- The expression of a template. -/
def exOf (s : Sp) : Ex := (cronF (bsOf s.cron)).1
theorem exOf_ok {s : Sp} (h : tmplB s = true) : (exOf s).Ok := by
  have h2 := (tmpl_is h).2.2.2.1
  unfold exOf
  unfold cronF at h2 ⊢
  split
  · rename_i h3; exact exF_ok _ h3
  · rename_i h3; rw [if_neg h3] at h2; exact absurd h2 h3

/-- What Due leaves of a template, over a span that may be. -/
def DueR (w : World) (s : Sp) (x y : Int) (en : Ending) (w' : World) : Prop :=
  ∃ q, en = .returned (.tuple #[q, .int .i64 (dueM (exOf s) s.catch_.toNat x y : Int), .int .i64 0]) ∧ Below w.heap.size w w' ∧ w'.ownsRow w.heap.size 2 1 q (dueT (exOf s) s.catch_.toNat x y).length ((dueT (exOf s) s.catch_.toNat x y).map (Value.int .i64))

set_option maxRecDepth 100000 in
set_option maxHeartbeats 8000000 in
theorem due_yes (w : World) (hm : MaxL w) (s : Sp) (a : Option Addr) (n cap : Nat) (h : SpAt w s a n cap) (x y : Int) (ht : tmplB s = true) (hr : spansB x y = true) :
    Calls Tryz.prog 8 #[s.v (.slice a n cap), .int .i64 x, .int .i64 y] w (DueR w s x y) := by
  refine (callsIn_wide (n := 5)).1 (callsIn_of_wp_marks Tryz.func8 rfl trivial ?_ rfl)
  have hc := template_at w hm s a n cap h
  rw [ht] at hc
  have HC := Lib.hid hc
  have hpar := (tmpl_is ht).2.2.2.1
  have hk1 := (tmpl_is ht).2.2.2.2.1
  have hk16 := (tmpl_is ht).2.2.2.2.2.1
  have HOK := Lib.hid (exOf_ok ht)
  unfold spansB at hr
  simp only [Bool.and_eq_true, decide_eq_true_eq] at hr
  obtain ⟨⟨hx, hy⟩, hxy⟩ := hr
  have hxy' : ¬ y < x := by omega
  have HRX : Hid (0 ≤ x ∧ x ≤ 1099511627776) := Lib.hid (by unfold rightB at hx; simpa using hx)
  obtain ⟨e, he⟩ : ∃ e, e = exOf s := ⟨_, rfl⟩
  obtain ⟨c, hcc⟩ : ∃ c : Nat, s.catch_ = (c : Int) := ⟨s.catch_.toNat, by omega⟩
  have HPA : Hid (∀ W, MaxL W → Calls Tryz.prog 20 #[.string s.cron] W (RetB (.tuple #[.agg #[.int .u64 e.mi, .int .u64 e.ho, .int .u64 e.da, .int .u64 e.mo, .int .u64 e.we, .bool e.ad, .bool e.aw], .int .i64 0]) W)) := Lib.hid fun W hW => by
    have := cronParse_any W (bsOf s.cron) hW (by rw [bs_len]; exact h.wf.cron)
    rw [bs_back] at this
    have e2 : cronV (cronF (bsOf s.cron)) = .tuple #[.agg #[.int .u64 e.mi, .int .u64 e.ho, .int .u64 e.da, .int .u64 e.mo, .int .u64 e.we, .bool e.ad, .bool e.aw], .int .i64 0] := by
      rw [he]
      unfold cronV exOf
      rw [hpar]
      rfl
    rwa [e2] at this
  have HBT : Hid (∀ W, Calls Tryz.prog 21 #[.agg #[.int .u64 e.mi, .int .u64 e.ho, .int .u64 e.da, .int .u64 e.mo, .int .u64 e.we, .bool e.ad, .bool e.aw], .int .i64 x, .int .i64 y] W fun en w' => en = .returned (.func (.func 37) #[] #[.pointer (some ⟨W.heap.size, 0, none⟩), .pointer (some ⟨W.heap.size + 1, 0, none⟩), .pointer (some ⟨W.heap.size + 2, 0, none⟩)]) ∧ w' = ((W.alloc (.cells e.cells 53)).alloc (.cells #[.int .i64 x] 2)).alloc (.cells #[.int .i64 y] 2)) := Lib.hid fun W => between_any W e x y
  rw [← he] at HOK
  have HM := Lib.hid hm
  have HR : Hid (∀ w' q, Below w.heap.size w w' → w'.ownsRow w.heap.size 2 1 q (dueT e c x y).length ((dueT e c x y).map (Value.int .i64)) → DueR w s x y (.returned (.tuple #[q, .int .i64 (dueM e c x y : Int), .int .i64 0])) w') := Lib.hid fun w' q hb ho => by
    unfold DueR
    rw [← he, hcc]
    exact ⟨q, rfl, hb, ho⟩
  have HC1 : Hid (1 ≤ c ∧ c ≤ 16) := Lib.hid (by omega)
  have HB0 : Hid (Below w.heap.size w ((((w.alloc (.cells #[.string s.name, .string s.ten, .int .i64 s.pri, .int .i64 s.delay, .slice a n cap, .int .i64 s.base, .int .i64 s.cap, .int .i64 s.att, .int .i64 s.lease, .string s.cron, .int .i64 s.catch_] 24)).alloc (.cells #[.slice none 0 0] 27)).alloc (.cells #[.int .i64 0] 3)).alloc (.cells #[.int .i64 0] 28))) := Lib.hid (((((Below.refl _ _).alloc (Nat.le_refl _) _).alloc (by simp) _).alloc (by simp; omega) _).alloc (by simp; omega) _)
  have H0 : Hid (((((w.alloc (.cells #[.string s.name, .string s.ten, .int .i64 s.pri, .int .i64 s.delay, .slice a n cap, .int .i64 s.base, .int .i64 s.cap, .int .i64 s.att, .int .i64 s.lease, .string s.cron, .int .i64 s.catch_] 24)).alloc (.cells #[.slice none 0 0] 27)).alloc (.cells #[.int .i64 0] 3)).alloc (.cells #[.int .i64 0] 28)).heap[w.heap.size]? = some (.cells #[.string s.name, .string s.ten, .int .i64 s.pri, .int .i64 s.delay, .slice a n cap, .int .i64 s.base, .int .i64 s.cap, .int .i64 s.att, .int .i64 s.lease, .string s.cron, .int .i64 s.catch_] 24)) := Lib.hid (aheap (aheap (aheap (heap_newAt rfl) _) _) _)
  have H1 : Hid (((((w.alloc (.cells #[.string s.name, .string s.ten, .int .i64 s.pri, .int .i64 s.delay, .slice a n cap, .int .i64 s.base, .int .i64 s.cap, .int .i64 s.att, .int .i64 s.lease, .string s.cron, .int .i64 s.catch_] 24)).alloc (.cells #[.slice none 0 0] 27)).alloc (.cells #[.int .i64 0] 3)).alloc (.cells #[.int .i64 0] 28)).heap[w.heap.size + 1]? = some (.cells #[.slice none 0 0] 27)) := Lib.hid (aheap (aheap (heap_newAt (by simp)) _) _)
  have H2 : Hid (((((w.alloc (.cells #[.string s.name, .string s.ten, .int .i64 s.pri, .int .i64 s.delay, .slice a n cap, .int .i64 s.base, .int .i64 s.cap, .int .i64 s.att, .int .i64 s.lease, .string s.cron, .int .i64 s.catch_] 24)).alloc (.cells #[.slice none 0 0] 27)).alloc (.cells #[.int .i64 0] 3)).alloc (.cells #[.int .i64 0] 28)).heap[w.heap.size + 2]? = some (.cells #[.int .i64 0] 3)) := Lib.hid (aheap (heap_newAt (by simp)) _)
  have H3 : Hid (((((w.alloc (.cells #[.string s.name, .string s.ten, .int .i64 s.pri, .int .i64 s.delay, .slice a n cap, .int .i64 s.base, .int .i64 s.cap, .int .i64 s.att, .int .i64 s.lease, .string s.cron, .int .i64 s.catch_] 24)).alloc (.cells #[.slice none 0 0] 27)).alloc (.cells #[.int .i64 0] 3)).alloc (.cells #[.int .i64 0] 28)).heap[w.heap.size + 3]? = some (.cells #[.int .i64 0] 28)) := Lib.hid (heap_newAt (by simp))
  rw [hcc] at H0 H1 H2 H3 HB0 HC
  clear hc ht hm h hpar hk1 hk16 hxy
  unfold Sp.v Sp.cells
  rw [hcc]
  clear hcc he
  simp only [Tryz.ntmps8, List.size_toArray, List.length_cons, List.length_nil, Nat.reduceAdd, Nat.reduceSub, Array.replicate_succ, Array.replicate_zero, List.push_toArray, List.append_toArray, List.nil_append, List.cons_append]
  refine wpIn_wide.2 ?_
  go_wp2_with (first | (refine wpList_load_all _ rfl _ _ rfl _ rfl _ _ _ _ (aheap (aheap (aheap (heap_new _ _) _) _) _) rfl _ Tryz.underlying24 rfl info_spec ?_) | fail)
  refine (HC.out _ HB0.out).mono ?_
  rintro en w1 ⟨rfl, hb1⟩
  have HG0 := Lib.hid (bheap hb1 H0.out (heap_lt H0.out))
  have HG1 := Lib.hid (bheap hb1 H1.out (heap_lt H1.out))
  have HG2 := Lib.hid (bheap hb1 H2.out (heap_lt H2.out))
  have HG3 := Lib.hid (bheap hb1 H3.out (heap_lt H3.out))
  have HB1 := Lib.hid (HB0.out.trans (hb1.mono HB0.out.size))
  have c9 : w1.cell? ⟨w.heap.size, 9, none⟩ = some (.string s.cron) := blk_cell HG0.out 9 rfl
  clear hb1 HB0 H0 H1 H2 H3 HC
  go_wp2_with (first | (go_at_call 19; refine (right_any _ _).mono ?_; rintro e w' ⟨rfl, rfl⟩) | fail)
  refine (HPA.out _ (HM.out.step HB1.out)).mono ?_
  rintro en w2 ⟨rfl, hb2⟩
  have HK0 := Lib.hid (bheap hb2 HG0.out (heap_lt HG0.out))
  have HK1 := Lib.hid (bheap hb2 HG1.out (heap_lt HG1.out))
  have HK2 := Lib.hid (bheap hb2 HG2.out (heap_lt HG2.out))
  have HK3 := Lib.hid (bheap hb2 HG3.out (heap_lt HG3.out))
  have HB2 := Lib.hid (HB1.out.trans (hb2.mono HB1.out.size))
  clear hb2 HG0 HG1 HG2 HG3 HB1 HPA c9 hx hy hxy'
  go_wp2_with fail
  refine (HBT.out _).mono ?_
  rintro en w3 ⟨rfl, hw3⟩
  clear HBT
  go_wp2_with fail
  rw [← hw3]
  have hsz : w3.heap.size = w2.heap.size + 4 := by rw [hw3]; simp
  have hE2 : w3.heap[w2.heap.size + 1]? = some (.cells e.cells 53) := by rw [hw3]; exact aheap (aheap (heap_newAt (by simp)) _) _
  have hA : w3.heap[w2.heap.size + 2]? = some (.cells #[.int .i64 x] 2) := by rw [hw3]; exact aheap (heap_newAt (by simp)) _
  have hTo : w3.heap[w2.heap.size + 3]? = some (.cells #[.int .i64 y] 2) := by rw [hw3]; exact heap_newAt (by simp)
  have HL0 : Hid (w3.heap[w.heap.size]? = some (.cells #[.string s.name, .string s.ten, .int .i64 s.pri, .int .i64 s.delay, .slice a n cap, .int .i64 s.base, .int .i64 s.cap, .int .i64 s.att, .int .i64 s.lease, .string s.cron, .int .i64 (c : Int)] 24)) := Lib.hid (by rw [hw3]; exact aheap (aheap (aheap (aheap HK0.out _) _) _) _)
  have HL1 : Hid (w3.heap[w.heap.size + 1]? = some (.cells #[.slice none 0 0] 27)) := Lib.hid (by rw [hw3]; exact aheap (aheap (aheap (aheap HK1.out _) _) _) _)
  have HL2 : Hid (w3.heap[w.heap.size + 2]? = some (.cells #[.int .i64 0] 3)) := Lib.hid (by rw [hw3]; exact aheap (aheap (aheap (aheap HK2.out _) _) _) _)
  have HL3 : Hid (w3.heap[w.heap.size + 3]? = some (.cells #[.int .i64 0] 28)) := Lib.hid (by rw [hw3]; exact aheap (aheap (aheap (aheap HK3.out _) _) _) _)
  have HB3 : Hid (Below w.heap.size w w3) := Lib.hid (by rw [hw3]; exact ((((HB2.out.alloc HB2.out.size _).alloc (by have := HB2.out.size; simp; omega) _).alloc (by have := HB2.out.size; simp; omega) _).alloc (by have := HB2.out.size; simp; omega) _))
  have hlt : w.heap.size + 3 < w2.heap.size := heap_lt HK3.out
  have HLT := Lib.hid hlt
  have HSZ := Lib.hid hsz
  clear hw3 HB2 HK0 HK1 HK2 HK3
  have HV3 : Hid (w.heap.size + 3 < w3.heap.size) := Lib.hid (by omega)
  have FIN : Hid (∀ D W', w3.heap.size ≤ D → W'.heap[D]? = some (.deferred (some [])) → DE w3 w.heap.size w2.heap.size e y x c W' → ∃ q, (W'.putObj D (.deferred none)).cell? ⟨w.heap.size + 1, 0, none⟩ = some q ∧
      (W'.putObj D (.deferred none)).cell? ⟨w.heap.size + 1 + 1, 0, none⟩ = some (.int .i64 (dueM e c x y : Int)) ∧ (W'.putObj D (.deferred none)).cell? ⟨w.heap.size + 1 + 1 + 1, 0, none⟩ = some (.int .i64 0) ∧ W'.heap[D]? = some (.deferred (some [])) ∧
      DueR w s x y (.returned (.tuple #[q, .int .i64 (dueM e c x y : Int), .int .i64 0])) (W'.putObj D (.deferred none))) := Lib.hid fun D W' hD hDef hE => by
    obtain ⟨⟨q, h1, h2⟩, h3, h4, h5⟩ := hE
    refine ⟨q, blk_cell ((World.putObj_heap_other (by omega)).trans h1) 0 rfl, blk_cell ((World.putObj_heap_other (by omega)).trans h3) 0 rfl, blk_cell ((World.putObj_heap_other (by omega)).trans h4) 0 rfl, hDef, ?_⟩
    refine HR.out _ q ?_ ?_
    · exact HB3.out.trans ((h5.putObj hD (.deferred none)).below (by omega) (fun k hk => by unfold DS at hk; omega))
    · exact owns_mono (ownsRow_putObj h2 (.deferred none) hDef rfl) (by omega)
  obtain ⟨K, hK⟩ : ∃ K, K = c + 1048576 := ⟨_, rfl⟩
  have HK := Lib.hid hK
  clear hK
  refine (wpIn_wide (n := 5)).1 ?_
  refine range_law (n := 5) (gf := 37) (lb := #[.pointer (some ⟨w2.heap.size + 1, 0, none⟩), .pointer (some ⟨w2.heap.size + 2, 0, none⟩), .pointer (some ⟨w2.heap.size + 3, 0, none⟩)]) rfl (enters_of Tryz.func37 (by kernel_rfl) rfl) rfl
    (S := DS w.heap.size w2.heap.size) (ba := w2.heap.size + 2) (Step := StepB e y) (Stop := StopB e y) (a0 := x) (w0 := w3)
    (between_iter _ 4 w3 (w2.heap.size + 1) (w2.heap.size + 2) (w2.heap.size + 3) e HOK.out x y hE2 hTo (by unfold DS; omega) (by unfold DS; omega)) (Below.refl _ _) (by rw [hsz]; omega)
    (DI w3 w.heap.size w2.heap.size e y x c K) (DI1 w3 w.heap.size w2.heap.size e y x c K) (DX w3 w.heap.size w2.heap.size e y x c)
    ?ib ?is ?ic ?io ?i1o ?ixo ?h0 ?a1 ?assign ?body ?done ?stop
  case assign =>
    intro l z W K hK
    gi_wp2
    exact hK
  case ib =>
    rintro s A B ⟨⟨q, g1, g1'⟩, g2, g3, g4, g5, g6⟩ hb
    exact ⟨⟨q, bheap hb g1 (heap_lt g1), owns_below g1' hb⟩, bheap hb g2 (heap_lt g2), bheap hb g3 (heap_lt g3), bheap hb g4 (heap_lt g4), g5.trans (Keeps.of_belowS hb), g6⟩
  case is =>
    rintro p b z A ⟨⟨q, g1, g1'⟩, g2, g3, g4, g5, g6, g7, g8⟩
    have h1 := blk_set_other g1 (a := ⟨w2.heap.size + 2, 0, none⟩) (by simp only; omega) (.int .i64 z)
    have h2 := blk_set_other g2 (a := ⟨w2.heap.size + 2, 0, none⟩) (by simp only; omega) (.int .i64 z)
    have h3 := blk_set_other g3 (a := ⟨w2.heap.size + 2, 0, none⟩) (by simp only; omega) (.int .i64 z)
    have h4 := owns_setCell g1' (a := ⟨w2.heap.size + 2, 0, none⟩) (by simp only; omega) (.int .i64 z)
    refine ⟨⟨⟨q, h1, by simpa using h4⟩, by simpa using h2, h3, blk_set g4 0 _, g5.setCell (.inl (.inr (.inr (.inr rfl)))) _, by simp; omega, ?_, ?_⟩, g4⟩
    · have hk : K - p.length = (K - (p.length + 1)) + 1 := by omega
      rw [g7, hk, list_step g8]
      simp
    · have := step_up g8
      show -9223372036854775808 ≤ z ∧ z ≤ 9223372036854775807
      omega
  case ic =>
    rintro s A ⟨g1, g2, g3, g4, g5, g6, g7, g8⟩
    exact ⟨g5, g4, g8⟩
  case io =>
    rintro s A l o o' ⟨⟨q, g1, g1'⟩, g2, g3, g4, g5, g6⟩ hl ho hc
    exact ⟨⟨q, (World.putObj_heap_other (by omega)).trans g1, ownsRow_putObj g1' o' ho hc⟩, (World.putObj_heap_other (by omega)).trans g2, (World.putObj_heap_other (by omega)).trans g3, (World.putObj_heap_other (by omega)).trans g4, g5.putObj hl o', g6⟩
  case i1o =>
    rintro p b z A l o o' ⟨⟨q, g1, g1'⟩, g2, g3, g4, g5, g6⟩ hl ho hc
    exact ⟨⟨q, (World.putObj_heap_other (by omega)).trans g1, ownsRow_putObj g1' o' ho hc⟩, (World.putObj_heap_other (by omega)).trans g2, (World.putObj_heap_other (by omega)).trans g3, (World.putObj_heap_other (by omega)).trans g4, g5.putObj hl o', g6⟩
  case ixo =>
    rintro cd p A l o o' ⟨g0, ⟨q, g1, g1'⟩, g2, g3, g5⟩ hl ho hc
    exact ⟨g0, ⟨q, (World.putObj_heap_other (by omega)).trans g1, ownsRow_putObj g1' o' ho hc⟩, (World.putObj_heap_other (by omega)).trans g2, (World.putObj_heap_other (by omega)).trans g3, g5.putObj hl o'⟩
  case h0 =>
    refine ⟨⟨_, HL1.out, ?_⟩, ?_, HL3.out, hA, Keeps.refl _ _, Nat.zero_le _, rfl, ?_, ?_⟩
    · simpa using World.ownsRow_nil w3 w3.heap.size 2 1
    · simpa using HL2.out
    · have := HRX.out; simp only; omega
    · have := HRX.out; simp only; omega
  case body =>
    rintro l p b z W ⟨⟨q, g1, g1'⟩, g2, g3, g4, g5, g6, g7, g8, g9⟩ hst
    have hW0 := g5.heap (by unfold DS; omega) HL0.out
    have cC : W.cell? ⟨w.heap.size, 10, none⟩ = some (.int .i64 (c : Int)) := blk_cell hW0 10 rfl
    have cT : W.cell? ⟨w.heap.size + 1, 0, none⟩ = some q := blk_cell g1 0 rfl
    have fT : W.frozen? ⟨w.heap.size + 1, 0, none⟩ = false := blk_free g1 0
    have cM : W.cell? ⟨w.heap.size + 1 + 1, 0, none⟩ = some (.int .i64 ((p.length - c : Nat) : Int)) := blk_cell g2 0 rfl
    have fM : W.frozen? ⟨w.heap.size + 1 + 1, 0, none⟩ = false := blk_free g2 0
    have HST := Lib.hid hst
    have G1 := Lib.hid g1
    have G1' := Lib.hid g1'
    have G2 := Lib.hid g2
    have G3 := Lib.hid g3
    have G4 := Lib.hid g4
    have G5 := Lib.hid g5
    have G7 := Lib.hid g7
    have G6 : Hid (p.length ≤ K) := Lib.hid g6
    obtain ⟨qa, qc, hq⟩ : ∃ qa qc, q = .slice qa (min p.length c) qc := by
      rcases g1'.2 with ⟨h1, h2⟩ | ⟨g, cap, cur, h1, _⟩
      · exact ⟨none, 0, by rw [h1]; simp only at h2; rw [h2]⟩
      · exact ⟨_, _, h1⟩
    subst hq
    have HCC := HC1.out
    clear g1 g1' g2 g3 g4 g5 g6 g7 g8 g9 hst hW0 hE2 hA hTo hsz
    by_cases hlt1 : p.length < c
    · have hmn : min p.length c = p.length := by omega
      rw [hmn] at cT G1 G1'
      have ht1 : ((p.length : Nat) : Int) < (c : Int) := by omega
      have HTB : Hid (w.heap.size + 1 < w3.heap.size) := Lib.hid (by have := HSZ.out; omega)
      have HL1P : Hid (p.length + 1 ≤ maxLen) := Lib.hid (by unfold maxLen; omega)
      have HL2P : Hid ((p.length + 1) * 8 ≤ 140737488355328) := Lib.hid (by omega)
      have HL3P : Hid (w3.heap.size ≤ W.heap.size) := Lib.hid G5.out.size
      obtain ⟨i0, hi, hz0, hz1, hz2⟩ := info64_parts
      clear cM fM hlt HCC
      gi_wp2_with (gi_at_builtin; go_loud (refine wpListIn_append_own _ rfl _ _ 27 rfl w3.heap.size 2 i0 (.int .i64 0) 1 8 Tryz.underlying27 hi hz0 hz1 hz2 rfl (by decide) _ _ _ rfl (G1'.out.alloc _) ⟨W.heap.size, 0, none⟩ 1 1 [.int .i64 z] rfl rfl (cell_one_new _ _ _) (by simp [Value.oneCell']) HL1P.out HL2P.out (by have := HL3P.out; simp; omega) ?_; intro q' w4 hown4 hg4 _; have HO4 := Lib.hid hown4; have HG4 := Lib.hid hg4; obtain ⟨g4, cap4, rfl⟩ := ownsRow_succ hown4; have cT4 := blk_cell (due_app G1.out HTB.out HL3P.out G1'.out HO4.out HG4.out).1 0 rfl; have fT4 := blk_free (due_app G1.out HTB.out HL3P.out G1'.out HO4.out HG4.out).1 0; clear hown4 hg4))
      obtain ⟨_, hot, hnew, hown, hko, hkp⟩ := due_app G1.out HTB.out HL3P.out G1'.out HO4.out HG4.out
      have hc16 := HC1.out
      have hs1 := HSZ.out
      have hs2 := HLT.out
      have hkk := HK.out
      have hp1 : p.take c = p := List.take_of_length_le (by omega)
      have hp2 : (p ++ [z]).take c = p ++ [z] := List.take_of_length_le (by simp; omega)
      refine ⟨hko, ⟨_, hnew, ?_⟩, ?_, ?_, ?_, hkp _ _ rfl (.inl rfl) G5.out, by omega, G7.out, HST.out⟩
      · rw [hp1] at hown
        rw [hp2, Nat.min_eq_left (by omega : p.length + 1 ≤ c), List.map_append]
        exact hown
      · rw [hot _ (by omega) (by omega), G2.out, show p.length - c = 0 by omega, show p.length + 1 - c = 0 by omega]
      · rw [hot _ (by omega) (by omega), G3.out]
      · rw [hot _ (by omega) (by omega), G4.out]
    have hmn : min p.length c = c := by omega
    rw [hmn] at cT G1 G1'
    obtain ⟨m, hm⟩ : ∃ m, m = p.length - c := ⟨_, rfl⟩
    rw [← hm] at cM G2
    have HMM := Lib.hid hm
    have HPC : Hid (c ≤ p.length) := Lib.hid (by omega)
    have hcx : ¬ (c : Int) < (c : Int) := by omega
    clear hmn hm hlt1
    by_cases hm1 : (m : Int) < 1048576
    · have hw1 : IntKind.i64.wrap ((m : Int) + 1) = (m : Int) + 1 := by rw [IntKind.wrap_i64]; omega
      have e1 := Lib.hid (blk_set_other G1.out (a := ⟨w.heap.size + 1 + 1, 0, none⟩) (by simp) (.int .i64 ((m : Int) + 1)))
      have e2 := Lib.hid (blk_set G2.out 0 (.int .i64 ((m : Int) + 1)))
      have e3 := Lib.hid (blk_set_other G3.out (a := ⟨w.heap.size + 1 + 1, 0, none⟩) (by simp) (.int .i64 ((m : Int) + 1)))
      have e4 := Lib.hid (blk_set_other G4.out (a := ⟨w.heap.size + 1 + 1, 0, none⟩) (by simp only; omega) (.int .i64 ((m : Int) + 1)))
      have e5 := Lib.hid (owns_setCell G1'.out (a := ⟨w.heap.size + 1 + 1, 0, none⟩) (by have := HSZ.out; simp only; omega) (.int .i64 ((m : Int) + 1)))
      have e6 : Hid (Keeps (DS w.heap.size w2.heap.size) w3 (W.setCell ⟨w.heap.size + 1 + 1, 0, none⟩ (.int .i64 ((m : Int) + 1)))) := Lib.hid (G5.out.setCell (.inl (.inr (.inl rfl))) _)
      have HM1 := Lib.hid hm1
      clear hlt HCC
      gi_wp2
      have hmm := HMM.out
      have hpc := HPC.out
      have hm1' := HM1.out
      have hkk := HK.out
      refine ⟨KeepsOthers.setCell _ _ _, ⟨_, e1.out, ?_⟩, ?_, e3.out, e4.out, e6.out, by omega, G7.out, HST.out⟩
      · rw [Nat.min_eq_right (by omega : c ≤ p.length + 1), List.take_append_of_le_length hpc]
        exact e5.out
      · have := e2.out
        rw [show ((p.length + 1 - c : Nat) : Int) = (m : Int) + 1 by omega]
        simpa using this
    · have hPK : p.length = K := by have h1 := HK.out; have h2 := HMM.out; have h3 := HPC.out; have h4 := G6.out; omega
      have HDT : Hid (dueT e c x y = p.take c ∧ dueM e c x y = m) := Lib.hid (by
        have h7 := G7.out
        rw [hPK, Nat.sub_self] at h7
        have h8 : listF e y 0 b = [] := rfl
        rw [h8, List.append_nil] at h7
        unfold dueT dueM
        rw [← HK.out, h7]
        exact ⟨rfl, HMM.out.symm⟩)
      have cE : W.cell? ⟨w.heap.size + 1 + 1 + 1, 0, none⟩ = some (.int .i64 0) := blk_cell G3.out 0 rfl
      have fE : W.frozen? ⟨w.heap.size + 1 + 1 + 1, 0, none⟩ = false := blk_free G3.out 0
      have E0 : Hid (EInv w3 W w.heap.size w2.heap.size (.slice qa c qc) m c ((p.take c).map (Value.int .i64)) W) := Lib.hid ⟨G1.out, G2.out, G3.out, G1'.out, G5.out, KeepsOthers.refl W⟩
      clear hPK hlt HCC
      gi_wp2
      gi_region
      all_goals
        gi_wp2
        exact eInv_round (p := p) (z := z) (q := .slice qa c qc) (n := c) (I1 := DI1 w3 w.heap.size w2.heap.size e y x c K p b z) HDT.out (by repeat (first | exact E0.out | refine EInv.drew ?_ | refine EInv.s1 ?_ HV3.out | refine EInv.s2 ?_ HV3.out | refine EInv.s3 ?_ HV3.out))
  case done =>
    rintro D p b W hD hstop ⟨⟨q, g1, g1'⟩, g2, g3, g4, g5, g6, g7, g8, g9⟩ hDef
    try simp only at g1 g1' g2 g6 g7
    rw [list_stop hstop, List.append_nil] at g7
    obtain ⟨m, hm⟩ : ∃ m, m = p.length - c := ⟨_, rfl⟩
    rw [← hm] at g2
    have HDT : Hid (dueT e c x y = p.take c ∧ dueM e c x y = m) := Lib.hid (by
      unfold dueT dueM
      rw [← HK.out, g7]
      exact ⟨rfl, hm.symm⟩)
    have E0 : Hid (EInv w3 W w.heap.size w2.heap.size q m (min p.length c) ((p.take c).map (Value.int .i64)) W) := Lib.hid ⟨g1, g2, g3, g1', g5, KeepsOthers.refl W⟩
    obtain ⟨qa, qc, hq⟩ : ∃ qa qc, q = .slice qa (min p.length c) qc := by
      rcases g1'.2 with ⟨h1, h2⟩ | ⟨g, cap, cur, h1, _⟩
      · exact ⟨none, 0, by rw [h1, h2]⟩
      · exact ⟨_, _, h1⟩
    subst hq
    have cT : W.cell? ⟨w.heap.size + 1, 0, none⟩ = some (.slice qa (min p.length c) qc) := blk_cell g1 0 rfl
    have fT : W.frozen? ⟨w.heap.size + 1, 0, none⟩ = false := blk_free g1 0
    have cM : W.cell? ⟨w.heap.size + 1 + 1, 0, none⟩ = some (.int .i64 (m : Int)) := blk_cell g2 0 rfl
    have fM : W.frozen? ⟨w.heap.size + 1 + 1, 0, none⟩ = false := blk_free g2 0
    have cE : W.cell? ⟨w.heap.size + 1 + 1 + 1, 0, none⟩ = some (.int .i64 0) := blk_cell g3 0 rfl
    have fE : W.frozen? ⟨w.heap.size + 1 + 1 + 1, 0, none⟩ = false := blk_free g3 0
    have HDF := Lib.hid hDef
    have HDD := Lib.hid hD
    have HPL : Hid (min p.length c = (p.take c).length) := Lib.hid (by rw [List.length_take, Nat.min_comm])
    clear g1 g1' g2 g3 g4 g5 g6 g7 g8 g9 hDef hD hm hE2 hA hTo hsz hstop
    generalize min p.length c = mn at *
    obtain ⟨W', hW'⟩ : ∃ W', W' = (((W.setCell ⟨w.heap.size + 1, 0, none⟩ (.slice qa mn qc)).setCell ⟨w.heap.size + 1 + 1, 0, none⟩ (.int .i64 (m : Int))).setCell ⟨w.heap.size + 1 + 1 + 1, 0, none⟩ (.int .i64 0)).drew := ⟨_, rfl⟩
    have E1 : EInv w3 W w.heap.size w2.heap.size (.slice qa mn qc) m mn ((p.take c).map (Value.int .i64)) W' := by rw [hW']; exact (((E0.out.s1 HV3.out).s2 HV3.out).s3 HV3.out).drew
    obtain ⟨q, k1, k2, k3, k4, k5⟩ := FIN.out D W' HDD.out (E1.2.2.2.2.2.same D _ HDF.out rfl) (E1.ends HDT.out)
    have K1 := Lib.hid k1
    have K2 := Lib.hid k2
    have K3 := Lib.hid k3
    have K5 := Lib.hid k5
    have K4 := Lib.hid k4
    have HW' := Lib.hid hW'
    clear hW' E1 k1 k2 k3 k4 k5
    go_wp2_with fail
    go_region
    all_goals
      go_wp2_with fail
      rw [← HW'.out]
      refine ⟨by simp, .inl ⟨_, _, rfl, run_takeDeferred K4.out, ?_⟩⟩
      have k1 := K1.out
      have k2 := K2.out
      have k3 := K3.out
      refine ⟨.tuple #[q, .int .i64 (dueM e c x y : Int), .int .i64 0], ?_, K5.out⟩
      simp [results, Tryz.results8, go_sem, k1, k2, k3]
  case stop =>
    rintro D cd p W hD ⟨rfl, hde⟩ hDef
    obtain ⟨q, k1, k2, k3, k4, k5⟩ := FIN.out D W hD hDef hde
    have K1 := Lib.hid k1
    have K2 := Lib.hid k2
    have K3 := Lib.hid k3
    have K5 := Lib.hid k5
    have K4 := Lib.hid k4
    clear hDef hE2 hA hTo hsz k1 k2 k3 k4 k5 hde
    gi_wp2
    refine ⟨by simp, .inl ⟨_, _, rfl, run_takeDeferred K4.out, ?_⟩⟩
    have k1 := K1.out
    have k2 := K2.out
    have k3 := K3.out
    refine ⟨.tuple #[q, .int .i64 (dueM e c x y : Int), .int .i64 0], ?_, K5.out⟩
    simp [results, Tryz.results8, go_sem, k1, k2, k3]

end Go.Proofs.YtldieadbkaphkaaGreatDoor

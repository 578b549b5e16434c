/- Package worker: its object in memory, and the contracts of its methods. -/
import Derived.Test.YtebkdkoamiefjaaName
import Derived.Test.YtebkdkoamiefjaaBlk
import Derived.Test.YtebkdkoamiefjaaSession
import Derived.OneCell
import Derived.Handy
import Derived.Deep.RegionHeld3
namespace Go.Proofs.Ytebkdkoamiefjaa
open Go.RowKit

/-- A worker. -/
structure Wk where
  name : ByteArray
  client : Int
  number : Int
  state : Int
  hn : ByteArray
  ht : Int
  hu : Int
  ac : Int
  an : Int
  ak : Int
  anm : ByteArray
  awk : ByteArray
  atk : Int
  av : Int
  waits : Bool
  done : Int
  lost : Int

def Wk.cells (s : Wk) : Array Value := #[.string s.name, .int .u64 s.client, .int .u64 s.number, .int .i64 s.state, .string s.hn, .int .u64 s.ht, .int .i64 s.hu, .int .u64 s.ac, .int .u64 s.an, .int .i64 s.ak, .string s.anm, .string s.awk, .int .u64 s.atk, .int .i64 s.av, .string ⟨#[]⟩, .string ⟨#[]⟩, .int .i64 0, .int .i64 0, .slice none 0 0, .int .i64 0, .int .i64 0, .int .i64 0, .int .i64 0, .string ⟨#[]⟩, .int .i64 0, .bool s.waits, .int .i64 s.done, .int .i64 s.lost]

def WAt (w : World) (b : Nat) (s : Wk) : Prop := w.heap[b]? = some (.cells s.cells 80 (0, 0))

theorem WAt.c_name {w : World} {b : Nat} {s : Wk} (h : WAt w b s) : w.cell? ⟨b, 0, none⟩ = some (.string s.name) := blk_cell h 0 rfl
theorem WAt.c_client {w : World} {b : Nat} {s : Wk} (h : WAt w b s) : w.cell? ⟨b, 1, none⟩ = some (.int .u64 s.client) := blk_cell h 1 rfl
theorem WAt.c_number {w : World} {b : Nat} {s : Wk} (h : WAt w b s) : w.cell? ⟨b, 2, none⟩ = some (.int .u64 s.number) := blk_cell h 2 rfl
theorem WAt.c_state {w : World} {b : Nat} {s : Wk} (h : WAt w b s) : w.cell? ⟨b, 3, none⟩ = some (.int .i64 s.state) := blk_cell h 3 rfl
theorem WAt.c_hn {w : World} {b : Nat} {s : Wk} (h : WAt w b s) : w.cell? ⟨b, 4, none⟩ = some (.string s.hn) := blk_cell h 4 rfl
theorem WAt.c_ht {w : World} {b : Nat} {s : Wk} (h : WAt w b s) : w.cell? ⟨b, 5, none⟩ = some (.int .u64 s.ht) := blk_cell h 5 rfl
theorem WAt.c_hu {w : World} {b : Nat} {s : Wk} (h : WAt w b s) : w.cell? ⟨b, 6, none⟩ = some (.int .i64 s.hu) := blk_cell h 6 rfl
theorem WAt.c_ac {w : World} {b : Nat} {s : Wk} (h : WAt w b s) : w.cell? ⟨b, 7, none⟩ = some (.int .u64 s.ac) := blk_cell h 7 rfl
theorem WAt.c_an {w : World} {b : Nat} {s : Wk} (h : WAt w b s) : w.cell? ⟨b, 8, none⟩ = some (.int .u64 s.an) := blk_cell h 8 rfl
theorem WAt.c_ak {w : World} {b : Nat} {s : Wk} (h : WAt w b s) : w.cell? ⟨b, 9, none⟩ = some (.int .i64 s.ak) := blk_cell h 9 rfl
theorem WAt.c_anm {w : World} {b : Nat} {s : Wk} (h : WAt w b s) : w.cell? ⟨b, 10, none⟩ = some (.string s.anm) := blk_cell h 10 rfl
theorem WAt.c_awk {w : World} {b : Nat} {s : Wk} (h : WAt w b s) : w.cell? ⟨b, 11, none⟩ = some (.string s.awk) := blk_cell h 11 rfl
theorem WAt.c_atk {w : World} {b : Nat} {s : Wk} (h : WAt w b s) : w.cell? ⟨b, 12, none⟩ = some (.int .u64 s.atk) := blk_cell h 12 rfl
theorem WAt.c_av {w : World} {b : Nat} {s : Wk} (h : WAt w b s) : w.cell? ⟨b, 13, none⟩ = some (.int .i64 s.av) := blk_cell h 13 rfl
theorem WAt.c_waits {w : World} {b : Nat} {s : Wk} (h : WAt w b s) : w.cell? ⟨b, 25, none⟩ = some (.bool s.waits) := blk_cell h 25 rfl
theorem WAt.c_done {w : World} {b : Nat} {s : Wk} (h : WAt w b s) : w.cell? ⟨b, 26, none⟩ = some (.int .i64 s.done) := blk_cell h 26 rfl
theorem WAt.c_lost {w : World} {b : Nat} {s : Wk} (h : WAt w b s) : w.cell? ⟨b, 27, none⟩ = some (.int .i64 s.lost) := blk_cell h 27 rfl
theorem WAt.free {w : World} {b : Nat} {s : Wk} (h : WAt w b s) (i : Nat) : w.frozen? ⟨b, i, none⟩ = false := blk_free h i
theorem WAt.lt {w : World} {b : Nat} {s : Wk} (h : WAt w b s) : b < w.heap.size := lt_of_block h
theorem WAt.alloc {w : World} {b : Nat} {s : Wk} (h : WAt w b s) (o : Obj) : WAt (w.alloc o) b s := aheap h o
theorem WAt.drew {w : World} {b : Nat} {s : Wk} (h : WAt w b s) : WAt w.drew b s := h
theorem WAt.below {w w' : World} {b : Nat} {s : Wk} {B : Nat} (h : WAt w b s) (hb : Below B w w') (hB : b < B) : WAt w' b s := bheap hb h hB

/-- A command of a worker's: its spec is the zero one. -/
structure Cmd where
  kind : Int
  name : ByteArray
  worker : ByteArray
  tok : Int
  val : Int

def Cmd.cells (c : Cmd) : Array Value := #[.int .i64 c.kind, .string c.name, .string c.worker, .int .u64 c.tok, .int .i64 c.val, .string ⟨#[]⟩, .string ⟨#[]⟩, .int .i64 0, .int .i64 0, .slice none 0 0, .int .i64 0, .int .i64 0, .int .i64 0, .int .i64 0, .string ⟨#[]⟩, .int .i64 0]
def Cmd.v (c : Cmd) : Value := .agg #[.int .i64 c.kind, .string c.name, .string c.worker, .int .u64 c.tok, .int .i64 c.val, .string ⟨#[]⟩, .string ⟨#[]⟩, .int .i64 0, .int .i64 0, .slice none 0 0, .int .i64 0, .int .i64 0, .int .i64 0, .int .i64 0, .string ⟨#[]⟩, .int .i64 0]

theorem info_cmd : (Try.prog.info? 52).map (·.size) = some 16 := by kernel_rfl

/-- The command that it asks. -/
def wishF (s : Wk) (draw : Int) : Cmd :=
  if s.state = 0 then ⟨2, ⟨#[]⟩, s.name, 0, 0⟩ else
  if draw % 4 = 2 then ⟨3, s.hn, ⟨#[]⟩, s.ht, 0⟩ else
  if draw % 4 = 3 then ⟨5, s.hn, ⟨#[]⟩, s.ht, 0⟩ else
  ⟨4, s.hn, ⟨#[]⟩, s.ht, draw % 1000⟩

/-- The call returned v, and made two blocks. -/
def RetNN (v : Value) (w : World) (e : Ending) (w' : World) : Prop := e = .returned v ∧ ∃ o o', w' = (w.alloc o).alloc o'

theorem wish_idle (w : World) (b : Nat) (s : Wk) (draw : Int) (h : WAt w b s) (hs : (s.state == 0) = true) :
    Calls Try.prog 33 #[.pointer (some ⟨b, 0, none⟩), .int .u64 draw] w (RetNN (wishF s draw).v w) := by
  have c0 := h.c_name
  have c3 := h.c_state
  have hlt := h.lt
  have e1 : wishF s draw = ⟨2, ⟨#[]⟩, s.name, 0, 0⟩ := by unfold wishF; rw [if_pos (by simpa using hs)]
  rw [e1]
  clear e1 h
  go_enter Try.func33, Try.ntmps33
  go_wp2_with (first
    | (refine wpList_store_fresh _ rfl _ _ _ rfl _ rfl _ rfl _ _ _ rfl ?_ ?_ rfl info_cmd ?_ ?_; (focus (simp; done)); (focus (simp; done)); (focus (simp [OneCells, Value.oneCell']; done)))
    | (refine wpList_store_fresh2 _ rfl _ _ _ rfl _ rfl _ rfl _ _ _ _ rfl ?_ ?_ rfl info_cmd ?_ ?_; (focus (simp; done)); (focus (simp; done)); (focus (simp [OneCells, Value.oneCell']; done)))
    | (refine wpList_load_fresh _ rfl _ _ rfl _ rfl _ _ _ rfl _ Try.underlying52 rfl ?_ info_cmd ?_; (focus (simp; done)))
    | (refine wpList_load_fresh2 _ rfl _ _ rfl _ rfl _ _ _ _ rfl _ Try.underlying52 rfl ?_ info_cmd ?_; (focus (simp; done))))
  exact bodyPost_ret (results_blk Try.results33 _ _ _ _ _ _ rfl (aheap (heap_new w _) _) _ Try.underlying52 rfl info_cmd) rfl ⟨rfl, _, _, rfl⟩

set_option maxHeartbeats 1000000 in
theorem wish_busy (w : World) (b : Nat) (s : Wk) (draw : Int) (h : WAt w b s) (hs : (s.state == 0) = false) (hd : 0 ≤ draw) (hd1 : draw ≤ 18446744073709551615) :
    Calls Try.prog 33 #[.pointer (some ⟨b, 0, none⟩), .int .u64 draw] w (RetB (wishF s draw).v w) := by
  have c0 := h.c_name
  have c3 := h.c_state
  have hlt := h.lt
  have hd4 : 0 ≤ draw % 4 ∧ draw % 4 < 4 := by omega
  have hd5 : 0 ≤ draw % 1000 ∧ draw % 1000 < 1000 := by omega
  obtain ⟨hd4, hd4'⟩ := hd4
  obtain ⟨hd5, hd5'⟩ := hd5
  go_enter Try.func33, Try.ntmps33
  go_wp2_with (first
    | (refine wpList_store_fresh _ rfl _ _ _ rfl _ rfl _ rfl _ _ _ rfl ?_ ?_ rfl info_cmd ?_ ?_; (focus (simp; done)); (focus (simp; done)); (focus (simp [OneCells, Value.oneCell']; done))))
  refine still_tail 11 (by kernel_rfl) (by kernel_rfl) ?_
  intro W hW
  have hT : WAt W b s := by subst hW; exact ((h.alloc _).alloc _).drew
  have hk : Below w.heap.size w W := by subst hW; exact (((Below.refl _ _).alloc (Nat.le_refl _) _).alloc (by simp) _).drew
  have h4 : W.heap[w.heap.size]? = some (.cells (Cmd.mk 0 ⟨#[]⟩ ⟨#[]⟩ 0 0).cells 52) := by subst hW; exact aheap (heap_new w _) _
  have h5 : W.heap[w.heap.size + 1]? = some (.cells (Cmd.mk 2 ⟨#[]⟩ s.name 0 0).cells 52) := by
    subst hW
    have := heap_new (w.alloc (.cells (Cmd.mk 0 ⟨#[]⟩ ⟨#[]⟩ 0 0).cells 52)) (.cells (Cmd.mk 2 ⟨#[]⟩ s.name 0 0).cells 52)
    rw [World.size_alloc] at this
    exact this
  clear hW h c0 c3
  have c4 := hT.c_hn
  have c5 := hT.c_ht
  simp only [List.take_succ_cons, List.take_zero, List.drop_succ_cons, List.drop_zero]
  repeat still_step
  refine wpStill_nil ?_
  clear c4 c5 hT
  refine wpList_store_all _ rfl _ _ _ rfl _ rfl _ rfl _ _ h5 (by simp) (by simp [Cmd.cells]) info_cmd (by simp [OneCells, Value.oneCell']) ?_
  intro W2 g5 hk2 hz2
  have g4 := hk2.heap (by omega) h4
  have s5 := heap_lt h5
  have gB : Below w.heap.size w W2 := hk.trans (hk2.below (by omega) (by omega))
  clear h4 h5 hk hk2
  have c0 : W2.cell? ⟨w.heap.size + 1, 0, none⟩ = some (.int .i64 0) := blk_cell g5 0 rfl
  have c4 : W2.cell? ⟨w.heap.size + 1, 4, none⟩ = some (.int .i64 0) := blk_cell g5 4 rfl
  have f5 := blk_free g5
  have q4 := heap_lt g4
  have q5 := heap_lt g5
  by_cases e2 : draw % 4 = 2
  · have ew : wishF s draw = ⟨3, s.hn, ⟨#[]⟩, s.ht, 0⟩ := by unfold wishF; rw [if_neg (by simpa using hs), if_pos e2]
    have HE := Lib.hid ew
    clear ew
    go_wp2_with (first
      | (refine wpList_load_all _ rfl _ _ rfl _ rfl _ (Cmd.mk 3 s.hn ⟨#[]⟩ s.ht 0).cells _ _ (blk_set g5 _ _) rfl _ Try.underlying52 rfl info_cmd ?_)
      | (refine wpList_store_all _ rfl _ _ _ rfl _ rfl _ rfl _ _ (blk_set_other g4 (Nat.ne_of_lt (Nat.lt_succ_self _)) _) ?_ ?_ info_cmd ?_ ?_; (focus (simp [Cmd.cells]; done)); (focus (simp [Cmd.cells]; done)); (focus (simp [Cmd.cells, OneCells, Value.oneCell']; done))))
    intro W3 g6 hk3 hz3
    have gC : Below w.heap.size w W3 := by
      refine Below.trans ?_ (hk3.below (B := w.heap.size) ?_ (by omega))
      · exact gB.setCell (by simp) _
      · simp only [World.size_setCell]; omega
    clear g4 g5 gB hk3
    go_wp2_with fail
    exact bodyPost_ret (results_blk Try.results33 _ _ _ _ _ _ rfl g6 _ Try.underlying52 rfl info_cmd) rfl ⟨by rw [HE.out]; rfl, gC⟩
  by_cases e3 : draw % 4 = 3
  · have ew : wishF s draw = ⟨5, s.hn, ⟨#[]⟩, s.ht, 0⟩ := by unfold wishF; rw [if_neg (by simpa using hs), if_neg e2, if_pos e3]
    have HE := Lib.hid ew
    clear ew
    go_wp2_with (first
      | (refine wpList_load_all _ rfl _ _ rfl _ rfl _ (Cmd.mk 5 s.hn ⟨#[]⟩ s.ht 0).cells _ _ (blk_set g5 _ _) rfl _ Try.underlying52 rfl info_cmd ?_)
      | (refine wpList_store_all _ rfl _ _ _ rfl _ rfl _ rfl _ _ (blk_set_other g4 (Nat.ne_of_lt (Nat.lt_succ_self _)) _) ?_ ?_ info_cmd ?_ ?_; (focus (simp [Cmd.cells]; done)); (focus (simp [Cmd.cells]; done)); (focus (simp [Cmd.cells, OneCells, Value.oneCell']; done))))
    intro W3 g6 hk3 hz3
    have gC : Below w.heap.size w W3 := by
      refine Below.trans ?_ (hk3.below (B := w.heap.size) ?_ (by omega))
      · exact gB.setCell (by simp) _
      · simp only [World.size_setCell]; omega
    clear g4 g5 gB hk3
    go_wp2_with fail
    exact bodyPost_ret (results_blk Try.results33 _ _ _ _ _ _ rfl g6 _ Try.underlying52 rfl info_cmd) rfl ⟨by rw [HE.out]; rfl, gC⟩
  · have ew : wishF s draw = ⟨4, s.hn, ⟨#[]⟩, s.ht, draw % 1000⟩ := by unfold wishF; rw [if_neg (by simpa using hs), if_neg e2, if_neg e3]
    have HE := Lib.hid ew
    have k2 : (draw % 4 == 2) = false := by simpa using e2
    have k3 : (draw % 4 == 3) = false := by simpa using e3
    clear ew e2 e3
    have g7 : ((W2.setCell ⟨w.heap.size + 1, 0, none⟩ (.int .i64 4)).setCell ⟨w.heap.size + 1, 4, none⟩ (.int .i64 (draw % 1000))).heap[w.heap.size + 1]? = some (.cells (Cmd.mk 4 s.hn ⟨#[]⟩ s.ht (draw % 1000)).cells 52) := by
      generalize draw % 1000 = x
      exact blk_set (blk_set g5 0 _) 4 _
    have g8 : ((W2.setCell ⟨w.heap.size + 1, 0, none⟩ (.int .i64 4)).setCell ⟨w.heap.size + 1, 4, none⟩ (.int .i64 (draw % 1000))).heap[w.heap.size]? = some (.cells (Cmd.mk 0 ⟨#[]⟩ ⟨#[]⟩ 0 0).cells 52) :=
      blk_set_other (blk_set_other g4 (by simp) _) (by simp) _
    have gB2 := (gB.setCell (p := ⟨w.heap.size + 1, 0, none⟩) (by simp) (.int .i64 4)).setCell (p := ⟨w.heap.size + 1, 4, none⟩) (by simp) (.int .i64 (draw % 1000))
    have G7 := Lib.hid g7
    have G8 := Lib.hid g8
    clear g7 g8 g4 g5
    go_wp2_with (first
      | (refine wpList_load_all _ rfl _ _ rfl _ rfl _ _ _ _ G7.out rfl _ Try.underlying52 rfl info_cmd ?_)
      | (refine wpList_store_all _ rfl _ _ _ rfl _ rfl _ rfl _ _ G8.out ?_ ?_ info_cmd ?_ ?_; (focus (simp [Cmd.cells]; done)); (focus (simp [Cmd.cells]; done)); (focus (simp [Cmd.cells, OneCells, Value.oneCell']; done))))
    intro W3 g6 hk3 hz3
    have gC : Below w.heap.size w W3 := by
      refine gB2.trans (hk3.below (B := w.heap.size) ?_ (by omega))
      simp only [World.size_setCell]; omega
    clear gB hk3 G7 G8 gB2
    go_wp2_with fail
    exact bodyPost_ret (results_blk Try.results33 _ _ _ _ _ _ rfl g6 _ Try.underlying52 rfl info_cmd) rfl ⟨by rw [HE.out]; rfl, gC⟩

/-- The call returned v, the worker is s then, and all else is as it was. -/
def RetW (v : Value) (b : Nat) (s : Wk) (w : World) (e : Ending) (w' : World) : Prop := e = .returned v ∧ WAt w' b s ∧ Keeps (fun k => k = b) w w'

theorem free_any (w : World) (b : Nat) (s : Wk) (h : WAt w b s) :
    Calls Try.prog 38 #[.pointer (some ⟨b, 0, none⟩)] w (RetW (.tuple #[]) b { s with state := 0, hn := ⟨#[]⟩, ht := 0, hu := 0 } w) := by
  have c3 := h.c_state
  have c4 := h.c_hn
  have c5 := h.c_ht
  have c6 := h.c_hu
  have hf := h.free
  have H := Lib.hid h
  clear h
  go_enter Try.func38, Try.ntmps38
  go_wp2
  go_end0
  exact ⟨rfl, blk_set (blk_set (blk_set (blk_set H.out 3 _) 4 _) 5 _) 6 _, ((((Keeps.refl (fun k => k = b) w).setCell (.inl rfl) _).setCell (.inl rfl) _).setCell (.inl rfl) _).setCell (.inl rfl) _⟩

def againB (e : Int) : Bool := decide (e = 17) || decide (e = 18) || decide (e = 19) || decide (e = 6)

theorem again_any (e : Int) (w : World) : Calls Try.prog 34 #[.int .i64 e] w (Ret (.bool (againB e)) w) := by
  go_enter Try.func34, Try.ntmps34
  go_wp2
  all_goals
    go_ret
    exact Ret.mk (bool_eq (by first | (simp_all [againB]; done) | (rw [Bool.eq_iff_iff]; simp_all [againB]; done) | (rw [Bool.eq_iff_iff]; simp [againB]; omega)))

theorem leased_no (w : World) (b : Nat) (s : Wk) (h : WAt w b s) (a : Ans) (ha : (a.err == 0) = false) :
    Calls Try.prog 35 #[.pointer (some ⟨b, 0, none⟩), a.v] w (RetW (.tuple #[]) b { s with state := 0, hn := ⟨#[]⟩, ht := 0, hu := 0 } w) := by
  have hf := free_any (w.alloc (.cells a.cells 38)) b s (h.alloc _)
  unfold Ans.v
  go_enter Try.func35, Try.ntmps35
  go_wp2_with (go_at_call 38; refine hf.mono ?_; rintro e w1 ⟨rfl, h1, hk⟩)
  go_end0
  exact ⟨rfl, h1, ((Keeps.refl _ _).alloc _).trans (hk.mono (by simp))⟩

theorem leased_yes (w : World) (b : Nat) (s : Wk) (h : WAt w b s) (a : Ans) (ha : (a.err == 0) = true) :
    Calls Try.prog 35 #[.pointer (some ⟨b, 0, none⟩), a.v] w (RetW (.tuple #[]) b { s with state := 1, hn := a.name, ht := a.tok, hu := a.val } w) := by
  unfold Ans.v
  go_enter Try.func35, Try.ntmps35
  go_wp2
  obtain ⟨W, hW⟩ : ∃ W, W = w.alloc (.cells a.cells 38) := ⟨_, rfl⟩
  have hT : WAt W b s := by subst hW; exact (h.alloc _)
  have hk : Keeps (fun k => k = b) w W := by subst hW; exact ((Keeps.refl _ _).alloc _)
  have hx : W.heap[w.heap.size]? = some (.cells a.cells 38) := by subst hW; exact heap_new w _
  have x1 : W.cell? ⟨w.heap.size, 1, none⟩ = some (.string a.name) := blk_cell hx 1 rfl
  have x2 : W.cell? ⟨w.heap.size, 2, none⟩ = some (.int .u64 a.tok) := blk_cell hx 2 rfl
  have x3 : W.cell? ⟨w.heap.size, 3, none⟩ = some (.int .i64 a.val) := blk_cell hx 3 rfl
  have c3 := hT.c_state
  have c4 := hT.c_hn
  have c5 := hT.c_ht
  have c6 := hT.c_hu
  have hf := hT.free
  have hne : b ≠ w.heap.size := Nat.ne_of_lt h.lt
  have H := Lib.hid hT
  have hwp : ∀ {P : World → Prop}, P W → P (w.alloc (.cells a.cells 38)) := fun h => hW ▸ h
  refine hwp (P := fun X => Code.wp _ _ _ _ X) ?_
  clear hT hwp hW h hx
  go_region
  go_end0
  exact ⟨rfl, blk_set (blk_set (blk_set (blk_set H.out 3 _) 4 _) 5 _) 6 _, ((((hk.setCell (.inl rfl) _).setCell (.inl rfl) _).setCell (.inl rfl) _).setCell (.inl rfl) _).drew⟩

def Wk.freed (s : Wk) : Wk := { s with state := 0, hn := ⟨#[]⟩, ht := 0, hu := 0 }

/-- An answer to one of the others. -/
def toldF (s : Wk) (kind : Int) (a : Ans) : Wk :=
  if a.err = 0 ∧ kind = 3 then { s with hu := a.val } else
  if kind = 4 ∧ (a.err = 0 ∨ a.err = 13) then { s with done := s.done + 1 }.freed else
  if a.err ≠ 0 then { s with lost := s.lost + 1 }.freed else s.freed

section
variable (w : World) (b : Nat) (s : Wk) (kind : Int) (a : Ans) (h : WAt w b s)
include h

theorem told_renew (h0 : (a.err == 0) = true) (h3 : (kind == 3) = true) :
    Calls Try.prog 36 #[.pointer (some ⟨b, 0, none⟩), .int .i64 kind, a.v] w (RetW (.tuple #[]) b (toldF s kind a) w) := by
  have e : toldF s kind a = { s with hu := a.val } := by unfold toldF; rw [if_pos ⟨by simpa using h0, by simpa using h3⟩]
  rw [e]
  clear e
  unfold Ans.v
  have c6 := h.c_hu
  have hf := h.free
  have hlt := h.lt
  have hne := Nat.ne_of_lt h.lt
  have H := Lib.hid h
  clear h
  go_enter Try.func36, Try.ntmps36
  go_wp2
  go_end0
  exact ⟨rfl, aheap (blk_set H.out 6 _) _, ((Keeps.refl (fun k => k = b) w).setCell (.inl rfl) _).alloc _⟩

theorem told_done (hd : 0 ≤ s.done ∧ s.done ≤ 1000000) (h0 : (a.err == 0) = true ∨ (a.err == 0) = false ∧ (a.err == 13) = true) (h4 : (kind == 4) = true) :
    Calls Try.prog 36 #[.pointer (some ⟨b, 0, none⟩), .int .i64 kind, a.v] w (RetW (.tuple #[]) b (toldF s kind a) w) := by
  have k4 : kind = 4 := by simpa using h4
  have e : toldF s kind a = { s with done := s.done + 1 }.freed := by
    unfold toldF; rw [if_neg (by omega), if_pos ⟨k4, by rcases h0 with h0 | h0; exact .inl (by simpa using h0); exact .inr (by simpa using h0.2)⟩]
  have HE := Lib.hid e
  clear e
  subst k4
  clear h4
  unfold Ans.v
  obtain ⟨hd1, hd2⟩ := hd
  have c7 := h.c_done
  have hf := h.free
  have hlt := h.lt
  have hne := Nat.ne_of_lt h.lt
  have H := Lib.hid h
  clear h
  rcases h0 with h0 | ⟨h0, h13⟩
  all_goals
    go_enter Try.func36, Try.ntmps36
    go_wp2_with (go_at_call 38; refine (free_any _ b { s with done := s.done + 1 } (aheap (blk_set H.out 26 _) _)).mono ?_; rintro e w1 ⟨rfl, h1, hk⟩)
    go_end0
    exact ⟨rfl, by rw [HE.out]; exact h1, (((Keeps.refl (fun k => k = b) w).setCell (.inl rfl) _).alloc _).trans (hk.mono (fun _ _ h => h))⟩

theorem told_lost (hd : 0 ≤ s.lost ∧ s.lost ≤ 1000000) (h0 : (a.err == 0) = false) (h4 : (kind == 4) = false ∨ (kind == 4) = true ∧ (a.err == 13) = false) :
    Calls Try.prog 36 #[.pointer (some ⟨b, 0, none⟩), .int .i64 kind, a.v] w (RetW (.tuple #[]) b (toldF s kind a) w) := by
  have e : toldF s kind a = { s with lost := s.lost + 1 }.freed := by
    have k0 : ¬ a.err = 0 := by simpa using h0
    unfold toldF; rw [if_neg (fun x => k0 x.1), if_neg, if_pos k0]
    rintro ⟨x, y⟩
    rcases h4 with h4 | ⟨_, h4⟩
    · simp [x] at h4
    · rcases y with y | y
      · exact k0 y
      · simp [y] at h4
  have HE := Lib.hid e
  clear e
  unfold Ans.v
  obtain ⟨hd1, hd2⟩ := hd
  have c8 := h.c_lost
  have hf := h.free
  have hlt := h.lt
  have hne := Nat.ne_of_lt h.lt
  have H := Lib.hid h
  clear h
  rcases h4 with h4 | ⟨h4, h13⟩
  all_goals
    go_enter Try.func36, Try.ntmps36
    go_wp2_with (go_at_call 38; refine (free_any _ b { s with lost := s.lost + 1 } (aheap (blk_set H.out 27 _) _)).mono ?_; rintro e w1 ⟨rfl, h1, hk⟩)
    go_end0
    exact ⟨rfl, by rw [HE.out]; exact h1, (((Keeps.refl (fun k => k = b) w).setCell (.inl rfl) _).alloc _).trans (hk.mono (fun _ _ h => h))⟩

theorem told_else (h0 : (a.err == 0) = true) (h3 : (kind == 3) = false) (h4 : (kind == 4) = false) :
    Calls Try.prog 36 #[.pointer (some ⟨b, 0, none⟩), .int .i64 kind, a.v] w (RetW (.tuple #[]) b (toldF s kind a) w) := by
  have e : toldF s kind a = s.freed := by
    have k0 : a.err = 0 := by simpa using h0
    have k3 : ¬ kind = 3 := by simpa using h3
    have k4 : ¬ kind = 4 := by simpa using h4
    unfold toldF; rw [if_neg (fun x => k3 x.2), if_neg (fun x => k4 x.1), if_neg (fun x => x k0)]
  have HE := Lib.hid e
  clear e
  unfold Ans.v
  have hlt := h.lt
  have hne := Nat.ne_of_lt h.lt
  have H := Lib.hid (h.alloc (.cells a.cells 38))
  clear h
  go_enter Try.func36, Try.ntmps36
  go_wp2_with (go_at_call 38; refine (free_any _ b s H.out).mono ?_; rintro e w1 ⟨rfl, h1, hk⟩)
  go_end0
  exact ⟨rfl, by rw [HE.out]; exact h1, ((Keeps.refl (fun k => k = b) w).alloc _).trans (hk.mono (fun _ _ h => h))⟩

theorem told_any (hd : 0 ≤ s.done ∧ s.done ≤ 1000000) (hl : 0 ≤ s.lost ∧ s.lost ≤ 1000000) :
    Calls Try.prog 36 #[.pointer (some ⟨b, 0, none⟩), .int .i64 kind, a.v] w (RetW (.tuple #[]) b (toldF s kind a) w) := by
  cases h0 : (a.err == 0) <;> cases h3 : (kind == 3) <;> cases h4 : (kind == 4) <;> cases h13 : (a.err == 13)
  all_goals first
    | exact told_renew w b s kind a h h0 h3
    | exact told_else w b s kind a h h0 h3 h4
    | exact told_done w b s kind a h hd (.inl h0) h4
    | exact told_done w b s kind a h hd (.inr ⟨h0, h13⟩) h4
    | exact told_lost w b s kind a h hl h0 (.inl h4)
    | exact told_lost w b s kind a h hl h0 (.inr ⟨h4, h13⟩)
end

end Go.Proofs.Ytebkdkoamiefjaa

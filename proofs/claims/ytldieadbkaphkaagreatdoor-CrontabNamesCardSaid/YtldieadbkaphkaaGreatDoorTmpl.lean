/- Package crontab: template, right. -/
import Derived.Test.YtldieadbkaphkaaGreatDoorSpecC
namespace Go.Proofs.YtldieadbkaphkaaGreatDoor
open Go.RowKit Go.ChangeMaps

def rightB (t : Int) : Bool := decide (0 ≤ t) && decide (t ≤ 1099511627776)
theorem right_any (w : World) (x : Int) : Calls Tryz.prog 19 #[.int .i64 x] w (Ret (.bool (rightB x)) w) := by
  by_cases h1 : 0 ≤ x <;> by_cases h2 : x ≤ 1099511627776
  all_goals
    go_enter Tryz.func19, Tryz.ntmps19
    go_wp2
    go_ret
    exact Ret.mk (bool_eq (by unfold rightB; simp [h1, h2]))

set_option maxRecDepth 100000 in
set_option maxHeartbeats 4000000 in
theorem template_any (w : World) (hm : MaxL w) (s : Sp) (a : Option Addr) (n cap : Nat) (h : SpAt w s a n cap) : Calls Tryz.prog 18 #[s.v (.slice a n cap)] w (RetB (.bool (tmplB s)) w) := by
  have HC : Hid (∀ W, MaxL W → Sl strv W (.slice a n cap) s.deps → Calls Tryz.prog 33 #[.agg #[.string s.name, .string s.ten, .int .i64 s.pri, .int .i64 s.delay, .slice a n cap, .int .i64 s.base, .int .i64 s.cap, .int .i64 s.att, .int .i64 s.lease, .string s.cron, .int .i64 s.catch_]] W (RetB (.int .i64 (checkF s)) W)) := Lib.hid fun W hW hs => check_any W hW s a n cap ⟨h.wf, hs⟩
  have HB : Hid (Below w.heap.size w (w.alloc (.cells #[.string s.name, .string s.ten, .int .i64 s.pri, .int .i64 s.delay, .slice a n cap, .int .i64 s.base, .int .i64 s.cap, .int .i64 s.att, .int .i64 s.lease, .string s.cron, .int .i64 s.catch_] 24))) := Lib.hid ((Below.refl _ _).alloc (Nat.le_refl _) _)
  have HX := Lib.hid (heap_new w (.cells #[.string s.name, .string s.ten, .int .i64 s.pri, .int .i64 s.delay, .slice a n cap, .int .i64 s.base, .int .i64 s.cap, .int .i64 s.att, .int .i64 s.lease, .string s.cron, .int .i64 s.catch_] 24))
  have hc := HC.out _ (hm.step HB.out) (h.row.below HB.out h.row.row_lt)
  have HT : Hid (tmplB s = (decide (s.cron.size ≠ 0) && decide (checkF s = 0))) := Lib.hid rfl
  clear h hm HC
  unfold Sp.v Sp.cells
  generalize checkF s = r at *
  generalize tmplB s = q at *
  by_cases h0 : s.cron.size = 0
  · have e9 := empty_yes h0
    have e9' : s.cron.toList.isEmpty = true := by rw [e9]; rfl
    have HQ : Hid (q = false) := Lib.hid (by rw [HT.out]; simp [h0])
    clear h0 HT hc
    go_enter Tryz.func18, Tryz.ntmps18
    go_wp2_with fail
    go_ret
    exact RetB.mk (by rw [HQ.out]; rfl) HB.out
  have e9 := empty_no h0
  have e9' : s.cron.toList.isEmpty = false := by simpa using e9
  by_cases h1 : r = 0
  · have HQ : Hid (q = true) := Lib.hid (by rw [HT.out]; simp [h0, h1])
    have h1' : (r == 0) = true := by simp [h1]
    clear h0 HT h1
    go_enter Tryz.func18, Tryz.ntmps18
    go_wp2_with (first | (refine wpList_load_all _ rfl _ _ rfl _ rfl _ _ _ _ HX.out rfl _ Tryz.underlying24 rfl info_spec ?_) | fail)
    refine hc.mono ?_
    rintro en w1 ⟨rfl, hb1⟩
    go_wp2_with fail
    go_ret
    exact RetB.mk (by rw [HQ.out]; first | rfl | simp [h1']) (HB.out.trans (hb1.mono HB.out.size))
  · have HQ : Hid (q = false) := Lib.hid (by rw [HT.out]; simp [h0, h1])
    have h1' : (r == 0) = false := by simp [h1]
    clear h0 HT h1
    go_enter Tryz.func18, Tryz.ntmps18
    go_wp2_with (first | (refine wpList_load_all _ rfl _ _ rfl _ rfl _ _ _ _ HX.out rfl _ Tryz.underlying24 rfl info_spec ?_) | fail)
    refine hc.mono ?_
    rintro en w1 ⟨rfl, hb1⟩
    go_wp2_with fail
    go_ret
    exact RetB.mk (by rw [HQ.out]; first | rfl | simp [h1']) (HB.out.trans (hb1.mono HB.out.size))

theorem template_at (w : World) (hm : MaxL w) (s : Sp) (a : Option Addr) (n cap : Nat) (h : SpAt w s a n cap) (W : World) (hb : Below w.heap.size w W) :
    Calls Tryz.prog 18 #[.agg #[.string s.name, .string s.ten, .int .i64 s.pri, .int .i64 s.delay, .slice a n cap, .int .i64 s.base, .int .i64 s.cap, .int .i64 s.att, .int .i64 s.lease, .string s.cron, .int .i64 s.catch_]] W (RetB (.bool (tmplB s)) W) :=
  template_any W (hm.step hb) s a n cap ⟨h.wf, h.row.below hb h.row.row_lt⟩

/-- May these ticks be? -/
def spansB (x y : Int) : Bool := rightB x && rightB y && decide (x ≤ y)

theorem heap_newAt {W : World} {o : Obj} {k : Nat} (h : k = W.heap.size) : (W.alloc o).heap[k]? = some o := by subst h; exact heap_new W o

end Go.Proofs.YtldieadbkaphkaaGreatDoor

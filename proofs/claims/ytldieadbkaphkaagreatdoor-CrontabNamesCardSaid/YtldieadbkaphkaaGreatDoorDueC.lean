/- Package crontab: Due in whole; the statements' own first check (lives), and which specs are little (Few). -/
import Derived.Test.YtldieadbkaphkaaGreatDoorDueA
import Derived.Test.YtldieadbkaphkaaGreatDoorDueB
namespace Go.Proofs.YtldieadbkaphkaaGreatDoor
open Go.RowKit Go.ChangeMaps

def i64v (n : Int) : Value := .int .i64 n
/-- What Due tells: the ticks, how many more, the fault. -/
def dueF (s : Sp) (x y : Int) : List Int × Nat × Int :=
  if tmplB s = true then (if spansB x y = true then (dueT (exOf s) s.catch_.toNat x y, dueM (exOf s) s.catch_.toNat x y, 0) else ([], 0, 3)) else ([], 0, 1)
/-- What a call of Due leaves. -/
def DueP (w : World) (r : List Int × Nat × Int) (en : Ending) (w' : World) : Prop :=
  ∃ a cap, en = .returned (.tuple #[.slice a r.1.length cap, .int .i64 (r.2.1 : Int), .int .i64 r.2.2]) ∧ Below w.heap.size w w' ∧ Sl i64v w' (.slice a r.1.length cap) r.1

theorem due_any (w : World) (hm : MaxL w) (s : Sp) (a : Option Addr) (n cap : Nat) (h : SpAt w s a n cap) (x y : Int) :
    Calls Tryz.prog 8 #[s.v (.slice a n cap), .int .i64 x, .int .i64 y] w (DueP w (dueF s x y)) := by
  cases ht : tmplB s
  · refine (due_arg w hm s a n cap h x y ht).mono ?_
    rintro en w' ⟨rfl, hb⟩
    unfold dueF
    rw [ht]
    exact ⟨none, 0, rfl, hb, Sl.nil _ _⟩
  cases hr : spansB x y
  · refine (due_range w hm s a n cap h x y ht hr).mono ?_
    rintro en w' ⟨rfl, hb⟩
    unfold dueF
    rw [ht, hr]
    exact ⟨none, 0, rfl, hb, Sl.nil _ _⟩
  · refine (due_yes w hm s a n cap h x y ht hr).mono ?_
    rintro en w' ⟨q, rfl, hb, ho⟩
    unfold dueF
    rw [ht, hr]
    have hs := owns_sl (enc := i64v) (owns_mono ho (Nat.zero_le _))
    obtain ⟨qa, qc, rfl, h1⟩ := hs
    exact ⟨qa, qc, rfl, hb, ⟨qa, qc, rfl, h1⟩⟩

/-- The statements' own template. -/
def evS : Sp := ⟨⟨#[97]⟩, ⟨#[116]⟩, 0, 0, [], 0, 0, 1, 1, ⟨#[42, 32, 42, 32, 42, 32, 42, 32, 42]⟩, 2⟩
theorem ev_wf : evS.Wf := by
  have h : ∀ (s : ByteArray), s.size ≤ 100 → s.size ≤ maxLen := fun s hs => by unfold maxLen; omega
  refine ⟨h _ (by decide), h _ (by decide), h _ (by decide), by intro d hd; simp [evS] at hd, ?_, ?_, ?_, ?_, ?_, ?_, ?_⟩ <;> (unfold i64B evS; decide)
theorem ev_tmpl : tmplB evS = true := by kernel_rfl
theorem ev_named : namedL (exOf evS) 10 5 = [11, 12, 13, 14, 15] := by kernel_rfl
theorem ev_span : spansB 10 15 = true := by decide
theorem ev_due : dueF evS 10 15 = ([11, 12], 3, 0) := by
  unfold dueF
  rw [if_pos ev_tmpl, if_pos ev_span]
  have h := due_named (exOf evS) 2 5 10 (by decide) (by decide) (by decide)
  rw [show (10 : Int) + ((5 : Nat) : Int) = 15 by decide, ev_named] at h
  rw [show evS.catch_.toNat = 2 from rfl, h.1, h.2]
  rfl

set_option maxRecDepth 100000 in
theorem every_any (w : World) : Calls Tryz.prog 17 #[] w (RetB (evS.v (.slice none 0 0)) w) := by
  unfold Sp.v Sp.cells evS
  go_enter Tryz.func17, Tryz.ntmps17
  go_wp2_with (first
    | (refine wpList_store_fresh _ rfl _ _ _ rfl _ rfl _ rfl _ _ _ rfl ?_ ?_ rfl info_spec ?_ ?_; (focus (simp; done)); (focus (simp; done)); (focus (simp [OneCells, Value.oneCell']; done))) | fail)
  refine bodyPost_ret (results_blk rfl _ _ _ _ _ _ rfl (heap_new _ _) _ Tryz.underlying24 rfl info_spec) rfl ?_
  exact RetB.mk rfl ((Below.refl _ _).alloc (Nat.le_refl _) _)

set_option maxRecDepth 100000 in
set_option maxHeartbeats 4000000 in
theorem lives16 (w : World) (hm : MaxL w) : Calls Tryz.prog 6 #[] w (RetB (.bool true) w) := by
  have he := every_any w
  have HD : Hid (∀ W, MaxL W → Calls Tryz.prog 8 #[evS.v (.slice none 0 0), .int .i64 10, .int .i64 15] W (DueP W ([11, 12], 3, 0))) := Lib.hid fun W hW => by
    have := due_any W hW evS none 0 0 ⟨ev_wf, Sl.nil _ _⟩ 10 15
    rwa [ev_due] at this
  have HM := Lib.hid hm
  clear hm
  generalize evS.v (.slice none 0 0) = ev at *
  go_enter Tryz.func6, Tryz.ntmps6
  go_wp2_with fail
  refine he.mono ?_
  rintro en w1 ⟨rfl, hb1⟩
  have HB1 := Lib.hid hb1
  clear hb1 he
  go_wp2_with fail
  refine (HD.out _ (HM.out.step HB1.out)).mono ?_
  rintro en w2 ⟨qa, qc, rfl, hb2, hs⟩
  have HB2 := Lib.hid (HB1.out.trans (hb2.mono HB1.out.size))
  obtain ⟨a', cap', he, hle, _, h3⟩ := hs
  simp only [Value.slice.injEq, List.length_cons, List.length_nil] at he
  obtain ⟨rfl, _, rfl⟩ := he
  rcases h3 with ⟨_, hc0⟩ | ⟨b, o, rfl, hb, hc⟩
  · subst hc0
    exact absurd hle (by decide)
  have c0 : w2.cell? ⟨b, o, none⟩ = some (.int .i64 11) := hc 0 11 rfl
  have c1 : w2.cell? ⟨b, o + 1, none⟩ = some (.int .i64 12) := hc 1 12 rfl
  clear hb2 hc hle
  simp only [List.length_cons, List.length_nil]
  go_wp2_with fail
  go_ret
  exact RetB.mk rfl HB2.out

end Go.Proofs.YtldieadbkaphkaaGreatDoor

/- Package cron: whether an expression names a tick (plain), and Names of a moment. -/
import Derived.Test.YtldieadbkaphkaaGreatDoorCronN
import Derived.Test.YtldieadbkaphkaaGreatDoorMomW
namespace Go.Proofs.YtldieadbkaphkaaGreatDoor
open Go.RowKit Go.ChangeMaps

theorem mom_range {t : Int} (h0 : 0 ≤ t) : 1 ≤ (momF t).m ∧ (momF t).m ≤ 12 ∧ 1 ≤ (momF t).d ∧ (momF t).d ≤ 31 ∧ 0 ≤ (momF t).wd ∧ (momF t).wd ≤ 6 ∧ 0 ≤ (momF t).h ∧ (momF t).h ≤ 23 ∧ 0 ≤ (momF t).mi ∧ (momF t).mi ≤ 59 := by
  have hc := civ_date (t / 1440 + 730425) (by omega)
  have hl := lenM_pos (lpY_01 (civY (t / 1440 + 730425))) (civM (t / 1440 + 730425))
  have h1 := hc.m1
  have h2 := hc.m12
  have h3 := hc.d1
  have h4 := hc.dl
  unfold momF
  simp only
  omega

/-- Is a moment named? -/
def namesM (e : Ex) (m : Mom) : Bool := namesB e m.mi.toNat m.h.toNat m.d.toNat m.m.toNat m.wd.toNat
/-- Is a tick named? -/
def atB (e : Ex) (t : Int) : Bool := if 0 ≤ t ∧ t ≤ 1099511627776 then namesM e (momF t) else false

theorem namesM_any (w : World) (e : Ex) (ok : e.Ok) (t : Int) (h0 : 0 ≤ t) :
    Calls Tryz.prog 71 #[e.v, (momF t).v] w (RetB (.bool (namesM e (momF t))) w) := by
  have hr := mom_range h0
  have h := cronNames_any w e ok (momF t).y (momF t).m.toNat (momF t).d.toNat (momF t).wd.toNat (momF t).h.toNat (momF t).mi.toNat (by omega) (by omega) (by omega) (by omega) (by omega)
  have e1 : (((momF t).m.toNat : Nat) : Int) = (momF t).m := by omega
  have e2 : (((momF t).d.toNat : Nat) : Int) = (momF t).d := by omega
  have e3 : (((momF t).wd.toNat : Nat) : Int) = (momF t).wd := by omega
  have e4 : (((momF t).h.toNat : Nat) : Int) = (momF t).h := by omega
  have e5 : (((momF t).mi.toNat : Nat) : Int) = (momF t).mi := by omega
  rw [e1, e2, e3, e4, e5] at h
  exact h

theorem exF_ok (s : Bs) (h : (parseF s).2 = 0) : (exF s).Ok := by
  have key : ∀ k, k < 5 → orBits ((parseF s).1.getD k []) < 18446744073709551616 := fun k hk => orBits_lt _ fun x hx => by
    have := parseF_in h hk x hx
    have h1 := fld_low k
    have h2 := fld_high k
    omega
  exact ⟨key 0 (by decide), key 1 (by decide), key 2 (by decide), key 3 (by decide), sunday_lt _⟩

end Go.Proofs.YtldieadbkaphkaaGreatDoor

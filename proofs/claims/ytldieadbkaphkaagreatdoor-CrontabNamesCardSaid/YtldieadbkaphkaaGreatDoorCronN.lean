/- Package cron: has, Names, At. -/
import Derived.Test.YtldieadbkaphkaaGreatDoorCronS
import Derived.Test.YtldieadbkaphkaaGreatDoorCalW
namespace Go.Proofs.YtldieadbkaphkaaGreatDoor
open Go.RowKit Go.ChangeMaps

theorem bit_u64 (v x : Nat) (hv : v < 18446744073709551616) : (bits .and .u64 ((v : Int) / 2 ^ x) 1 == 1) = v.testBit x := by
  have e1 : ((v : Int) / 2 ^ x) = ((v / 2 ^ x : Nat) : Int) := by simp
  have h2 : v / 2 ^ x < 18446744073709551616 := Nat.lt_of_le_of_lt (Nat.div_le_self _ _) hv
  have h := u64_and_nat (v / 2 ^ x) 1 h2 (by decide)
  rw [show ((1 : Nat) : Int) = (1 : Int) from rfl] at h
  rw [e1, h, Nat.and_one_is_mod, Nat.testBit_eq_decide_div_mod_eq]
  generalize v / 2 ^ x % 2 = z
  rw [Bool.eq_iff_iff, beq_iff_eq, decide_eq_true_iff]
  omega

theorem cronHas_any (w : World) (v x : Nat) (hv : v < 18446744073709551616) (hx : x ≤ 63) : Calls Tryz.prog 87 #[.int .u64 v, .int .i64 x] w (Ret (.bool (v.testBit x)) w) := by
  have hb := bit_u64 v x hv
  have HB := Lib.hid hb
  clear hb
  go_enter Tryz.func87, Tryz.ntmps87
  go_wp2
  go_ret
  exact Ret.mk (bool_eq (by rw [← HB.out]))

theorem cronHas_q (w : World) (v x : Nat) (hv : v < 18446744073709551616) (hx : x ≤ 63) : Calls Tryz.prog 87 #[.int .u64 v, .int .i64 x] w fun e w' => e = .returned (.bool (v.testBit x)) ∧ w' = w :=
  (cronHas_any w v x hv hx).mono fun _ _ h => ⟨h.1, h.2.symm⟩

/-- Sizes that an expression's numbers have. -/
def Ex.Ok (e : Ex) : Prop := e.mi < 18446744073709551616 ∧ e.ho < 18446744073709551616 ∧ e.da < 18446744073709551616 ∧ e.mo < 18446744073709551616 ∧ e.we < 18446744073709551616
/-- Is a moment named? -/
def namesB (e : Ex) (mi h d mo wd : Nat) : Bool :=
  if e.mi.testBit mi = false ∨ e.ho.testBit h = false ∨ e.mo.testBit mo = false then false
  else if e.ad = true ∨ e.aw = true then e.da.testBit d && e.we.testBit wd else e.da.testBit d || e.we.testBit wd

set_option maxRecDepth 100000 in
set_option maxHeartbeats 4000000 in
theorem cronNames_any (w : World) (e : Ex) (ok : e.Ok) (y : Int) (mo d wd h mi : Nat) (h1 : mo ≤ 63) (h2 : d ≤ 63) (h3 : wd ≤ 63) (h4 : h ≤ 63) (h5 : mi ≤ 63) :
    Calls Tryz.prog 71 #[e.v, .agg #[.int .i64 y, .int .i64 mo, .int .i64 d, .int .i64 wd, .int .i64 h, .int .i64 mi]] w (RetB (.bool (namesB e mi h d mo wd)) w) := by
  obtain ⟨o1, o2, o3, o4, o5⟩ := ok
  have q1 := fun W => cronHas_any W e.mi mi o1 h5
  have q2 := fun W => cronHas_any W e.ho h o2 h4
  have q3 := fun W => cronHas_any W e.mo mo o4 h1
  have H4 := Lib.hid (fun W => cronHas_q W e.da d o3 h2)
  have H5 := Lib.hid (fun W => cronHas_q W e.we wd o5 h3)
  have EN := Lib.hid (show namesB e mi h d mo wd = if e.mi.testBit mi = false ∨ e.ho.testBit h = false ∨ e.mo.testBit mo = false then false else if e.ad = true ∨ e.aw = true then e.da.testBit d && e.we.testBit wd else e.da.testBit d || e.we.testBit wd from rfl)
  unfold Ex.v Ex.cells
  clear o1 o2 o3 o4 o5 h1 h2 h3 h4 h5
  generalize namesB e mi h d mo wd = R at *
  generalize e.mi.testBit mi = b1 at *
  generalize e.ho.testBit h = b2 at *
  generalize e.mo.testBit mo = b3 at *
  generalize e.da.testBit d = b4 at *
  generalize e.we.testBit wd = b5 at *
  obtain ⟨em, eh, ed, eo, ew, ad, aw⟩ := e
  simp only at *
  cases b1
  · have hr := Lib.hid (show R = false by rw [EN.out]; simp)
    go_enter Tryz.func71, Tryz.ntmps71
    go_wp2_with fail
    refine (q1 _).mono ?_
    rintro en w' ⟨rfl, rfl⟩
    go_wp2_with fail
    go_ret
    exact RetB.mk (by rw [hr.out]; rfl) (((Below.refl _ _).alloc (Nat.le_refl _) _).alloc (by simp) _)
  · cases b2
    · have hr := Lib.hid (show R = false by rw [EN.out]; simp)
      go_enter Tryz.func71, Tryz.ntmps71
      go_wp2_with fail
      refine (q1 _).mono ?_
      rintro en w' ⟨rfl, rfl⟩
      go_wp2_with fail
      refine (q2 _).mono ?_
      rintro en w' ⟨rfl, rfl⟩
      go_wp2_with fail
      go_ret
      exact RetB.mk (by rw [hr.out]; rfl) (((Below.refl _ _).alloc (Nat.le_refl _) _).alloc (by simp) _)
    · cases b3
      · have hr := Lib.hid (show R = false by rw [EN.out]; simp)
        go_enter Tryz.func71, Tryz.ntmps71
        go_wp2_with fail
        refine (q1 _).mono ?_
        rintro en w' ⟨rfl, rfl⟩
        go_wp2_with fail
        refine (q2 _).mono ?_
        rintro en w' ⟨rfl, rfl⟩
        go_wp2_with fail
        refine (q3 _).mono ?_
        rintro en w' ⟨rfl, rfl⟩
        go_wp2_with fail
        go_ret
        exact RetB.mk (by rw [hr.out]; rfl) (((Below.refl _ _).alloc (Nat.le_refl _) _).alloc (by simp) _)
      · cases ad
        case' true =>
          have hr := Lib.hid (show R = (b4 && b5) by rw [EN.out]; simp)
        case' false =>
          cases aw
          case' true => have hr := Lib.hid (show R = (b4 && b5) by rw [EN.out]; simp)
          case' false => have hr := Lib.hid (show R = (b4 || b5) by rw [EN.out]; simp)
        all_goals
          clear EN
          cases b4 <;> cases b5
        all_goals
          go_enter Tryz.func71, Tryz.ntmps71
          go_wp2_with fail
          refine (q1 _).mono ?_
          rintro en w' ⟨rfl, rfl⟩
          go_wp2_with fail
          refine (q2 _).mono ?_
          rintro en w' ⟨rfl, rfl⟩
          go_wp2_with fail
          refine (q3 _).mono ?_
          rintro en w' ⟨rfl, rfl⟩
          go_wp2_with fail
          go_quiet (first | (go_at_call 87; (with_reducible exact Calls.quiet_of_same (H4.out _))) | (go_at_call 87; (with_reducible exact Calls.quiet_of_same (H5.out _))))
          go_wp2_with fail
          go_ret
          exact RetB.mk (by rw [hr.out]; rfl) (bel_drewN (((Below.refl _ _).alloc (Nat.le_refl _) _).alloc (by simp) _) _)

end Go.Proofs.YtldieadbkaphkaaGreatDoor

/- slices.Sort at []uint64: the partition's walk. PRINTED by wip/tools/gen_sorts.py. -/
import Derived.Test.YtckmenongeklpaaSortR
namespace Go.Proofs.Ytckmenongeklpaa
open Go.RowKit Go.Sort

set_option maxRecDepth 100000 in
set_option maxHeartbeats 800000 in
theorem part_u64 (W : World) (blk L cap a b p : Nat) (d : Array Int) (hL : L = d.size) (hH : Holds u64v W blk 0 d) (hb : b ≤ L) (hab : a ≤ p) (hpb : p < b) (hd : L ≤ 49) :
    Calls Try.prog 62 #[.slice (some ⟨blk, 0, none⟩) L cap, .int .i64 a, .int .i64 b, .int .i64 p] W (PartO a b blk d W) := by
  have HH := Lib.hid hH
  have HL := Lib.hid hL
  have hbl : blk < W.heap.size := cell_lt (hH a (by omega)).1
  obtain ⟨ca, fa⟩ := hH a (by omega)
  obtain ⟨cp, fp⟩ := hH p (by omega)
  rw [Nat.zero_add] at ca cp fa fp
  have hS := (RowW.refl hH).swp (i := a) (j := p) (by omega) (by omega)
  have HP0 := Lib.hid (Pt.start (d := d) hab hpb (by omega))
  generalize hx : d[a]! = x at ca hS
  generalize hy : d[p]! = y at cp hS
  unfold u64v at ca cp
  obtain ⟨v', hy'⟩ := cell?_setCell_some (w := W) (p := ⟨blk, a, none⟩) (x := .int .u64 y) (q := ⟨blk, p, none⟩) cp
  have HS := Lib.hid hS
  clear hH hL hx hy hS
  go_enter Try.func62, Try.ntmps62
  go_wp2
  go_region
  all_goals
  go_wp2
  generalize hw : World.drew _ = W0
  have HR : Hid (RowW W blk (swp d a p) W0) := Lib.hid (by rw [← hw]; exact HS.out)
  clear hw HS ca cp fa fp hy'
  generalize swp d a p = d0 at *
  go_loopw [10] (fun iv w1 => ∃ i : Nat, iv = .int .i64 i ∧ a + 1 ≤ i ∧ RowW W blk d0 w1 ∧ Hid (Pt a b i (b - 1) d d0)) (fun iv _ => b + 1 - (intOf iv).toNat)
  case atStart => exact ⟨_, (by go_num), Nat.le_refl _, HR.out, HP0⟩
  case round =>
    obtain ⟨i, rfl, hii, hR, HPt⟩ := hrel
    clear HR HP0
    have hh : Holds u64v wr blk 0 d0 := hR.holds HH.out HPt.out.size
    have hlo := HPt.out.lo
    have hhi := HPt.out.hi
    have hup := HPt.out.up
    by_cases hgo : i ≤ (b - 1) ∧ d0[i]! < d0[a]!
    · obtain ⟨hle, hl⟩ := hgo
      have hdec : decide ((i : Int) ≤ (b : Int) - 1) = true := by simp; omega
      obtain ⟨c1, f1⟩ := hh i (by have := HL.out; have := HPt.out.size; omega)
      obtain ⟨c0, f0⟩ := hh a (by have := HL.out; have := HPt.out.size; omega)
      rw [Nat.zero_add] at c1 c0 f1 f0
      generalize hx : d0[i]! = x at c1
      generalize hy : d0[a]! = y at c0
      have HX := Lib.hid hx
      have HY := Lib.hid hy
      clear hx hy hh
      unfold u64v at c1 c0
      have hl1 : ltInt x y = true := by rw [← HX.out, ← HY.out]; simp [ltInt]; exact hl
      have HGO := Lib.hid (HPt.out.go_up hle hl)
      clear hl
      go_wp2
      go_quiet ((go_at_call 60; exact Calls.quiet_of_same (less_same _ _ _)))
      go_wp2
      go_roundw
      case rel => exact ⟨i + 1, (by go_num), by omega, hR.drewN nq, HGO⟩
      case measure => simp [intOf]; omega
    have HUp : Hid (i ≤ (b - 1) → d0[a]! ≤ d0[i]!) := Lib.hid (fun h => by
      rcases Int.lt_or_le d0[i]! d0[a]! with h' | h'
      · exact absurd ⟨h, h'⟩ hgo
      · exact h')
    clear hgo
    by_cases hle : i ≤ (b - 1)
    case' pos =>
      have hdec : decide ((i : Int) ≤ (b : Int) - 1) = true := by simp; omega
      obtain ⟨c1, f1⟩ := hh i (by have := HL.out; have := HPt.out.size; omega)
      obtain ⟨c0, f0⟩ := hh a (by have := HL.out; have := HPt.out.size; omega)
      rw [Nat.zero_add] at c1 c0 f1 f0
      generalize hx : d0[i]! = x at c1
      generalize hy : d0[a]! = y at c0
      have HX := Lib.hid hx
      have HY := Lib.hid hy
      clear hx hy hh
      unfold u64v at c1 c0
      have hl1 : ltInt x y = false := by rw [← HX.out, ← HY.out]; simp [ltInt]; exact HUp.out hle
      go_wp2
      go_quiet ((go_at_call 60; exact Calls.quiet_of_same (less_same _ _ _)))
      go_wp2
      obtain ⟨W1, hW1⟩ : ∃ W1, W1 = wr.drewN nq := ⟨_, rfl⟩
      rw [← hW1]
      have HR1 : Hid (RowW W blk d0 W1) := Lib.hid (by rw [hW1]; exact hR.drewN nq)
      clear hW1 hR
      clear c1 c0 f1 f0 HX HY hl1 hdec
    case' neg =>
      have hdec : decide ((i : Int) ≤ (b : Int) - 1) = false := by simp; omega
      clear hh
      go_wp2
      go_quiet ((go_at_call 60; exact Calls.quiet_of_same (less_same _ _ _)))
      go_wp2
      obtain ⟨W1, hW1⟩ : ∃ W1, W1 = wr.drewN nq := ⟨_, rfl⟩
      rw [← hW1]
      have HR1 : Hid (RowW W blk d0 W1) := Lib.hid (by rw [hW1]; exact hR.drewN nq)
      clear hW1 hR
      clear hdec
    all_goals
      clear hle
      go_loopw [11] (fun jv w1 => ∃ j : Nat, jv = .int .i64 j ∧ j ≤ (b - 1) ∧ RowW W blk d0 w1 ∧ Hid (Pt a b i j d d0)) (fun jv _ => (intOf jv).toNat)
      case atStart => exact ⟨_, (by go_num), Nat.le_refl _, HR1.out, HPt⟩
      case round =>
        clear HPt HR1 hlo hhi hup
        obtain ⟨j, rfl, hjj, hR, HPt⟩ := hrel
        have hh : Holds u64v wr blk 0 d0 := hR.holds HH.out HPt.out.size
        have hlo := HPt.out.lo
        have hhi := HPt.out.hi
        have hup := HPt.out.up
        by_cases hgo : i ≤ j ∧ d0[a]! ≤ d0[j]!
        · obtain ⟨hle, hl⟩ := hgo
          have hdec : decide ((i : Int) ≤ (j : Int)) = true := by simp; omega
          obtain ⟨c1, f1⟩ := hh j (by have := HL.out; have := HPt.out.size; omega)
          obtain ⟨c0, f0⟩ := hh a (by have := HL.out; have := HPt.out.size; omega)
          rw [Nat.zero_add] at c1 c0 f1 f0
          generalize hx : d0[j]! = x at c1
          generalize hy : d0[a]! = y at c0
          have HX := Lib.hid hx
          have HY := Lib.hid hy
          clear hx hy hh
          unfold u64v at c1 c0
          have hl1 : ltInt x y = false := by rw [← HX.out, ← HY.out]; simp [ltInt]; exact hl
          have HGO := Lib.hid (HPt.out.go_down hle hl)
          clear hl
          go_wp2
          go_quiet ((go_at_call 60; exact Calls.quiet_of_same (less_same _ _ _)))
          go_wp2
          go_roundw
          case rel => exact ⟨j - 1, (by go_num), by omega, hR.drewN nq, HGO⟩
          case measure => simp [intOf]; omega
        have HDn : Hid (i ≤ j → d0[j]! < d0[a]!) := Lib.hid (fun h => by
          rcases Int.lt_or_le d0[j]! d0[a]! with h' | h'
          · exact h'
          · exact absurd ⟨h, h'⟩ hgo)
        clear hgo
        by_cases hle : i ≤ j
        case' pos =>
          have hdec : decide ((i : Int) ≤ (j : Int)) = true := by simp; omega
          obtain ⟨c1, f1⟩ := hh j (by have := HL.out; have := HPt.out.size; omega)
          obtain ⟨c0, f0⟩ := hh a (by have := HL.out; have := HPt.out.size; omega)
          rw [Nat.zero_add] at c1 c0 f1 f0
          generalize hx : d0[j]! = x at c1
          generalize hy : d0[a]! = y at c0
          have HX := Lib.hid hx
          have HY := Lib.hid hy
          clear hx hy hh
          unfold u64v at c1 c0
          have hl1 : ltInt x y = true := by rw [← HX.out, ← HY.out]; simp [ltInt]; exact HDn.out hle
          go_wp2
          go_quiet ((go_at_call 60; exact Calls.quiet_of_same (less_same _ _ _)))
          go_wp2
          have hlt : decide ((j : Int) < (i : Int)) = false := by simp; omega
          obtain ⟨HPt2, hij⟩ : Hid (Pt a b (i + 1) (j - 1) d (swp d0 i j)) ∧ i < j := ⟨Lib.hid (HPt.out.swap (by have := HL.out; omega) hle (HUp.out (by omega)) (HDn.out hle)).1, (HPt.out.swap (by have := HL.out; omega) hle (HUp.out (by omega)) (HDn.out hle)).2⟩
          obtain ⟨W1, hW1⟩ : ∃ W1, W1 = wr.drewN nq := ⟨_, rfl⟩
          rw [← hW1]
          have HR2 : Hid (RowW W blk d0 W1) := Lib.hid (by rw [hW1]; exact hR.drewN nq)
          clear hW1 hR c1 c0 f1 f0 HX HY hl1 hdec
          clear HUp HDn hle
          have hh : Holds u64v W1 blk 0 d0 := HR2.out.holds HH.out HPt.out.size
          obtain ⟨c1, f1⟩ := hh i (by have := HL.out; have := HPt.out.size; omega)
          obtain ⟨c0, f0⟩ := hh j (by have := HL.out; have := HPt.out.size; omega)
          rw [Nat.zero_add] at c1 c0 f1 f0
          have hS := HR2.out.swp (i := i) (j := j) (by have := HL.out; have := HPt.out.size; omega) (by have := HL.out; have := HPt.out.size; omega)
          generalize hx : d0[i]! = x at c1 hS
          generalize hy : d0[j]! = y at c0 hS
          unfold u64v at c1 c0
          obtain ⟨v', hy'⟩ := cell?_setCell_some (w := W1) (p := ⟨blk, i, none⟩) (x := .int .u64 y) (q := ⟨blk, j, none⟩) c0
          have HS := Lib.hid hS
          clear hx hy hS hh
          clear HR2 HPt
          go_wp2
          go_region
          all_goals
          go_wp2
          generalize hw : World.drew _ = W2
          have HR : Hid (RowW W blk (swp d0 i j) W2) := Lib.hid (by rw [← hw]; exact HS.out)
          clear hw HS c1 c0 f1 f0
          generalize hij0 : i + 1 = i1 at HPt2
          generalize hjj0 : j - 1 = j1 at HPt2
          generalize swp d0 i j = d1 at *
          go_loopw [10, 11] (fun iv jv w1 => ∃ (i j : Nat) (dk : Array Int), iv = .int .i64 i ∧ jv = .int .i64 j ∧ RowW W blk dk w1 ∧ Hid (Pt a b i j d dk)) (fun iv jv _ => (intOf jv).toNat + 1 - (intOf iv).toNat)
          case atStart => exact ⟨i1, j1, d1, (by rw [← hij0]; go_num), (by rw [← hjj0]; go_num), HR.out, HPt2⟩
          case round =>
            clear HPt2 HR hij0 hjj0 hij hlt hlo hhi hup hjj
            obtain ⟨i0, j0, dk, rfl, rfl, hR, HP0⟩ := hrel
            have HR := Lib.hid hR
            have hup0 := HP0.out.up
            have hlo0 := HP0.out.lo
            have hhi0 := HP0.out.hi
            clear hR
            go_wp2
            go_loopw [10] (fun iv w1 => ∃ i : Nat, iv = .int .i64 i ∧ i0 ≤ i ∧ RowW W blk dk w1 ∧ Hid (Pt a b i j0 d dk)) (fun iv _ => b + 1 - (intOf iv).toNat)
            case atStart => exact ⟨_, (by go_num), Nat.le_refl _, HR.out, HP0⟩
            case round =>
              obtain ⟨i, rfl, hii, hR, HPt⟩ := hrel
              clear HR HP0
              have hh : Holds u64v wr blk 0 dk := hR.holds HH.out HPt.out.size
              have hlo := HPt.out.lo
              have hhi := HPt.out.hi
              have hup := HPt.out.up
              by_cases hgo : i ≤ j0 ∧ dk[i]! < dk[a]!
              · obtain ⟨hle, hl⟩ := hgo
                have hdec : decide ((i : Int) ≤ (j0 : Int)) = true := by simp; omega
                obtain ⟨c1, f1⟩ := hh i (by have := HL.out; have := HPt.out.size; omega)
                obtain ⟨c0, f0⟩ := hh a (by have := HL.out; have := HPt.out.size; omega)
                rw [Nat.zero_add] at c1 c0 f1 f0
                generalize hx : dk[i]! = x at c1
                generalize hy : dk[a]! = y at c0
                have HX := Lib.hid hx
                have HY := Lib.hid hy
                clear hx hy hh
                unfold u64v at c1 c0
                have hl1 : ltInt x y = true := by rw [← HX.out, ← HY.out]; simp [ltInt]; exact hl
                have HGO := Lib.hid (HPt.out.go_up hle hl)
                clear hl
                go_wp2
                go_quiet ((go_at_call 60; exact Calls.quiet_of_same (less_same _ _ _)))
                go_wp2
                go_roundw
                case rel => exact ⟨i + 1, (by go_num), by omega, hR.drewN nq, HGO⟩
                case measure => simp [intOf]; omega
              have HUp : Hid (i ≤ j0 → dk[a]! ≤ dk[i]!) := Lib.hid (fun h => by
                rcases Int.lt_or_le dk[i]! dk[a]! with h' | h'
                · exact absurd ⟨h, h'⟩ hgo
                · exact h')
              clear hgo
              by_cases hle : i ≤ j0
              case' pos =>
                have hdec : decide ((i : Int) ≤ (j0 : Int)) = true := by simp; omega
                obtain ⟨c1, f1⟩ := hh i (by have := HL.out; have := HPt.out.size; omega)
                obtain ⟨c0, f0⟩ := hh a (by have := HL.out; have := HPt.out.size; omega)
                rw [Nat.zero_add] at c1 c0 f1 f0
                generalize hx : dk[i]! = x at c1
                generalize hy : dk[a]! = y at c0
                have HX := Lib.hid hx
                have HY := Lib.hid hy
                clear hx hy hh
                unfold u64v at c1 c0
                have hl1 : ltInt x y = false := by rw [← HX.out, ← HY.out]; simp [ltInt]; exact HUp.out hle
                go_wp2
                go_quiet ((go_at_call 60; exact Calls.quiet_of_same (less_same _ _ _)))
                go_wp2
                obtain ⟨W1, hW1⟩ : ∃ W1, W1 = wr.drewN nq := ⟨_, rfl⟩
                rw [← hW1]
                have HR1 : Hid (RowW W blk dk W1) := Lib.hid (by rw [hW1]; exact hR.drewN nq)
                clear hW1 hR
                clear c1 c0 f1 f0 HX HY hl1 hdec
              case' neg =>
                have hdec : decide ((i : Int) ≤ (j0 : Int)) = false := by simp; omega
                clear hh
                go_wp2
                go_quiet ((go_at_call 60; exact Calls.quiet_of_same (less_same _ _ _)))
                go_wp2
                obtain ⟨W1, hW1⟩ : ∃ W1, W1 = wr.drewN nq := ⟨_, rfl⟩
                rw [← hW1]
                have HR1 : Hid (RowW W blk dk W1) := Lib.hid (by rw [hW1]; exact hR.drewN nq)
                clear hW1 hR
                clear hdec
              all_goals
                clear hle
                go_loopw [11] (fun jv w1 => ∃ j : Nat, jv = .int .i64 j ∧ j ≤ j0 ∧ RowW W blk dk w1 ∧ Hid (Pt a b i j d dk)) (fun jv _ => (intOf jv).toNat)
                case atStart => exact ⟨_, (by go_num), Nat.le_refl _, HR1.out, HPt⟩
                case round =>
                  clear HPt HR1 hlo hhi hup
                  obtain ⟨j, rfl, hjj, hR, HPt⟩ := hrel
                  have hh : Holds u64v wr blk 0 dk := hR.holds HH.out HPt.out.size
                  have hlo := HPt.out.lo
                  have hhi := HPt.out.hi
                  have hup := HPt.out.up
                  by_cases hgo : i ≤ j ∧ dk[a]! ≤ dk[j]!
                  · obtain ⟨hle, hl⟩ := hgo
                    have hdec : decide ((i : Int) ≤ (j : Int)) = true := by simp; omega
                    obtain ⟨c1, f1⟩ := hh j (by have := HL.out; have := HPt.out.size; omega)
                    obtain ⟨c0, f0⟩ := hh a (by have := HL.out; have := HPt.out.size; omega)
                    rw [Nat.zero_add] at c1 c0 f1 f0
                    generalize hx : dk[j]! = x at c1
                    generalize hy : dk[a]! = y at c0
                    have HX := Lib.hid hx
                    have HY := Lib.hid hy
                    clear hx hy hh
                    unfold u64v at c1 c0
                    have hl1 : ltInt x y = false := by rw [← HX.out, ← HY.out]; simp [ltInt]; exact hl
                    have HGO := Lib.hid (HPt.out.go_down hle hl)
                    clear hl
                    go_wp2
                    go_quiet ((go_at_call 60; exact Calls.quiet_of_same (less_same _ _ _)))
                    go_wp2
                    go_roundw
                    case rel => exact ⟨j - 1, (by go_num), by omega, hR.drewN nq, HGO⟩
                    case measure => simp [intOf]; omega
                  have HDn : Hid (i ≤ j → dk[j]! < dk[a]!) := Lib.hid (fun h => by
                    rcases Int.lt_or_le dk[j]! dk[a]! with h' | h'
                    · exact h'
                    · exact absurd ⟨h, h'⟩ hgo)
                  clear hgo
                  by_cases hle : i ≤ j
                  case' pos =>
                    have hdec : decide ((i : Int) ≤ (j : Int)) = true := by simp; omega
                    obtain ⟨c1, f1⟩ := hh j (by have := HL.out; have := HPt.out.size; omega)
                    obtain ⟨c0, f0⟩ := hh a (by have := HL.out; have := HPt.out.size; omega)
                    rw [Nat.zero_add] at c1 c0 f1 f0
                    generalize hx : dk[j]! = x at c1
                    generalize hy : dk[a]! = y at c0
                    have HX := Lib.hid hx
                    have HY := Lib.hid hy
                    clear hx hy hh
                    unfold u64v at c1 c0
                    have hl1 : ltInt x y = true := by rw [← HX.out, ← HY.out]; simp [ltInt]; exact HDn.out hle
                    go_wp2
                    go_quiet ((go_at_call 60; exact Calls.quiet_of_same (less_same _ _ _)))
                    go_wp2
                    have hlt : decide ((j : Int) < (i : Int)) = false := by simp; omega
                    obtain ⟨HPt2, hij⟩ : Hid (Pt a b (i + 1) (j - 1) d (swp dk i j)) ∧ i < j := ⟨Lib.hid (HPt.out.swap (by have := HL.out; omega) hle (HUp.out (by omega)) (HDn.out hle)).1, (HPt.out.swap (by have := HL.out; omega) hle (HUp.out (by omega)) (HDn.out hle)).2⟩
                    obtain ⟨W1, hW1⟩ : ∃ W1, W1 = wr.drewN nq := ⟨_, rfl⟩
                    rw [← hW1]
                    have HR2 : Hid (RowW W blk dk W1) := Lib.hid (by rw [hW1]; exact hR.drewN nq)
                    clear hW1 hR c1 c0 f1 f0 HX HY hl1 hdec
                    clear HUp HDn hle
                    have hh : Holds u64v W1 blk 0 dk := HR2.out.holds HH.out HPt.out.size
                    obtain ⟨c1, f1⟩ := hh i (by have := HL.out; have := HPt.out.size; omega)
                    obtain ⟨c0, f0⟩ := hh j (by have := HL.out; have := HPt.out.size; omega)
                    rw [Nat.zero_add] at c1 c0 f1 f0
                    have hS := HR2.out.swp (i := i) (j := j) (by have := HL.out; have := HPt.out.size; omega) (by have := HL.out; have := HPt.out.size; omega)
                    generalize hx : dk[i]! = x at c1 hS
                    generalize hy : dk[j]! = y at c0 hS
                    unfold u64v at c1 c0
                    obtain ⟨v', hy'⟩ := cell?_setCell_some (w := W1) (p := ⟨blk, i, none⟩) (x := .int .u64 y) (q := ⟨blk, j, none⟩) c0
                    have HS := Lib.hid hS
                    clear hx hy hS hh
                    clear HR2 HPt
                    go_wp2
                    go_region
                    all_goals
                    go_wp2
                    generalize hw : World.drew _ = W2
                    have HR : Hid (RowW W blk (swp dk i j) W2) := Lib.hid (by rw [← hw]; exact HS.out)
                    clear hw HS c1 c0 f1 f0
                    go_roundw
                    case rel => exact ⟨i + 1, j - 1, swp dk i j, (by go_num), (by go_num), HR.out, HPt2⟩
                    case measure => simp [intOf]; omega
                  case' neg =>
                    have hdec : decide ((i : Int) ≤ (j : Int)) = false := by simp; omega
                    clear hh
                    go_wp2
                    go_quiet ((go_at_call 60; exact Calls.quiet_of_same (less_same _ _ _)))
                    go_wp2
                    have hlt : decide ((j : Int) < (i : Int)) = true := by simp; omega
                    have HF := Lib.hid (HPt.out.fin (by have := HL.out; omega) (by omega))
                    obtain ⟨W1, hW1⟩ : ∃ W1, W1 = wr.drewN nq := ⟨_, rfl⟩
                    rw [← hW1]
                    have HR2 : Hid (RowW W blk dk W1) := Lib.hid (by rw [hW1]; exact hR.drewN nq)
                    clear hW1 hR hdec HUp HDn hle
                    have hh : Holds u64v W1 blk 0 dk := HR2.out.holds HH.out HPt.out.size
                    obtain ⟨c1, f1⟩ := hh j (by have := HL.out; have := HPt.out.size; omega)
                    obtain ⟨c0, f0⟩ := hh a (by have := HL.out; have := HPt.out.size; omega)
                    rw [Nat.zero_add] at c1 c0 f1 f0
                    have hS := HR2.out.swp (i := j) (j := a) (by have := HL.out; have := HPt.out.size; omega) (by have := HL.out; have := HPt.out.size; omega)
                    generalize hx : dk[j]! = x at c1 hS
                    generalize hy : dk[a]! = y at c0 hS
                    unfold u64v at c1 c0
                    obtain ⟨v', hy'⟩ := cell?_setCell_some (w := W1) (p := ⟨blk, j, none⟩) (x := .int .u64 y) (q := ⟨blk, a, none⟩) c0
                    have HS := Lib.hid hS
                    clear hx hy hS hh
                    go_wp2
                    go_region
                    all_goals
                    go_wp2
                    go_ret2
                    exact ⟨j, false, swp dk j a, rfl, HF.out, HS.out⟩
        case' neg =>
          have hdec : decide ((i : Int) ≤ (j : Int)) = false := by simp; omega
          clear hh
          go_wp2
          go_quiet ((go_at_call 60; exact Calls.quiet_of_same (less_same _ _ _)))
          go_wp2
          have hlt : decide ((j : Int) < (i : Int)) = true := by simp; omega
          have HF := Lib.hid (HPt.out.fin (by have := HL.out; omega) (by omega))
          obtain ⟨W1, hW1⟩ : ∃ W1, W1 = wr.drewN nq := ⟨_, rfl⟩
          rw [← hW1]
          have HR2 : Hid (RowW W blk d0 W1) := Lib.hid (by rw [hW1]; exact hR.drewN nq)
          clear hW1 hR hdec HUp HDn hle
          have hh : Holds u64v W1 blk 0 d0 := HR2.out.holds HH.out HPt.out.size
          obtain ⟨c1, f1⟩ := hh j (by have := HL.out; have := HPt.out.size; omega)
          obtain ⟨c0, f0⟩ := hh a (by have := HL.out; have := HPt.out.size; omega)
          rw [Nat.zero_add] at c1 c0 f1 f0
          have hS := HR2.out.swp (i := j) (j := a) (by have := HL.out; have := HPt.out.size; omega) (by have := HL.out; have := HPt.out.size; omega)
          generalize hx : d0[j]! = x at c1 hS
          generalize hy : d0[a]! = y at c0 hS
          unfold u64v at c1 c0
          obtain ⟨v', hy'⟩ := cell?_setCell_some (w := W1) (p := ⟨blk, j, none⟩) (x := .int .u64 y) (q := ⟨blk, a, none⟩) c0
          have HS := Lib.hid hS
          clear hx hy hS hh
          go_wp2
          go_region
          all_goals
          go_wp2
          go_ret2
          exact ⟨j, true, swp d0 j a, rfl, HF.out, HS.out⟩

end Go.Proofs.Ytckmenongeklpaa

/- Package raft, a node alone: it votes for itself, and leads. -/
import Derived.Test.YtbfhgljmopgejaaGreatRaftF
namespace Go.Proofs.YtbfhgljmopgejaaGreat
open Go.RowKit Go.Sort

section
variable {w0 w : World} {p : Nat} {x : LoneS}

/-- What is written lies in newer memory than the node. -/
theorem Lone.keptNew {w' w'' : World} {y : LoneS} (h : Lone w0 w' p y) (hold : Lone w0 w p x) (h1 : y.lg = x.lg) (h2 : y.r = x.r) (h3 : y.es = x.es) (h4 : y.imv = x.imv) {S : Nat → Prop} (hk : Keeps S w' w'') (hS : ∀ k, S k → w.heap.size ≤ k) : Lone w0 w'' p y := by
  obtain ⟨a, cap, e, hs⟩ := h.img
  obtain ⟨a2, cap2, e2, hs2⟩ := hold.img
  have hz := hold.bel.size
  have hp := hold.lt
  have hl := hold.log.lt
  refine ⟨hk.heap (fun hh => by have := hS p hh; omega) h.box, ?_, h.ok, h.dl, h.cf, ⟨a, cap, e, hs.kept hk fun k hk2 hh => ?_⟩, h.i1, h.i7, h.bel.trans (hk.below h.bel.size (fun k hh => by have := hS k hh; omega)), h.pb, h.lb, h.rb, h.pl, h.pr, h.pi, h.il, h.ir, h.pd, h.n0⟩
  · refine h.log.kept hk (fun hh => by have := hS _ hh; rw [h1] at this; omega) (fun k hk2 hh => ?_) (fun q hq k hk2 hh => ?_)
    · rw [h2] at hk2; have := hold.log.row_lt k hk2; have := hS k hh; omega
    · rw [h3] at hq; have := (hold.log.data q hq).1.row_lt k hk2; have := hS k hh; omega
  · have := hS k hh
    rw [← e, h4, e2] at hk2
    have := hs2.row_lt k hk2
    omega

set_option maxRecDepth 100000 in
theorem poll_lone (h : Lone w0 w p x) : Calls Tryz.prog 39 #[.pointer (some ⟨p, 0, none⟩)] w
    fun e w' => ∃ b, e = .returned (.int .i64 1) ∧ Lone w0 w' p { x with poll := .pointer (some ⟨b, 0, none⟩) } ∧ Keeps (fun k => k = p) w w' := by
  have hpw := h.lt
  have H := Lib.hid h
  have HM := Lib.hid (members_lone h)
  clear h
  go_enter Tryz.func39, Tryz.ntmps39
  go_wp2_with fail
  refine HM.out.mono ?_
  rintro e w1 ⟨a, cap, rfl, hn1⟩
  have H1 := Lib.hid (H.out.below hn1.bel)
  have HK1 := Lib.hid (Keeps.of_belowS (S := fun k => k = p) hn1.bel)
  have HZ1 := Lib.hid hn1.bel.size
  have HBN := Lib.hid (balnew_any w1 a cap x.id hn1.sl)
  clear hn1
  go_wp2_with fail
  refine HBN.out.mono ?_
  rintro e w2 ⟨b, m, rfl, hB2, hb2, hbb, hbm, hne, ba, bc, hbox, hrow⟩
  have H2 := Lib.hid (H1.out.below hb2)
  have HK2 := Lib.hid (HK1.out.trans (Keeps.of_belowS (S := fun k => k = p) hb2))
  have c15 := H2.out.free 15
  have d15 := H2.out.cell 15 rfl
  have p1 := H1.out.lt
  have hkp : Keeps (fun k => k = p) w2 (w2.setCell ⟨p, 15, none⟩ (.pointer (some ⟨b, 0, none⟩))) := (Keeps.refl (fun k => k = p) w2).setCell (p := ⟨p, 15, none⟩) (.inl rfl) _
  have H3 := Lib.hid (H2.out.set { x with poll := .pointer (some ⟨b, 0, none⟩) } 15 (.pointer (some ⟨b, 0, none⟩)) rfl rfl rfl rfl rfl rfl)
  have HB3 := Lib.hid (hB2.kept hkp (B := w1.heap.size) (fun k hk => by omega) hbb hbm (fun a' cap' h' k hk => by
    rw [hbox] at h'
    simp at h'
    obtain ⟨h1, h2⟩ := h'
    subst h1 h2
    exact (hrow k hk).1))
  have HBX3 := Lib.hid (hkp.heap (show ¬ b = p by omega) hbox)
  have HK3 := Lib.hid (HK2.out.trans hkp)
  have HROW := Lib.hid hrow
  clear hB2 hbox hb2 hrow hkp
  go_wp2_with fail
  generalize w2.setCell ⟨p, 15, none⟩ (.pointer (some ⟨b, 0, none⟩)) = W3 at *
  have e15 : W3.cell? ⟨p, 15, none⟩ = some (.pointer (some ⟨b, 0, none⟩)) := H3.out.cell 15 rfl
  have e0 : W3.cell? ⟨p, 0, none⟩ = some (.int .i64 x.id) := H3.out.cell 0 rfl
  have HV := Lib.hid (vote_any W3.drew b m x.id (HB3.out.below (belowD (Below.refl _ _))) H3.out.i1 H3.out.i7 hne)
  clear c15 d15
  go_region_held3 (fun w' => w'.cell? ⟨p, 15, none⟩ = some (.pointer (some ⟨b, 0, none⟩)) ∧ w'.cell? ⟨p, 0, none⟩ = some (.int .i64 x.id)) (first | exact ⟨e15, e0⟩ | exact ⟨g15, g0⟩)
    (first | (go_at_call 58; refine HV.out.mono ?_; rintro en w4 ⟨rfl, hm4, hk4⟩; have HM4 := Lib.hid hm4; have HK4 := Lib.hid hk4; have H4 := Lib.hid (H3.out.drew.keptNew H1.out rfl rfl rfl rfl HK4.out (fun k hk => hk ▸ hbm)); have g15 : w4.cell? ⟨p, 15, none⟩ = some (.pointer (some ⟨b, 0, none⟩)) := H4.out.cell 15 rfl; have g0 : w4.cell? ⟨p, 0, none⟩ = some (.int .i64 x.id) := H4.out.cell 0 rfl; clear hm4 hk4))
  have HB4 : Hid (BalAt w4 b m x.id [(x.id, true)]) := Lib.hid (by
    refine ⟨⟨ba, bc, HK4.out.heap hne HBX3.out, ?_⟩, HM4.out⟩
    obtain ⟨a', c', h1, h2⟩ := HB3.out.box
    rw [HBX3.out] at h1
    simp at h1
    obtain ⟨e1, e2⟩ := h1
    subst e1 e2
    exact (show Sl intv W3.drew _ _ from h2).kept HK4.out (fun k hk => (HROW.out k hk).2))
  have HKF : Hid (Keeps (fun k => k = p) w w4) := Lib.hid ((((HK3.out.drew).mono (T := fun k => k = p ∨ k = m) (fun k _ h => .inl h)).trans (HK4.out.mono (fun k _ h => .inr h))).mono (fun k hk h => by
    have := HZ1.out
    rcases h with h | h
    · exact h
    · omega))
  clear e15 e0 g0
  go_wp2_with fail
  refine (state_any w4 b m x.id HB4.out H4.out.i1 H4.out.i7).mono ?_
  rintro en w5 ⟨rfl, hb5⟩
  have H5 := Lib.hid (H4.out.below hb5)
  have HK5 := Lib.hid (HKF.out.trans (Keeps.of_belowS (S := fun k => k = p) hb5))
  clear hb5
  go_wp2_with fail
  go_ret
  exact ⟨b, rfl, H5.out, HK5.out⟩
end

end Go.Proofs.YtbfhgljmopgejaaGreat

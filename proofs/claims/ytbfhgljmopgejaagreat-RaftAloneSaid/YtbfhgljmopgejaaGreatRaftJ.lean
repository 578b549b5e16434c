/- Package entry: From, at the last entry. -/
import Derived.Test.YtbfhgljmopgejaaGreatRaftI
namespace Go.Proofs.YtbfhgljmopgejaaGreat
open Go.RowKit Go.Sort

/-- One entry, in new memory. -/
def OneEnt (w : World) (e : Ent) (g cap : Nat) (w' : World) : Prop :=
  ∃ v, Below w.heap.size w w' ∧ w'.cell? ⟨g, 0, none⟩ = some (.int .u64 e.ix) ∧ w'.cell? ⟨g, 1, none⟩ = some (.int .u64 e.tm) ∧ w'.cell? ⟨g, 2, none⟩ = some (.bool e.cf) ∧ w'.cell? ⟨g, 3, none⟩ = some v ∧ Sl u8v w' v e.d ∧ 1 ≤ cap

theorem cells4_new (W : World) (a b c d : Value) (T : TypeId) : ∀ j u, [a, b, c, d][j]? = some u → (W.alloc (.cells #[a, b, c, d] T)).cell? ((⟨W.heap.size, 0, none⟩ : Addr).add j) = some u := by
  intro j u hu
  rw [addr_add, Nat.zero_add]
  exact blk_cell (heap_new _ _) _ (by simpa using hu)

set_option maxRecDepth 100000 in
set_option maxHeartbeats 1600000 in
theorem from_last (w : World) (t : Nat) (r : Option Nat) (es : List Ent) (h : LogAt w t r 0 0 es) (ok : LogOk 0 0 es) (k : Nat) (e : Ent) (he : es[k]? = some e) (hn : es.length = k + 1) (hk : k ≤ 1000) (hl : e.d.length ≤ 900) :
    Calls Tryz.prog 28 #[.pointer (some ⟨t, 0, none⟩), .int .u64 ((k : Int) + 1), .int .i64 1] w
      fun en w' => ∃ g cap, en = .returned (.tuple #[.slice (some ⟨g, 0, none⟩) 1 cap, .int .i64 0]) ∧ OneEnt w e g cap w' := by
  have hls := last_any w t r 0 0 es h ok
  have H := Lib.hid h
  rw [hn, show (0 : Int) + ((k + 1 : Nat) : Int) = (k : Int) + 1 by omega] at hls
  have HLS := Lib.hid hls
  have HEK := Lib.hid he
  have HN := Lib.hid hn
  obtain ⟨i0, hi, hz0, hz1, hz2⟩ := info_parts info_entry
  clear hls he h ok hn
  generalize lastTm 0 es = lt at *
  go_enter Tryz.func28, Tryz.ntmps28
  go_wp2_with fail
  refine HLS.out.mono ?_
  rintro en w1 ⟨rfl, hb1⟩
  have H1 := Lib.hid (H.out.below hb1)
  have HB1 := Lib.hid hb1
  obtain ⟨g, cap, rfl, hbx, hc1, hc2, d0, d1, d2, d3⟩ := H1.out.at HEK.out
  have hds := (H1.out.data e (List.mem_of_getElem? HEK.out)).1
  obtain ⟨da, dc, hv, _⟩ := id hds
  have hlen := HN.out
  rw [hv] at d3
  rw [hlen] at hbx hc1
  have x0 := blk_cell hbx 0 rfl
  have x2 := blk_cell hbx 2 rfl
  have HDS : Hid (Sl u8v w1 e.v e.d) := Lib.hid hds
  have HV := Lib.hid hv
  unfold maxLen at hc2
  have e1 : IntKind.u64.wrap ((k : Int) + 1) = (k : Int) + 1 := IntWalk.u64_in _ (by omega)
  have e2 : IntKind.u64.wrap (k : Int) = (k : Int) := IntWalk.u64_in _ (by omega)
  have q1 : decide ((k : Int) + 1 ≤ 0) = false := decide_eq_false (by omega)
  have q2 : ¬ ((k : Int) + 1 ≤ 0) := by omega
  have q3 : decide ((k : Int) + 1 < (k : Int)) = false := decide_eq_false (by omega)
  have q4 : ¬ ((k : Int) + 1 < (k : Int)) := by omega
  have q5 : ¬ cap = k := by omega
  have glt := cell_lt d0
  clear hb1 hds hbx hv hlen
  go_wp2_with fail
  go_quiet (fail)
  go_wp2_with fail
  obtain ⟨W2, hW2⟩ : ∃ W2, W2 = w1.drewN nq := ⟨_, rfl⟩
  rw [← hW2]
  have y0 : W2.cell? ⟨g, k * 4, none⟩ = some (.int .u64 e.ix) := by rw [hW2]; exact d0
  have y1 : W2.cell? ⟨g, k * 4 + 1, none⟩ = some (.int .u64 e.tm) := by rw [hW2]; exact d1
  have y2 : W2.cell? ⟨g, k * 4 + 2, none⟩ = some (.bool e.cf) := by rw [hW2]; exact d2
  have y3 : W2.cell? ⟨g, k * 4 + 3, none⟩ = some (.slice da e.d.length dc) := by rw [hW2]; exact d3
  have HB2 : Hid (Below w.heap.size w W2) := Lib.hid (by rw [hW2]; exact belowDN HB1.out _)
  have HDS2 : Hid (Sl u8v W2 e.v e.d) := Lib.hid (by rw [hW2]; exact HDS.out.below (belowDN (Below.refl _ _) _) HDS.out.row_lt)
  have glt2 := cell_lt y0
  clear hW2 d0 d1 d2 d3 x0 x2 e1 e2 q1 q2 q3 q4 q5 hc1 hc2 glt
  go_loopw [10, 46] (fun ov iv wr => (iv = .int .i64 0 ∧ ov = .slice none 0 0 ∧ wr = W2) ∨ (iv = .int .i64 1 ∧ ∃ g2 cap2, ov = .slice (some ⟨g2, 0, none⟩) 1 cap2 ∧ Hid (OneEnt w e g2 cap2 wr))) (fun _ iv _ => (1 - intOf iv).toNat)
  case atStart => exact .inl ⟨rfl, rfl, rfl⟩
  case round =>
    rcases hrel with ⟨rfl, rfl, rfl⟩ | ⟨rfl, g2, cap2, rfl, HO⟩
    · have hce := cloneE_any (wr.alloc (.cells #[.int .u64 e.ix, .int .u64 e.tm, .bool e.cf, .slice da e.d.length dc] 47)) e (HDS2.out.below ((Below.refl _ _).alloc (Nat.le_refl _) _) HDS2.out.row_lt) (by omega)
      rw [HV.out] at hce
      have HCE := Lib.hid hce
      clear hce
      go_wp2_with fail
      refine HCE.out.mono ?_
      rintro en w3 ⟨v, rfl, hb3, hs3, hn3⟩
      have HB3 := Lib.hid ((HB2.out.alloc HB2.out.size (.cells #[.int .u64 e.ix, .int .u64 e.tm, .bool e.cf, .slice da e.d.length dc] 47)).trans (hb3.mono (by have := HB2.out.size; simp; omega)))
      have HS3 := Lib.hid hs3
      obtain ⟨va, vc, rfl, _⟩ := id hs3
      have HM0 : Hid (0 + 1 ≤ maxLen) := Lib.hid (by decide)
      clear hb3 hs3 hn3 y0 y1 y2 y3
      go_wp2_with (first | (at_builtin; refine wpList_append_own _ rfl _ _ _ rfl 0 47 i0 _ 4 48 Tryz.underlying36 hi hz0 hz1 hz2 rfl (by decide) _ 0 [] rfl (World.ownsRow_nil _ _ _ _) ⟨w3.heap.size, 0, none⟩ 1 1 [.int .u64 e.ix, .int .u64 e.tm, .bool e.cf, .slice va e.d.length vc] rfl rfl (cells4_new _ _ _ _ _ _) (by simp [Value.oneCell']) HM0.out (by decide) (Nat.zero_le _) ?_; intro v' w4 hown4 hg4 hnil4) | fail)
      have hg5 : (w3.alloc (.cells #[.int .u64 e.ix, .int .u64 e.tm, .bool e.cf, .slice va e.d.length vc] 47)).grownBy w4 none := hg4
      have hk5 : Keeps (fun _ => False) w3 w4 := ((Keeps.refl (fun _ => False) w3).alloc _).trans (grown_keeps hg5 fun k hk => by cases hk)
      have HO4 : Hid (∃ g2 cap2, v' = .slice (some ⟨g2, 0, none⟩) 1 cap2 ∧ Hid (OneEnt w e g2 cap2 w4)) := Lib.hid (by
        rcases _root_.id hown4.2 with ⟨_, h0⟩ | ⟨g2, cap2, cur, rfl, _, hg, hcn, hm, hc, htk⟩
        · simp at h0
        · have hcell : ∀ j v, [Value.int .u64 e.ix, .int .u64 e.tm, .bool e.cf, .slice va e.d.length vc][j]? = some v → w4.cell? ⟨g2, j, none⟩ = some v := fun j v hj => by
            have := hown4.cells (g := g2) rfl j v (by simpa using hj)
            rwa [addr_add, Nat.zero_add] at this
          exact ⟨g2, cap2, rfl, Lib.hid ⟨_, HB3.out.trans (hk5.below HB3.out.size (fun k hk => hk.elim)), hcell 0 _ rfl, hcell 1 _ rfl, hcell 2 _ rfl, hcell 3 _ rfl, HS3.out.kept hk5 (fun _ _ h => h), by simpa using hcn⟩⟩)
      clear hown4 hg4 hnil4 hg5 hk5
      go_roundw
      case rel => exact .inr ⟨rfl, HO4.out⟩
      case measure => simp [intOf]
    · have HO2 := HO
      go_wp2_with fail
      go_ret2
      exact ⟨g2, cap2, rfl, HO2.out⟩

end Go.Proofs.YtbfhgljmopgejaaGreat

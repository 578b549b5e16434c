/- Package cron: text, whole, Text. -/
import Derived.Test.YtfdnhpmdbcfepaaDoorTextL
import Derived.Test.YtfdnhpmdbcfepaaDoorRefS
import Derived.Test.YtfdnhpmdbcfepaaDoorShelf2
namespace Go.Proofs.YtfdnhpmdbcfepaaDoor
open Go.RowKit Go.ChangeMaps

/-- The library's table of trailing zeros lies in memory. -/
def TabL (w : World) : Prop := ∀ j, j < Lib.deBruijn64tab.length → w.cell? ⟨0, j, none⟩ = some (.int .u8 (Lib.deBruijn64tab.getD j 0))
theorem TabL.lt {w : World} (h : TabL w) : 0 < w.heap.size := by
  have := h 0 (by decide)
  exact World.block_lt_of_cell? w _ this
theorem TabL.step {w w' : World} (h : TabL w) (hb : Below w.heap.size w w') : TabL w' := fun j hj => by
  rw [World.cell?_of_block (hb.block _ h.lt)]; exact h j hj

theorem tz_any (w : World) (v : Nat) (hv : v < 18446744073709551616) (hT : TabL w) : Calls Tryd.prog 46 #[.int .u64 v] w (Ret (.int .i64 (Lib.ctz 64 v)) w) :=
  (Any7.bits_TrailingZeros64 Tryd.lays7_29 v hv w (fun _ => hT)).mono fun _ _ h => ⟨h.1, h.2.symm⟩
theorem itoa_any (w : World) (v : Nat) (hv : v < 100) : Calls Tryd.prog 45 #[.int .i64 v] w (Ret (.string ⟨(dec2 v).toArray⟩) w) :=
  (Any.strconv_Itoa_small Tryd.lays171 v hv w).mono fun _ _ h => ⟨by rw [h.1, dec2_eq hv], h.2.symm⟩
theorem join_any (w : World) (c : UInt8) (l : List Bs) (g cap : Nat) (hown : w.ownsRow 0 9 1 (.slice (some ⟨g, 0, none⟩) l.length cap) l.length (l.map strE)) (hlen : (joinL c l).length ≤ 100000) (hl : l.length ≤ 1000) :
    Calls Tryd.prog 38 #[.slice (some ⟨g, 0, none⟩) l.length cap, .string ⟨#[c]⟩] w (RetB (.string ⟨(joinL c l).toArray⟩) w) := by
  have hg : g < w.heap.size ∧ l.length ≤ cap := by
    rcases hown.2 with ⟨h, _⟩ | ⟨g', cap', cur, he, _, hg, hn, _⟩
    · cases h
    · cases he; exact ⟨heap_lt hg, hn⟩
  have e1 : ((l.map fun p => (⟨p.toArray⟩ : ByteArray)).map (·.data.toList)) = l := by
    rw [List.map_map]
    have : ∀ q : List Bs, q.map ((fun x : ByteArray => x.data.toList) ∘ fun p : Bs => (⟨p.toArray⟩ : ByteArray)) = q := fun q => by
      induction q with
      | nil => rfl
      | cons a r ih => rw [List.map_cons, ih]; rfl
    exact this l
  have h := Any.strings_Join Tryd.lays156 Tryd.extra156 g 0 cap (l.map fun p => ⟨p.toArray⟩) ⟨#[c]⟩ w (fun j x hx => by
    rw [List.getElem?_map] at hx
    obtain ⟨p, hp, rfl⟩ := Option.map_eq_some_iff.1 hx
    rw [Nat.zero_add]
    exact (owns_cell hown (k := j) (u := strE p) (by rw [List.getElem?_map, hp]; rfl)).1) hg.1 (by simp; omega) (by simp; exact hg.2)
    (by rw [e1]; show (Lib.join l [c]).length ≤ _; rw [join_eq]; omega)
  rw [e1] at h
  have e2 : Lib.join l (⟨#[c]⟩ : ByteArray).data.toList = joinL c l := join_eq c l
  rw [e2, List.length_map] at h
  exact h.mono fun _ _ h => ⟨h.1, h.2⟩

theorem info_str2 : (Tryd.prog.info? 9).map (fun i => (i.zero, i.size, i.bytes)) = some (some (.string ⟨#[]⟩), 1, 16) := by kernel_rfl

set_option maxRecDepth 100000 in
set_option maxHeartbeats 4000000 in
theorem fieldText_any (w : World) (hT : TabL w) (f : Fld) (v : Nat) (hv : v < 18446744073709551616) (any : Bool) :
    Calls Tryd.prog 37 #[f.v, .int .u64 v, .bool any] w (RetB (.string ⟨(textF v any).toArray⟩) w) := by
  obtain ⟨i0, hi, hz0, hz1, hz2⟩ := info_parts info_str2
  unfold Fld.v
  cases any
  case true =>
    go_enter Tryd.func37, Tryd.ntmps37
    go_wp2_with fail
    go_ret
    exact RetB.mk rfl ((Below.refl _ _).alloc (Nat.le_refl _) _)
  case false =>
    have HT := Lib.hid hT
    have HTZ : Hid (∀ W (u : Nat), u < 18446744073709551616 → TabL W → Calls Tryd.prog 46 #[.int .u64 u] W (Ret (.int .i64 (Lib.ctz 64 u)) W)) := Lib.hid fun W u h1 h2 => tz_any W u h1 h2
    have HF0 : Hid (v = 0 → textF v false = [45]) := Lib.hid fun h => by unfold textF; rw [if_neg (by decide), if_pos h]
    have HF1 : Hid (v ≠ 0 → textF v false = joinL 44 ((bitsL v).map dec2)) := Lib.hid fun h => by unfold textF; rw [if_neg (by decide), if_neg h]
    have HB0 : Hid (v = 0 → bitsL v = []) := Lib.hid fun h => by rw [h]; exact bitsL_zero
    have HNE : Hid (v ≠ 0 → bitsL v ≠ []) := Lib.hid fun h => bitsL_ne h hv
    have HLEN := Lib.hid (textF_len v false)
    have HLN := Lib.hid (bitsL_len v)
    clear hT
    generalize textF v false = TX at *
    obtain ⟨B0, hB0⟩ : ∃ B0, B0 = bitsL v := ⟨_, rfl⟩
    rw [← hB0] at HF1 HB0 HNE HLN
    have HBV := Lib.hid hB0
    clear hB0
    go_enter Tryd.func37, Tryd.ntmps37
    go_wp2_with fail
    go_loopw [1, 7] (fun s1 s7 wr => ∃ (u : Nat) (done : List Nat), s1 = .int .u64 u ∧ u < 18446744073709551616 ∧ done ++ bitsL u = B0 ∧ wr.ownsRow 0 9 1 s7 done.length ((done.map dec2).map strE) ∧ Below w.heap.size w wr ∧ (∀ j, s7.ownBlock = some j → w.heap.size ≤ j)) (fun s1 _ _ => (intOf s1).toNat)
    case atStart => exact ⟨v, [], rfl, hv, by rw [HBV.out]; rfl, World.ownsRow_nil _ _ _ _, (Below.refl _ _).alloc (Nat.le_refl _) _, by simp [Value.ownBlock]⟩
    case round =>
      obtain ⟨u, done, rfl, hu, hd, hown, hb, hnew⟩ := hrel
      have HD := Lib.hid hd
      have HO := Lib.hid hown
      have HB := Lib.hid hb
      have HN := Lib.hid hnew
      clear hd hown hb hnew
      by_cases h0 : u = 0
      · subst h0
        have HDD : Hid (done = B0) := Lib.hid (by have := HD.out; rw [bitsL_zero, List.append_nil] at this; exact this)
        by_cases hv0 : v = 0
        · have hd0 : done = [] := by rw [HDD.out]; exact HB0.out hv0
          subst hd0
          have hown := HO.out
          have hun : u7 = .slice none 0 0 ∨ ∃ g cap, u7 = .slice (some ⟨g, 0, none⟩) 0 cap := by
            rcases hown.2 with ⟨h, _⟩ | ⟨g, cap, cur, h, _⟩
            · exact .inl h
            · exact .inr ⟨g, cap, h⟩
          clear hown
          rcases hun with rfl | ⟨g, cap, rfl⟩
          all_goals
            go_wp2_with fail
            go_ret
            exact RetB.mk (by rw [HF0.out hv0]; rfl) HB.out
        · have hne : done ≠ [] := by rw [HDD.out]; exact HNE.out hv0
          have hpos : 0 < done.length := List.length_pos_iff.2 hne
          obtain ⟨g, cap, rfl⟩ : ∃ g cap, u7 = .slice (some ⟨g, 0, none⟩) done.length cap := by
            rcases HO.out.2 with ⟨_, h⟩ | ⟨g, cap, cur, h, _⟩
            · omega
            · exact ⟨g, cap, h⟩
          have hj := join_any wr 44 (done.map dec2) g cap (by rw [List.length_map]; exact HO.out) (by have h1 := HLEN.out; rw [HF1.out hv0, ← HDD.out] at h1; omega) (by have := HLN.out; rw [← HDD.out] at this; simp; omega)
          rw [List.length_map] at hj
          have hlb : ((done.length : Int) == 0) = false := by simp; omega
          have hlm : done.length ≤ 64 := by have := HLN.out; rw [← HDD.out] at this; exact this
          have HX : Hid (TX = joinL 44 (done.map dec2)) := Lib.hid (by rw [HF1.out hv0, HDD.out])
          rw [← HX.out] at hj
          clear hne HNE HF0 HF1 HB0
          go_wp2_with fail
          refine hj.mono ?_
          rintro e w2 ⟨rfl, hb2⟩
          go_wp2_with fail
          go_ret
          exact RetB.mk rfl (HB.out.trans (hb2.mono HB.out.size))
      · have hub : ((u : Int) != 0) = true := by simp; omega
        have hstep := bitsL_step h0 hu
        have hc := (low_clear h0 hu).1
        have HST := Lib.hid hstep
        have htz := HTZ.out wr u hu (HT.out.step HB.out)
        have hia := fun W => itoa_any W (Lib.ctz 64 u) (by omega)
        have HAND : Hid (bits .and .u64 (u : Int) ((u : Int) - 1) = ((u &&& (u - 1) : Nat) : Int)) := Lib.hid (by
          rw [show (u : Int) - 1 = ((u - 1 : Nat) : Int) by omega]
          exact u64_and_nat u (u - 1) hu (by omega))
        have HCL := Lib.hid (clear_lt h0)
        have HDL : Hid (done.length < 64) := Lib.hid (by
          have h1 := HLN.out
          rw [← HD.out, HST.out] at h1
          simp at h1; omega)
        have HM0 := Lib.hid (show done.length + 1 ≤ maxLen by have := HDL.out; unfold maxLen; omega)
        have HM1 := Lib.hid (show (done.length + 1) * 16 ≤ 140737488355328 by have := HDL.out; omega)
        have hu1 : 1 ≤ (u : Int) := by omega
        clear hstep h0
        generalize Lib.ctz 64 u = c at *
        go_wp2_with fail
        refine htz.mono ?_
        rintro e w' ⟨rfl, rfl⟩
        clear htz
        go_wp2_with fail
        refine (hia _).mono ?_
        rintro e w' ⟨rfl, rfl⟩
        clear hia
        go_wp2_with (at_builtin; refine wpList_append_one wr rfl _ _ _ rfl 9 i0 (.string ⟨#[]⟩) 16 Tryd.underlying31 hi hz0 hz1 hz2 rfl u7 done.length _ rfl HO.out (.string ⟨(dec2 c).toArray⟩) _ rfl rfl HM0.out HM1.out ?_; intro v5 w5 hown5 hg5 hrow5; have HO5 := Lib.hid hown5; have HG5 := Lib.hid hg5; have HR5 := Lib.hid hrow5; clear hown5 hg5 hrow5)
        go_roundw
        case rel =>
          refine ⟨u &&& (u - 1), done ++ [c], by rw [HAND.out], by have := HCL.out; omega, by rw [← HD.out, HST.out]; simp, ?_, ?_, ?_⟩
          · have := HO5.out
            simpa [strE] using this
          · have h1 : Keeps (fun k => w.heap.size ≤ k) w w5 := ((Keeps.of_below HB.out).alloc _).trans (grown_keeps HG5.out fun k hk => HN.out k hk.symm)
            exact h1.below (Nat.le_refl _) (fun k hk => hk)
          · intro j hj
            rcases HR5.out with h1 | ⟨i, h1, h2, _⟩
            · exact HN.out j (h1 ▸ hj)
            · rw [h1] at hj; cases hj; have := HB.out.size; simp at h2; omega
        case measure => rw [HAND.out]; simp [intOf]; exact HCL.out

theorem whole_any5 (w : World) (k : Nat) (hk : k < 5) : Calls Tryd.prog 36 #[(fld k).v] w (RetB (.int .u64 (wholeN k)) w) := by
  have : k = 0 ∨ k = 1 ∨ k = 2 ∨ k = 3 ∨ k = 4 := by omega
  rcases this with rfl | rfl | rfl | rfl | rfl
  all_goals
    unfold Fld.v fld
    simp only
    go_enter Tryd.func36, Tryd.ntmps36
    go_wp2_with fail
    go_ret
    exact RetB.mk rfl ((Below.refl _ _).alloc (Nat.le_refl _) _)

end Go.Proofs.YtfdnhpmdbcfepaaDoor

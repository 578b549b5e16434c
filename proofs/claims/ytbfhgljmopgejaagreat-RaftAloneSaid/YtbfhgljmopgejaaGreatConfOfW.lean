/- conf.Of: the members by a log. -/
import Derived.Test.YtbfhgljmopgejaaGreatLogB
import Derived.Test.YtbfhgljmopgejaaGreatMembersOf
namespace Go.Proofs.YtbfhgljmopgejaaGreat
open Go.RowKit Go.Sort

/-- The last of the first k entries that tells members: these, and its number. -/
def ofD (es : List Ent) : Nat → Option (List Int × Nat)
  | 0 => none
  | k + 1 => match es[k]? with
    | some e => if e.cf = true then (match membersOf e.d with | some l => some (l, k + 1) | none => ofD es k) else ofD es k
    | none => ofD es k

/-- What Of answers. -/
def OfR (ix : Int) (o : Option (List Int × Nat)) (base : List Int) (w : World) (e : Ending) (w' : World) : Prop :=
  match o with
  | some (l, k) => ∃ a cap, e = .returned (.tuple #[.slice a l.length cap, .int .u64 (ix + k)]) ∧ Below w.heap.size w w' ∧ Sl intv w' (.slice a l.length cap) l
  | none => ∃ a cap, e = .returned (.tuple #[.slice a base.length cap, .int .u64 0]) ∧ Below w.heap.size w w' ∧ Sl intv w' (.slice a base.length cap) base

section
variable (w : World) (t : Nat) (r : Option Nat) (ix tm : Int) (es : List Ent) (h : LogAt w t r ix tm es) (ok : LogOk ix tm es) (hd : ∀ e ∈ es, e.d.length ≤ 900)
  (a : Option Addr) (cap : Nat) (base : List Int) (hb : Sl intv w (.slice a base.length cap) base) (hbl : base.length ≤ 1000)
include h ok hd hb hbl

set_option maxRecDepth 100000 in
set_option maxHeartbeats 2000000 in
theorem of_any (last : Int) (hl : 0 ≤ last) : Calls Tryz.prog 38 #[.pointer (some ⟨t, 0, none⟩), .slice a base.length cap, .int .u64 last] w (OfR ix (ofD es (min last (ix + es.length) - ix).toNat) base w) := by
  have hbs := base_any w t r ix tm es h
  have hls := fun W (hW : Below w.heap.size w W) => last_any W t r ix tm es (h.below hW) ok
  have HAT : Hid (∀ W, Below w.heap.size w W → ∀ (k : Nat) (e : Ent), es[k]? = some e → ∀ i, i = ix + (k : Int) + 1 → Calls Tryz.prog 55 #[.pointer (some ⟨t, 0, none⟩), .int .u64 i] W (AtR W e)) :=
    Lib.hid fun W hW k e he i hi => at_any W t r ix tm es (h.below hW) ok k e he i hi (by have := hd e (List.mem_of_getElem? he); omega)
  have HDL := Lib.hid hd
  have HCL : Hid (∀ W, Below w.heap.size w W → Calls Tryz.prog 17 #[.slice a base.length cap] W (ClonedI W base)) := Lib.hid fun W hW => clone_anyI W a _ cap base (hb.below hW hb.row_lt) hbl
  have hx := ok.lo
  have hx2 := ok.hi
  clear h ok hd hb hbl
  generalize lastTm tm es = lt at *
  by_cases hlx : last < ix
  · have h0 : (min last (ix + (es.length : Int)) - ix).toNat = 0 := by omega
    have hmin : min last (ix + (es.length : Int)) = last := by omega
    rw [h0]
    clear h0
    have HCL := HCL
    go_enter Tryz.func38, Tryz.ntmps38
    go_wp2_with fail
    refine hbs.mono ?_
    rintro e w1 ⟨rfl, n, rfl⟩
    have hb1 : Below w.heap.size w (w.drewN n) := belowDN (Below.refl _ _) n
    go_wp2_with fail
    refine (hls _ hb1).mono ?_
    rintro e w2 ⟨rfl, hb2⟩
    have hb12 := hb1.trans (hb2.mono hb1.size)
    clear hb1 hb2 hls hbs
    go_wp2_with fail
    go_loop [12] (fun i => i = .int .u64 last) (fun _ => 0)
    case atStart => rfl
    case round =>
      obtain rfl := hrel
      go_wp2_with fail
      refine (HCL.out _ hb12).mono ?_
      rintro e w3 ⟨v, rfl, hb3, hs3, _, _⟩
      obtain ⟨va, vc, rfl, _⟩ := id hs3
      go_wp2_with fail
      go_ret2
      exact ⟨va, vc, rfl, hb12.trans (hb3.mono hb12.size), hs3⟩
  · obtain ⟨k0, hk0⟩ : ∃ k0 : Nat, (min last (ix + (es.length : Int)) - ix).toNat = k0 := ⟨_, rfl⟩
    have hmin : min last (ix + (es.length : Int)) = ix + (k0 : Int) := by omega
    have hkl : k0 ≤ es.length := by omega
    rw [hk0]
    have HKE : Hid (ix + (es.length : Int) < last → k0 = es.length) := Lib.hid fun h => by omega
    have HKL : Hid (last ≤ ix + (es.length : Int) → last = ix + k0) := Lib.hid fun h => by omega
    clear hk0 hmin
    by_cases hle : last ≤ ix + (es.length : Int)
    all_goals
      go_enter Tryz.func38, Tryz.ntmps38
      go_wp2_with fail
      refine hbs.mono ?_
      rintro e w1 ⟨rfl, n, rfl⟩
      have hb1 : Below w.heap.size w (w.drewN n) := belowDN (Below.refl _ _) n
      go_wp2_with fail
      refine (hls _ hb1).mono ?_
      rintro e w2 ⟨rfl, hb2⟩
      have hb12 := hb1.trans (hb2.mono hb1.size)
      have HB12 := Lib.hid hb12
      clear hb1 hb2 hls hbs hb12
      go_wp2_with fail
      go_loopw [12] (fun i wr => ∃ k : Nat, k ≤ k0 ∧ i = .int .u64 (ix + k) ∧ ofD es k = ofD es k0 ∧ Below w.heap.size w wr) (fun i _ => (intOf i - ix).toNat)
      case atStart => first | exact ⟨es.length, by have := HKE.out (by omega); omega, rfl, by rw [HKE.out (by omega)], HB12.out⟩ | exact ⟨k0, Nat.le_refl _, by rw [HKL.out hle], rfl, HB12.out⟩
      case round =>
        obtain ⟨k, hk, rfl, hof, hbw⟩ := hrel
        have HF := Lib.hid hof
        have HB := Lib.hid hbw
        clear hof
        rcases k with _ | k
        · clear hbw
          go_wp2_with fail
          refine (HCL.out _ HB.out).mono ?_
          rintro e w3 ⟨v, rfl, hb3, hs3, _, _⟩
          obtain ⟨va, vc, rfl, _⟩ := id hs3
          go_wp2_with fail
          go_ret2
          have hf : ofD es k0 = none := by rw [← HF.out]; rfl
          rw [hf]
          exact ⟨va, vc, rfl, HB.out.trans (hb3.mono HB.out.size), hs3⟩
        · obtain ⟨e, he⟩ : ∃ e, es[k]? = some e := ⟨es[k], List.getElem?_eq_getElem (by omega)⟩
          obtain ⟨i, hi⟩ : ∃ i, i = ix + ((k + 1 : Nat) : Int) := ⟨_, rfl⟩
          rw [← hi]
          have hat := HAT.out wr hbw k e he i (by omega)
          have hdl := HDL.out e (List.mem_of_getElem? he)
          have hi1 : ix < i := by omega
          have hi2 : i ≤ 9223372036854775807 := by omega
          have HI := Lib.hid hi
          have HF2 := Lib.hid (show ofD es (k + 1) = if e.cf = true then (match membersOf e.d with | some l => some (l, k + 1) | none => ofD es k) else ofD es k by simp only [ofD, he])
          clear hbw he hi
          go_wp2_with fail
          refine hat.mono ?_
          rintro en w3 ⟨da, dc, rfl, hb3, hs3⟩
          clear hat
          have hb3' := HB.out.trans (hb3.mono HB.out.size)
          have HB3 := Lib.hid hb3'
          have HS3 := Lib.hid hs3
          clear hb3 hs3 hb3'
          have hmo := fun ob => MembersOf_any (w3.alloc ob) da _ dc e.d (HS3.out.alloc ob) (by omega)
          have HMO := Lib.hid hmo
          clear hmo
          cases hcf : e.cf
          · have HC := Lib.hid hcf
            go_wp2_with fail
            go_roundw
            case rel => exact ⟨k, by omega, by rw [HI.out]; go_num, by rw [← HF.out, HF2.out, HC.out]; rfl, HB3.out.alloc HB3.out.size _⟩
            case measure => simp [intOf]; omega
          · have HC := Lib.hid hcf
            cases hm : membersOf e.d with
            | none =>
              have hmo := HMO.out
              rw [hm] at hmo
              have HMM := Lib.hid hm
              clear hm
              go_wp2_with fail
              refine (hmo _).mono ?_
              rintro en w4 ⟨x, hx0, rfl, hb4⟩
              clear hmo
              have hb4' := (HB3.out.alloc HB3.out.size _).trans (hb4.mono (by have := HB3.out.size; simp; omega))
              have HB4 := Lib.hid hb4'
              clear hb4 hb4'
              go_wp2_with fail
              go_roundw
              case rel => exact ⟨k, by omega, by rw [HI.out]; go_num, by rw [← HF.out, HF2.out, HC.out, HMM.out]; rfl, HB4.out⟩
              case measure => simp [intOf]; omega
            | some l =>
              have hmo := HMO.out
              rw [hm] at hmo
              have HMM := Lib.hid hm
              clear hm
              go_wp2_with fail
              refine (hmo _).mono ?_
              rintro en w4 ⟨la, rfl, hb4, hs4⟩
              clear hmo
              have hb4' := (HB3.out.alloc HB3.out.size _).trans (hb4.mono (by have := HB3.out.size; simp; omega))
              have HB4 := Lib.hid hb4'
              have HS4 := Lib.hid hs4
              clear hb4 hb4' hs4
              go_wp2_with fail
              go_ret2
              have hf : ofD es k0 = some (l, k + 1) := by rw [← HF.out, HF2.out, HC.out, HMM.out]; rfl
              rw [hf]
              exact ⟨la, _, by rw [HI.out]; rfl, HB4.out, HS4.out⟩
end

end Go.Proofs.YtbfhgljmopgejaaGreat

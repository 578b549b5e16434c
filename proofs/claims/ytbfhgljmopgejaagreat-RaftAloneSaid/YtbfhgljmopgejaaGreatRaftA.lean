/- Package raft, a node alone: its members by a log that tells none. -/
import Derived.Test.YtbfhgljmopgejaaGreatConfOfW
namespace Go.Proofs.YtbfhgljmopgejaaGreat
open Go.RowKit Go.Sort

/-- A slice of these numbers lies in new memory. -/
structure NewI (w : World) (a : Option Addr) (cap : Nat) (l : List Int) (w' : World) : Prop where
  bel : Below w.heap.size w w'
  sl : Sl intv w' (.slice a l.length cap) l
  own : w'.ownsRow 0 3 1 (.slice a l.length cap) l.length (l.map intv)
  new : ∀ k, (Value.slice a l.length cap).ownBlock = some k → w.heap.size ≤ k

section
variable (w : World) (t : Nat) (r : Option Nat) (ix tm : Int) (es : List Ent) (h : LogAt w t r ix tm es) (ok : LogOk ix tm es) (hd : ∀ e ∈ es, e.d.length ≤ 900) (hc : ∀ e ∈ es, e.cf = false)
  (a : Option Addr) (cap : Nat) (base : List Int) (hb : Sl intv w (.slice a base.length cap) base) (hbl : base.length ≤ 1000)
include h ok hd hc hb hbl

set_option maxRecDepth 100000 in
set_option maxHeartbeats 2000000 in
theorem of_lone (last : Int) (hl : last ≤ ix + es.length) (hx : ix ≤ last) : Calls Tryz.prog 38 #[.pointer (some ⟨t, 0, none⟩), .slice a base.length cap, .int .u64 last] w
    fun e w' => ∃ a' cap', e = .returned (.tuple #[.slice a' base.length cap', .int .u64 0]) ∧ NewI w a' cap' base w' := by
  have hbs := base_any w t r ix tm es h
  have hls := fun W (hW : Below w.heap.size w W) => last_any W t r ix tm es (h.below hW) ok
  have HAT : Hid (∀ W, Below w.heap.size w W → ∀ (k : Nat) (e : Ent), es[k]? = some e → ∀ i, i = ix + (k : Int) + 1 → Calls Tryz.prog 55 #[.pointer (some ⟨t, 0, none⟩), .int .u64 i] W (AtR W e)) :=
    Lib.hid fun W hW k e he i hi => at_any W t r ix tm es (h.below hW) ok k e he i hi (by have := hd e (List.mem_of_getElem? he); omega)
  have HCF := Lib.hid hc
  have HCL : Hid (∀ W, Below w.heap.size w W → Calls Tryz.prog 17 #[.slice a base.length cap] W (ClonedI W base)) := Lib.hid fun W hW => clone_anyI W a _ cap base (hb.below hW hb.row_lt) hbl
  have hx0 := ok.lo
  have hx2 := ok.hi
  clear h ok hd hb hbl hc
  generalize lastTm tm es = lt at *
  obtain ⟨k0, hk0⟩ : ∃ k0 : Nat, (last - ix).toNat = k0 := ⟨_, rfl⟩
  have hmin : min last (ix + (es.length : Int)) = last := by omega
  have hkl : k0 ≤ es.length := by omega
  have hlk : last = ix + k0 := by omega
  have HLK := Lib.hid hlk
  clear hk0 hlk
  go_enter Tryz.func38, Tryz.ntmps38
  go_wp2_with fail
  refine hbs.mono ?_
  rintro e w1 ⟨rfl, n, rfl⟩
  have hb1 : Below w.heap.size w (w.drewN n) := belowDN (Below.refl _ _) n
  go_wp2_with fail
  refine (hls _ hb1).mono ?_
  rintro e w2 ⟨rfl, hb2⟩
  have hb12 := hb1.trans (hb2.mono hb1.size)
  have HB12 := Lib.hid hb12
  clear hb1 hb2 hls hbs hb12
  go_wp2_with fail
  go_loopw [12] (fun i wr => ∃ k : Nat, k ≤ es.length ∧ i = .int .u64 (ix + k) ∧ Below w.heap.size w wr) (fun i _ => (intOf i - ix).toNat)
  case atStart => exact ⟨k0, hkl, by rw [HLK.out], HB12.out⟩
  case round =>
    obtain ⟨k, hk, rfl, hbw⟩ := hrel
    have HB := Lib.hid hbw
    rcases k with _ | k
    · clear hbw hmin
      go_wp2_with fail
      refine (HCL.out _ HB.out).mono ?_
      rintro e w3 ⟨v, rfl, hb3, hs3, ho3, hn3⟩
      obtain ⟨va, vc, rfl, _⟩ := id hs3
      go_wp2_with fail
      go_ret2
      exact ⟨va, vc, rfl, HB.out.trans (hb3.mono HB.out.size), hs3, ho3, fun k hk => Nat.le_trans HB.out.size (hn3 k hk)⟩
    · obtain ⟨e, he⟩ : ∃ e, es[k]? = some e := ⟨es[k], List.getElem?_eq_getElem (by omega)⟩
      obtain ⟨i, hi⟩ : ∃ i, i = ix + ((k + 1 : Nat) : Int) := ⟨_, rfl⟩
      rw [← hi]
      have hat := HAT.out wr hbw k e he i (by omega)
      have hi1 : ix < i := by omega
      have hi2 : i ≤ 9223372036854775807 := by omega
      have HI := Lib.hid hi
      have hcf := HCF.out e (List.mem_of_getElem? he)
      clear hbw he hi hmin
      go_wp2_with fail
      refine hat.mono ?_
      rintro en w3 ⟨da, dc, rfl, hb3, hs3⟩
      clear hat
      have HB3 := Lib.hid (HB.out.trans (hb3.mono HB.out.size))
      clear hb3 hs3
      go_wp2_with fail
      go_roundw
      case rel => exact ⟨k, by omega, by rw [HI.out]; go_num, HB3.out.alloc HB3.out.size _⟩
      case measure => simp [intOf]; omega
end

end Go.Proofs.YtbfhgljmopgejaaGreat

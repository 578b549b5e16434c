/- Entries that came in: a slice of structs with slices of bytes, opened. -/
import Derived.Test.YtbfhgljmopgejaaGreatLogA
import Derived.Test.YtbfhgljmopgejaaGreatOpenSl
import Derived.Deep.Slices
import Derived.Deep.MidRow
import Derived.Lib.SmallJoins
namespace Go.Proofs.YtbfhgljmopgejaaGreat
open Go.RowKit Go.ChangeShapes Go.WideShapes Go.ChangeAt Go.Deep Go.Joins

/-- An entry's cells, from offset o of block b on. -/
def EntAt (w : World) (b o : Nat) (e : Ent) : Prop :=
  w.cell? ⟨b, o, none⟩ = some (.int .u64 e.ix) ∧ w.cell? ⟨b, o + 1, none⟩ = some (.int .u64 e.tm) ∧ w.cell? ⟨b, o + 2, none⟩ = some (.bool e.cf) ∧ w.cell? ⟨b, o + 3, none⟩ = some e.v

def EntOk (w : World) (e : Ent) : Prop := (Lit.int .u64 e.ix).wf = true ∧ (Lit.int .u64 e.tm).wf = true ∧ SlW u8v w e.v e.d ∧ e.d.length ≤ maxLen

def EntRow (w : World) (a : Option Addr) (len cap : Nat) (xs : Nat → Ent) : Prop :=
  len ≤ maxLen ∧ len ≤ cap ∧ (len = 0 ∨ ∃ b off, a = some ⟨b, off, none⟩ ∧ b < w.heap.size ∧ ∀ i, i < len → EntAt w b (off + i * 4) (xs i) ∧ EntOk w (xs i))

section
variable {H : Type} {enc : TypeId × Value → H} {w : World} {base : Nat}

set_option maxRecDepth 100000 in
theorem bytes_open {n : Nat} {cs : List Value} {y : DataW H × List MemPlace} (h : DataW.trod enc Tryz.prog w base (fun _ => true) true n 33 cs = some y) : ∃ v d, cs = [v] ∧ SlW u8v w v d ∧ d.length ≤ maxLen := by
  rcases open_ints Tryz.underlying33 Tryz.underlying5 (by kernel_rfl) h with ⟨rfl, _⟩ | ⟨x, l, c, zs, rfl, _, hl, hm, hz, _, hcell, hwz⟩
  · exact ⟨_, [], rfl, .inl (Sl.nil _ _), by simp⟩
  · simp only [if_true] at hz
    rcases Nat.eq_zero_or_pos c with rfl | hc0
    · obtain rfl : l = 0 := by omega
      exact ⟨_, [], rfl, .inr ⟨x, rfl, rfl⟩, by simp⟩
    · obtain ⟨b, off, spot⟩ := x
      have hs := hcell 0 (by omega)
      have hspot : spot = none := by simpa [Addr.add] using World.cell?_spot hs
      subst hspot
      have hlen : ((zs.take l).map fun z => UInt8.ofNat z.toNat).length = l := by rw [List.length_map, List.length_take]; omega
      refine ⟨_, (zs.take l).map fun z => UInt8.ofNat z.toNat, rfl, .inl ⟨_, c, by rw [hlen], by omega, hm, .inr ⟨b, off, rfl, ?_, fun i ch hi => ?_⟩⟩, by omega⟩
      · have := cell_lt hs
        rwa [addr_add] at this
      · rw [List.getElem?_map] at hi
        cases hz2 : (zs.take l)[i]? with
        | none => rw [hz2] at hi; cases hi
        | some z =>
          rw [hz2] at hi
          simp only [Option.map_some, Option.some.injEq] at hi
          rw [List.getElem?_take] at hz2
          split at hz2
          · have hiz := (List.getElem?_eq_some_iff.1 hz2).1
            have hc := hcell i hiz
            have hw := hwz z (List.mem_of_getElem? hz2)
            rw [addr_add, List.getD_eq_getElem?_getD, hz2] at hc
            have hb : 0 ≤ z ∧ z ≤ 255 := by
              simp [Lit.wf, IntKind.min, IntKind.max, IntKind.bits, IntKind.signed] at hw
              omega
            rw [hc, ← hi]
            unfold u8v
            rw [toNat_ofNat (by omega)]
            simp only [Option.getD_some]
            congr 2
            omega
          · cases hz2

set_option maxRecDepth 100000 in
theorem ent_open {n : Nat} {cs : List Value} {y : DataW H × List MemPlace} (h : DataW.trod enc Tryz.prog w base (fun _ => true) true n 47 cs = some y) : ∃ e : Ent, cs = e.cells ∧ EntOk w e := by
  obtain ⟨y0, y1, y2, y3, m, _, hl, h0, h1, h2, h3⟩ := trod_struct4 Tryz.underlying47 h
  have hc : Tryz.prog.cellsOf 47 = 4 := by kernel_rfl
  rw [hc] at hl
  match cs, hl with
  | [c0, c1, c2, c3], _ =>
    obtain ⟨e, he, _, we⟩ := DataW.trod_int Tryz.underlying23 h0
    obtain ⟨t, ht, _, wt⟩ := DataW.trod_int Tryz.underlying23 h1
    obtain ⟨b, hb, _⟩ := DataW.trod_bool Tryz.underlying4 h2
    obtain ⟨v, d, hv, hs, hd⟩ := bytes_open h3
    have k0 : Tryz.prog.cellsOf 23 = 1 := by kernel_rfl
    have k1 : Tryz.prog.cellsOf 4 = 1 := by kernel_rfl
    have k2 : Tryz.prog.cellsOf 33 = 1 := by kernel_rfl
    simp [k0, k1, k2] at he ht hb hv
    subst he ht hb hv
    exact ⟨⟨e, t, b, c3, d⟩, rfl, we, wt, hs, hd⟩

set_option maxRecDepth 100000 in
theorem open_ents {a : Option Addr} {len cap : Nat} {d : DataW H} {p : List MemPlace} (h : DataW.Trod enc Tryz.prog w base (fun _ => true) true 36 (.slice a len cap) d p) : ∃ xs, EntRow w a len cap xs := by
  obtain ⟨fuel, hf⟩ := h
  rcases open_slice Tryz.underlying36 hf with ⟨hcs, _⟩ | ⟨ad, l, c, m, n, D, Pl, hcs, _, hl, hm, hmm, _, hx⟩
  · simp [Value.cells] at hcs
    obtain ⟨rfl, rfl, rfl⟩ := hcs
    exact ⟨fun _ => ⟨0, 0, false, .slice none 0 0, []⟩, by simp, by simp, .inl rfl⟩
  · simp [Value.cells] at hcs
    obtain ⟨rfl, rfl, rfl⟩ := hcs
    have hlm : len ≤ m := by rw [hmm]; split <;> omega
    have hce : Tryz.prog.cellsOf 47 = 4 := by kernel_rfl
    rw [hce] at hx
    have each : ∀ i, i < len → ∃ e : Ent, (∀ j v, e.cells[j]? = some v → w.cell? (ad.add (i * 4 + j)) = some v) ∧ EntOk w e := by
      intro i hi
      obtain ⟨cs', h1, h2⟩ := hx i (by omega)
      obtain ⟨e, rfl, hok⟩ := ent_open h2
      refine ⟨e, fun j v hv => ?_, hok⟩
      obtain ⟨_, hlen, hcell⟩ := World.cells?_some h1
      have hj : j < 4 := by
        have := (List.getElem?_eq_some_iff.1 hv).1
        simpa [Ent.cells] using this
      have := hcell j hj
      rw [add_add] at this
      rw [this]
      exact hv
    have : Inhabited Ent := ⟨⟨0, 0, false, .slice none 0 0, []⟩⟩
    obtain ⟨xs, hxs⟩ := choose_lt each
    refine ⟨xs, by omega, hl, ?_⟩
    rcases Nat.eq_zero_or_pos len with h0 | h0
    · exact .inl h0
    · right
      obtain ⟨b, off, spot⟩ := ad
      have hs := (hxs 0 h0).1 0 _ rfl
      have hspot : spot = none := by simpa [Addr.add] using World.cell?_spot hs
      subst hspot
      have hadd : ∀ k, (⟨b, off, none⟩ : Addr).add k = ⟨b, off + k, none⟩ := fun k => Addr.add_mid b off k
      refine ⟨b, off, rfl, cell_lt hs, fun i hi => ⟨?_, (hxs i hi).2⟩⟩
      have hc := (hxs i hi).1
      have g : ∀ j v, (xs i).cells[j]? = some v → w.cell? ⟨b, off + i * 4 + j, none⟩ = some v := by
        intro j v hv
        have := hc j v hv
        rw [hadd] at this
        rw [Nat.add_assoc]; exact this
      exact ⟨g 0 _ rfl, g 1 _ rfl, g 2 _ rfl, g 3 _ rfl⟩
end

end Go.Proofs.YtbfhgljmopgejaaGreat

/- Rows of bytes that came in: a slice of slices of bytes, opened. -/
import Derived.Test.YtbfhgljmopgejaaGreatEnts
namespace Go.Proofs.YtbfhgljmopgejaaGreat
open Go.RowKit Go.ChangeShapes Go.WideShapes Go.ChangeAt Go.Deep Go.Joins

/-- A slice of slices of bytes. -/
def BsRow (w : World) (a : Option Addr) (len cap : Nat) (xs : Nat → Value × List UInt8) : Prop :=
  len ≤ maxLen ∧ len ≤ cap ∧ (len = 0 ∨ ∃ b off, a = some ⟨b, off, none⟩ ∧ b < w.heap.size ∧ ∀ i, i < len → w.cell? ⟨b, off + i, none⟩ = some (xs i).1 ∧ SlW u8v w (xs i).1 (xs i).2 ∧ (xs i).2.length ≤ maxLen)

set_option maxRecDepth 100000 in
theorem open_bss {H : Type} {enc : TypeId × Value → H} {w : World} {base : Nat} {a : Option Addr} {len cap : Nat} {d : DataW H} {p : List MemPlace} (h : DataW.Trod enc Tryz.prog w base (fun _ => true) true 24 (.slice a len cap) d p) : ∃ xs, BsRow w a len cap xs := by
  obtain ⟨fuel, hf⟩ := h
  rcases open_slice Tryz.underlying24 hf with ⟨hcs, _⟩ | ⟨ad, l, c, m, n, D, Pl, hcs, _, hl, hm, hmm, _, hx⟩
  · simp [Value.cells] at hcs
    obtain ⟨rfl, rfl, rfl⟩ := hcs
    exact ⟨fun _ => (.slice none 0 0, []), by simp, by simp, .inl rfl⟩
  · simp [Value.cells] at hcs
    obtain ⟨rfl, rfl, rfl⟩ := hcs
    have hlm : len ≤ m := by rw [hmm]; split <;> omega
    have hce : Tryz.prog.cellsOf 33 = 1 := by kernel_rfl
    rw [hce] at hx
    have each : ∀ i, i < len → ∃ x : Value × List UInt8, w.cell? (ad.add i) = some x.1 ∧ SlW u8v w x.1 x.2 ∧ x.2.length ≤ maxLen := by
      intro i hi
      obtain ⟨cs', h1, h2⟩ := hx i (by omega)
      obtain ⟨v, d, rfl, hs, hd⟩ := bytes_open h2
      refine ⟨(v, d), ?_, hs, hd⟩
      obtain ⟨_, hlen, hcell⟩ := World.cells?_some h1
      have := hcell 0 (by omega)
      rw [add_add, Nat.mul_one, Nat.add_zero] at this
      simpa using this
    have : Inhabited (Value × List UInt8) := ⟨(.slice none 0 0, [])⟩
    obtain ⟨xs, hxs⟩ := choose_lt each
    refine ⟨xs, by omega, hl, ?_⟩
    rcases Nat.eq_zero_or_pos len with h0 | h0
    · exact .inl h0
    · right
      obtain ⟨b, off, spot⟩ := ad
      have hs := (hxs 0 h0).1
      have hspot : spot = none := by simpa [Addr.add] using World.cell?_spot hs
      subst hspot
      have hadd : ∀ k, (⟨b, off, none⟩ : Addr).add k = ⟨b, off + k, none⟩ := fun k => Addr.add_mid b off k
      refine ⟨b, off, rfl, cell_lt hs, fun i hi => ?_⟩
      have hc := hxs i hi
      rw [hadd] at hc
      exact hc

end Go.Proofs.YtbfhgljmopgejaaGreat

/- The acts of the statement SessionPlays: a slice of structs that came in, opened. -/
import Derived.Test.YtckmenongeklpaaSession
import Derived.ProofKit
import Derived.Deep.Slices
import Derived.Deep.MidRow
import Derived.Lib.SmallJoins
namespace Go.Proofs.Ytckmenongeklpaa
open Go.RowKit Go.ChangeShapes Go.WideShapes Go.ChangeAt Go.Deep Go.Joins

/-- What a worker is asked, or answered. -/
structure ActV where
  kind : Int
  client : Int
  number : Int
  a : Ans

instance : Inhabited ActV := ⟨⟨0, 0, 0, Ans.zero⟩⟩

def AnsOk (a : Ans) : Prop := (Lit.int .i64 a.err).wf = true ∧ a.name.size ≤ maxLen ∧ (Lit.int .u64 a.tok).wf = true ∧ (Lit.int .i64 a.val).wf = true

/-- Its cells, from offset o of block b on. -/
def ActAt (w : World) (b o : Nat) (x : ActV) : Prop :=
  w.cell? ⟨b, o, none⟩ = some (.int .i64 x.kind) ∧ w.cell? ⟨b, o + 1, none⟩ = some (.int .u64 x.client) ∧ w.cell? ⟨b, o + 2, none⟩ = some (.int .u64 x.number) ∧ w.cell? ⟨b, o + 3, none⟩ = some (.int .i64 x.a.err) ∧
  w.cell? ⟨b, o + 4, none⟩ = some (.string x.a.name) ∧ w.cell? ⟨b, o + 5, none⟩ = some (.int .u64 x.a.tok) ∧ w.cell? ⟨b, o + 6, none⟩ = some (.int .i64 x.a.val)

def ActOk (x : ActV) : Prop := (Lit.int .i64 x.kind).wf = true ∧ (Lit.int .u64 x.client).wf = true ∧ (Lit.int .u64 x.number).wf = true ∧ AnsOk x.a

def ActRow (w : World) (a : Option Addr) (len cap : Nat) (xs : Nat → ActV) : Prop :=
  len ≤ maxLen ∧ len ≤ cap ∧ (len = 0 ∨ ∃ b off, a = some ⟨b, off, none⟩ ∧ b < w.heap.size ∧ ∀ i, i < len → ActAt w b (off + i * 7) (xs i) ∧ ActOk (xs i))

section
variable {H : Type} {enc : TypeId × Value → H} {w : World} {base : Nat} {spare : Nat → Bool} {held : Bool}

set_option maxRecDepth 100000 in
theorem ans_open {n : Nat} {cs : List Value} {y : DataW H × List MemPlace} (h : DataW.trod enc Try.prog w base spare held n 36 cs = some y) : ∃ a : Ans, cs = [.int .i64 a.err, .string a.name, .int .u64 a.tok, .int .i64 a.val] ∧ AnsOk a := by
  obtain ⟨y0, y1, y2, y3, m, _, hl, h0, h1, h2, h3⟩ := trod_struct4 Try.underlying36 h
  have hc : Try.prog.cellsOf 36 = 4 := by kernel_rfl
  rw [hc] at hl
  match cs, hl with
  | [c0, c1, c2, c3], _ =>
    obtain ⟨e, he, _, we⟩ := DataW.trod_int Try.underlying25 h0
    obtain ⟨s, hs, _, ws⟩ := DataW.trod_string Try.underlying9 h1
    obtain ⟨t, ht, _, wt⟩ := DataW.trod_int Try.underlying34 h2
    obtain ⟨v, hv, _, wv⟩ := DataW.trod_int Try.underlying2 h3
    have k0 : Try.prog.cellsOf 25 = 1 := by kernel_rfl
    have k1 : Try.prog.cellsOf 9 = 1 := by kernel_rfl
    have k2 : Try.prog.cellsOf 34 = 1 := by kernel_rfl
    have k3 : Try.prog.cellsOf 2 = 1 := by kernel_rfl
    simp [k0, k1, k2, k3] at he hs ht hv
    subst he hs ht hv
    exact ⟨⟨e, s, t, v⟩, rfl, we, ws, wt, wv⟩

set_option maxRecDepth 100000 in
theorem act_open {n : Nat} {cs : List Value} {y : DataW H × List MemPlace} (h : DataW.trod enc Try.prog w base spare held n 38 cs = some y) :
    ∃ x : ActV, cs = [.int .i64 x.kind, .int .u64 x.client, .int .u64 x.number, .int .i64 x.a.err, .string x.a.name, .int .u64 x.a.tok, .int .i64 x.a.val] ∧ ActOk x := by
  obtain ⟨y0, y1, y2, y3, m, _, hl, h0, h1, h2, h3⟩ := trod_struct4 Try.underlying38 h
  have hc : Try.prog.cellsOf 38 = 7 := by kernel_rfl
  rw [hc] at hl
  match cs, hl with
  | [c0, c1, c2, c3, c4, c5, c6], _ =>
    obtain ⟨k, hk, _, wk⟩ := DataW.trod_int Try.underlying3 h0
    obtain ⟨d, hd, _, wd⟩ := DataW.trod_int Try.underlying34 h1
    obtain ⟨u, hu, _, wu⟩ := DataW.trod_int Try.underlying34 h2
    obtain ⟨a, ha, wa⟩ := ans_open h3
    have k0 : Try.prog.cellsOf 3 = 1 := by kernel_rfl
    have k1 : Try.prog.cellsOf 36 = 4 := by kernel_rfl
    have k2 : Try.prog.cellsOf 34 = 1 := by kernel_rfl
    simp [k0, k1, k2] at hk hd hu ha
    obtain ⟨e0, e1, e2, e3⟩ := ha
    subst hk hd hu e0 e1 e2 e3
    exact ⟨⟨k, d, u, a⟩, rfl, wk, wd, wu, wa⟩

set_option maxRecDepth 100000 in
theorem open_acts {a : Option Addr} {len cap : Nat} {d : DataW H} {p : List MemPlace} (h : DataW.Trod enc Try.prog w base spare held 31 (.slice a len cap) d p) : ∃ xs, ActRow w a len cap xs := by
  obtain ⟨fuel, hf⟩ := h
  rcases open_slice Try.underlying31 hf with ⟨hcs, _⟩ | ⟨ad, l, c, m, n, D, Pl, hcs, _, hl, hm, hmm, _, hx⟩
  · simp [Value.cells] at hcs
    obtain ⟨rfl, rfl, rfl⟩ := hcs
    exact ⟨fun _ => default, by simp, by simp, .inl rfl⟩
  · simp [Value.cells] at hcs
    obtain ⟨rfl, rfl, rfl⟩ := hcs
    have hlm : len ≤ m := by rw [hmm]; split <;> omega
    have hce : Try.prog.cellsOf 38 = 7 := by kernel_rfl
    rw [hce] at hx
    have each : ∀ i, i < len → ∃ x : ActV, (∀ j v, [Value.int .i64 x.kind, .int .u64 x.client, .int .u64 x.number, .int .i64 x.a.err, .string x.a.name, .int .u64 x.a.tok, .int .i64 x.a.val][j]? = some v → w.cell? (ad.add (i * 7 + j)) = some v) ∧ ActOk x := by
      intro i hi
      obtain ⟨cs', h1, h2⟩ := hx i (by omega)
      obtain ⟨x, rfl, hok⟩ := act_open h2
      refine ⟨x, fun j v hv => ?_, hok⟩
      obtain ⟨_, hlen, hcell⟩ := World.cells?_some h1
      have hj : j < 7 := by
        have := (List.getElem?_eq_some_iff.1 hv).1
        simpa using this
      have := hcell j hj
      rw [add_add] at this
      rw [this]
      exact hv
    obtain ⟨xs, hxs⟩ := choose_lt each
    refine ⟨xs, by omega, hl, ?_⟩
    rcases Nat.eq_zero_or_pos len with h0 | h0
    · exact .inl h0
    · right
      obtain ⟨b, off, spot⟩ := ad
      have hs := (hxs 0 h0).1 0 _ rfl
      have hspot : spot = none := by simpa [Addr.add] using World.cell?_spot hs
      subst hspot
      have hadd : ∀ k, (⟨b, off, none⟩ : Addr).add k = ⟨b, off + k, none⟩ := fun k => Addr.add_mid b off k
      refine ⟨b, off, rfl, cell_lt hs, fun i hi => ⟨?_, (hxs i hi).2⟩⟩
      have hc := (hxs i hi).1
      have g : ∀ j v, [Value.int .i64 (xs i).kind, .int .u64 (xs i).client, .int .u64 (xs i).number, .int .i64 (xs i).a.err, .string (xs i).a.name, .int .u64 (xs i).a.tok, .int .i64 (xs i).a.val][j]? = some v → w.cell? ⟨b, off + i * 7 + j, none⟩ = some v := by
        intro j v hv
        have := hc j v hv
        rw [hadd] at this
        rw [Nat.add_assoc]; exact this
      exact ⟨g 0 _ rfl, g 1 _ rfl, g 2 _ rfl, g 3 _ rfl, g 4 _ rfl, g 5 _ rfl, g 6 _ rfl⟩
end

end Go.Proofs.Ytckmenongeklpaa

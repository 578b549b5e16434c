/- What lies at an index; the contracts of a run's nodes. -/
import Derived.Test.YtdjooojpcepleaaGreatRsM37
namespace Go.Proofs.YtdjooojpcepleaaGreat
open Go.RowKit Go.Maps Go.ChangeMaps
section
variable {C0 : List Int} {g g' : Gh En} {n : Nat} {x z : NodeS} {X Y : List En} {D : List (Int × Ent)}
def AtOk (X : List En) (D : List (Int × Ent)) : Prop := ∀ p ∈ D, p.2.ix = p.1 ∧ 1 ≤ p.1 ∧ 0 ≤ p.2.tm ∧ X[p.1.toNat - 1]? = some p.2.en
theorem AtOk.nil : AtOk X [] := fun _ h => by cases h
theorem AtOk.put (h : AtOk X D) (hN : OkN C0 g n x X) (hok : LogOk x.ix x.tm x.es) {l : List Ent} (hpl : l.map Ent.pl = x.es.map Ent.pl) {k : Nat} {e : Ent} (he : l[k]? = some e) : AtOk X (aset e.ix e D) := fun p hp => by
 obtain ⟨_, h2, h3, _, h5, _⟩ := hN.state_at hok hpl he
 rcases aset_mem hp with hp | rfl
 ·exact h p hp
 ·exact ⟨rfl, h3, h5, h2⟩
def AlOk (X Y : List En) (al : Bool) (q : Int) : Prop := al = true → ∃ m : Nat, q ≤ m ∧ SameTo X Y m
theorem AlOk.mono {al : Bool} {q r : Int} (h : AlOk X Y al q) (hr : r ≤ q) : AlOk X Y al r := fun e => by
 obtain ⟨m, h1, h2⟩ := h e
 exact ⟨m, by omega, h2⟩
theorem al_step (hX : OkN C0 g n x X) (hY : OkN C0 g n z Y) (hD : AtOk X D) {y e : Ent} (hy : aget e.ix D = some y) (he : Y[e.ix.toNat - 1]? = some e.en) (he0 : 0 ≤ e.tm) {al : Bool} (h : AlOk X Y al e.ix) :
  (al = true → y.ix = e.ix ∧ y.tm = e.tm ∧ y.cf = e.cf ∧ y.d = e.d) ∧ AlOk X Y (al || (y.tm == e.tm)) e.ix := by
 obtain ⟨h1, h2, h3, h4⟩ := hD _ (aget_some_mem hy)
 have h4' : X[e.ix.toNat - 1]? = some y.en := h4
 have h2' : 1 ≤ e.ix := h2
 have h3' : 0 ≤ y.tm := h3
 refine ⟨fun e1 => ?_, fun e1 => ?_⟩
 ·obtain ⟨m, a, b⟩ := h e1
  have hs := b.get (k := e.ix.toNat - 1) (by omega)
  rw [h4', he] at hs
  injection hs with hs
  exact ⟨h1, en_same hs h3' he0⟩
 ·cases al with
  | true => exact h rfl
  | false =>
   have et : y.tm = e.tm := by simpa using e1
   have l1 := (List.getElem?_eq_some_iff.1 h4').1
   have l2 := (List.getElem?_eq_some_iff.1 he).1
   refine ⟨e.ix.toNat, by omega, coh_same hX.ni.coh hY.ni.coh (by omega) (by omega) ?_⟩
   unfold tmAt
   rw [if_neg (by omega), if_neg (by omega), h4', he]
   show y.tm.toNat = e.tm.toNat
   rw [et]
end
section
variable {s b k : Nat} {w0 w w' : World} {M M' : Nat → Prop} {c c' : Cl} {g g' : Gh En} {L : List (Int × Int)} {D : List (Int × Ent)}
theorem RunAt.logok (h : RunAt s w0 b k w M c g L D) {j : Nat} (hj : j < s) : LogOk (c.x j).ix (c.x j).tm (c.x j).es := by
 obtain ⟨S, hn⟩ := h.at_.node j (by rw [h.sz]; exact hj)
 exact hn.ok
theorem RunAt.nok (h : RunAt s w0 b k w M c g L D) {j : Nat} (hj : j < s) : ∃ X, OkN (memS s) g k (c.x j) X := h.ok.node j (by rw [h.sz]; exact hj)
theorem run_state (h : RunAt s w0 b k w M c g L D) {j : Nat} (hj : j < s) (hk : k ≤ 1000) : Calls Tryz.prog 10 #[.pointer (some ⟨c.P j, 0, none⟩)] w (StateR w (c.x j)) := by
 obtain ⟨X, hX⟩ := h.nok hj
 have h1 := (hX.nums (h.logok hj)).last
 have h2 := hX.len
 exact state_node w M (c.F j) (c.P j) (c.x j) (h.at_.node j (by rw [h.sz]; exact hj)) (by omega) (by have := (mL hX.memb).2.1; omega)
theorem RunAt.lastx (h : RunAt s w0 b k w M c g L D) {j : Nat} (hj : j < s) {X : List En} (hX : OkN (memS s) g k (c.x j) X) : (c.x j).ix + (c.x j).es.length = X.length := by
 have h1 := (hX.nums (h.logok hj)).last
 omega
theorem RunAt.k0 (h : RunAt s w0 b k w M c g L D) : w.cell? ⟨b, 0, none⟩ = some (.slice (some ⟨c.nb, 0, none⟩) s c.ncap) := by
 have := h.at_.k0
 rwa [h.wd, h.sz] at this
theorem RunAt.cn (h : RunAt s w0 b k w M c g L D) {i : Nat} (hi : i < s) : w.cell? ⟨c.nb, i, none⟩ = some (.pointer (some ⟨c.P i, 0, none⟩)) := h.at_.cn (by rw [h.sz]; exact hi)
theorem state_row (h : RunAt s w0 b k w M c g L D) {v : Value} {l : List Ent} (hr : RowN w w' v l) : RowE w' M v l := hr.rowE h.at_.lt
theorem RowE.more {v : Value} {l : List Ent} (h : RowE w M v l) {p : Nat} (hp : w.heap.size ≤ p) : RowE w (fun q => M q ∨ q = p) v l := by
 have hl := h.row_lt
 obtain ⟨h1, h2, h3⟩ := h
 exact ⟨fun k hk e => e.elim (h1 k hk) fun e => (by have := hl k hk; omega), fun e he => ⟨(h2 e he).1, fun k hk e2 => e2.elim ((h2 e he).2 k hk) fun e2 => (by have := (h2 e he).1.row_lt k hk; omega)⟩, h3⟩
theorem below_set {w1 wr : World} (h : Below w1.heap.size w1 wr) {p : Nat} (hp : w1.heap.size ≤ p) (ob : Obj) : Below w1.heap.size w1 (setBlock wr p ob) := by
 have h1 : Keeps (fun q => w1.heap.size ≤ q) w1 (setBlock wr p ob) := (Keeps.of_below h).setBlock (p := p) (.inl hp) ob
 exact h1.below nL fun q hq => hq
end
end Go.Proofs.YtdjooojpcepleaaGreat

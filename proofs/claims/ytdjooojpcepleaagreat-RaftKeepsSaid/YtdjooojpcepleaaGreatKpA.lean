/- What a leader has of what was committed; the contracts of a run's nodes. -/
import Derived.Test.YtdjooojpcepleaaGreatRsM37
namespace Go.Proofs.YtdjooojpcepleaaGreat
open Go.RowKit Go.Maps Go.ChangeMaps
section
variable {ε : Type} {tm : ε → Nat} {cf : ε → Option (List Int)} {C0 : List Int} {g g' : Gh ε} {v : Int} {nd : NdS ε} {X : List ε}
theorem lead_has (hg : GI tm cf C0 g) {x : Int} {nd : NdS ε} {X : List ε} (h : NI tm cf C0 g x nd X) (hr : nd.role = 3) {t : Nat} {Y : List ε} {k : Nat} (hc : Com g t Y k) (ht : t ≤ nd.term) : SameTo Y X k := by
 obtain ⟨a, b, _, _⟩ := h.lead hr
 rw [b]
 exact com_lead hg hc ht (by rw [a]; simp)
end
section
theorem last_node (w : World) (M F : Nat → Prop) (p : Nat) (x : NodeS) (h : NodeAt w M F p x) : Calls Tryz.prog 21 #[.pointer (some ⟨p, 0, none⟩)] w (RetB (.int .u64 (x.ix + x.es.length)) w) := by
 have d : w.cell? ⟨p, 9, none⟩ = some (.pointer (some ⟨x.lg, 0, none⟩)) := h.cell 9 rfl
 obtain ⟨S, hn⟩ := h
 have hls := last_any w x.lg x.r x.ix x.tm x.es hn.log hn.ok
 generalize lT x.tm x.es = lt at *
 generalize x.ix + (x.es.length : Int) = li at *
 clear hn
 go_enter Tryz.func21, Tryz.ntmps21
 go_wp2_with fail
 refine hls.mono ?_
 rintro en w3 ⟨rfl, hb3⟩
 go_wp2_with fail
 go_ret
 exact RetB.mk rfl hb3
end
section
variable {C0 : List Int} {g g' : Gh En} {n : Nat} {x z : NodeS} {X Y : List En} {D : List (Int × Ent)}
def KpOk (g : Gh En) (most inn : Int) : Prop := 0 ≤ most ∧ 0 ≤ inn ∧ ∃ t X, Com g t X most.toNat ∧ (t : Int) ≤ inn
theorem KpOk.zero : KpOk g 0 0 := ⟨Int.le_refl _, Int.le_refl _, 0, [], .inl rfl, Int.le_refl _⟩
theorem KpOk.grow {v a b : Int} (h : KpOk g a b) (hg : OkG C0 g n) (hgr : Grow v g g') : KpOk g' a b := by
 obtain ⟨h0, h1, t, X, h2, h3⟩ := h
 exact ⟨h0, h1, t, X, h2.grow hg.gi hgr, h3⟩
theorem KpOk.put {a b : Int} (h : KpOk g a b) (hN : OkN C0 g n x X) : KpOk g x.commit (if b < x.term then x.term else b) := by
 obtain ⟨h0, h1, t, Y, h2, h3⟩ := h
 have := hN.c0
 have := hN.t0
 refine ⟨hN.c0, by split <;> omega, x.term.toNat, X, ?_, by split <;> omega⟩
 exact Com.mono hN.ni.com nL (by show _ ≤ x.commit.toNat; omega)
theorem KpOk.lead {a b : Int} (h : KpOk g a b) (hg : OkG C0 g n) (hN : OkN C0 g n x X) (hr : x.role = 3) (ht : b < x.term) : ∃ t Y, Com g t Y a.toNat ∧ SameTo Y X a.toNat := by
 obtain ⟨h0, h1, t, Y, h2, h3⟩ := h
 have := hN.t0
 exact ⟨t, Y, h2, lead_has hg.gi hN.ni hr h2 (by show t ≤ x.term.toNat; omega)⟩
theorem KpOk.last {a b : Int} (h : KpOk g a b) (hg : OkG C0 g n) (hN : OkN C0 g n x X) (hr : x.role = 3) (ht : b < x.term) : a ≤ X.length := by
 obtain ⟨t, Y, _, h2⟩ := h.lead hg hN hr ht
 have := h2.2.1
 have := h.1
 omega
theorem KpOk.entry {L : List (Int × Int)} {a b : Int} (h : KpOk g a b) (hA : AgOk C0 g L D) (hg : OkG C0 g n) (hN : OkN C0 g n x X) (hok : LogOk x.ix x.tm x.es) (hr : x.role = 3) (ht : b < x.term) {l : List Ent} (hpl : l.map Ent.pl = x.es.map Ent.pl) {k : Nat} {e : Ent} (he : l[k]? = some e) (hea : e.ix ≤ a) {y : Ent} (hy : aget e.ix D = some y) :
  y.ix = e.ix ∧ y.tm = e.tm ∧ y.cf = e.cf ∧ y.d = e.d := by
 obtain ⟨_, h2, h3, h4, h5, _⟩ := hN.state_at hok hpl he
 obtain ⟨t, Y, k1, k2⟩ := h.lead hg hN hr ht
 obtain ⟨_, y2, y3, u, Z, y4, y5⟩ := hA.ag _ (aget_some_mem hy)
 have y5' : Z[e.ix.toNat - 1]? = some y.en := y5
 have y3' : 0 ≤ y.tm := y3
 have hs := (com_same hg.gi k1 y4 (i := e.ix.toNat) (by omega) nL).get (k := e.ix.toNat - 1) (by omega)
 have hs2 := k2.get (k := e.ix.toNat - 1) (by omega)
 rw [hs, h2, y5'] at hs2
 injection hs2 with hs2
 exact ⟨y2, en_same hs2 y3' h5⟩
end
section
variable {s b k : Nat} {w0 w w' : World} {M M' : Nat → Prop} {c c' : Cl} {g g' : Gh En} {L : List (Int × Int)} {D : List (Int × Ent)}
theorem RunAt.logok (h : RunAt s w0 b k w M c g L D) {j : Nat} (hj : j < s) : LogOk (c.x j).ix (c.x j).tm (c.x j).es := by
 obtain ⟨S, hn⟩ := h.at_.node j (by rw [h.sz]; exact hj)
 exact hn.ok
theorem RunAt.nok (h : RunAt s w0 b k w M c g L D) {j : Nat} (hj : j < s) : ∃ X, OkN (memS s) g k (c.x j) X := h.ok.node j (by rw [h.sz]; exact hj)
theorem run_state (h : RunAt s w0 b k w M c g L D) {j : Nat} (hj : j < s) (hk : k ≤ 1000) : Calls Tryz.prog 10 #[.pointer (some ⟨c.P j, 0, none⟩)] w (StateR w (c.x j)) := by
 obtain ⟨X, hX⟩ := h.nok hj
 have h1 := (hX.nums (h.logok hj)).last
 have h2 := hX.len
 exact state_node w M (c.F j) (c.P j) (c.x j) (h.at_.node j (by rw [h.sz]; exact hj)) (by omega) (by have := (mL hX.memb).2.1; omega)
theorem run_role (h : RunAt s w0 b k w M c g L D) {j : Nat} (hj : j < s) : Calls Tryz.prog 17 #[.pointer (some ⟨c.P j, 0, none⟩)] w (Ret (.int .i64 (c.x j).role) w) :=
 role_node w M (c.F j) (c.P j) (c.x j) (h.at_.node j (by rw [h.sz]; exact hj))
theorem run_term (h : RunAt s w0 b k w M c g L D) {j : Nat} (hj : j < s) : Calls Tryz.prog 20 #[.pointer (some ⟨c.P j, 0, none⟩)] w (Ret (.int .u64 (c.x j).term) w) :=
 term_node w M (c.F j) (c.P j) (c.x j) (h.at_.node j (by rw [h.sz]; exact hj))
theorem run_commit (h : RunAt s w0 b k w M c g L D) {j : Nat} (hj : j < s) : Calls Tryz.prog 19 #[.pointer (some ⟨c.P j, 0, none⟩)] w (Ret (.int .u64 (c.x j).commit) w) :=
 commit_node w M (c.F j) (c.P j) (c.x j) (h.at_.node j (by rw [h.sz]; exact hj))
theorem run_last (h : RunAt s w0 b k w M c g L D) {j : Nat} (hj : j < s) : Calls Tryz.prog 21 #[.pointer (some ⟨c.P j, 0, none⟩)] w (RetB (.int .u64 ((c.x j).ix + (c.x j).es.length)) w) :=
 last_node w M (c.F j) (c.P j) (c.x j) (h.at_.node j (by rw [h.sz]; exact hj))
theorem RunAt.lastx (h : RunAt s w0 b k w M c g L D) {j : Nat} (hj : j < s) {X : List En} (hX : OkN (memS s) g k (c.x j) X) : (c.x j).ix + (c.x j).es.length = X.length := by
 have h1 := (hX.nums (h.logok hj)).last
 omega
theorem RunAt.k0 (h : RunAt s w0 b k w M c g L D) : w.cell? ⟨b, 0, none⟩ = some (.slice (some ⟨c.nb, 0, none⟩) s c.ncap) := by
 have := h.at_.k0
 rwa [h.wd, h.sz] at this
theorem RunAt.cn (h : RunAt s w0 b k w M c g L D) {i : Nat} (hi : i < s) : w.cell? ⟨c.nb, i, none⟩ = some (.pointer (some ⟨c.P i, 0, none⟩)) := h.at_.cn (by rw [h.sz]; exact hi)
theorem state_row (h : RunAt s w0 b k w M c g L D) {v : Value} {l : List Ent} (hr : RowN w w' v l) : RowE w' M v l := hr.rowE h.at_.lt
end
end Go.Proofs.YtdjooojpcepleaaGreat

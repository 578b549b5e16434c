/- Package raft, a node alone: what it is; its members, the others. -/
import Derived.Test.YtbfhgljmopgejaaGreatRaftA
import Derived.Test.YtbfhgljmopgejaaGreatConfA
import Derived.Lib.SliceRun
import Derived.Laws.IdiomCopy
import Derived.Deep.RegionHeld3
namespace Go.Proofs.YtbfhgljmopgejaaGreat
open Go.RowKit Go.Sort

/-- A node alone, as plain values. -/
structure LoneS where
  id : Int
  mv : Value
  el : Int
  be : Int
  term : Int
  vote : Int
  role : Int
  lead : Int
  since : Int
  lg : Nat
  r : Option Nat
  es : List Ent
  imv : Value
  commit : Int
  poll : Value
  track : Value
  hard : Bool

/-- Its cells. -/
def LoneS.cells (x : LoneS) : Array Value :=
  #[.int .i64 x.id, x.mv, .int .i64 x.el, .int .i64 x.be, .int .u64 x.term, .int .i64 x.vote, .int .i64 x.role, .int .i64 x.lead, .int .i64 x.since, .pointer (some ⟨x.lg, 0, none⟩),
    .int .u64 0, .int .u64 0, x.imv, .slice none 0 0, .int .u64 x.commit, x.poll, x.track, .slice none 0 0, .bool x.hard, .bool false, .int .u64 0]

/-- Block p is such a node, all of it in new memory since w0. -/
structure Lone (w0 w : World) (p : Nat) (x : LoneS) : Prop where
  box : w.heap[p]? = some (.cells x.cells 60 (0, 0))
  log : LogAt w x.lg x.r 0 0 x.es
  ok : LogOk 0 0 x.es
  dl : ∀ e ∈ x.es, e.d.length ≤ 900
  cf : ∀ e ∈ x.es, e.cf = false
  img : ∃ a cap, x.imv = .slice a 1 cap ∧ Sl intv w (.slice a 1 cap) [x.id]
  i1 : 1 ≤ x.id
  i7 : x.id ≤ 7
  bel : Below w0.heap.size w0 w
  pb : w0.heap.size ≤ p
  lb : w0.heap.size ≤ x.lg
  rb : ∀ k, x.r = some k → w0.heap.size ≤ k
  pl : p ≠ x.lg
  pr : x.r ≠ some p
  pi : x.imv.ownBlock ≠ some p
  il : x.imv.ownBlock ≠ some x.lg
  ir : ∀ k, x.imv.ownBlock = some k → x.r ≠ some k
  pd : ∀ e ∈ x.es, e.v.ownBlock ≠ some p
  n0 : x.es.length ≤ 1000

section
variable {w0 w w' : World} {p : Nat} {x y : LoneS}
theorem Lone.lt (h : Lone w0 w p x) : p < w.heap.size := heap_lt h.box
theorem Lone.cell (h : Lone w0 w p x) (i : Nat) {v : Value} (hv : x.cells[i]? = some v) : w.cell? ⟨p, i, none⟩ = some v := blk_cell h.box i hv
theorem Lone.free (h : Lone w0 w p x) (i : Nat) : w.frozen? ⟨p, i, none⟩ = false := blk_free h.box i
theorem Lone.below (h : Lone w0 w p x) (hb : Below w.heap.size w w') : Lone w0 w' p x := by
  obtain ⟨a, cap, e, hs⟩ := h.img
  exact ⟨bheap hb h.box h.lt, h.log.below hb, h.ok, h.dl, h.cf, ⟨a, cap, e, hs.below hb hs.row_lt⟩, h.i1, h.i7, h.bel.trans (hb.mono h.bel.size), h.pb, h.lb, h.rb, h.pl, h.pr, h.pi, h.il, h.ir, h.pd, h.n0⟩
theorem Lone.drew (h : Lone w0 w p x) : Lone w0 w.drew p x := h.below (belowD (Below.refl _ _))
theorem Lone.drewN (h : Lone w0 w p x) (n : Nat) : Lone w0 (w.drewN n) p x := h.below (belowDN (Below.refl _ _) n)
theorem Lone.alloc (h : Lone w0 w p x) (o : Obj) : Lone w0 (w.alloc o) p x := h.below ((Below.refl _ _).alloc (Nat.le_refl _) o)
/-- After a cell of its own was stored. -/
theorem Lone.set (h : Lone w0 w p x) (y : LoneS) (i : Nat) (v : Value) (hc : y.cells = x.cells.setIfInBounds i v) (h1 : y.lg = x.lg) (h2 : y.r = x.r) (h3 : y.es = x.es) (h4 : y.imv = x.imv) (h5 : y.id = x.id) :
    Lone w0 (w.setCell ⟨p, i, none⟩ v) p y := by
  have hk : Keeps (fun k => k = p) w (w.setCell ⟨p, i, none⟩ v) := (Keeps.refl (fun k => k = p) w).setCell (p := ⟨p, i, none⟩) (.inl rfl) v
  obtain ⟨a, cap, e, hs⟩ := h.img
  refine ⟨?_, ?_, ?_, ?_, ?_, ⟨a, cap, ?_, ?_⟩, ?_, ?_, ?_, h.pb, ?_, ?_, ?_, ?_, ?_, ?_, ?_, ?_, ?_⟩
  · rw [hc]; exact blk_set h.box i v
  · rw [h1, h2, h3]; exact h.log.kept hk (fun e => h.pl e.symm) (fun k hk e => h.pr (by rw [hk, e])) (fun q hq k hk e => h.pd q hq (by rw [hk, e]))
  · rw [h3]; exact h.ok
  · rw [h3]; exact h.dl
  · rw [h3]; exact h.cf
  · rw [h4]; exact e
  · rw [h5]; exact hs.kept hk (fun k hk e2 => h.pi (by rw [e, ← e2]; exact hk))
  · rw [h5]; exact h.i1
  · rw [h5]; exact h.i7
  · exact h.bel.trans (hk.below h.bel.size (fun k hk => hk ▸ h.pb))
  · rw [h1]; exact h.lb
  · rw [h2]; exact h.rb
  · rw [h1]; exact h.pl
  · rw [h2]; exact h.pr
  · rw [h4]; exact h.pi
  · rw [h4, h1]; exact h.il
  · rw [h4, h2]; exact h.ir
  · rw [h3]; exact h.pd
  · rw [h3]; exact h.n0
end

section
variable {w0 w : World} {p : Nat} {x : LoneS} (h : Lone w0 w p x)
include h

/-- A node alone is its one member. -/
theorem members_lone : Calls Tryz.prog 24 #[.pointer (some ⟨p, 0, none⟩)] w fun e w' => ∃ a cap, e = .returned (.slice a 1 cap) ∧ NewI w a cap [x.id] w' := by
  have hls := last_any w x.lg x.r 0 0 x.es h.log h.ok
  obtain ⟨a, cap, himv, hs⟩ := h.img
  have HIM := Lib.hid himv
  have HOF := Lib.hid (fun W (hW : Below w.heap.size w W) => of_lone W x.lg x.r 0 0 x.es (h.log.below hW) h.ok h.dl h.cf a cap [x.id] (hs.below hW hs.row_lt) (by simp) (0 + x.es.length) (Int.le_refl _) (by omega))
  have c9 := h.cell 9 rfl
  have c12 : w.cell? ⟨p, 12, none⟩ = some (.slice a 1 cap) := by rw [← himv]; exact h.cell 12 rfl
  have H := Lib.hid h
  have n0 := h.n0
  have e0 : (0 : Int) + (x.es.length : Int) = (x.es.length : Int) := by omega
  rw [e0] at HOF hls
  generalize lastTm 0 x.es = lt at *
  clear h hs himv
  go_enter Tryz.func24, Tryz.ntmps24
  go_wp2_with fail
  refine hls.mono ?_
  rintro e w1 ⟨rfl, hb1⟩
  have HB1 := Lib.hid hb1
  have H1 := Lib.hid (H.out.below hb1)
  have d9 : w1.cell? ⟨p, 9, none⟩ = some (.pointer (some ⟨x.lg, 0, none⟩)) := H1.out.cell 9 rfl
  have d12 : w1.cell? ⟨p, 12, none⟩ = some (.slice a 1 cap) := by rw [← HIM.out]; exact H1.out.cell 12 rfl
  clear hb1 c9 c12 hls e0
  go_wp2_with fail
  go_region_held3 (fun w' => w'.cell? ⟨p, 9, none⟩ = some (.pointer (some ⟨x.lg, 0, none⟩)) ∧ w'.cell? ⟨p, 12, none⟩ = some (.slice a 1 cap)) (first | exact ⟨d9, d12⟩ | exact ⟨f9, f12⟩)
    (first | (go_at_call 38; refine (HOF.out _ (belowD HB1.out)).mono ?_; rintro e w2 ⟨a2, cap2, rfl, hn2⟩; have HN2 := Lib.hid hn2; have f9 : w2.cell? ⟨p, 9, none⟩ = some (.pointer (some ⟨x.lg, 0, none⟩)) := (H1.out.drew.below HN2.out.bel).cell 9 rfl; have f12 : w2.cell? ⟨p, 12, none⟩ = some (.slice a 1 cap) := by rw [← HIM.out]; exact (H1.out.drew.below HN2.out.bel).cell 12 rfl))
  go_wp2_with fail
  go_ret
  have b2 := HN2.out.bel
  have hz := HB1.out.size
  exact ⟨a2, cap2, rfl, (belowD HB1.out).trans (b2.mono hz), HN2.out.sl, HN2.out.own, fun k hk => Nat.le_trans hz (HN2.out.new k hk)⟩
end

end Go.Proofs.YtbfhgljmopgejaaGreat

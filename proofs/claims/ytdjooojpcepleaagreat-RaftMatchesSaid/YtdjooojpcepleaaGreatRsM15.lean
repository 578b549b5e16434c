/- raft, any node: a call under way; follow, send. -/
import Derived.Test.YtdjooojpcepleaaGreatRsM14
import Derived.BigRegion

namespace Go.Proofs.YtdjooojpcepleaaGreat
section
open Go.RowKit
structure Rn (w0 : World) (M0 F0 G : Nat → Prop) (w : World) (p : Nat) (y : NodeS) : Prop where
 node : NodeAt w (fun k => M0 k ∨ G k) G p y
 keeps : Keeps F0 w0 w
 sub : ∀ k, F0 k → G k
 new : ∀ k, G k → F0 k ∨ w0.heap.size ≤ k
 fm : ∀ k, F0 k → M0 k
 lt : ∀ k, M0 k → k < w0.heap.size
section
variable {w0 w w' : World} {M0 F0 G : Nat → Prop} {p : Nat} {x y : NodeS}
theorem Rn.start {M F : Nat → Prop} (h : NodeAt w M F p x) (hM : ∀ k, M k → k < w.heap.size) : Rn w M F F w p x := by
 have hf : ∀ k, F k → M k := by obtain ⟨S, h'⟩ := h; exact h'.fm
 refine ⟨?_, Keeps.refl _ _, fun _ h => h, fun _ h => .inl h, hf, hM⟩
 have e : (fun k => M k ∨ F k) = M := by
  funext k
  exact propext ⟨fun e => e.elim id (hf k), .inl⟩
 rw [e]
 exact h
theorem Rn.to (h : Rn w0 M0 F0 G w p y) : NodTo w0 M0 F0 w p y := ⟨G, h.node, h.keeps, h.sub, h.new⟩
theorem Rn.mv (h : Rn w0 M0 F0 G w p y) : Mv w0 M0 w (fun k => M0 k ∨ G k) := ⟨h.keeps.mono fun k _ hk => h.fm k hk, fun k hk => hk.elim .inl fun hk => (h.new k hk).imp (h.fm k) id⟩
theorem Rn.glt (h : Rn w0 M0 F0 G w p y) : ∀ k, G k → k < w.heap.size := by
 obtain ⟨S, h'⟩ := h.node
 exact h'.lt
theorem Rn.ml (h : Rn w0 M0 F0 G w p y) : ∀ k, M0 k ∨ G k → k < w.heap.size := fun k hk => hk.elim (fun hk => Nat.lt_of_lt_of_le (h.lt k hk) h.keeps.size) (h.glt k)
theorem Rn.below (h : Rn w0 M0 F0 G w p y) (hb : Below w.heap.size w w') : Rn w0 M0 F0 G w' p y :=
 ⟨h.node.below hb, ⟨hb.os.trans h.keeps.os, hb.tape.trans h.keeps.tape, hb.output.trans h.keeps.output, Nat.le_trans h.keeps.size hb.size, fun i hi hn => (hb.block i (Nat.lt_of_lt_of_le hi h.keeps.size)).trans (h.keeps.block i hi hn)⟩, h.sub, h.new, h.fm, h.lt⟩
theorem Rn.drewN (h : Rn w0 M0 F0 G w p y) (n : Nat) : Rn w0 M0 F0 G (w.drewN n) p y := h.below (belowDN bR n)
theorem Rn.drew (h : Rn w0 M0 F0 G w p y) : Rn w0 M0 F0 G w.drew p y := h.below (bD bR)
theorem Rn.cell (h : Rn w0 M0 F0 G w p y) (i : Nat) {v : Value} (hv : y.cells[i]? = some v) : w.cell? ⟨p, i, none⟩ = some v := h.node.cell i hv
theorem Rn.free (h : Rn w0 M0 F0 G w p y) (i : Nat) : w.frozen? ⟨p, i, none⟩ = false := h.node.free i
theorem Rn.plt (h : Rn w0 M0 F0 G w p y) : p < w.heap.size := h.node.plt
theorem Rn.fp (h : Rn w0 M0 F0 G w p y) : G p := by
 obtain ⟨S, h'⟩ := h.node
 exact h'.fp
theorem Rn.kept (h : Rn w0 M0 F0 G w p x) {G' : Nat → Prop} (hn : NodeAt w' (fun k => M0 k ∨ G' k) G' p y) (hk : Keeps G w w') (h3 : ∀ k, G k → G' k) (h4 : ∀ k, G' k → G k ∨ w.heap.size ≤ k) : Rn w0 M0 F0 G' w' p y := by
 refine ⟨hn, ?_, fun k hk => h3 k (h.sub k hk), fun k hk => ?_, h.fm, h.lt⟩
 ·exact ⟨hk.os.trans h.keeps.os, hk.tape.trans h.keeps.tape, hk.output.trans h.keeps.output, Nat.le_trans h.keeps.size hk.size, fun i hi hn => (hk.block i (Nat.lt_of_lt_of_le hi h.keeps.size) fun e => (h.new i e).elim hn fun e => by omega).trans (h.keeps.block i hi hn)⟩
 ·rcases h4 k hk with hk | hk
  ·exact h.new k hk
  ·right; have := h.keeps.size; omega
theorem Rn.call (h : Rn w0 M0 F0 G w p x) (k : NodTo w (fun k => M0 k ∨ G k) G w' p y) : ∃ G', Rn w0 M0 F0 G' w' p y := by
 obtain ⟨H, k1, k2, k3, k4⟩ := k
 have e : (fun k => (M0 k ∨ G k) ∨ H k) = fun k => M0 k ∨ H k := by
  funext k
  exact propext ⟨fun e => e.elim (fun e => e.imp id (k3 k)) .inr, fun e => e.elim (fun e => .inl (.inl e)) .inr⟩
 rw [e] at k1
 exact ⟨H, h.kept k1 k2 k3 k4⟩
theorem NodeIn.setP {M F : Nat → Prop} {S : Nat → Nat → Prop} (h : NodeIn w M F S p x) (i : Nat) (v : Value) (hc : y.cells = x.cells.setIfInBounds i v) (f1 : y.lg = x.lg) (f2 : y.r = x.r) (f3 : y.ix = x.ix) (f4 : y.tm = x.tm) (f5 : y.es = x.es) (e1 : y.imv = x.imv) (e2 : y.mem = x.mem) (e3 : y.idv = x.idv) (e4 : y.ov = x.ov) (e5 : y.out = x.out)
  (hb : (y.pv = x.pv ∧ y.pl = x.pl) ∨ (y.pv = .pointer none ∧ y.pl = none)) (ht : (y.tv = x.tv ∧ y.tr = x.tr) ∨ (y.tv = .pointer none ∧ y.tr = none)) : NodeIn (w.setCell ⟨p, i, none⟩ v) M F S p y := by
 have hk : Keeps (fun k => k = p) w (w.setCell ⟨p, i, none⟩ v) := (Keeps.refl (fun k => k = p) w).setCell (p := ⟨p, i, none⟩) (.inl rfl) v
 have hm : Mv w M (w.setCell ⟨p, i, none⟩ v) M := Mv.keep hk fun k e => e ▸ h.fm p h.fp
 have hS : ∀ j, j < 4 → ∀ k, S j k → ¬ k = p := fun j hj k e e' => h.sp j hj (e' ▸ e)
 obtain ⟨a, b⟩ := h.logMv hm hk (hS 0 (by omega))
 obtain ⟨d, hd, hdl⟩ := h.dat
 refine ⟨by rw [hc]; exact blk_set h.box i v, h.fp, h.sp, h.sub, h.fm, fun k hk' => Nat.lt_of_lt_of_le (h.lt k hk') hk.size, h.apart, ?_, ?_, ?_, ?_, ?_, ?_, ?_, ?_, ?_, ?_, ?_, ?_, ?_, ?_⟩
 ·rw [f1, f2, f3, f4, f5]; exact a
 ·rw [f1]; exact h.slg
 ·rw [f2]; exact h.srow
 ·rw [f5]; exact b
 ·rw [f3, f4, f5]; exact h.ok
 ·rw [f5]; exact h.dl
 ·rw [f5]; exact h.len
 ·rw [e4, e5]; exact h.out.mv hm hk (hS 1 (by omega))
 ·rcases hb with ⟨a, b⟩ | ⟨a, b⟩
  ·rw [a, b]; exact h.bal.mv hm hk (hS 2 (by omega))
  ·rw [a, b]; exact rfl
 ·rcases ht with ⟨a, b⟩ | ⟨a, b⟩
  ·rw [a, b]; exact h.trk.kept hk (hS 3 (by omega))
  ·rw [a, b]; exact rfl
 ·rw [e1, e2]; exact hm.sl h.mem h.imm
 ·rw [e1]; exact hm.im h.imm h.mem.row_lt
 ·rw [e3]; exact ⟨d, hm.sl hd h.imd, hdl⟩
 ·rw [e3]; exact hm.im h.imd hd.row_lt
theorem rS {x : NodeS} {a b c d e f i : Int} {g h : Bool} : SameParts x { x with term := a, vote := b, role := c, lead := d, since := e, commit := f, hard := g, fresh := h, stable := i } := ⟨rfl, rfl, rfl, rfl, rfl, rfl, rfl, rfl, rfl, rfl, rfl, rfl, rfl, rfl⟩
theorem Rn.set (h : Rn w0 M0 F0 G w p x) (y : NodeS) (i : Nat) (v : Value) (hc : y.cells = x.cells.setIfInBounds i v) (hy : SameParts x y) : Rn w0 M0 F0 G (w.setCell ⟨p, i, none⟩ v) p y :=
 h.kept (h.node.set i v hc hy) ((Keeps.refl G w).setCell (p := ⟨p, i, none⟩) (.inl h.fp) v) (fun _ h => h) fun _ h => .inl h
theorem Rn.setP (h : Rn w0 M0 F0 G w p x) (y : NodeS) (i : Nat) (v : Value) (hc : y.cells = x.cells.setIfInBounds i v) (f1 : y.lg = x.lg) (f2 : y.r = x.r) (f3 : y.ix = x.ix) (f4 : y.tm = x.tm) (f5 : y.es = x.es) (e1 : y.imv = x.imv) (e2 : y.mem = x.mem) (e3 : y.idv = x.idv) (e4 : y.ov = x.ov) (e5 : y.out = x.out)
  (hb : (y.pv = x.pv ∧ y.pl = x.pl) ∨ (y.pv = .pointer none ∧ y.pl = none)) (ht : (y.tv = x.tv ∧ y.tr = x.tr) ∨ (y.tv = .pointer none ∧ y.tr = none)) : Rn w0 M0 F0 G (w.setCell ⟨p, i, none⟩ v) p y := by
 obtain ⟨S, hn⟩ := h.node
 exact h.kept ⟨S, hn.setP i v hc f1 f2 f3 f4 f5 e1 e2 e3 e4 e5 hb ht⟩ ((Keeps.refl G w).setCell (p := ⟨p, i, none⟩) (.inl h.fp) v) (fun _ h => h) fun _ h => .inl h
theorem Rn.im_new (h : Rn w0 M0 F0 G w p y) {v : Value} (hv : ∀ k, v.ownBlock = some k → w.heap.size ≤ k) : im (fun k => M0 k ∨ G k) v := fun k hk e => by
 have := h.ml k e
 have := hv k hk
 omega
end
def NodeS.folB (x : NodeS) (term lead : Int) : NodeS :=
 if x.term < term then { x with term := term, vote := 0, hard := true, role := 0, lead := lead, pv := .pointer none, pl := none, tv := .pointer none, tr := none }
 else { x with role := 0, lead := lead, pv := .pointer none, pl := none, tv := .pointer none, tr := none }
def RnTo (w : World) (M F : Nat → Prop) (p : Nat) (y : NodeS) (e : Ending) (w' : World) : Prop := e = .returned (.tuple #[]) ∧ NodTo w M F w' p y
set_option maxRecDepth 100000 in
set_option maxHeartbeats 1600000 in
theorem follow_node (w : World) (M F : Nat → Prop) (p : Nat) (x : NodeS) (h : NodeAt w M F p x) (hM : ∀ k, M k → k < w.heap.size) (term lead : Int) : Calls Tryz.prog 37 #[.pointer (some ⟨p, 0, none⟩), .int .u64 term, .int .i64 lead] w (RnTo w M F p (x.folB term lead)) := by
 have HR := hI (Rn.start h hM)
 have hlt := h.plt
 have d4 : w.cell? ⟨p, 4, none⟩ = some (.int .u64 x.term) := h.cell 4 rfl
 have d5 : w.cell? ⟨p, 5, none⟩ = some (.int .i64 x.vote) := h.cell 5 rfl
 have d6 : w.cell? ⟨p, 6, none⟩ = some (.int .i64 x.role) := h.cell 6 rfl
 have d7 : w.cell? ⟨p, 7, none⟩ = some (.int .i64 x.lead) := h.cell 7 rfl
 have d15 : w.cell? ⟨p, 15, none⟩ = some x.pv := h.cell 15 rfl
 have d16 : w.cell? ⟨p, 16, none⟩ = some x.tv := h.cell 16 rfl
 have d18 : w.cell? ⟨p, 18, none⟩ = some (.bool x.hard) := h.cell 18 rfl
 have f4 := h.free 4
 have f5 := h.free 5
 have f6 := h.free 6
 have f7 := h.free 7
 have f15 := h.free 15
 have f16 := h.free 16
 have f18 := h.free 18
 clear h hM
 by_cases ht : x.term < term
 ·go_enter Tryz.func37, Tryz.ntmps37
  go_wp2_with fail
  refine bodyPost_end (results_none rfl _ _ _) rfl ⟨rfl, ?_⟩
  unfold NodeS.folB
  rw [if_pos ht]
  exact (((((((HR.out.set { x with term := term } 4 (.int .u64 term) rfl rS).set { x with term := term, vote := 0 } 5 (.int .i64 0) rfl rS).set { x with term := term, vote := 0, hard := true } 18 (.bool true) rfl rS).set { x with term := term, vote := 0, hard := true, role := 0 } 6 (.int .i64 0) rfl rS).set { x with term := term, vote := 0, hard := true, role := 0, lead := lead } 7 (.int .i64 lead) rfl rS).setP { x with term := term, vote := 0, hard := true, role := 0, lead := lead, pv := .pointer none, pl := none } 15 (.pointer none) rfl rfl rfl rfl rfl rfl rfl rfl rfl rfl rfl (.inr ⟨rfl, rfl⟩) (.inl ⟨rfl, rfl⟩)).setP { x with term := term, vote := 0, hard := true, role := 0, lead := lead, pv := .pointer none, pl := none, tv := .pointer none, tr := none } 16 (.pointer none) rfl rfl rfl rfl rfl rfl rfl rfl rfl rfl rfl (.inl ⟨rfl, rfl⟩) (.inr ⟨rfl, rfl⟩)).to
 ·go_enter Tryz.func37, Tryz.ntmps37
  go_wp2_with fail
  refine bodyPost_end (results_none rfl _ _ _) rfl ⟨rfl, ?_⟩
  unfold NodeS.folB
  rw [if_neg (by omega)]
  exact ((((HR.out.set { x with role := 0 } 6 (.int .i64 0) rfl rS).set { x with role := 0, lead := lead } 7 (.int .i64 lead) rfl rS).setP { x with role := 0, lead := lead, pv := .pointer none, pl := none } 15 (.pointer none) rfl rfl rfl rfl rfl rfl rfl rfl rfl rfl rfl (.inr ⟨rfl, rfl⟩) (.inl ⟨rfl, rfl⟩)).setP { x with role := 0, lead := lead, pv := .pointer none, pl := none, tv := .pointer none, tr := none } 16 (.pointer none) rfl rfl rfl rfl rfl rfl rfl rfl rfl rfl rfl (.inl ⟨rfl, rfl⟩) (.inr ⟨rfl, rfl⟩)).to
theorem info_msg : (Tryz.prog.info? 54).map (fun i => (i.zero, i.size, i.bytes)) = some (some (.agg #[.int .i64 0, .int .i64 0, .int .i64 0, .int .u64 0, .int .u64 0, .int .u64 0, .int .u64 0, .bool false, .slice none 0 0, .slice none 0 0, .slice none 0 0]), 11, 136) := by kernel_rfl
def Msg.agg (m : Msg) : Value := .agg #[.int .i64 m.kind, .int .i64 m.from_, .int .i64 m.to_, .int .u64 m.term, .int .u64 m.index, .int .u64 m.logTerm, .int .u64 m.commit, .bool m.yes, m.ev, m.mv, m.dv]
theorem cells_new {W : World} {cs : Array Value} {T : TypeId} : ∀ j u, cs.toList[j]? = some u → (W.alloc (.cells cs T)).cell? ((⟨W.heap.size, 0, none⟩ : Addr).add j) = some u := by
 intro j u hu
 rw [addr_add, Nat.zero_add]
 exact bC (bW _ _) _ (by simpa using hu)
theorem Rn.sent {w0 w w1 w3 : World} {M0 F0 G : Nat → Prop} {p : Nat} {x : NodeS} (h : Rn w0 M0 F0 G w p x) {ob : Obj} (hb : Below w.heap.size w w1) {m : Msg} (hm : MsgOk w (fun k => M0 k ∨ G k) m) {g c : Nat}
  (ho : w3.ownsRow 0 54 11 (.slice (some ⟨g, 0, none⟩) (x.out.length + 1) c) (x.out.length + 1) (flatM x.out ++ m.cells)) (hg : (w1.alloc ob).grownBy w3 x.ov.ownBlock) (hat : x.ov.ownBlock = some g ∨ g = w1.heap.size + 1) (hlt : g < w3.heap.size) :
  NodTo w0 M0 F0 (w3.setCell ⟨p, 17, none⟩ (.slice (some ⟨g, 0, none⟩) (x.out.length + 1) c)) p { x with ov := .slice (some ⟨g, 0, none⟩) (x.out.length + 1) c, out := x.out ++ [m] } := by
 obtain ⟨S, hn⟩ := h.node
 have hk3 : Keeps (fun k => x.ov.ownBlock = some k) w w3 := (((Keeps.of_belowS (S := fun k => x.ov.ownBlock = some k) hb).alloc ob)).trans (gK hg fun k hk => hk.symm)
 have hout := hn.out
 have hpo : ¬ x.ov.ownBlock = some p := fun e => hn.sp 1 (by omega) (hout.2.1 p e)
 have hgp : g ≠ p := by
  rintro rfl
  rcases hat with e | e
  ·exact hpo e
  ·have := h.plt; have := hb.size; omega
 have hz := hb.size
 obtain ⟨T, hT⟩ : ∃ T : Nat → Prop, T = fun k => x.ov.ownBlock = some k ∨ k = g := ⟨_, rfl⟩
 have hTS : ∀ k, T k → S 1 k ∨ (w.heap.size ≤ k ∧ k < (w3.setCell ⟨p, 17, none⟩ (.slice (some ⟨g, 0, none⟩) (x.out.length + 1) c)).heap.size) := by
  intro k hk
  rw [hT] at hk
  rcases hk with e | rfl
  ·exact .inl (hout.2.1 k e)
  ·rcases hat with e | e
   ·exact .inl (hout.2.1 k e)
   ·exact .inr ⟨by omega, by simpa using hlt⟩
 have hks : Keeps (fun k => k = p) w3 (w3.setCell ⟨p, 17, none⟩ (.slice (some ⟨g, 0, none⟩) (x.out.length + 1) c)) := (Keeps.refl (fun k => k = p) w3).setCell (p := ⟨p, 17, none⟩) (.inl rfl) _
 have hkk : Keeps (fun k => S 1 k ∨ k = p) w (w3.setCell ⟨p, 17, none⟩ (.slice (some ⟨g, 0, none⟩) (x.out.length + 1) c)) :=
  (hk3.mono (T := fun k => S 1 k ∨ k = p) fun k _ e => .inl (hout.2.1 k e)).trans (hks.mono fun k _ e => .inr e)
 obtain ⟨hmv, _⟩ := hn.rest (i := 1) (by omega) hTS hkk
 have hN := hn.partOut (w' := w3.setCell ⟨p, 17, none⟩ (.slice (some ⟨g, 0, none⟩) (x.out.length + 1) c)) (y := { x with ov := .slice (some ⟨g, 0, none⟩) (x.out.length + 1) c, out := x.out ++ [m] }) hTS hkk
  (by exact blk_set (hk3.heap hpo hn.box) 17 _)
  ⟨by
    show World.ownsRow _ 0 _ 11 _ (x.out ++ [m]).length (flatM (x.out ++ [m]))
    rw [List.length_append, flatM_snoc]
    exact owns_kept ho hks fun k hk e => by simp [Value.ownBlock] at hk; omega,
    fun k hk => by rw [hT]; right; simp [Value.ownBlock] at hk; exact hk.symm,
    fun y hy => (by
      rcases List.mem_append.1 hy with hy | hy
      · exact (hout.2.2 y hy).mv_ hmv
      · obtain rfl := List.mem_singleton.1 hy
        exact hm.mv_ hmv)⟩
  rfl rfl rfl rfl rfl rfl rfl rfl rfl rfl rfl rfl
 obtain ⟨G', h'⟩ := h.call (hn.to (by omega) hTS hkk hN)
 exact h'.to
def SentTo (w : World) (M F : Nat → Prop) (p : Nat) (x : NodeS) (m : Msg) (e : Ending) (w' : World) : Prop :=
 e = .returned (.tuple #[]) ∧ ∃ v, NodTo w M F w' p { x with ov := v, out := x.out ++ [{ m with from_ := x.id }] }
theorem MsgOk.from' {w : World} {M : Nat → Prop} {m : Msg} (h : MsgOk w M m) (f : Int) : MsgOk w M { m with from_ := f } := ⟨h.ents, h.mem, h.imm, h.data, h.imd⟩
set_option maxRecDepth 100000 in
set_option maxHeartbeats 1600000 in
theorem send_node (w : World) (M F : Nat → Prop) (p : Nat) (x : NodeS) (h : NodeAt w M F p x) (hM : ∀ k, M k → k < w.heap.size) (m : Msg) (hm : MsgOk w M m) (hl : x.out.length ≤ 1000000) : Calls Tryz.prog 66 #[.pointer (some ⟨p, 0, none⟩), m.agg] w (SentTo w M F p x m) := by
 have HM := hI (hm.from' x.id)
 have HR := hI (Rn.start h hM)
 obtain ⟨_, _, ea, ec, hev, _⟩ := hm.ents
 obtain ⟨ma, mc, hmv, _⟩ := hm.mem
 obtain ⟨d, hd, _⟩ := hm.data
 obtain ⟨da, dc, hdv, _⟩ := hd
 obtain ⟨kind, from_, to_, term, index, logTerm, commit, yes, ev, mv, dv, es, mem⟩ := m
 simp only at hev hmv hdv
 subst hev hmv hdv
 have d0 : w.cell? ⟨p, 0, none⟩ = some (.int .i64 x.id) := h.cell 0 rfl
 have hpl := h.plt
 obtain ⟨hown, hoS⟩ : w.ownsRow 0 54 11 x.ov x.out.length (flatM x.out) ∧ True := by
  obtain ⟨S, hn⟩ := h
  exact ⟨hn.out.1, trivial⟩
 obtain ⟨va, vc, hv⟩ := own_form hown
 have HOW := hI hown
 have hpo : x.ov.ownBlock ≠ some p := by
  obtain ⟨S, hn⟩ := h
  exact fun e => hn.sp 1 (by omega) (hn.out.2.1 p e)
 have HPO := hI hpo
 obtain ⟨i0, hi, hz0, hz1, hz2⟩ := info_parts info_msg
 have HN0 := hI (show x.out.length + 1 ≤ maxLen by unfold maxLen; omega)
 have HN1 := hI (show (x.out.length + 1) * 136 ≤ 140737488355328 by omega)
 clear h hM hm hown hoS hl hpo
 unfold Msg.agg
 go_enter Tryz.func66, Tryz.ntmps66
 go_wp2_with fail
 obtain ⟨X, hX⟩ : ∃ X, X = w.alloc (.cells #[.int .i64 kind, .int .i64 x.id, .int .i64 to_, .int .u64 term, .int .u64 index, .int .u64 logTerm, .int .u64 commit, .bool yes, .slice ea es.length ec, .slice ma mem.length mc, .slice da d.length dc] 54) := ⟨_, rfl⟩
 rw [← hX]
 have hbX : Below w.heap.size w X := by rw [hX]; exact bR.alloc nL _
 have hxx : X.heap[w.heap.size]? = some (.cells #[.int .i64 kind, .int .i64 x.id, .int .i64 to_, .int .u64 term, .int .u64 index, .int .u64 logTerm, .int .u64 commit, .bool yes, .slice ea es.length ec, .slice ma mem.length mc, .slice da d.length dc] 54 (0, 0)) := by rw [hX]; exact bW w _
 have c0 := bC hxx 0 rfl
 have c1 := bC hxx 1 rfl
 have c2 := bC hxx 2 rfl
 have c3 := bC hxx 3 rfl
 have c4 := bC hxx 4 rfl
 have c5 := bC hxx 5 rfl
 have c6 := bC hxx 6 rfl
 have c7 := bC hxx 7 rfl
 have c8 := bC hxx 8 rfl
 have c9 := bC hxx 9 rfl
 have c10 := bC hxx 10 rfl
 have d17 : X.cell? ⟨p, 17, none⟩ = some (.slice va x.out.length vc) := by rw [← hv]; exact (HR.out.below hbX).cell 17 rfl
 have HBX := hI hbX
 have hplX : p < X.heap.size := Nat.lt_of_lt_of_le hpl hbX.size
 have HV := hI hv
 have HOX := hI (owns_kept HOW.out (Keeps.of_belowS (S := fun _ => False) hbX) (fun _ _ h => h))
 rw [hv] at HOX
 clear hX hbX hxx hv d0 hpl
 go_region_law (first
   | (refine step_append_lies _ (by rfl) _ _ _ (by rfl) 0 54 i0 _ 11 136 Tryz.underlying32 hi hz0 hz1 hz2 rfl (by omega) (.slice va x.out.length vc) x.out.length (flatM x.out) (by rfl) (owns_kept HOX.out (Keeps.of_belowS (S := fun _ => False) ((bD (Below.refl _ X)).alloc nL _)) (fun _ _ h => h))
       ⟨X.heap.size, 0, none⟩ 1 1 [.int .i64 kind, .int .i64 x.id, .int .i64 to_, .int .u64 term, .int .u64 index, .int .u64 logTerm, .int .u64 commit, .bool yes, .slice ea es.length ec, .slice ma mem.length mc, .slice da d.length dc] (by rfl) (by rfl) (by exact cells_new (W := X.drew)) (by simp [Value.oneCell'])
       (by omega) HN0.out HN1.out (by simp) (X.heap.size + 1) (by simp) ?_; intro gg cp w3 hown3 hg3 hat3 hlt3; have hbx3 := (gK (S := fun k => x.ov.ownBlock = some k) hg3 (fun k hk => (hk.trans (by rw [HV.out])).symm)).heap HPO.out (aheap (bH ((bD HBX.out)) HR.out.node.box (HR.out.plt)) _); have e17 := bC hbx3 17 rfl; have g17 := bF hbx3 17; have l3 := heap_lt hbx3; clear hbx3))
 all_goals
  go_wp2_with fail
  refine bodyPost_end (results_none rfl _ _ _) rfl ⟨rfl, .slice (some ⟨gg, 0, none⟩) (x.out.length + 1) cp, ?_⟩
  rw [← HV.out] at hg3 hat3
  exact HR.out.sent (w1 := X.drew) (m := { kind := kind, from_ := x.id, to_ := to_, term := term, index := index, logTerm := logTerm, commit := commit, yes := yes, ev := .slice ea es.length ec, mv := .slice ma mem.length mc, dv := .slice da d.length dc, es := es, mem := mem }) (bD HBX.out)
   (HM.out.mv_ ⟨Keeps.refl M w, fun k hk => hk.elim .inl fun hk => .inl (HR.out.fm k hk)⟩) hown3 hg3 hat3 hlt3
end
section
open Go.RowKit
theorem NodTo.ahead {w w1 w' : World} {M F : Nat → Prop} {p : Nat} {y : NodeS} (k : NodTo w1 M F w' p y) (hb : Below w.heap.size w w1) : NodTo w M F w' p y := by
 obtain ⟨G, k1, k2, k3, k4⟩ := k
 refine ⟨G, k1, ⟨k2.os.trans hb.os, k2.tape.trans hb.tape, k2.output.trans hb.output, Nat.le_trans hb.size k2.size, fun i hi hn => ?_⟩, k3, fun k hk => (k4 k hk).imp id (Nat.le_trans hb.size)⟩
 exact (k2.block i (Nat.lt_of_lt_of_le hi hb.size) hn).trans (hb.block i hi)
def Msg.bare (kind to_ term index logTerm commit : Int) (yes : Bool) : Msg := ⟨kind, 0, to_, term, index, logTerm, commit, yes, .slice none 0 0, .slice none 0 0, .slice none 0 0, [], []⟩
theorem im_nil (M : Nat → Prop) : im M (.slice none 0 0) := fun k hk => by simp [Value.ownBlock] at hk
theorem MsgOk.bare (w : World) (M : Nat → Prop) (kind to_ term index logTerm commit : Int) (yes : Bool) : MsgOk w M (Msg.bare kind to_ term index logTerm commit yes) :=
 ⟨RowE.nil w M, Sl.nil _ _, im_nil M, ⟨[], Sl.nil _ _, by simp⟩, im_nil M⟩
set_option maxRecDepth 100000 in
theorem tell_node (w : World) (M F : Nat → Prop) (p : Nat) (x : NodeS) (h : NodeAt w M F p x) (hM : ∀ k, M k → k < w.heap.size) (m : Msg) (hm : MsgOk w M m) (hl : x.out.length ≤ 1000000) (kind : Int) (yes : Bool) (index : Int) :
  Calls Tryz.prog 38 #[.pointer (some ⟨p, 0, none⟩), .int .i64 kind, m.agg, .bool yes, .int .u64 index] w (SentTo w M F p x (Msg.bare kind m.from_ x.term index 0 0 yes)) := by
 have HR := hI (Rn.start h hM)
 obtain ⟨_, _, ea, ec, hev, _⟩ := hm.ents
 obtain ⟨ma, mc, hmv, _⟩ := hm.mem
 obtain ⟨d, hd, _⟩ := hm.data
 obtain ⟨da, dc, hdv, _⟩ := hd
 obtain ⟨mk, from_, to_, term, mi, logTerm, commit, my, ev, mv, dv, es, mem⟩ := m
 simp only at hev hmv hdv
 subst hev hmv hdv
 have HS : Hid (∀ W, Below w.heap.size w W → Calls Tryz.prog 66 #[.pointer (some ⟨p, 0, none⟩), (Msg.bare kind from_ x.term index 0 0 yes).agg] W (SentTo W M F p x (Msg.bare kind from_ x.term index 0 0 yes))) :=
  hI fun W hW => send_node W M F p x (h.below hW) (fun k hk => Nat.lt_of_lt_of_le (hM k hk) hW.size) _ (MsgOk.bare _ _ _ _ _ _ _ _ _) hl
 unfold Msg.agg Msg.bare at HS
 have hpl := h.plt
 clear h hM hm hl
 unfold Msg.agg
 go_enter Tryz.func38, Tryz.ntmps38
 go_wp2_with fail
 obtain ⟨X, hX⟩ : ∃ X, X = w.alloc (.cells #[.int .i64 mk, .int .i64 from_, .int .i64 to_, .int .u64 term, .int .u64 mi, .int .u64 logTerm, .int .u64 commit, .bool my, .slice ea es.length ec, .slice ma mem.length mc, .slice da d.length dc] 54) := ⟨_, rfl⟩
 rw [← hX]
 have hbX : Below w.heap.size w X := by rw [hX]; exact bR.alloc nL _
 have hxx : X.heap[w.heap.size]? = some (.cells #[.int .i64 mk, .int .i64 from_, .int .i64 to_, .int .u64 term, .int .u64 mi, .int .u64 logTerm, .int .u64 commit, .bool my, .slice ea es.length ec, .slice ma mem.length mc, .slice da d.length dc] 54 (0, 0)) := by rw [hX]; exact bW w _
 have c1 := bC hxx 1 rfl
 have d4 : X.cell? ⟨p, 4, none⟩ = some (.int .u64 x.term) := (HR.out.below hbX).cell 4 rfl
 have HBX := hI hbX
 have hs := HS.out X.drew (bD hbX)
 clear hX hbX hxx HS
 go_region_law (first
   | (go_simp; go_at_call 66; refine hs.mono ?_; rintro en w4 ⟨rfl, v, hn⟩; have HN := hI hn; clear hn))
 all_goals
  go_wp2_with fail
  refine bodyPost_end (results_none rfl _ _ _) rfl ⟨rfl, v, HN.out.ahead (bD HBX.out)⟩
def NodeS.yng (x : NodeS) (m : Msg) : Bool := decide (lT x.tm x.es < m.logTerm) || (m.logTerm == lT x.tm x.es && decide (x.ix + x.es.length ≤ m.index))
set_option maxRecDepth 100000 in
theorem younger_node (w : World) (M F : Nat → Prop) (p : Nat) (x : NodeS) (h : NodeAt w M F p x) (m : Msg) (hm : MsgOk w M m) :
  Calls Tryz.prog 65 #[.pointer (some ⟨p, 0, none⟩), m.agg] w (RetB (.bool (x.yng m)) w) := by
 obtain ⟨_, _, ea, ec, hev, _⟩ := hm.ents
 obtain ⟨ma, mc, hmv, _⟩ := hm.mem
 obtain ⟨d, hd, _⟩ := hm.data
 obtain ⟨da, dc, hdv, _⟩ := hd
 obtain ⟨mk, from_, to_, term, mi, logTerm, commit, my, ev, mv, dv, es, mem⟩ := m
 simp only at hev hmv hdv
 subst hev hmv hdv
 obtain ⟨X, hX⟩ : ∃ X, X = w.alloc (.cells #[.int .i64 mk, .int .i64 from_, .int .i64 to_, .int .u64 term, .int .u64 mi, .int .u64 logTerm, .int .u64 commit, .bool my, .slice ea es.length ec, .slice ma mem.length mc, .slice da d.length dc] 54) := ⟨_, rfl⟩
 have hbX : Below w.heap.size w X := by rw [hX]; exact bR.alloc nL _
 have hxx : X.heap[w.heap.size]? = some (.cells #[.int .i64 mk, .int .i64 from_, .int .i64 to_, .int .u64 term, .int .u64 mi, .int .u64 logTerm, .int .u64 commit, .bool my, .slice ea es.length ec, .slice ma mem.length mc, .slice da d.length dc] 54 (0, 0)) := by rw [hX]; exact bW w _
 have hls : Calls Tryz.prog 33 #[.pointer (some ⟨x.lg, 0, none⟩)] X (RetB (.tuple #[.int .u64 (x.ix + x.es.length), .int .u64 (lT x.tm x.es)]) X) := by
  obtain ⟨S, hn⟩ := h.below hbX
  exact last_any X x.lg x.r x.ix x.tm x.es hn.log hn.ok
 have d9 : w.cell? ⟨p, 9, none⟩ = some (.pointer (some ⟨x.lg, 0, none⟩)) := h.cell 9 rfl
 have hpl := h.plt
 have hxl := heap_lt hxx
 have HBX := hI hbX
 have HXX := hI hxx
 have HY : Hid (x.yng ⟨mk, from_, to_, term, mi, logTerm, commit, my, .slice ea es.length ec, .slice ma mem.length mc, .slice da d.length dc, es, mem⟩ = (decide (lT x.tm x.es < logTerm) || (logTerm == lT x.tm x.es && decide (x.ix + x.es.length ≤ mi)))) := hI rfl
 unfold Msg.agg
 generalize lT x.tm x.es = lt at *
 generalize x.ix + (x.es.length : Int) = li at *
 clear h hm hxx hbX
 rw [HY.out]
 clear HY
 by_cases h1 : lt < logTerm
 ·have q1 : decide (lt < logTerm) = true := by simpa using h1
  go_enter Tryz.func65, Tryz.ntmps65
  go_wp2_with fail
  rw [← hX]
  refine hls.mono ?_
  rintro en w1 ⟨rfl, hb1⟩
  have HB1 := hI hb1
  have hxx := bH hb1 HXX.out hxl
  have c4 := bC hxx 4 rfl
  have c5 := bC hxx 5 rfl
  clear hxx hb1 hls d9
  go_wp2_with fail
  go_ret
  rw [q1]
  exact ⟨rfl, HBX.out.trans (HB1.out.mono HBX.out.size)⟩
 ·have q1 : decide (lt < logTerm) = false := by simpa using h1
  by_cases h2 : logTerm = lt
  ·subst h2
   have q2 : (logTerm == logTerm) = true := by simp
   go_enter Tryz.func65, Tryz.ntmps65
   go_wp2_with fail
   rw [← hX]
   refine hls.mono ?_
   rintro en w1 ⟨rfl, hb1⟩
   have HB1 := hI hb1
   have hxx := bH hb1 HXX.out hxl
   have c4 := bC hxx 4 rfl
   have c5 := bC hxx 5 rfl
   clear hxx hb1 hls d9
   by_cases h3 : li ≤ mi
   ·have q3 : decide (li ≤ mi) = true := by simpa using h3
    go_wp2_with fail
    go_ret
    rw [q1, q2, q3]
    exact ⟨rfl, HBX.out.trans (HB1.out.mono HBX.out.size)⟩
   ·have q3 : decide (li ≤ mi) = false := by simpa using h3
    go_wp2_with fail
    go_ret
    rw [q1, q2, q3]
    exact ⟨rfl, HBX.out.trans (HB1.out.mono HBX.out.size)⟩
  ·have q2 : (logTerm == lt) = false := by simpa using h2
   go_enter Tryz.func65, Tryz.ntmps65
   go_wp2_with fail
   rw [← hX]
   refine hls.mono ?_
   rintro en w1 ⟨rfl, hb1⟩
   have HB1 := hI hb1
   have hxx := bH hb1 HXX.out hxl
   have c4 := bC hxx 4 rfl
   have c5 := bC hxx 5 rfl
   clear hxx hb1 hls d9
   go_wp2_with fail
   go_ret
   rw [q1, q2]
   exact ⟨rfl, HBX.out.trans (HB1.out.mono HBX.out.size)⟩
end
section
open Go.RowKit
def ImgNew (w : World) (ix tm : Int) (mem : List Int) (d : List UInt8) (e : Ending) (w' : World) : Prop :=
 ∃ ma mc da dc, e = .returned (.agg #[.int .u64 ix, .int .u64 tm, .slice ma mem.length mc, .slice da d.length dc]) ∧ Below w.heap.size w w' ∧ Sl intv w' (.slice ma mem.length mc) mem ∧ Sl u8v w' (.slice da d.length dc) d ∧
  (∀ k, (Value.slice ma mem.length mc).ownBlock = some k → w.heap.size ≤ k) ∧ ∀ k, (Value.slice da d.length dc).ownBlock = some k → w.heap.size ≤ k
set_option maxRecDepth 100000 in
set_option maxHeartbeats 1600000 in
theorem clone_img (w : World) (ix tm : Int) (ma : Option Addr) (mc : Nat) (mem : List Int) (hm : Sl intv w (.slice ma mem.length mc) mem) (hml : mem.length ≤ 1000) (da : Option Addr) (dc : Nat) (d : List UInt8) (hd : Sl u8v w (.slice da d.length dc) d) (hdl : d.length ≤ 70368744177664) :
  Calls Tryz.prog 28 #[.agg #[.int .u64 ix, .int .u64 tm, .slice ma mem.length mc, .slice da d.length dc]] w (ImgNew w ix tm mem d) := by
 have HCI : Hid (∀ W, Below w.heap.size w W → Calls Tryz.prog 47 #[.slice ma mem.length mc] W (ClonedI W mem)) := hI fun W hW => clone_anyI W ma _ mc mem (hm.below hW hm.row_lt) hml
 have HCB : Hid (∀ W, Below w.heap.size w W → Calls Tryz.prog 56 #[.slice da d.length dc] W (Cloned W d)) := hI fun W hW => clone_any W da _ dc d (hd.below hW hd.row_lt) hdl
 clear hm hd hml hdl
 go_enter Tryz.func28, Tryz.ntmps28
 go_wp2_with fail
 obtain ⟨X, hX⟩ : ∃ X, X = (w.alloc (.cells #[.int .u64 ix, .int .u64 tm, .slice ma mem.length mc, .slice da d.length dc] 40)).alloc (.cells #[.int .u64 0, .int .u64 0, .slice none 0 0, .slice none 0 0] 40) := ⟨_, rfl⟩
 rw [← hX]
 have hbX : Below w.heap.size w X := by rw [hX]; exact (bR.alloc nL _).alloc (by simp) _
 have hxx : X.heap[w.heap.size]? = some (.cells #[.int .u64 ix, .int .u64 tm, .slice ma mem.length mc, .slice da d.length dc] 40 (0, 0)) := by rw [hX]; exact aheap (bW w _) _
 have hyy : X.heap[w.heap.size + 1]? = some (.cells #[.int .u64 0, .int .u64 0, .slice none 0 0, .slice none 0 0] 40 (0, 0)) := by
  rw [hX]
  have := bW (w.alloc (.cells #[.int .u64 ix, .int .u64 tm, .slice ma mem.length mc, .slice da d.length dc] 40)) (.cells #[.int .u64 0, .int .u64 0, .slice none 0 0, .slice none 0 0] 40)
  simpa using this
 have c2 := bC hxx 2 rfl
 have c3 := bC hxx 3 rfl
 have HBX := hI hbX
 have HXX := hI hxx
 have HYY := hI hyy
 clear hX hbX hxx hyy
 go_region_law (first
   | (go_simp; go_at_call 47; refine (HCI.out X.drew (bD HBX.out)).mono ?_; rintro en w2 ⟨v, rfl, hb2, hs2, _, hn2⟩; obtain ⟨va, vc, rfl, _⟩ := id hs2; have hb12 : Below X.heap.size X w2 := (bD (Below.refl _ X)).trans (hb2.mono (by simp)); have HB2 := hI hb12; have HI2 := hI hs2; have HIN := hI hn2; have hx2 := bH hb12 HXX.out (heap_lt HXX.out); have c2 := bC hx2 2 rfl; have c3 := bC hx2 3 rfl; clear hb2 hs2 hn2 hb12 hx2)
   | (go_simp; go_at_call 56; refine (HCB.out X.drew (bD HBX.out)).mono ?_; rintro en w2 ⟨v, rfl, hb2, hs2, _, hn2⟩; obtain ⟨ua, uc, rfl, _⟩ := id hs2; have hb12 : Below X.heap.size X w2 := (bD (Below.refl _ X)).trans (hb2.mono (by simp)); have HB2 := hI hb12; have HD2 := hI hs2; have HDN := hI hn2; have hx2 := bH hb12 HXX.out (heap_lt HXX.out); have c2 := bC hx2 2 rfl; have c3 := bC hx2 3 rfl; clear hb2 hs2 hn2 hb12 hx2)
   | (go_simp; go_at_call 47; refine (HCI.out w2 (HBX.out.trans (HB2.out.mono HBX.out.size))).mono ?_; rintro en w3 ⟨v, rfl, hb3, hs3, _, hn3⟩; obtain ⟨va, vc, rfl, _⟩ := id hs3; have HB3 := hI (HB2.out.trans (hb3.mono HB2.out.size)); have HI3 := hI hs3; have HD3 := hI (HD2.out.below hb3 HD2.out.row_lt); have HIN := hI (fun k hk => Nat.le_trans HB2.out.size (hn3 k hk)); have hx3 := bH HB3.out HXX.out (heap_lt HXX.out); have c2 := bC hx3 2 rfl; have c3 := bC hx3 3 rfl; have f2 := bF hx3 2; have f3 := bF hx3 3; clear hb3 hs3 hn3 hx3)
   | (go_simp; go_at_call 56; refine (HCB.out w2 (HBX.out.trans (HB2.out.mono HBX.out.size))).mono ?_; rintro en w3 ⟨v, rfl, hb3, hs3, _, hn3⟩; obtain ⟨ua, uc, rfl, _⟩ := id hs3; have HB3 := hI (HB2.out.trans (hb3.mono HB2.out.size)); have HD3 := hI hs3; have HI3 := hI (HI2.out.below hb3 HI2.out.row_lt); have HDN := hI (fun k hk => Nat.le_trans HB2.out.size (hn3 k hk)); have hx3 := bH HB3.out HXX.out (heap_lt HXX.out); have c2 := bC hx3 2 rfl; have c3 := bC hx3 3 rfl; have f2 := bF hx3 2; have f3 := bF hx3 3; clear hb3 hs3 hn3 hx3))
 all_goals
  have hx3 := bH HB3.out HXX.out (heap_lt HXX.out)
  have hy3 := bH HB3.out HYY.out (heap_lt HYY.out)
  have c0 := bC hx3 0 rfl
  have c1 := bC hx3 1 rfl
  have y0 := bC hy3 0 rfl
  have y1 := bC hy3 1 rfl
  have y2 := bC hy3 2 rfl
  have y3 := bC hy3 3 rfl
  have g0 := bF hy3 0
  have g1 := bF hy3 1
  have g2 := bF hy3 2
  have g3 := bF hy3 3
  clear hx3 hy3
  go_wp2_with fail
  have hX2 : w.heap.size + 2 ≤ X.heap.size := heap_lt HYY.out
  have hi : ∀ k, (Value.slice va mem.length vc).ownBlock = some k → w.heap.size + 2 ≤ k := fun k hk => Nat.le_trans hX2 (HIN.out k hk)
  have hd : ∀ k, (Value.slice ua d.length uc).ownBlock = some k → w.heap.size + 2 ≤ k := fun k hk => Nat.le_trans hX2 (HDN.out k hk)
  have i0 : (Value.slice va mem.length vc).ownBlock ≠ some w.heap.size := fun e => by have := hi _ e; omega
  have i1 : (Value.slice va mem.length vc).ownBlock ≠ some (w.heap.size + 1) := fun e => by have := hi _ e; omega
  have j0 : (Value.slice ua d.length uc).ownBlock ≠ some w.heap.size := fun e => by have := hd _ e; omega
  have j1 : (Value.slice ua d.length uc).ownBlock ≠ some (w.heap.size + 1) := fun e => by have := hd _ e; omega
  have hb := HBX.out.trans (HB3.out.mono HBX.out.size)
  refine bodyPost_ret (v := .agg #[.int .u64 ix, .int .u64 tm, .slice va mem.length vc, .slice ua d.length uc]) (by simp [results, Tryz.results28, go_sem, y0, y1, y2, y3]) rfl ⟨va, vc, ua, uc, rfl, ?_, ?_, ?_, fun k hk => ?_, fun k hk => ?_⟩
  ·exact (((((hb.setCell (by simp) _).setCell (by simp) _).setCell (by simp) _).setCell (by simp) _).setCell (by simp) _).setCell (by simp) _
  ·exact (((((HI3.out.setCell i0 _).setCell i0 _).setCell i1 _).setCell i1 _).setCell i1 _).setCell i1 _
  ·exact (((((HD3.out.setCell j0 _).setCell j0 _).setCell j1 _).setCell j1 _).setCell j1 _).setCell j1 _
  ·have := hi k hk; omega
  ·have := hd k hk; omega
end
end Go.Proofs.YtdjooojpcepleaaGreat

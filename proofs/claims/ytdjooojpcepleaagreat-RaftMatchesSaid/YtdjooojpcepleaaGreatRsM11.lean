/- Package raft, any node: its blocks: the node's own, its log, what it sends, its ballot, its track. Package raft, any node: a cell of its own is set; a part of it is changed. Agreement, plainly: the members that a node goes by. Package raft, any node: what holds of it (agreement), over its plain values. Package entry: a row of entries that came in; follow, where they follow. Package entry: Term at any index; known. -/
import Derived.Test.YtdjooojpcepleaaGreatRsM10

namespace Go.Proofs.YtdjooojpcepleaaGreat
section
open Go.RowKit Go.Maps Go.ChangeMaps
structure Msg where
 kind : Int
 from_ : Int
 to_ : Int
 term : Int
 index : Int
 logTerm : Int
 commit : Int
 yes : Bool
 ev : Value
 mv : Value
 dv : Value
 es : List Ent
 mem : List Int
def Msg.cells (m : Msg) : List Value := [.int .i64 m.kind, .int .i64 m.from_, .int .i64 m.to_, .int .u64 m.term, .int .u64 m.index, .int .u64 m.logTerm, .int .u64 m.commit, .bool m.yes, m.ev, m.mv, m.dv]
def flatM (l : List Msg) : List Value := l.flatMap Msg.cells
theorem flatM_len (l : List Msg) : (flatM l).length = l.length * 11 := by
 induction l with
 | nil => rfl
 | cons e r ih => unfold flatM at *; rw [List.flatMap_cons, List.length_append, ih, List.length_cons]; simp [Msg.cells]; omega
theorem flatM_snoc (l : List Msg) (m : Msg) : flatM (l ++ [m]) = flatM l ++ m.cells := by simp [flatM]
theorem flatM_app (l k : List Msg) : flatM (l ++ k) = flatM l ++ flatM k := by simp [flatM]
def Msg.ms (m : Msg) : Ms En := ⟨m.kind, m.from_, m.to_, m.term.toNat, m.index.toNat, m.logTerm.toNat, m.commit.toNat, m.yes, m.es.map Ent.en, m.mem⟩
structure MsgOk (w : World) (M : Nat → Prop) (m : Msg) : Prop where
 ents : RowE w M m.ev m.es
 mem : Sl intv w m.mv m.mem
 imm : im M m.mv
 data : ∃ d, Sl u8v w m.dv d ∧ d.length ≤ 1000
 imd : im M m.dv
theorem MsgOk.mv_ {w w' : World} {M M' : Nat → Prop} {m : Msg} (h : MsgOk w M m) (hm : Mv w M w' M') : MsgOk w' M' m := by
 obtain ⟨d, hd, hdl⟩ := h.data
 exact ⟨h.ents.mv hm, hm.sl h.mem h.imm, hm.im h.imm h.mem.row_lt, ⟨d, hm.sl hd h.imd, hdl⟩, hm.im h.imd hd.row_lt⟩
def OutP (w : World) (M S : Nat → Prop) (v : Value) (l : List Msg) : Prop :=
 w.ownsRow 0 54 11 v l.length (flatM l) ∧ (∀ k, v.ownBlock = some k → S k) ∧ ∀ m ∈ l, MsgOk w M m
theorem OutP.mv {w w' : World} {M M' S T : Nat → Prop} {v : Value} {l : List Msg} (h : OutP w M S v l) (hm : Mv w M w' M') (hk : Keeps T w w') (hS : ∀ k, S k → ¬ T k) : OutP w' M' S v l :=
 ⟨owns_kept h.1 hk fun k hk' => hS k (h.2.1 k hk'), h.2.1, fun m hm' => (h.2.2 m hm').mv_ hm⟩
structure NodeS where
 id : Int
 mv : Value
 el : Int
 be : Int
 term : Int
 vote : Int
 role : Int
 lead : Int
 since : Int
 lg : Nat
 r : Option Nat
 ix : Int
 tm : Int
 es : List Ent
 imv : Value
 mem : List Int
 idv : Value
 commit : Int
 pv : Value
 pl : Option (List Int × List (Int × Bool))
 tv : Value
 tr : Option (List (Int × (Int × Int)))
 ov : Value
 out : List Msg
 hard : Bool
 fresh : Bool
 stable : Int
def NodeS.cells (x : NodeS) : Array Value :=
 #[.int .i64 x.id, x.mv, .int .i64 x.el, .int .i64 x.be, .int .u64 x.term, .int .i64 x.vote, .int .i64 x.role, .int .i64 x.lead, .int .i64 x.since, .pointer (some ⟨x.lg, 0, none⟩),
   .int .u64 x.ix, .int .u64 x.tm, x.imv, x.idv, .int .u64 x.commit, x.pv, x.tv, x.ov, .bool x.hard, .bool x.fresh, .int .u64 x.stable]
structure NodeIn (w : World) (M F : Nat → Prop) (S : Nat → Nat → Prop) (p : Nat) (x : NodeS) : Prop where
 box : w.heap[p]? = some (.cells x.cells 74 (0, 0))
 fp : F p
 sp : ∀ i, i < 4 → ¬ S i p
 sub : ∀ i k, i < 4 → S i k → F k
 fm : ∀ k, F k → M k
 lt : ∀ k, F k → k < w.heap.size
 apart : ∀ i j k, i < 4 → j < 4 → S i k → S j k → i = j
 log : LogAt w x.lg x.r x.ix x.tm x.es
 slg : S 0 x.lg
 srow : ∀ k, x.r = some k → S 0 k
 ime : ∀ e ∈ x.es, im M e.v
 ok : LogOk x.ix x.tm x.es
 dl : ∀ e ∈ x.es, e.d.length ≤ 900
 len : x.es.length ≤ 1024
 out : OutP w M (S 1) x.ov x.out
 bal : BalP w M (S 2) x.pv x.pl
 trk : TrkP w (S 3) x.tv x.tr
 mem : Sl intv w x.imv x.mem
 imm : im M x.imv
 dat : ∃ d, Sl u8v w x.idv d ∧ d.length ≤ 1000
 imd : im M x.idv
def NodeAt (w : World) (M F : Nat → Prop) (p : Nat) (x : NodeS) : Prop := ∃ S, NodeIn w M F S p x
section
variable {w w' : World} {M M' F T : Nat → Prop} {S : Nat → Nat → Prop} {p : Nat} {x : NodeS}
theorem NodeIn.logMv (h : NodeIn w M F S p x) (hm : Mv w M w' M') (hk : Keeps T w w') (hT : ∀ k, S 0 k → ¬ T k) : LogAt w' x.lg x.r x.ix x.tm x.es ∧ ∀ e ∈ x.es, im M' e.v := by
 have hd := h.log.data
 refine ⟨?_, fun e he => hm.im (h.ime e he) (hd e he).1.row_lt⟩
 obtain ⟨⟨v, h1, h2, h3⟩, h4, h5⟩ := h.log
 exact ⟨⟨v, hk.heap (hT _ h.slg) h1, owns_kept h2 hk (fun k hv => hT k (h.srow k (h3 ▸ hv))), h3⟩, h4, fun e he => ⟨hm.sl (h5 e he).1 (h.ime e he), (h5 e he).2⟩⟩
theorem NodeIn.mv (h : NodeIn w M F S p x) (hm : Mv w M w' M') (hM : ∀ k, M k → M' k) (hk : Keeps T w w') (hT : ∀ k, F k → ¬ T k) : NodeIn w' M' F S p x := by
 obtain ⟨a, b⟩ := h.logMv hm hk fun k hk' => hT k (h.sub 0 k (by omega) hk')
 obtain ⟨d, hd, hdl⟩ := h.dat
 exact ⟨hk.heap (hT p h.fp) h.box, h.fp, h.sp, h.sub, fun k hk' => hM k (h.fm k hk'), fun k hk' => Nat.lt_of_lt_of_le (h.lt k hk') hk.size, h.apart, a, h.slg, h.srow, b, h.ok, h.dl, h.len,
   h.out.mv hm hk fun k hk' => hT k (h.sub 1 k (by omega) hk'), h.bal.mv hm hk fun k hk' => hT k (h.sub 2 k (by omega) hk'), h.trk.kept hk fun k hk' => hT k (h.sub 3 k (by omega) hk'), hm.sl h.mem h.imm, hm.im h.imm h.mem.row_lt, ⟨d, hm.sl hd h.imd, hdl⟩, hm.im h.imd hd.row_lt⟩
theorem NodeAt.mv (h : NodeAt w M F p x) (hm : Mv w M w' M') (hM : ∀ k, M k → M' k) (hk : Keeps T w w') (hT : ∀ k, F k → ¬ T k) : NodeAt w' M' F p x := by
 obtain ⟨S, h⟩ := h
 exact ⟨S, h.mv hm hM hk hT⟩
theorem NodeAt.below (h : NodeAt w M F p x) (hb : Below w.heap.size w w') : NodeAt w' M F p x :=
 h.mv (Mv.below M hb) (fun _ h => h) (Keeps.of_belowS (S := fun _ => False) hb) fun _ _ h => h
theorem NodeAt.box (h : NodeAt w M F p x) : w.heap[p]? = some (.cells x.cells 74 (0, 0)) := by
 obtain ⟨S, h⟩ := h
 exact h.box
theorem NodeAt.plt (h : NodeAt w M F p x) : p < w.heap.size := heap_lt h.box
theorem NodeAt.cell (h : NodeAt w M F p x) (i : Nat) {v : Value} (hv : x.cells[i]? = some v) : w.cell? ⟨p, i, none⟩ = some v := bC h.box i hv
theorem NodeAt.free (h : NodeAt w M F p x) (i : Nat) : w.frozen? ⟨p, i, none⟩ = false := bF h.box i
def NodTo (w : World) (M F : Nat → Prop) (w' : World) (p : Nat) (y : NodeS) : Prop :=
 ∃ G, NodeAt w' (fun k => M k ∨ G k) G p y ∧ Keeps F w w' ∧ (∀ k, F k → G k) ∧ ∀ k, G k → F k ∨ w.heap.size ≤ k
end
end
section
open Go.RowKit Go.Maps Go.ChangeMaps
def updS (S : Nat → Nat → Prop) (i : Nat) (T : Nat → Prop) : Nat → Nat → Prop := fun j => if j = i then T else S j
theorem updS_same (S : Nat → Nat → Prop) (i : Nat) (T : Nat → Prop) : updS S i T i = T := by simp [updS]
theorem updS_other (S : Nat → Nat → Prop) {i j : Nat} (T : Nat → Prop) (h : j ≠ i) : updS S i T j = S j := by simp [updS, h]
section
variable {w w' : World} {M F T : Nat → Prop} {S : Nat → Nat → Prop} {p : Nat} {x y : NodeS}
theorem NodeIn.rest (h : NodeIn w M F S p x) {i : Nat} (hi : i < 4) (hT : ∀ k, T k → S i k ∨ (w.heap.size ≤ k ∧ k < w'.heap.size)) (hk : Keeps (fun k => S i k ∨ k = p) w w') :
  Mv w M w' (fun k => M k ∨ T k) ∧ (∀ j, j < 4 → ¬ updS S i T j p) ∧ (∀ j k, j < 4 → updS S i T j k → F k ∨ T k) ∧ (∀ k, F k ∨ T k → M k ∨ T k) ∧ (∀ k, F k ∨ T k → k < w'.heap.size) ∧
   (∀ a b k, a < 4 → b < 4 → updS S i T a k → updS S i T b k → a = b) ∧ ∀ j k, j < 4 → j ≠ i → S j k → ¬ (S i k ∨ k = p) := by
 have hp := h.lt p h.fp
 have hpl : p < w.heap.size := hp
 refine ⟨⟨hk.mono fun k _ e => ?_, fun k e => ?_⟩, fun j hj e => ?_, fun j k hj e => ?_, fun k e => ?_, fun k e => ?_, fun a b k ha hb h1 h2 => ?_, fun j k hj hne e e' => ?_⟩
 ·rcases e with e | rfl
  ·exact h.fm k (h.sub i k hi e)
  ·exact h.fm k h.fp
 ·rcases e with e | e
  ·exact .inl e
  ·exact (hT k e).imp (fun e => h.fm k (h.sub i k hi e)) And.left
 ·by_cases ej : j = i
  ·subst ej
   rw [updS_same] at e
   rcases hT p e with e | e
   ·exact h.sp j hj e
   ·omega
  ·rw [updS_other S T ej] at e
   exact h.sp j hj e
 ·by_cases ej : j = i
  ·subst ej
   rw [updS_same] at e
   exact .inr e
  ·rw [updS_other S T ej] at e
   exact .inl (h.sub j k hj e)
 ·exact e.imp (h.fm k) id
 ·rcases e with e | e
  ·exact Nat.lt_of_lt_of_le (h.lt k e) hk.size
  ·rcases hT k e with e | e
   ·exact Nat.lt_of_lt_of_le (h.lt k (h.sub i k hi e)) hk.size
   ·exact e.2
 ·by_cases ea : a = i <;> by_cases eb : b = i
  ·omega
  ·subst ea
   rw [updS_same] at h1
   rw [updS_other S T eb] at h2
   rcases hT k h1 with e | e
   ·exact h.apart a b k ha hb e h2
   ·have := h.lt k (h.sub b k hb h2); omega
  ·subst eb
   rw [updS_same] at h2
   rw [updS_other S T ea] at h1
   rcases hT k h2 with e | e
   ·exact h.apart a b k ha hb h1 e
   ·have := h.lt k (h.sub a k ha h1); omega
  ·rw [updS_other S T ea] at h1
   rw [updS_other S T eb] at h2
   exact h.apart a b k ha hb h1 h2
 ·rcases e' with e' | rfl
  ·exact hne (h.apart j i k hj hi e e')
  ·exact h.sp j hj e
structure SameParts (x y : NodeS) : Prop where
 lg : y.lg = x.lg
 r : y.r = x.r
 ix : y.ix = x.ix
 tm : y.tm = x.tm
 es : y.es = x.es
 imv : y.imv = x.imv
 mem : y.mem = x.mem
 idv : y.idv = x.idv
 pv : y.pv = x.pv
 pl : y.pl = x.pl
 tv : y.tv = x.tv
 tr : y.tr = x.tr
 ov : y.ov = x.ov
 out : y.out = x.out
theorem NodeIn.set (h : NodeIn w M F S p x) (i : Nat) (v : Value) (hc : y.cells = x.cells.setIfInBounds i v) (hy : SameParts x y) : NodeIn (w.setCell ⟨p, i, none⟩ v) M F S p y := by
 have hk : Keeps (fun k => k = p) w (w.setCell ⟨p, i, none⟩ v) := (Keeps.refl (fun k => k = p) w).setCell (p := ⟨p, i, none⟩) (.inl rfl) v
 have hm : Mv w M (w.setCell ⟨p, i, none⟩ v) M := Mv.keep hk fun k e => e ▸ h.fm p h.fp
 have hS : ∀ j, j < 4 → ∀ k, S j k → ¬ k = p := fun j hj k e e' => h.sp j hj (e' ▸ e)
 obtain ⟨a, b⟩ := h.logMv hm hk (hS 0 (by omega))
 obtain ⟨d, hd, hdd⟩ := h.dat
 refine ⟨by rw [hc]; exact blk_set h.box i v, h.fp, h.sp, h.sub, h.fm, fun k hk' => Nat.lt_of_lt_of_le (h.lt k hk') hk.size, h.apart, ?_, ?_, ?_, ?_, ?_, ?_, ?_, ?_, ?_, ?_, ?_, ?_, ?_, ?_⟩
 ·rw [hy.lg, hy.r, hy.ix, hy.tm, hy.es]; exact a
 ·rw [hy.lg]; exact h.slg
 ·rw [hy.r]; exact h.srow
 ·rw [hy.es]; exact b
 ·rw [hy.ix, hy.tm, hy.es]; exact h.ok
 ·rw [hy.es]; exact h.dl
 ·rw [hy.es]; exact h.len
 ·rw [hy.ov, hy.out]; exact h.out.mv hm hk (hS 1 (by omega))
 ·rw [hy.pv, hy.pl]; exact h.bal.mv hm hk (hS 2 (by omega))
 ·rw [hy.tv, hy.tr]; exact h.trk.kept hk (hS 3 (by omega))
 ·rw [hy.imv, hy.mem]; exact hm.sl h.mem h.imm
 ·rw [hy.imv]; exact hm.im h.imm h.mem.row_lt
 ·rw [hy.idv]; exact ⟨d, hm.sl hd h.imd, hdd⟩
 ·rw [hy.idv]; exact hm.im h.imd hd.row_lt
theorem NodeAt.set (h : NodeAt w M F p x) (i : Nat) (v : Value) (hc : y.cells = x.cells.setIfInBounds i v) (hy : SameParts x y) : NodeAt (w.setCell ⟨p, i, none⟩ v) M F p y := by
 obtain ⟨S, h⟩ := h
 exact ⟨S, h.set i v hc hy⟩
theorem NodeIn.partLog (h : NodeIn w M F S p x) (hT : ∀ k, T k → S 0 k ∨ (w.heap.size ≤ k ∧ k < w'.heap.size)) (hk : Keeps (fun k => S 0 k ∨ k = p) w w') (hbox : w'.heap[p]? = some (.cells y.cells 74 (0, 0)))
  (hlog : LogAt w' y.lg y.r y.ix y.tm y.es) (hlg : T y.lg) (hrow : ∀ k, y.r = some k → T k) (hime : ∀ e ∈ y.es, im (fun k => M k ∨ T k) e.v) (hok : LogOk y.ix y.tm y.es) (hdl : ∀ e ∈ y.es, e.d.length ≤ 900) (hlen : y.es.length ≤ 1024)
  (e1 : y.imv = x.imv) (e2 : y.mem = x.mem) (e3 : y.idv = x.idv) (e4 : y.pv = x.pv) (e5 : y.pl = x.pl) (e6 : y.tv = x.tv) (e7 : y.tr = x.tr) (e8 : y.ov = x.ov) (e9 : y.out = x.out) : NodeIn w' (fun k => M k ∨ T k) (fun k => F k ∨ T k) (updS S 0 T) p y := by
 obtain ⟨hm, r1, r2, r3, r4, r5, r6⟩ := h.rest (i := 0) (by omega) hT hk
 obtain ⟨d, hd, hdd⟩ := h.dat
 refine ⟨hbox, .inl h.fp, r1, r2, r3, r4, r5, hlog, by rw [updS_same]; exact hlg, by rw [updS_same]; exact hrow, hime, hok, hdl, hlen, ?_, ?_, ?_, ?_, ?_, ?_, ?_⟩
 ·rw [updS_other S T (by omega), e8, e9]; exact h.out.mv hm hk (r6 1 · (by omega) (by omega))
 ·rw [updS_other S T (by omega), e4, e5]; exact h.bal.mv hm hk (r6 2 · (by omega) (by omega))
 ·rw [updS_other S T (by omega), e6, e7]; exact h.trk.kept hk (r6 3 · (by omega) (by omega))
 ·rw [e1, e2]; exact hm.sl h.mem h.imm
 ·rw [e1]; exact hm.im h.imm h.mem.row_lt
 ·rw [e3]; exact ⟨d, hm.sl hd h.imd, hdd⟩
 ·rw [e3]; exact hm.im h.imd hd.row_lt
theorem NodeIn.partOut (h : NodeIn w M F S p x) (hT : ∀ k, T k → S 1 k ∨ (w.heap.size ≤ k ∧ k < w'.heap.size)) (hk : Keeps (fun k => S 1 k ∨ k = p) w w') (hbox : w'.heap[p]? = some (.cells y.cells 74 (0, 0)))
  (hout : OutP w' (fun k => M k ∨ T k) T y.ov y.out)
  (f1 : y.lg = x.lg) (f2 : y.r = x.r) (f3 : y.ix = x.ix) (f4 : y.tm = x.tm) (f5 : y.es = x.es) (e1 : y.imv = x.imv) (e2 : y.mem = x.mem) (e3 : y.idv = x.idv) (e4 : y.pv = x.pv) (e5 : y.pl = x.pl) (e6 : y.tv = x.tv) (e7 : y.tr = x.tr) : NodeIn w' (fun k => M k ∨ T k) (fun k => F k ∨ T k) (updS S 1 T) p y := by
 obtain ⟨hm, r1, r2, r3, r4, r5, r6⟩ := h.rest (i := 1) (by omega) hT hk
 obtain ⟨d, hd, hdd⟩ := h.dat
 obtain ⟨a, b⟩ := h.logMv hm hk (r6 0 · (by omega) (by omega))
 refine ⟨hbox, .inl h.fp, r1, r2, r3, r4, r5, ?_, ?_, ?_, ?_, ?_, ?_, ?_, by rw [updS_same]; exact hout, ?_, ?_, ?_, ?_, ?_, ?_⟩
 ·rw [f1, f2, f3, f4, f5]; exact a
 ·rw [updS_other S T (by omega), f1]; exact h.slg
 ·rw [updS_other S T (by omega), f2]; exact h.srow
 ·rw [f5]; exact b
 ·rw [f3, f4, f5]; exact h.ok
 ·rw [f5]; exact h.dl
 ·rw [f5]; exact h.len
 ·rw [updS_other S T (by omega), e4, e5]; exact h.bal.mv hm hk (r6 2 · (by omega) (by omega))
 ·rw [updS_other S T (by omega), e6, e7]; exact h.trk.kept hk (r6 3 · (by omega) (by omega))
 ·rw [e1, e2]; exact hm.sl h.mem h.imm
 ·rw [e1]; exact hm.im h.imm h.mem.row_lt
 ·rw [e3]; exact ⟨d, hm.sl hd h.imd, hdd⟩
 ·rw [e3]; exact hm.im h.imd hd.row_lt
theorem NodeIn.partBal (h : NodeIn w M F S p x) (hT : ∀ k, T k → S 2 k ∨ (w.heap.size ≤ k ∧ k < w'.heap.size)) (hk : Keeps (fun k => S 2 k ∨ k = p) w w') (hbox : w'.heap[p]? = some (.cells y.cells 74 (0, 0)))
  (hbal : BalP w' (fun k => M k ∨ T k) T y.pv y.pl)
  (f1 : y.lg = x.lg) (f2 : y.r = x.r) (f3 : y.ix = x.ix) (f4 : y.tm = x.tm) (f5 : y.es = x.es) (e1 : y.imv = x.imv) (e2 : y.mem = x.mem) (e3 : y.idv = x.idv) (e4 : y.ov = x.ov) (e5 : y.out = x.out) (e6 : y.tv = x.tv) (e7 : y.tr = x.tr) : NodeIn w' (fun k => M k ∨ T k) (fun k => F k ∨ T k) (updS S 2 T) p y := by
 obtain ⟨hm, r1, r2, r3, r4, r5, r6⟩ := h.rest (i := 2) (by omega) hT hk
 obtain ⟨d, hd, hdd⟩ := h.dat
 obtain ⟨a, b⟩ := h.logMv hm hk (r6 0 · (by omega) (by omega))
 refine ⟨hbox, .inl h.fp, r1, r2, r3, r4, r5, ?_, ?_, ?_, ?_, ?_, ?_, ?_, ?_, by rw [updS_same]; exact hbal, ?_, ?_, ?_, ?_, ?_⟩
 ·rw [f1, f2, f3, f4, f5]; exact a
 ·rw [updS_other S T (by omega), f1]; exact h.slg
 ·rw [updS_other S T (by omega), f2]; exact h.srow
 ·rw [f5]; exact b
 ·rw [f3, f4, f5]; exact h.ok
 ·rw [f5]; exact h.dl
 ·rw [f5]; exact h.len
 ·rw [updS_other S T (by omega), e4, e5]; exact h.out.mv hm hk (r6 1 · (by omega) (by omega))
 ·rw [updS_other S T (by omega), e6, e7]; exact h.trk.kept hk (r6 3 · (by omega) (by omega))
 ·rw [e1, e2]; exact hm.sl h.mem h.imm
 ·rw [e1]; exact hm.im h.imm h.mem.row_lt
 ·rw [e3]; exact ⟨d, hm.sl hd h.imd, hdd⟩
 ·rw [e3]; exact hm.im h.imd hd.row_lt
theorem NodeIn.partTrk (h : NodeIn w M F S p x) (hT : ∀ k, T k → S 3 k ∨ (w.heap.size ≤ k ∧ k < w'.heap.size)) (hk : Keeps (fun k => S 3 k ∨ k = p) w w') (hbox : w'.heap[p]? = some (.cells y.cells 74 (0, 0)))
  (htrk : TrkP w' T y.tv y.tr)
  (f1 : y.lg = x.lg) (f2 : y.r = x.r) (f3 : y.ix = x.ix) (f4 : y.tm = x.tm) (f5 : y.es = x.es) (e1 : y.imv = x.imv) (e2 : y.mem = x.mem) (e3 : y.idv = x.idv) (e4 : y.ov = x.ov) (e5 : y.out = x.out) (e6 : y.pv = x.pv) (e7 : y.pl = x.pl) : NodeIn w' (fun k => M k ∨ T k) (fun k => F k ∨ T k) (updS S 3 T) p y := by
 obtain ⟨hm, r1, r2, r3, r4, r5, r6⟩ := h.rest (i := 3) (by omega) hT hk
 obtain ⟨d, hd, hdd⟩ := h.dat
 obtain ⟨a, b⟩ := h.logMv hm hk (r6 0 · (by omega) (by omega))
 refine ⟨hbox, .inl h.fp, r1, r2, r3, r4, r5, ?_, ?_, ?_, ?_, ?_, ?_, ?_, ?_, ?_, by rw [updS_same]; exact htrk, ?_, ?_, ?_, ?_⟩
 ·rw [f1, f2, f3, f4, f5]; exact a
 ·rw [updS_other S T (by omega), f1]; exact h.slg
 ·rw [updS_other S T (by omega), f2]; exact h.srow
 ·rw [f5]; exact b
 ·rw [f3, f4, f5]; exact h.ok
 ·rw [f5]; exact h.dl
 ·rw [f5]; exact h.len
 ·rw [updS_other S T (by omega), e4, e5]; exact h.out.mv hm hk (r6 1 · (by omega) (by omega))
 ·rw [updS_other S T (by omega), e6, e7]; exact h.bal.mv hm hk (r6 2 · (by omega) (by omega))
 ·rw [e1, e2]; exact hm.sl h.mem h.imm
 ·rw [e1]; exact hm.im h.imm h.mem.row_lt
 ·rw [e3]; exact ⟨d, hm.sl hd h.imd, hdd⟩
 ·rw [e3]; exact hm.im h.imd hd.row_lt
theorem NodeIn.to (h : NodeIn w M F S p x) {i : Nat} (hi : i < 4) (hT : ∀ k, T k → S i k ∨ (w.heap.size ≤ k ∧ k < w'.heap.size)) (hk : Keeps (fun k => S i k ∨ k = p) w w') {S' : Nat → Nat → Prop} (hn : NodeIn w' (fun k => M k ∨ T k) (fun k => F k ∨ T k) S' p y) : NodTo w M F w' p y := by
 refine ⟨fun k => F k ∨ T k, ⟨S', ?_⟩, hk.mono fun k _ e => e.elim (h.sub i k hi) fun e => e ▸ h.fp, fun k e => .inl e, fun k e => e.elim .inl fun e => (hT k e).imp (h.sub i k hi) And.left⟩
 have e : (fun k => M k ∨ F k ∨ T k) = fun k => M k ∨ T k := by
  funext k
  exact propext ⟨fun e => e.elim .inl fun e => e.elim (fun e => .inl (h.fm k e)) .inr, fun e => e.imp id .inr⟩
 rw [e]
 exact hn
end
end
section
section
variable {ε : Type} {tm : ε → Nat} {cf : ε → Option (List Int)} {C0 : List Int} {g : Gh ε}
def ofN (cf : ε → Option (List Int)) (es : List ε) : Nat → Option (List Int × Nat)
 | 0 => none
 | k + 1 => match (es[k]?).bind cf with
  | some l => some (l, k + 1)
  | none => ofN cf es k
theorem cfAt_drop {X es : List ε} {b k : Nat} (he : X.drop b = es) : cfAt cf X (b + k + 1) = (es[k]?).bind cf := by
 unfold cfAt
 rw [if_neg (by omega), ← he, List.getElem?_drop]
 rfl
theorem ofN_conf {X es : List ε} {b : Nat} {mem : List Int} (he : X.drop b = es) (hm : confTo cf C0 X b = mem) : ∀ k, ((ofN cf es k).map (·.1)).getD mem = confTo cf C0 X (b + k)
 | 0 => by rw [ofN]; exact hm.symm
 | k + 1 => by
  rw [ofN, ← Nat.add_assoc, confTo, cfAt_drop he]
  cases h : (es[k]?).bind cf with
  | some l => rfl
  | none => simp only [Option.getD_none]; exact ofN_conf he hm k
theorem ofN_pos {es : List ε} : ∀ {k : Nat} {i : Nat}, i < k → (es[i]?).bind cf ≠ none → ∃ l j, ofN cf es k = some (l, j) ∧ i + 1 ≤ j
 | k + 1, i, h, hne => by
  rw [ofN]
  cases hk : (es[k]?).bind cf with
  | some l => exact ⟨l, k + 1, rfl, by omega⟩
  | none =>
   have : i ≠ k := fun e => hne (e ▸ hk)
   exact ofN_pos (by omega) hne
def ofAt (o : Option (List Int × Nat)) (b : Nat) : Nat := match o with | some (_, j) => b + j | none => 0
theorem ofN_all {X es : List ε} {b : Nat} (he : X.drop b = es) {c : Nat} (hb : b ≤ c) (hc : ofAt (ofN cf es es.length) b ≤ c) : ∀ k, cfAt cf X k ≠ none → k ≤ c := fun k hk => by
 rcases Nat.lt_or_ge b k with h | h
 ·obtain ⟨i, rfl⟩ : ∃ i, k = b + i + 1 := ⟨k - b - 1, by omega⟩
  rw [cfAt_drop he] at hk
  have hi : i < es.length := Classical.byContradiction fun hn => by rw [List.getElem?_eq_none (by omega)] at hk; exact hk rfl
  obtain ⟨l, j, h1, h2⟩ := ofN_pos hi hk
  rw [h1] at hc
  simp only [ofAt] at hc
  omega
 ·omega
theorem NI.conf {v : Int} {nd : NdS ε} {X : List ε} (h : NI tm cf C0 g v nd X) : ((ofN cf nd.ents nd.ents.length).map (·.1)).getD nd.mem = confOf cf C0 X := by
 rw [ofN_conf h.ents h.mem]
 unfold confOf
 have : nd.base ≤ X.length := Nat.le_trans h.le1 h.le2
 rw [← h.ents, List.length_drop, show nd.base + (X.length - nd.base) = X.length by omega]
theorem NI.confTo {v : Int} {nd : NdS ε} {X : List ε} (h : NI tm cf C0 g v nd X) {i : Nat} (hi : nd.base ≤ i) : ((ofN cf nd.ents (i - nd.base)).map (·.1)).getD nd.mem = confTo cf C0 X i := by
 rw [ofN_conf h.ents h.mem, show nd.base + (i - nd.base) = i by omega]
end
end
section
open Go.RowKit
def yesOf (l : List (Int × Bool)) : List Int := (l.filter (·.2)).map (·.1)
def trkOf (o : Option (List (Int × (Int × Int)))) : List (Int × Nat) := (o.getD []).map fun q => (q.1, q.2.1.toNat)
def NodeS.nd (x : NodeS) : NdS En := ⟨x.term.toNat, x.vote, x.role, x.ix.toNat, x.tm.toNat, x.es.map Ent.en, x.mem, x.commit.toNat, x.pl.map fun q => (q.1, yesOf q.2), trkOf x.tr⟩
structure OkN (C0 : List Int) (g : Gh En) (n : Nat) (x : NodeS) (X : List En) : Prop where
 ni : NI En.tm cfE C0 g x.id x.nd X
 i7 : x.id ≤ 7
 t0 : 0 ≤ x.term
 tn : x.term ≤ n
 c0 : 0 ≤ x.commit
 len : X.length ≤ n
 memb : mB x.mem = true
 v0 : 0 ≤ x.vote
 v7 : x.vote ≤ 7
 nx : x.role = 3 → ∀ q ∈ x.tr.getD [], q.2.2 ≤ X.length + 1
 el : 1 ≤ x.el ∧ x.el ≤ 1000
structure OkM (C0 : List Int) (g : Gh En) (n : Nat) (m : Msg) : Prop where
 mi : MI En.tm cfE C0 g m.ms
 k0 : 0 ≤ m.kind
 k7 : m.kind ≤ 7
 f1 : 1 ≤ m.from_
 f7 : m.from_ ≤ 7
 o1 : 1 ≤ m.to_
 o7 : m.to_ ≤ 7
 t0 : 0 ≤ m.term
 tn : m.term ≤ n + 1
 x0 : 0 ≤ m.index
 xn : m.index ≤ n
 l0 : 0 ≤ m.logTerm
 ln : m.logTerm ≤ n
 c0 : 0 ≤ m.commit
 fol : ∀ (k : Nat) (e : Ent), m.es[k]? = some e → e.ix = m.index + (k : Int) + 1 ∧ lT m.logTerm (m.es.take k) ≤ e.tm ∧ e.tm ≤ 18446744073709551615 ∧ e.d.length ≤ 900
 el : m.index + (m.es.length : Int) ≤ n
structure OkG (C0 : List Int) (g : Gh En) (_ : Nat) : Prop where
 gi : GI En.tm cfE C0 g
 c0 : C0.Nodup
theorem OkN.mono {C0 : List Int} {g : Gh En} {n m : Nat} {x : NodeS} {X : List En} (h : OkN C0 g n x X) (hn : n ≤ m) : OkN C0 g m x X :=
 ⟨h.ni, h.i7, h.t0, by have := h.tn; omega, h.c0, Nat.le_trans h.len hn, h.memb, h.v0, h.v7, h.nx, h.el⟩
theorem OkM.mono {C0 : List Int} {g : Gh En} {n k : Nat} {m : Msg} (h : OkM C0 g n m) (hn : n ≤ k) : OkM C0 g k m :=
 ⟨h.mi, h.k0, h.k7, h.f1, h.f7, h.o1, h.o7, h.t0, by have := h.tn; omega, h.x0, by have := h.xn; omega, h.l0, by have := h.ln; omega, h.c0, h.fol, by have := h.el; omega⟩
theorem OkG.mono {C0 : List Int} {g : Gh En} {n m : Nat} (h : OkG C0 g n) (_ : n ≤ m) : OkG C0 g m := ⟨h.gi, h.c0⟩
theorem OkN.other {C0 : List Int} {g g' : Gh En} {n : Nat} {v : Int} (hg : OkG C0 g n) (hgr : Grow v g g') {x : NodeS} {X : List En} (h : OkN C0 g n x X) (hx : x.id ≠ v) : OkN C0 g' n x X :=
 ⟨h.ni.other hg.gi hgr hx, h.i7, h.t0, h.tn, h.c0, h.len, h.memb, h.v0, h.v7, h.nx, h.el⟩
theorem OkM.grow {C0 : List Int} {g g' : Gh En} {n : Nat} {v : Int} (hg : OkG C0 g n) (hgr : Grow v g g') {m : Msg} (h : OkM C0 g n m) : OkM C0 g' n m :=
 ⟨h.mi.grow hg.gi hgr, h.k0, h.k7, h.f1, h.f7, h.o1, h.o7, h.t0, h.tn, h.x0, h.xn, h.l0, h.ln, h.c0, h.fol, h.el⟩
structure OkL (n : Nat) (x : NodeS) (X : List En) : Prop where
 last : x.ix + x.es.length = X.length
 ixle : x.ix ≤ x.commit
 cle : x.commit ≤ X.length
theorem OkN.nums {C0 : List Int} {g : Gh En} {n : Nat} {x : NodeS} {X : List En} (h : OkN C0 g n x X) (hok : LogOk x.ix x.tm x.es) : OkL n x X := by
 have h1 := h.ni.le1
 have h2 := h.ni.le2
 have h3 := congrArg List.length h.ni.ents
 have h4 := hok.lo
 have h5 := h.c0
 simp only [NodeS.nd, List.length_drop, List.length_map] at h1 h2 h3
 exact ⟨by omega, by omega, by omega⟩
theorem OkN.term_at {C0 : List Int} {g : Gh En} {n : Nat} {x : NodeS} {X : List En} (h : OkN C0 g n x X) (hok : LogOk x.ix x.tm x.es) {k : Nat} {e : Ent} (he : x.es[k]? = some e) {i : Nat} (hi : (i : Int) = x.ix + k + 1) : tmAt En.tm X i = e.tm.toNat := by
 have h3 := h.ni.ents
 have h4 := hok.lo
 simp only [NodeS.nd] at h3
 obtain rfl : i = x.ix.toNat + k + 1 := by omega
 unfold tmAt
 rw [if_neg (by omega), show x.ix.toNat + k + 1 - 1 = x.ix.toNat + k by omega, ← List.getElem?_drop, h3, List.getElem?_map, he]
 rfl
theorem OkN.term_base {C0 : List Int} {g : Gh En} {n : Nat} {x : NodeS} {X : List En} (h : OkN C0 g n x X) {i : Nat} (hi : (i : Int) = x.ix) : tmAt En.tm X i = x.tm.toNat := by
 have := h.ni.bterm
 simp only [NodeS.nd] at this
 rw [show i = x.ix.toNat by omega]
 exact this
theorem OkN.last_term {C0 : List Int} {g : Gh En} {n : Nat} {x : NodeS} {X : List En} (h : OkN C0 g n x X) (hok : LogOk x.ix x.tm x.es) : lastTX En.tm X = (lT x.tm x.es).toNat := by
 have hn := h.nums hok
 unfold lastTX lT
 rcases Nat.eq_zero_or_pos x.es.length with h0 | h0
 ·have hes : x.es = [] := List.eq_nil_of_length_eq_zero h0
  have hl := hn.last
  rw [h0] at hl
  rw [hes, h.term_base (by omega)]
  rfl
 ·obtain ⟨k, hk⟩ : ∃ k, x.es.length = k + 1 := ⟨x.es.length - 1, by omega⟩
  obtain ⟨e, he⟩ : ∃ e, x.es[k]? = some e := ⟨x.es[k], List.getElem?_eq_getElem (by omega)⟩
  have hl : x.es.getLast? = some e := by rw [List.getLast?_eq_getElem?, hk]; exact he
  have := hn.last
  rw [h.term_at hok he (by omega), hl]
  rfl
end
section
open Go.RowKit
theorem RowE.at {w : World} {M : Nat → Prop} {v : Value} {es : List Ent} (h : RowE w M v es) {k : Nat} {e : Ent} (he : es[k]? = some e) :
  ∃ b o cap, v = .slice (some ⟨b, o, none⟩) es.length cap ∧ es.length ≤ cap ∧ cap ≤ maxLen ∧ b < w.heap.size ∧
   w.cell? ⟨b, o + k * 4, none⟩ = some (.int .u64 e.ix) ∧ w.cell? ⟨b, o + k * 4 + 1, none⟩ = some (.int .u64 e.tm) ∧ w.cell? ⟨b, o + k * 4 + 2, none⟩ = some (.bool e.cf) ∧ w.cell? ⟨b, o + k * 4 + 3, none⟩ = some e.v := by
 obtain ⟨_, _, a, cap, rfl, h3, h4, ⟨rfl, rfl⟩ | ⟨b, o, rfl, hb, hc⟩⟩ := h
 ·have := (List.getElem?_eq_some_iff.1 he).1; omega
 ·have hcell : ∀ j v, e.cells[j]? = some v → w.cell? ⟨b, o + (k * 4 + j), none⟩ = some v := fun j v hj => hc _ v (entCells_at he hj)
  exact ⟨b, o, cap, rfl, h3, h4, hb, hcell 0 _ rfl, hcell 1 _ rfl, hcell 2 _ rfl, hcell 3 _ rfl⟩
def FolOk (i t : Int) (es : List Ent) : Prop := ∀ (k : Nat) (e : Ent), es[k]? = some e → e.ix = i + (k : Int) + 1 ∧ lT t (es.take k) ≤ e.tm ∧ e.tm ≤ 18446744073709551615 ∧ e.d.length ≤ 900
theorem lastTm_take {t : Int} {es : List Ent} {k : Nat} {e : Ent} (he : es[k]? = some e) : lT t (es.take (k + 1)) = e.tm := by
 unfold lT
 rw [List.take_add_one, he]
 simp
set_option maxRecDepth 100000 in
theorem follow_ok (w : World) (M : Nat → Prop) (a : Option Addr) (n cap : Nat) (es : List Ent) (h : RowE w M (.slice a n cap) es) (i t : Int) (hf : FolOk i t es) (hi : 0 ≤ i) (hn : i + n ≤ 9223372036854775807) (ht : 0 ≤ t ∧ t ≤ 18446744073709551615) (hn2 : n ≤ 1000000) :
  Calls Tryz.prog 77 #[.int .u64 i, .int .u64 t, .slice a n cap] w (RetB (.int .i64 0) w) := by
 have hnl : n = es.length := by obtain ⟨_, _, _, _, e, _⟩ := h; injection e
 have HR := hI h
 have HF := hI hf
 subst hnl
 have HT := hI ht
 clear h hf ht
 go_enter Tryz.func77, Tryz.ntmps77
 go_wp2_with fail
 go_loopw [0, 1, 7, 12] (fun x0 x1 x7 x12 wr => ∃ k : Nat, k ≤ es.length ∧ x0 = .int .u64 (i + k) ∧ x1 = .int .u64 (lT t (es.take k)) ∧ x7 = .bool false ∧ x12 = .int .i64 k ∧ Below w.heap.size w wr) (fun _ _ _ x12 _ => es.length - (intOf x12).toNat)
 case atStart => exact ⟨0, Nat.zero_le _, by simp, by simp [lT], rfl, rfl, bR⟩
 case round =>
  obtain ⟨k, hk, rfl, rfl, rfl, rfl, hb⟩ := hrel
  have HB := hI hb
  by_cases hlt : k < es.length
  ·obtain ⟨e, he⟩ : ∃ e, es[k]? = some e := ⟨es[k], by simp⟩
   obtain ⟨f1, f2, f3, f4⟩ := HF.out k e he
   obtain ⟨b, o, cap', hv, h1, h2, h3, c0, c1, c2, c3⟩ := (HR.out.mv (Mv.below M hb)).at he
   injection hv with e1 e2 e3
   subst e1 e3
   have HE := hI (lastTm_take (t := t) he)
   have hvs : ∃ va vc, e.v = .slice va e.d.length vc := by
    obtain ⟨va, vc, hv, _⟩ := (HR.out.2.1 e (List.mem_of_getElem? he)).1
    exact ⟨va, vc, hv⟩
   obtain ⟨va, vc, hve⟩ := hvs
   rw [hve] at c3
   have z1 : (k : Int) < (es.length : Int) := by omega
   have z2 : IntKind.u64.wrap (i + k + 1) = i + k + 1 := IntWalk.u64_in _ (by omega)
   have z3 : decide ((900 : Int) < (e.d.length : Int)) = false := decide_eq_false (by omega)
   have z4 : ¬ e.tm < lT t (es.take k) := by omega
   generalize lT t (es.take k) = lt at *
   rw [f1] at c0
   clear he hve hb f1 f2 e2
   go_wp2_with fail
   go_quiet (fail)
   go_wp2_with fail
   go_roundw
   case rel => exact ⟨k + 1, by omega, by go_num, by rw [HE.out], rfl, by go_num, belowDN (HB.out.alloc HB.out.size _) _⟩
   case measure => simp [intOf]; omega
  ·obtain rfl : k = es.length := by omega
   go_wp2_with fail
   go_ret
   exact RetB.mk rfl HB.out
end
section
open Go.RowKit
def termE (ix tm : Int) (es : List Ent) (i : Int) : Option Int := if i = ix then some tm else if ix < i then (es[(i - ix - 1).toNat]?).map (·.tm) else none
def TermC (o : Option Int) (x c : Int) : Prop := (c = 0 ∧ o = some x) ∨ ((c = 20 ∨ c = 7) ∧ x = 0 ∧ o = none)
theorem term_all (ix tm : Int) (es : List Ent) (ok : LogOk ix tm es) (t : Nat) (r : Option Nat) (i : Int) : ∃ x c, TermC (termE ix tm es i) x c ∧ ∀ w, LogAt w t r ix tm es → Calls Tryz.prog 52 #[.pointer (some ⟨t, 0, none⟩), .int .u64 i] w (RetB (.tuple #[.int .u64 x, .int .i64 c]) w) := by
 unfold termE
 by_cases h1 : i = ix
 ·subst h1
  exact ⟨tm, 0, .inl ⟨rfl, by simp⟩, fun w h => term_base w t r i tm es h ok⟩
 ·by_cases h2 : ix < i
  ·cases he : es[(i - ix - 1).toNat]? with
   | some e => exact ⟨e.tm, 0, .inl ⟨rfl, by rw [if_neg h1, if_pos h2]; rfl⟩, fun w h => term_at w t r ix tm es h ok _ e he i (by omega)⟩
   | none =>
    have := List.getElem?_eq_none_iff.1 he
    exact ⟨0, 7, .inr ⟨.inr rfl, rfl, by rw [if_neg h1, if_pos h2]; rfl⟩, fun w h => term_no w t r ix tm es h ok i 7 (.inr ⟨by omega, rfl⟩)⟩
  ·exact ⟨0, 20, .inr ⟨.inl rfl, rfl, by rw [if_neg h1, if_neg h2]⟩, fun w h => term_no w t r ix tm es h ok i 20 (.inl ⟨by omega, rfl⟩)⟩
def KnownP (ix tm : Int) (es l : List Ent) (m : Nat) : Prop := m ≤ l.length ∧ (∀ k e, k < m → l[k]? = some e → termE ix tm es e.ix = some e.tm) ∧ ∀ e, l[m]? = some e → termE ix tm es e.ix ≠ some e.tm
def KnownR (w : World) (ix tm : Int) (es l : List Ent) (e : Ending) (w' : World) : Prop := ∃ m : Nat, e = .returned (.int .i64 m) ∧ KnownP ix tm es l m ∧ Below w.heap.size w w'
set_option maxRecDepth 100000 in
theorem known_any (w : World) (t : Nat) (r : Option Nat) (ix tm : Int) (es : List Ent) (h : LogAt w t r ix tm es) (ok : LogOk ix tm es) (M : Nat → Prop) (a : Option Addr) (n cap : Nat) (l : List Ent) (hl : RowE w M (.slice a n cap) l) (hn2 : n ≤ 1000000) :
  Calls Tryz.prog 78 #[.pointer (some ⟨t, 0, none⟩), .slice a n cap] w (KnownR w ix tm es l) := by
 have hnl : n = l.length := by obtain ⟨_, _, _, _, e, _⟩ := hl; injection e
 subst hnl
 have HR := hI hl
 have HT := hI (term_all ix tm es ok t r)
 have HL := hI h
 clear hl h ok
 go_enter Tryz.func78, Tryz.ntmps78
 go_wp2_with fail
 go_loopw [5, 12] (fun x5 x12 wr => ∃ k : Nat, k ≤ l.length ∧ x5 = .int .i64 k ∧ x12 = .int .i64 k ∧ Below w.heap.size w wr ∧ ∀ j e, j < k → l[j]? = some e → termE ix tm es e.ix = some e.tm) (fun _ x12 _ => l.length - (intOf x12).toNat)
 case atStart => exact ⟨0, Nat.zero_le _, rfl, rfl, bR, fun j e hj => absurd hj (Nat.not_lt_zero _)⟩
 case round =>
  obtain ⟨k, hk, rfl, rfl, hb, hp⟩ := hrel
  have HB := hI hb
  have HP := hI hp
  clear hp
  by_cases hlt : k < l.length
  ·obtain ⟨e, he⟩ : ∃ e, l[k]? = some e := ⟨l[k], by simp⟩
   obtain ⟨b, o, cap', hv, h1, h2, h3, c0, c1, c2, c3⟩ := (HR.out.mv (Mv.below M hb)).at he
   injection hv with e1 e2 e3
   subst e1 e3
   have HE := hI he
   have hvs : ∃ va vc, e.v = .slice va e.d.length vc := by
    obtain ⟨va, vc, hv, _⟩ := (HR.out.2.1 e (List.mem_of_getElem? he)).1
    exact ⟨va, vc, hv⟩
   obtain ⟨va, vc, hve⟩ := hvs
   rw [hve] at c3
   have z1 : (k : Int) < (l.length : Int) := by omega
   obtain ⟨x, c, hxc, hcall⟩ := HT.out e.ix
   have HXC := hI hxc
   have hcw := hcall _ ((HL.out.below hb).below ((Below.refl _ wr).alloc nL (.cells #[.int .u64 e.ix, .int .u64 e.tm, .bool e.cf, .slice va e.d.length vc] 47)))
   clear he hve hb e2 hxc hcall
   go_wp2_with fail
   refine hcw.mono ?_
   rintro en w2 ⟨rfl, hb2⟩
   have hb3 := (HB.out.alloc HB.out.size _).trans (hb2.mono (by have := HB.out.size; simp; omega))
   have HB3 := hI hb3
   have hx := bH hb2 (bW wr (.cells #[.int .u64 e.ix, .int .u64 e.tm, .bool e.cf, .slice va e.d.length vc] 47)) (by simp)
   have d1 := bC hx 1 rfl
   clear hb2 hb3 hx hcw
   by_cases hc : c = 0
   ·subst hc
    by_cases hxe : x = e.tm
    ·subst hxe
     go_wp2_with fail
     go_roundw
     case rel => exact ⟨k + 1, by omega, by go_num, by go_num, HB3.out, fun j e' hj he' => by
       by_cases hjk : j = k
       · subst hjk
         rw [HE.out] at he'
         injection he' with he'
         subst he'
         rcases HXC.out with ⟨_, h⟩ | ⟨h, _⟩
         · exact h
         · omega
       · exact HP.out j e' (by omega) he'⟩
     case measure => simp [intOf]; omega
    ·go_wp2_with fail
     go_ret
     exact ⟨k, rfl, ⟨by omega, HP.out, fun e' he' => by
       rw [HE.out] at he'
       injection he' with he'
       subst he'
       rcases HXC.out with ⟨_, h⟩ | ⟨h, _⟩
       · rw [h]; intro e; injection e with e; exact hxe e
       · omega⟩, HB3.out⟩
   ·go_wp2_with fail
    go_ret
    exact ⟨k, rfl, ⟨by omega, HP.out, fun e' he' => by
      rw [HE.out] at he'
      injection he' with he'
      subst he'
      rcases HXC.out with ⟨h, _⟩ | ⟨_, _, h⟩
      · exact absurd h hc
      · rw [h]; intro e; cases e⟩, HB3.out⟩
  ·obtain rfl : k = l.length := by omega
   go_wp2_with fail
   go_ret
   exact ⟨l.length, rfl, ⟨Nat.le_refl _, HP.out, fun e he => by simp at he⟩, HB.out⟩
end
end Go.Proofs.YtdjooojpcepleaaGreat

/- raft, any node: what an act leaves, plainly; what a majority has. -/
import Derived.Test.YtdjooojpcepleaaGreatRsM18

namespace Go.Proofs.YtdjooojpcepleaaGreat
section
open Go.RowKit
theorem ofD_ofN (es : List Ent) : ∀ k, ofD es k = ofN cfE (es.map Ent.en) k
 | 0 => rfl
 | k + 1 => by
  rw [ofD, ofN, List.getElem?_map]
  cases he : es[k]? with
  | none => exact ofD_ofN es k
  | some e =>
   simp only [Option.map_some, Option.bind_some]
   unfold cfE Ent.en
   cases hc : e.cf
   ·exact ofD_ofN es k
   ·cases hm : membersOf e.d with
    | none => exact ofD_ofN es k
    | some l => rfl
theorem OkN.conf {C0 : List Int} {g : Gh En} {n : Nat} {x : NodeS} {X : List En} (h : OkN C0 g n x X) : x.memb = confOf cfE C0 X := by
 have := h.ni.conf
 unfold NodeS.memb
 rw [ofD_ofN, ← this]
 simp only [NodeS.nd, List.length_map]
structure Stay (x y : NodeS) : Prop where
 id : y.id = x.id
 mv : y.mv = x.mv
 el : y.el = x.el
 be : y.be = x.be
theorem Stay.refl (x : NodeS) : Stay x x := ⟨rfl, rfl, rfl, rfl⟩
theorem Stay.trans {x y z : NodeS} (h : Stay x y) (k : Stay y z) : Stay x z := ⟨k.id.trans h.id, k.mv.trans h.mv, k.el.trans h.el, k.be.trans h.be⟩
structure Acts (C0 : List Int) (g : Gh En) (n k : Nat) (x : NodeS) (g' : Gh En) (y : NodeS) (Y : List En) : Prop where
 grow : Grow x.id g g'
 gok : OkG C0 g' n
 nok : OkN C0 g' n y Y
 out : ∃ l, y.out = x.out ++ l ∧ (∀ m ∈ l, OkM C0 g' n m) ∧ l.length ≤ k
 stay : Stay x y
theorem Acts.trans {C0 : List Int} {g g' g'' : Gh En} {n k j : Nat} {x y z : NodeS} {Y Z : List En} (h : Acts C0 g n k x g' y Y) (h' : Acts C0 g' n j y g'' z Z) : Acts C0 g n (k + j) x g'' z Z := by
 obtain ⟨l, a, b, c⟩ := h.out
 obtain ⟨l', a', b', c'⟩ := h'.out
 have hg : Grow x.id g' g'' := by rw [← h.stay.id]; exact h'.grow
 refine ⟨h.grow.trans hg, h'.gok, h'.nok, ⟨l ++ l', by rw [a', a, List.append_assoc], fun m hm => ?_, by simp; omega⟩, h.stay.trans h'.stay⟩
 rcases List.mem_append.1 hm with hm | hm
 ·exact (b m hm).grow h.gok hg
 ·exact b' m hm
theorem Acts.mono {C0 : List Int} {g g' : Gh En} {n k m j : Nat} {x y : NodeS} {Y : List En} (h : Acts C0 g n k x g' y Y) (hn : n ≤ m) (hk : k ≤ j) : Acts C0 g m j x g' y Y := by
 obtain ⟨l, a, b, c⟩ := h.out
 exact ⟨h.grow, h.gok.mono hn, h.nok.mono hn, ⟨l, a, fun q hq => (b q hq).mono hn, by omega⟩, h.stay⟩
theorem Acts.own {C0 : List Int} {g : Gh En} {n : Nat} {x y : NodeS} {Y : List En} (hg : OkG C0 g n) (hy : OkN C0 g n y Y) (ho : y.out = x.out) (hs : Stay x y) : Acts C0 g n 0 x g y Y :=
 ⟨Grow.refl _ _, hg, hy, ⟨[], by rw [ho, List.append_nil], (fun m hm => by cases hm), Nat.zero_le _⟩, hs⟩
def ActTo (C0 : List Int) (g : Gh En) (n k : Nat) (w : World) (M F : Nat → Prop) (w' : World) (p : Nat) (x : NodeS) : Prop := ∃ y g' Y, NodTo w M F w' p y ∧ Acts C0 g n k x g' y Y
def NodeS.far (x : NodeS) (c : Int) : Int := if c = x.id then x.ix + x.es.length else ((tget x.tr c).map (·.1)).getD 0
section
variable {C0 : List Int} {g : Gh En} {n : Nat} {x : NodeS} {X : List En}
theorem agree_law (hg : OkG C0 g n) (h : OkN C0 g n x X) (hok : LogOk x.ix x.tm x.es) (hr : x.role = 3) {i t : Int} (hi : i = agreedF x.memb x.far) (hc : x.commit < i) (ht : termE x.ix x.tm x.es i = some t) (htt : t = x.term) :
  ∃ g', Acts C0 g n 0 x g' { x with commit := i } X := by
 have hm := mL (memb_ok h.memb)
 have hte := h.termE_ hok ht
 have hn := h.nums hok
 have h0 := h.c0
 have hmaj := agreed_maj (membersB_nodup (memb_ok h.memb)) x.far hm.1
 rw [← hi] at hmaj
 obtain ⟨a, b, c, d⟩ := h.ni.lead hr
 obtain ⟨g', w1, w2, w3⟩ := h.ni.agree hg.gi hr (i := i.toNat) (by simp only [NodeS.nd]; omega) hte.2.2.1 (by rw [hte.2.1, htt]; rfl) (by rw [← h.conf]; exact hmaj) (fun y hy => by
   have hy2 := (List.mem_filter.1 hy).2
   simp only [decide_eq_true_eq] at hy2
   by_cases e : y = x.id
   · subst e
     exact hg.gi.adn _ _ _ _ c hte.2.2.1
   · unfold NodeS.far at hy2
     rw [if_neg e] at hy2
     cases htg : tget x.tr y with
     | none => rw [htg] at hy2; simp at hy2; omega
     | some q =>
       rw [htg] at hy2
       simp only [Option.map_some, Option.getD_some] at hy2
       obtain ⟨l, hl, hq⟩ : ∃ l, x.tr = some l ∧ (y, q) ∈ l := by
         cases ho : x.tr with
         | none => rw [ho] at htg; cases htg
         | some l => rw [ho] at htg; exact ⟨l, rfl, aget_some_mem htg⟩
       have hmem : (y, q.1.toNat) ∈ x.nd.trk := by
         simp only [NodeS.nd, trkOf, hl, Option.getD_some]
         exact List.mem_map.2 ⟨(y, q), hq, rfl⟩
       rcases d y _ hmem with e | e
       · omega
       · exact hg.gi.adn _ _ _ _ e (by omega))
 refine ⟨g', w1, ⟨w2, hg.c0⟩, ⟨w3, h.i7, h.t0, h.tn, by simp only; omega, h.len, h.memb, h.v0, h.v7, h.nx, h.el⟩, ⟨[], by simp, (fun m hm => by cases hm), Nat.le_refl _⟩, ⟨rfl, rfl, rfl, rfl⟩⟩
end
end
section
open Go.RowKit
section
variable {C0 : List Int} {g : Gh En} {n : Nat} {x : NodeS} {X : List En}
theorem OkN.folB (h : OkN C0 g n x X) {t : Int} (_ : x.term ≤ t) (hn : t ≤ n) (lead : Int) : OkN C0 g n (x.folB t lead) X := by
 have h0 := h.t0
 by_cases hlt : x.term < t
 ·unfold NodeS.folB
  rw [if_pos hlt]
  exact ⟨h.ni.up (T := t.toNat) (by simp only [NodeS.nd]; omega) 0 (by decide) (by decide) none [], h.i7, by simp only; omega, hn, h.c0, h.len, h.memb, Int.le_refl _, by simp only; omega, fun e => by simp at e, h.el⟩
 ·unfold NodeS.folB
  rw [if_neg hlt]
  exact ⟨h.ni.calm 0 (by decide) (by decide) none [], h.i7, h.t0, h.tn, h.c0, h.len, h.memb, h.v0, h.v7, fun e => by simp at e, h.el⟩
end
theorem folB_out (x : NodeS) (t l : Int) : (x.folB t l).out = x.out := by unfold NodeS.folB; split <;> rfl
theorem folB_stay (x : NodeS) (t l : Int) : Stay x (x.folB t l) := by unfold NodeS.folB; split <;> exact ⟨rfl, rfl, rfl, rfl⟩
theorem folB_term (x : NodeS) (l : Int) : (x.folB x.term l).term = x.term := by unfold NodeS.folB; rw [if_neg (Int.lt_irrefl _)]
theorem Rn.callK {w0 w w' : World} {M0 F0 G : Nat → Prop} {p : Nat} {x y : NodeS} (h : Rn w0 M0 F0 G w p x) (k : NodTo w (fun k => M0 k ∨ G k) G w' p y) : ∃ G', Rn w0 M0 F0 G' w' p y ∧ Keeps G w w' ∧ (∀ k, G k → G' k) ∧ ∀ k, G' k → G k ∨ w.heap.size ≤ k := by
 obtain ⟨H, k1, k2, k3, k4⟩ := k
 have e : (fun k => (M0 k ∨ G k) ∨ H k) = fun k => M0 k ∨ H k := by
  funext k
  exact propext ⟨fun e => e.elim (fun e => e.imp id (k3 k)) .inr, fun e => e.elim (fun e => .inl (.inl e)) .inr⟩
 rw [e] at k1
 exact ⟨H, h.kept k1 k2 k3 k4, k2, k3, k4⟩
theorem callable_agreeN (args : Array Value) (w : World) : (callFunc 99 args).run Tryz.prog w = .ok (Next.enter 99 args) w := by
 kernel_rfl
theorem agree1_node (W : World) (M F : Nat → Prop) (bx lc p : Nat) (x : NodeS) (h : NodeAt W M F p x) (_ c : Int) (h1 : W.cell? ⟨bx, 0, none⟩ = some (.pointer (some ⟨p, 0, none⟩))) (h3 : W.cell? ⟨lc, 0, none⟩ = some (.int .u64 (x.ix + x.es.length))) (c1 : 1 ≤ c) (c7 : c ≤ 7) :
  Calls Tryz.prog 99 #[.int .i64 c, .pointer (some ⟨bx, 0, none⟩), .pointer (some ⟨lc, 0, none⟩)] W (RetB (.int .u64 (x.far c)) W) := by
 have d0 : W.cell? ⟨p, 0, none⟩ = some (.int .i64 x.id) := h.cell 0 rfl
 by_cases e : c = x.id
 ·have hf : x.far c = x.ix + x.es.length := by unfold NodeS.far; rw [if_pos e]
  rw [hf]
  generalize x.ix + (x.es.length : Int) = li at *
  subst e
  clear hf
  go_enter Tryz.func99, Tryz.ntmps99
  go_wp2
  go_ret
  exact RetB.mk rfl bR
 ·have hf : x.far c = ((tget x.tr c).map (·.1)).getD 0 := by unfold NodeS.far; rw [if_neg e]
  rw [hf]
  have e0 : (c == x.id) = false := by simpa using e
  obtain ⟨S, hn⟩ := id h
  have hm := rtrk_match W (S 3) x.tv x.tr hn.trk c c1 c7
  obtain ⟨tb, htv⟩ : ∃ tb, x.tv = .pointer tb := by
   have := hn.trk
   cases ho : x.tr with
   | none => rw [ho] at this; exact ⟨_, this⟩
   | some l => rw [ho] at this; obtain ⟨b, m, h, _⟩ := this; exact ⟨_, h⟩
  have d16 : W.cell? ⟨p, 16, none⟩ = some (.pointer tb) := by rw [← htv]; exact h.cell 16 rfl
  rw [htv] at hm
  generalize ((tget x.tr c).map (·.1)).getD 0 = mt at *
  clear h h3 hn htv hf
  go_enter Tryz.func99, Tryz.ntmps99
  go_wp2_with fail
  refine hm.mono ?_
  rintro en w' ⟨rfl, rfl⟩
  go_wp2_with fail
  go_ret
  exact RetB.mk rfl bR
set_option maxRecDepth 100000 in
set_option maxHeartbeats 1600000 in
theorem agree_node (w : World) (M F : Nat → Prop) (p : Nat) (x : NodeS) (h : NodeAt w M F p x) (hM : ∀ k, M k → k < w.heap.size) (hl : x.out.length ≤ 900000) (C0 : List Int) (g : Gh En) (n : Nat) (X : List En) (hg : OkG C0 g n) (hN : OkN C0 g n x X) (hn6 : n ≤ 1000000) (hr : x.role = 3) :
  Calls Tryz.prog 74 #[.pointer (some ⟨p, 0, none⟩)] w (fun e w' => e = .returned (.tuple #[]) ∧ ActTo C0 g n 7 w M F w' p x) := by
 obtain ⟨W1, hW1⟩ : ∃ W1, W1 = w.alloc (.cells #[.pointer (some ⟨p, 0, none⟩)] 44) := ⟨_, rfl⟩
 have hb1 : Below w.heap.size w W1 := by rw [hW1]; exact bR.alloc nL _
 have HB1 := hI hb1
 have HX1 : Hid (W1.heap[w.heap.size]? = some (.cells #[.pointer (some ⟨p, 0, none⟩)] 44 (0, 0))) := hI (by rw [hW1]; exact bW _ _)
 have H := hI h
 have HM := hI hM
 have HN := hI hN
 have HG := hI hg
 have HL := hI hl
 have hpl := h.plt
 obtain ⟨S, hn⟩ := id h
 have HOK := hI hn.ok
 have HLG : Hid (∀ W, Below w.heap.size w W → LogAt W x.lg x.r x.ix x.tm x.es) := hI fun W hW => hn.log.below hW
 have c9 : w.cell? ⟨p, 9, none⟩ = some (.pointer (some ⟨x.lg, 0, none⟩)) := h.cell 9 rfl
 have hls := last_any W1 x.lg x.r x.ix x.tm x.es (HLG.out W1 hb1) hn.ok
 have hml := (mL hN.memb).2.1
 clear h hM hN hg hl hn hb1
 generalize lT x.tm x.es = lt at *
 go_enter Tryz.func74, Tryz.ntmps74
 go_wp2_with fail
 rw [← hW1]
 clear hW1 c9
 refine hls.mono ?_
 rintro en w2 ⟨rfl, hb2⟩
 have HB2 := hI (HB1.out.trans (hb2.mono HB1.out.size))
 have HX2 := hI (bH hb2 HX1.out (heap_lt HX1.out))
 have hz2 : w.heap.size < w2.heap.size := Nat.lt_of_lt_of_le (heap_lt HX1.out) hb2.size
 obtain ⟨W3, hW3⟩ : ∃ W3, W3 = w2.alloc (.cells #[.int .u64 (x.ix + x.es.length)] 26) := ⟨_, rfl⟩
 have hb23 : Below w2.heap.size w2 W3 := by rw [hW3]; exact bR.alloc nL _
 have HB3 := hI (HB2.out.trans (hb23.mono HB2.out.size))
 have HX3 : Hid (W3.heap[w.heap.size]? = some (.cells #[.pointer (some ⟨p, 0, none⟩)] 44 (0, 0))) := hI (by rw [hW3]; exact aheap HX2.out _)
 have HY3 : Hid (W3.heap[w2.heap.size]? = some (.cells #[.int .u64 (x.ix + x.es.length)] 26 (0, 0))) := hI (by rw [hW3]; exact bW _ _)
 have x2 : w2.cell? ⟨w.heap.size, 0, none⟩ = some (.pointer (some ⟨p, 0, none⟩)) := bC HX2.out 0 rfl
 clear hb2 hls hb23
 go_wp2_with fail
 rw [← hW3]
 clear hW3 x2
 refine (members_node W3 M F p x (H.out.below HB3.out) (by omega)).mono ?_
 rintro en w4 ⟨a, cap, rfl, hn4⟩
 have hb4 := hn4.bel
 have HB4 := hI (HB3.out.trans (hb4.mono HB3.out.size))
 have HX4 := hI (bH hb4 HX3.out (heap_lt HX3.out))
 have HY4 := hI (bH hb4 HY3.out (heap_lt HY3.out))
 have hmb := memb_ok HN.out.memb
 have hag := agreed_any w4 a _ cap x.memb hn4.sl hmb 99 #[.pointer (some ⟨w.heap.size, 0, none⟩), .pointer (some ⟨w2.heap.size, 0, none⟩)] x.far callable_agreeN (fun y hy W hW =>
   agree1_node W M F w.heap.size w2.heap.size p x ((H.out.below HB4.out).below hW) 0 y (bC (bH hW HX4.out (heap_lt HX4.out)) 0 rfl) (bC (bH hW HY4.out (heap_lt HY4.out)) 0 rfl) ((mL hmb).2.2 y hy).1 ((mL hmb).2.2 y hy).2)
 have HAG := hI hag
 clear hn4 hb4 hmb hag
 go_wp2_with fail
 refine HAG.out.mono ?_
 rintro en w5 ⟨rfl, hb5⟩
 have HB5 := hI (HB4.out.trans (hb5.mono HB4.out.size))
 have HX5 := hI (bH hb5 HX4.out (heap_lt HX4.out))
 have x5 : w5.cell? ⟨w.heap.size, 0, none⟩ = some (.pointer (some ⟨p, 0, none⟩)) := bC HX5.out 0 rfl
 have d9 : w5.cell? ⟨p, 9, none⟩ = some (.pointer (some ⟨x.lg, 0, none⟩)) := (H.out.below HB5.out).cell 9 rfl
 generalize hix : agreedF x.memb x.far = i at *
 have HIX := hI hix
 obtain ⟨t, ec, htc, htm⟩ := term_all x.ix x.tm x.es HOK.out x.lg x.r i
 have HTC := hI htc
 have HTM := hI (htm w5 (HLG.out w5 HB5.out))
 clear hb5 htm htc hix HAG
 go_wp2_with fail
 refine HTM.out.mono ?_
 rintro en w6 ⟨rfl, hb6⟩
 have HB6 := hI (HB5.out.trans (hb6.mono HB5.out.size))
 have HX6 := hI (bH hb6 HX5.out (heap_lt HX5.out))
 have x6 : w6.cell? ⟨w.heap.size, 0, none⟩ = some (.pointer (some ⟨p, 0, none⟩)) := bC HX6.out 0 rfl
 have H6 := hI (H.out.below HB6.out)
 have f4 : w6.cell? ⟨p, 4, none⟩ = some (.int .u64 x.term) := H6.out.cell 4 rfl
 have f14 : w6.cell? ⟨p, 14, none⟩ = some (.int .u64 x.commit) := H6.out.cell 14 rfl
 have g14 := H6.out.free 14
 clear hb6 x5 d9 HTM
 have HSM : Hid (ActTo C0 g n 7 w M F w6 p x) := hI ⟨x, g, X, ((Rn.start H.out HM.out).below HB6.out).to, (Acts.own HG.out HN.out rfl (Stay.refl x)).mono nL (by omega)⟩
 by_cases h1 : i ≤ x.commit
 ·go_wp2_with fail
  first | exact bodyPost_end (results_none rfl _ _ _) rfl ⟨rfl, HSM.out⟩ | exact bodyPost_ret (results_none rfl _ _ _) rfl ⟨rfl, HSM.out⟩
 ·by_cases h2 : ec = 0
  ·subst h2
   by_cases h3 : t = x.term
   ·subst h3
    have hti : termE x.ix x.tm x.es i = some x.term := by
     rcases HTC.out with ⟨_, b⟩ | ⟨b, _⟩
     ·exact b
     ·omega
    have hci : x.commit < i := by omega
    obtain ⟨g1, hA1⟩ := agree_law HG.out HN.out HOK.out hr HIX.out.symm hci hti rfl
    have HA1 := hI hA1
    have hil := (termE_le hti).2
    have hige := (termE_le hti).1
    have HR7 := hI (((Rn.start H.out HM.out).below HB6.out).set { x with commit := i } 14 (.int .u64 i) rfl rS)
    have HX7 : Hid ((w6.setCell ⟨p, 14, none⟩ (.int .u64 i)).heap[w.heap.size]? = some (.cells #[.pointer (some ⟨p, 0, none⟩)] 44 (0, 0))) := hI (bO HX6.out (by simp; omega) _)
    have x7 : (w6.setCell ⟨p, 14, none⟩ (.int .u64 i)).cell? ⟨w.heap.size, 0, none⟩ = some (.pointer (some ⟨p, 0, none⟩)) := bC HX7.out 0 rfl
    have hz6 := HB6.out.size
    have hzx := heap_lt HX6.out
    have HALL := hI (all_node _ _ F p _ HR7.out.node HR7.out.ml (by have := HL.out; exact this) C0 g1 n X HA1.out.nok hn6 hr)
    have q1 : decide (i ≤ x.commit) = false := by simpa using h1
    clear hti hA1 hil hige h1
    go_wp2_with fail
    refine HALL.out.mono ?_
    rintro en w8 ⟨rfl, v8, l8, hn8, hm8, hl8⟩
    obtain ⟨G8, hr8, hk8, _, ht8⟩ := HR7.out.callK hn8
    have HR8 := hI hr8
    have hfx : ¬ F w.heap.size := fun e => absurd ((Rn.start H.out HM.out).glt _ e) (Nat.lt_irrefl _)
    have HX8 := hI (hk8.heap hfx HX7.out)
    have HG8 : Hid (¬ G8 w.heap.size) := hI fun e => (ht8 _ e).elim hfx fun e => by simp at e; omega
    have x8 : w8.cell? ⟨w.heap.size, 0, none⟩ = some (.pointer (some ⟨p, 0, none⟩)) := bC HX8.out 0 rfl
    obtain ⟨ia, ic, himv, hsi⟩ : ∃ ia ic, x.imv = .slice ia x.mem.length ic ∧ Sl intv w8 (.slice ia x.mem.length ic) x.mem := by
     obtain ⟨S8, hn8⟩ := hr8.node
     obtain ⟨a, cap, h1, _⟩ := id hn8.mem
     have h1' : x.imv = .slice a x.mem.length cap := h1
     exact ⟨a, cap, h1', h1' ▸ hn8.mem⟩
    have k9 : w8.cell? ⟨p, 9, none⟩ = some (.pointer (some ⟨x.lg, 0, none⟩)) := hr8.cell 9 rfl
    have k12 : w8.cell? ⟨p, 12, none⟩ = some (.slice ia x.mem.length ic) := by rw [← himv]; exact hr8.cell 12 rfl
    have k14 : w8.cell? ⟨p, 14, none⟩ = some (.int .u64 i) := hr8.cell 14 rfl
    have hi0 : 0 ≤ i := by have := HN.out.c0; omega
    have HOF : Hid (Calls Tryz.prog 51 #[.pointer (some ⟨x.lg, 0, none⟩), .slice ia x.mem.length ic, .int .u64 i] w8.drew (OfN x.ix (ofD x.es (min i (x.ix + x.es.length) - x.ix).toNat) x.mem w8.drew)) := by
     obtain ⟨S8, hn8⟩ := hr8.drew.node
     exact hI (of_new w8.drew x.lg x.r x.ix x.tm x.es hn8.log HOK.out hn8.dl ia ic x.mem (hsi.below (bD bR) hsi.row_lt) (by omega) i hi0)
    have HAC : Hid (Acts C0 g n 7 x g1 { x with commit := i, since := 0, ov := v8, out := x.out ++ l8 } X) := hI (HA1.out.trans (j := 7) ⟨Grow.refl _ _, HA1.out.gok, HA1.out.nok.outs _ _ _, ⟨l8, rfl, hm8, hl8⟩, ⟨rfl, rfl, rfl, rfl⟩⟩)
    have HIM := hI himv
    clear hr8 hk8 hsi himv hm8 hl8 x6 x7 f4 f14 g14 HALL hi0 hci
    go_wp2_with fail
    go_region_held3 (fun w' => w'.cell? ⟨w.heap.size, 0, none⟩ = some (.pointer (some ⟨p, 0, none⟩)) ∧ w'.cell? ⟨p, 9, none⟩ = some (.pointer (some ⟨x.lg, 0, none⟩)) ∧ w'.cell? ⟨p, 12, none⟩ = some (.slice ia x.mem.length ic) ∧ w'.cell? ⟨p, 14, none⟩ = some (.int .u64 i)) (first | exact ⟨x8, k9, k12, k14⟩ | exact ⟨x9, j9, j12, j14⟩)
     (first | (go_at_call 51; refine HOF.out.mono ?_; rintro en w9 hof; obtain ⟨a9, cap9, rfl, hn9⟩ := hof.all; have HN9 := hI hn9; have HR9 := hI (HR8.out.drew.below HN9.out.bel); have HX9 := hI (bH HN9.out.bel (show w8.drew.heap[w.heap.size]? = _ from HX8.out) (heap_lt HX8.out)); have x9 : w9.cell? ⟨w.heap.size, 0, none⟩ = some (.pointer (some ⟨p, 0, none⟩)) := bC HX9.out 0 rfl; have j9 : w9.cell? ⟨p, 9, none⟩ = some (.pointer (some ⟨x.lg, 0, none⟩)) := HR9.out.cell 9 rfl; have j12 : w9.cell? ⟨p, 12, none⟩ = some (.slice ia x.mem.length ic) := (by rw [← HIM.out]; exact HR9.out.cell 12 rfl); have j14 : w9.cell? ⟨p, 14, none⟩ = some (.int .u64 i) := HR9.out.cell 14 rfl; clear hof hn9))
    ·have d0 : w9.cell? ⟨p, 0, none⟩ = some (.int .i64 x.id) := HR9.out.cell 0 rfl
     have d4 : w9.cell? ⟨p, 4, none⟩ = some (.int .u64 x.term) := HR9.out.cell 4 rfl
     have HH := hI (has_any w9 a9 _ cap9 _ HN9.out.sl x.id)
     generalize ((ofD x.es (min i (x.ix + x.es.length) - x.ix).toNat).map (·.1)).getD x.mem = L9 at *
     clear x8 k9 k12 k14 j9 j12 j14
     by_cases hin : x.id ∈ L9
     ·have hd : decide (x.id ∈ L9) = true := by simpa using hin
      rw [hd] at HH
      clear hd hin
      go_wp2_with fail
      refine HH.out.mono ?_
      rintro en w10 ⟨rfl, rfl⟩
      go_wp2_with fail
      refine bE rfl rfl ?_
      exact ⟨rfl, _, g1, X, HR9.out.to, HAC.out⟩
     ·have hd : decide (x.id ∈ L9) = false := by simpa using hin
      rw [hd] at HH
      have hfo := follow_node w9.drew _ G8 p _ HR9.out.drew.node HR9.out.drew.ml x.term 0
      have HFO := hI hfo
      clear hd hin hfo
      go_wp2_with fail
      refine HH.out.mono ?_
      rintro en w10 ⟨rfl, rfl⟩
      go_wp2_with fail
      go_region_held3 (fun w' => w'.cell? ⟨w.heap.size, 0, none⟩ = some (.pointer (some ⟨p, 0, none⟩)) ∧ w'.cell? ⟨p, 4, none⟩ = some (.int .u64 x.term)) (first | exact ⟨x9, d4⟩ | exact ⟨x11, e4⟩)
       (first | (go_at_call 37; refine HFO.out.mono ?_; rintro en w11 ⟨rfl, hn11⟩; obtain ⟨G11, hr11, hk11, _, _⟩ := HR9.out.drew.callK hn11; have x11 : w11.cell? ⟨w.heap.size, 0, none⟩ = some (.pointer (some ⟨p, 0, none⟩)) := bC (hk11.heap HG8.out (show w9.drew.heap[w.heap.size]? = _ from HX9.out)) 0 rfl; have e4 : w11.cell? ⟨p, 4, none⟩ = some (.int .u64 x.term) := hr11.cell 4 (by exact congrArg (fun t => some (Value.int .u64 t)) (folB_term _ _)); have HR11 := hI hr11; clear hn11 hr11 hk11))
      ·skip
       go_wp2_with fail
       refine bE rfl rfl ?_
       exact ⟨rfl, _, g1, X, HR11.out.to, (HAC.out.trans (Acts.own HAC.out.gok (HAC.out.nok.folB (Int.le_refl _) HAC.out.nok.tn 0) (folB_out _ _ _) (folB_stay _ _ _))).mono nL (by omega)⟩
   ·have q3 : (t != x.term) = true := by simpa using h3
    have q4 : (t == x.term) = false := by simpa using h3
    go_wp2_with fail
    first | exact bodyPost_end (results_none rfl _ _ _) rfl ⟨rfl, HSM.out⟩ | exact bodyPost_ret (results_none rfl _ _ _) rfl ⟨rfl, HSM.out⟩
  ·go_wp2_with fail
   first | exact bodyPost_end (results_none rfl _ _ _) rfl ⟨rfl, HSM.out⟩ | exact bodyPost_ret (results_none rfl _ _ _) rfl ⟨rfl, HSM.out⟩
end
section
open Go.RowKit
def reqZ : Array Value := #[.int .u64 0, .int .u64 0, .int .i64 0, .string ⟨#[]⟩, .string ⟨#[]⟩, .int .u64 0, .int .i64 0, .string ⟨#[]⟩, .string ⟨#[]⟩, .int .i64 0, .int .i64 0, .slice none 0 0, .int .i64 0, .int .i64 0, .int .i64 0, .int .i64 0, .string ⟨#[]⟩, .int .i64 0]
theorem fields_none (w : World) (b q : Nat) (h : w.cell? ⟨b, 2, none⟩ = some (.int .i64 0)) :
  Calls Tryz.prog 116 #[.agg #[.pointer (some ⟨q, 0, none⟩), .pointer none], .pointer (some ⟨b, 2, none⟩)] w (RetB (.tuple #[]) w) := by
 have hlt := cell_lt h
 simp at hlt
 go_enter Tryz.func116, Tryz.ntmps116
 go_wp2
 refine bE rfl rfl ?_
 exact RetB.mk rfl (bR.alloc nL _)
theorem known_zero (w : World) : Calls Tryz.prog 115 #[.int .i64 0] w (Ret (.bool true) w) := by
 go_enter Tryz.func115, Tryz.ntmps115
 go_wp2
 go_ret
 exact Ret.mk rfl
def nothB : List UInt8 := numB 0 ++ numB 0 ++ numB 0
set_option maxRecDepth 100000 in
theorem bytes_none (w : World) : Calls Tryz.prog 108 #[.agg reqZ] w fun e w' => ∃ a cap, e = .returned (.tuple #[.slice a nothB.length cap, .int .i64 0]) ∧ Below w.heap.size w w' ∧ Sl u8v w' (.slice a nothB.length cap) nothB := by
 have hn0 : (numB 0).length ≤ 10 := numB_len10 (by omega)
 unfold reqZ
 go_enter Tryz.func108, Tryz.ntmps108
 go_wp2_with fail
 refine (known_zero _).mono ?_
 rintro e w' ⟨rfl, rfl⟩
 go_wp2_with fail
 have hW0 : Wr ((w.alloc (.cells reqZ 157)).alloc (.cells #[.slice none 0 0] 119)) (w.heap.size + 1) none [] := by
  refine ⟨.slice none 0 0, ?_, rfl, by simp, World.ownsRow_nil _ _ _ _⟩
  have : (w.alloc (.cells reqZ 157)).heap.size = w.heap.size + 1 := by simp
  rw [← this]
  exact bW _ _
 have hX0 : ((w.alloc (.cells reqZ 157)).alloc (.cells #[.slice none 0 0] 119)).heap[w.heap.size]? = some (.cells reqZ 157 (0, 0)) := aheap (bW _ _) _
 have hK0 : Keeps (fun k => w.heap.size ≤ k) w ((w.alloc (.cells reqZ 157)).alloc (.cells #[.slice none 0 0] 119)) := ((Keeps.refl _ w).alloc _).alloc _
 unfold reqZ at hW0 hX0 hK0
 have hs0 : ((w.alloc (.cells #[.int .u64 0, .int .u64 0, .int .i64 0, .string ⟨#[]⟩, .string ⟨#[]⟩, .int .u64 0, .int .i64 0, .string ⟨#[]⟩, .string ⟨#[]⟩, .int .i64 0, .int .i64 0, .slice none 0 0, .int .i64 0, .int .i64 0, .int .i64 0, .int .i64 0, .string ⟨#[]⟩, .int .i64 0] 157)).alloc (.cells #[.slice none 0 0] 119)).heap.size = w.heap.size + 2 := by simp
 generalize (w.alloc (.cells #[.int .u64 0, .int .u64 0, .int .i64 0, .string ⟨#[]⟩, .string ⟨#[]⟩, .int .u64 0, .int .i64 0, .string ⟨#[]⟩, .string ⟨#[]⟩, .int .i64 0, .int .i64 0, .slice none 0 0, .int .i64 0, .int .i64 0, .int .i64 0, .int .i64 0, .string ⟨#[]⟩, .int .i64 0] 157)).alloc (.cells #[.slice none 0 0] 119) = W0 at *
 have step : ∀ (W W' : World) (r r' : Option Nat), Keeps (fun k => w.heap.size ≤ k) w W → W.heap[w.heap.size]? = some (.cells reqZ 157 (0, 0)) → (∀ k, r = some k → w.heap.size + 1 ≤ k) → w.heap.size + 2 ≤ W.heap.size → Wrote (w.heap.size + 1) W r W' r' →
   Keeps (fun k => w.heap.size ≤ k) w W' ∧ W'.heap[w.heap.size]? = some (.cells reqZ 157 (0, 0)) ∧ (∀ k, r' = some k → w.heap.size + 1 ≤ k) ∧ w.heap.size + 2 ≤ W'.heap.size := by
  intro W W' r r' h1 h2 h3 h4 h5
  refine ⟨h1.trans (h5.keeps.mono fun k _ hk => ?_), h5.keeps.heap (fun hk => ?_) h2, fun k hk => ?_, Nat.le_trans h4 h5.keeps.size⟩
  ·rcases hk with rfl | hk
   ·omega
   ·have := h3 k hk.symm; omega
  ·rcases hk with hk | hk
   ·omega
   ·have := h3 _ hk.symm; omega
  ·rcases h5.row with e | ⟨j, e, hj⟩
   ·exact h3 k (by rw [← e]; exact hk)
   ·rw [e] at hk; cases hk; omega
 have HST := hI step
 have HK0 := hI (show Keeps (fun k => w.heap.size ≤ k) w W0 ∧ W0.heap[w.heap.size]? = some (.cells reqZ 157 (0, 0)) ∧ (∀ k, (none : Option Nat) = some k → w.heap.size + 1 ≤ k) ∧ w.heap.size + 2 ≤ W0.heap.size from ⟨hK0, hX0, (fun k hk => by cases hk), by omega⟩)
 have HW0 := hI hW0
 have x0 : W0.cell? ⟨w.heap.size, 0, none⟩ = some (.int .u64 0) := bC hX0 0 rfl
 clear step hK0 hX0 hs0 hW0
 refine (num_any _ _ _ _ HW0.out 0 (by omega) (by omega) (by simp)).mono ?_
 rintro e w1 ⟨rfl, r1, hW1, hk1⟩
 have HK1 := hI (HST.out _ _ _ _ HK0.out.1 HK0.out.2.1 HK0.out.2.2.1 HK0.out.2.2.2 hk1)
 have HW1 := hI hW1
 have x1 : w1.cell? ⟨w.heap.size, 1, none⟩ = some (.int .u64 0) := bC HK1.out.2.1 1 rfl
 clear hW1 hk1 x0
 go_wp2_with fail
 refine (num_any _ _ _ _ HW1.out 0 (by omega) (by omega) (by have := hn0; show (numB 0).length + 10 ≤ _; omega)).mono ?_
 rintro e w2 ⟨rfl, r2, hW2, hk2⟩
 have HK2 := hI (HST.out _ _ _ _ HK1.out.1 HK1.out.2.1 HK1.out.2.2.1 HK1.out.2.2.2 hk2)
 have HW2 := hI hW2
 have x2 : w2.cell? ⟨w.heap.size, 2, none⟩ = some (.int .i64 0) := bC HK2.out.2.1 2 rfl
 clear hW2 hk2 x1
 go_wp2_with fail
 refine (num_any _ _ _ _ HW2.out 0 (by omega) (by omega) (by have := hn0; show ([] ++ numB 0 ++ numB 0).length + 10 ≤ _; simp only [List.nil_append, List.length_append]; omega)).mono ?_
 rintro e w3 ⟨rfl, r3, hW3, hk3⟩
 have HK3 := hI (HST.out _ _ _ _ HK2.out.1 HK2.out.2.1 HK2.out.2.2.1 HK2.out.2.2.2 hk3)
 have HW3 := hI hW3
 have x3 : w3.cell? ⟨w.heap.size, 2, none⟩ = some (.int .i64 0) := bC HK3.out.2.1 2 rfl
 clear hW3 hk3 x2
 go_wp2_with fail
 refine (fields_none w3 w.heap.size (w.heap.size + 1) x3).mono ?_
 rintro e w4 ⟨rfl, hb4⟩
 have HK4 := hI (HK3.out.1.trans (Keeps.of_belowS (S := fun k => w.heap.size ≤ k) hb4))
 have HW4 := hI (HW3.out.kept (Keeps.of_belowS (S := fun _ => False) hb4) (fun h => h) (fun _ _ h => h))
 clear hb4 x3
 go_wp2_with fail
 refine (wbytes_any w4 _ r3 nothB HW4.out (by have := hn0; unfold nothB; simp only [List.length_append]; omega)).mono ?_
 rintro e w5 ⟨v, rfl, hb5, hs5, _, hn5⟩
 obtain ⟨a, cap, rfl, _⟩ := id hs5
 have HS5 := hI hs5
 have HB5 := hI ((HK4.out.below nL (fun k hk => hk)).trans (hb5.mono HK4.out.size))
 have hlen : nothB.length ≤ 30 := by have := hn0; unfold nothB; simp only [List.length_append]; omega
 obtain ⟨nl, hnl⟩ : ∃ nl, nl = nothB.length := ⟨_, rfl⟩
 rw [← hnl] at HS5 hlen ⊢
 have hd0 : decide ((900 : Int) < (nl : Int)) = false := by simp; omega
 have HNL := hI hnl
 clear hb5 hs5 hn5 hnl
 go_wp2_with fail
 go_ret2
 have hnl := HNL.out
 subst hnl
 exact ⟨a, cap, rfl, HB5.out, HS5.out⟩
theorem nothing_any (w : World) : Calls Tryz.prog 96 #[] w fun e w' => ∃ a cap, e = .returned (.slice a nothB.length cap) ∧ Below w.heap.size w w' ∧ Sl u8v w' (.slice a nothB.length cap) nothB := by
 go_enter Tryz.func96, Tryz.ntmps96
 go_wp2_with fail
 refine (bytes_none w).mono ?_
 rintro e w1 ⟨a, cap, rfl, hb, hs⟩
 have HS := hI hs
 have HB := hI hb
 clear hs hb
 go_wp2_with fail
 go_ret
 exact ⟨a, cap, rfl, HB.out, HS.out⟩
end
end Go.Proofs.YtdjooojpcepleaaGreat

/- The statement ConfOf: its walk (printed by wip/tools/gen_confof.py). -/
import Derived.Test.YtnnibcfbcpipfaaScan
import Derived.Test.YtnnibcfbcpipfaaEnts
import Derived.Test.YtnnibcfbcpipfaaRefNum
namespace Go.Proofs.Ytnnibcfbcpipfaa
open Go.RowKit Go.Sort

theorem wraps_i64n (n : Int) (h0 : 0 ≤ n) (h1 : n < 2 ^ 63) : IntKind.i64.wrap n = n := IntWalk.i64_in _ (by omega)
theorem bit_i64 (b k : Nat) (d : Int) (hd : d = ((2 ^ k : Nat) : Int)) (hb : b < 256) : (bits .and .i64 ((b : Int) / d) 1 == 1) = b.testBit k := by
  subst hd
  have e1 : ((b : Int) / (2 ^ k : Nat)) = ((b / 2 ^ k : Nat) : Int) := by simp
  have h2 : b / 2 ^ k < 2 ^ 63 := Nat.lt_of_le_of_lt (Nat.div_le_self _ _) (by omega)
  have h := (bits_nat .i64 63 (by decide) wraps_i64n (b / 2 ^ k) 1 h2 (by omega)).1
  rw [e1, show ((1 : Int)) = ((1 : Nat) : Int) from rfl, h, Nat.and_one_is_mod, Nat.testBit_eq_decide_div_mod_eq]
  generalize b / 2 ^ k % 2 = z
  rw [Bool.eq_iff_iff, beq_iff_eq, decide_eq_true_iff]
  omega
theorem even_i64 (b : Nat) (hb : b < 256) : (bits .and .i64 (b : Int) 1 == 0) = decide (b % 2 = 0) := by
  have h := (bits_nat .i64 63 (by decide) wraps_i64n b 1 (by omega) (by omega)).1
  rw [show ((1 : Int)) = ((1 : Nat) : Int) from rfl, h, Nat.and_one_is_mod]
  rw [Bool.eq_iff_iff, beq_iff_eq, decide_eq_true_iff]
  omega

theorem made_step' {w0 wr w3 : World} {b k : Nat} {x : Int} {v v' : Value} {T : TypeId} (hs : ofK b (k + 1) = ofK b k ++ [x]) (ho : w3.ownsRow 0 T 1 v' ((ofK b k).length + 1) ((ofK b k).map intv ++ [.int .i64 x]))
    (hn : ∀ j, v.ownBlock = some j → w0.heap.size ≤ j) (hb : Below w0.heap.size w0 wr) {ob : Obj} (hg : (wr.alloc ob).grownBy w3 v.ownBlock) (hr : v'.ownBlock = v.ownBlock ∨ ∃ k, v'.ownBlock = some k ∧ (wr.alloc ob).heap.size ≤ k ∧ k < w3.heap.size) :
    w3.ownsRow 0 T 1 v' (ofK b (k + 1)).length ((ofK b (k + 1)).map intv) ∧ (∀ j, v'.ownBlock = some j → w0.heap.size ≤ j) ∧ Below w0.heap.size w0 w3 := by
  have hsz := hb.size
  refine ⟨?_, ?_, ?_⟩
  · rw [hs, List.length_append, List.map_append]
    exact ho
  · intro j hj
    rcases hr with h1 | ⟨i, h1, h2, _⟩
    · exact hn j (h1 ▸ hj)
    · rw [h1] at hj; cases hj; simp at h2; omega
  · exact (((Keeps.of_below hb).alloc _).trans (grown_keeps hg fun k hk => hn k hk.symm)).below (Nat.le_refl _) (fun k hk => hk)

/-- Between two entries. -/
structure OfSt (w wr : World) (t : Nat) (r : Option Nat) (es : List Ent) (xs : Nat → Ent) (k : Nat) (v : Value) (L : List Int) : Prop where
  log : LogAt wr t r 0 0 es
  len : es.length = k
  ent : ∀ i, i < k → ∃ e, es[i]? = some e ∧ e.ix = (i : Int) + 1 ∧ e.tm = 1 ∧ e.cf = (xs i).cf ∧ e.d = (xs i).d
  few : ∀ i, i < k → (xs i).d.length ≤ 100
  want : Sl intv wr v L
  apart : ∀ j, v.ownBlock = some j → j ≠ t ∧ r ≠ some j
  bel : Below w.heap.size w wr
  rn : ∀ j, r = some j → w.heap.size ≤ j
  tn : w.heap.size ≤ t

theorem OfSt.ok {w wr : World} {t : Nat} {r : Option Nat} {es : List Ent} {xs : Nat → Ent} {k : Nat} {v : Value} {L : List Int} (h : OfSt w wr t r es xs k v L) (hk : k ≤ 30) : LogOk 0 0 es := by
  have he : ∀ (i : Nat) (e : Ent), es[i]? = some e → e.ix = (i : Int) + 1 ∧ e.tm = 1 := by
    intro i e hi
    have hl := (List.getElem?_eq_some_iff.1 hi).1
    obtain ⟨e', h1, h2, h3, _⟩ := h.ent i (by rw [← h.len]; exact hl)
    rw [hi] at h1
    cases h1
    exact ⟨h2, h3⟩
  refine ⟨fun i e hi => by have := he i e hi; omega, by omega, by have := h.len; omega, by omega, fun e hm => ?_, by omega⟩
  obtain ⟨i, hi⟩ := List.mem_iff_getElem?.1 hm
  have := he i e hi
  omega

theorem OfSt.last {w wr : World} {t : Nat} {r : Option Nat} {es : List Ent} {xs : Nat → Ent} {k : Nat} {v : Value} {L : List Int} (h : OfSt w wr t r es xs k v L) : lastTm 0 es ≤ 1 := by
  unfold lastTm
  cases hl : es.getLast? with
  | none => simp
  | some e =>
    obtain ⟨i, hi⟩ := List.mem_iff_getElem?.1 (List.mem_of_getLast? hl)
    have hl := (List.getElem?_eq_some_iff.1 hi).1
    obtain ⟨e', h1, h2, h3, _⟩ := h.ent i (by rw [← h.len]; exact hl)
    rw [hi] at h1
    cases h1
    simp [h3]

/-- One entry more. -/
theorem OfSt.next {w wr w3 : World} {t : Nat} {r r' : Option Nat} {es : List Ent} {xs : Nat → Ent} {k : Nat} {v v' : Value} {L : List Int} (h : OfSt w wr t r es xs k v L) {ob : Obj}
    (hl : LogAt w3 t r' 0 0 (es ++ [⟨0 + es.length + 1, 1, (xs k).cf, v', (xs k).d⟩])) (hk : Keeps (fun k => k = t ∨ r = some k) (wr.alloc ob) w3) (hr : r' = r ∨ ∃ k, r' = some k ∧ (wr.alloc ob).heap.size ≤ k) (hd : (xs k).d.length ≤ 100) :
    OfSt w w3 t r' (es ++ [⟨0 + es.length + 1, 1, (xs k).cf, v', (xs k).d⟩]) xs (k + 1) v L := by
  have hkk : Keeps (fun k => k = t ∨ r = some k) wr w3 := ((Keeps.refl (fun k => k = t ∨ r = some k) wr).alloc ob).trans hk
  have hsz := h.bel.size
  refine ⟨hl, by rw [List.length_append, h.len]; rfl, fun i hi => ?_, fun i hi => ?_, h.want.kept hkk fun j hj => ?_, fun j hj => ?_, ?_, fun j hj => ?_, h.tn⟩
  · by_cases e : i = k
    · subst e
      refine ⟨⟨0 + es.length + 1, 1, (xs i).cf, v', (xs i).d⟩, ?_, ?_, rfl, rfl, rfl⟩
      · rw [List.getElem?_append_right (by rw [h.len]; exact Nat.le_refl _), h.len]
        simp
      · simp only
        rw [h.len]
        omega
    · obtain ⟨e', h1, h2⟩ := h.ent i (by omega)
      exact ⟨e', by rw [List.getElem?_append_left (by rw [h.len]; omega)]; exact h1, h2⟩
  · by_cases e : i = k
    · rw [e]; exact hd
    · exact h.few i (by omega)
  · rintro (e | e)
    · exact (h.apart j hj).1 e
    · exact (h.apart j hj).2 e
  · refine ⟨(h.apart j hj).1, fun e => ?_⟩
    rcases hr with hr | ⟨q, hr, hq⟩
    · exact (h.apart j hj).2 (hr.symm.trans e)
    · rw [hr] at e
      have := h.want.row_lt j hj
      simp at hq
      have := Option.some.inj e
      omega
  · exact h.bel.trans (hkk.below hsz fun j hj => by
      rcases hj with rfl | hj
      · exact h.tn
      · exact h.rn j hj)
  · rcases hr with hr | ⟨q, hr, hq⟩
    · exact h.rn j (hr ▸ hj)
    · rw [hr] at hj; cases hj; simp at hq; omega

/-- What is sought has moved, and the world beyond it. -/
theorem OfSt.seek {w wr w2 : World} {t : Nat} {r : Option Nat} {es : List Ent} {xs : Nat → Ent} {k : Nat} {v v2 : Value} {L L2 : List Int} (h : OfSt w wr t r es xs k v L) (hb : Below wr.heap.size wr w2) (hs : Sl intv w2 v2 L2)
    (ha : ∀ j, v2.ownBlock = some j → j ≠ t ∧ r ≠ some j) : OfSt w w2 t r es xs k v2 L2 :=
  ⟨h.log.below hb, h.len, h.ent, h.few, hs, ha, h.bel.trans (hb.mono h.bel.size), h.rn, h.tn⟩

theorem ofR_want {ix : Int} (h0 : ix = 0) {o : Option (List Int × Nat)} {base : List Int} {w : World} {e : Ending} {w' : World} {W : List Int × Nat} (hW : W = match o with | some (l, j) => (l, j) | none => (base, 0)) (h : OfR ix o base w e w') :
    ∃ a cap, e = .returned (.tuple #[.slice a W.1.length cap, .int .u64 W.2]) ∧ Below w.heap.size w w' ∧ Sl intv w' (.slice a W.1.length cap) W.1 := by
  subst h0 hW
  cases o with
  | none => exact h
  | some p =>
    obtain ⟨l, j⟩ := p
    obtain ⟨a, cap, h1, h2, h3⟩ := h
    exact ⟨a, cap, by rw [h1, Int.zero_add], h2, h3⟩

theorem confOf_long (w : World) (ba : Option Addr) (bl bc : Nat) (a : Option Addr) (len cap : Nat) (last : Int) (h : 20 < bl ∨ bl ≤ 20 ∧ 30 < len) (h1 : bl ≤ 9223372036854775807) (h2 : len ≤ 9223372036854775807) :
    Calls Try.prog 8 #[.slice ba bl bc, .slice a len cap, .int .u64 last] w (RetB (.bool true) w) := by
  rcases h with h | ⟨h, h'⟩
  all_goals
    go_enter Try.func8, Try.ntmps8
    go_wp2_with fail
    refine (lives23 _).mono ?_
    rintro e w1 ⟨rfl, hb1⟩
    go_wp2_with fail
    refine (lives23 _).mono ?_
    rintro e w2 ⟨rfl, hb2⟩
    go_wp2_with fail
    go_ret
    exact RetB.mk rfl (hb1.trans (hb2.mono hb1.size))

set_option maxRecDepth 100000 in
set_option maxHeartbeats 20000000 in
theorem confOf_main (w : World) (ba : Option Addr) (bc : Nat) (base : List Int) (hb : Sl intv w (.slice ba base.length bc) base) (hbl : base.length ≤ 20) (a : Option Addr) (len cap : Nat) (xs : Nat → Ent) (hx : EntRow w a len cap xs) (hlen : len ≤ 30) (last : Int) (hl0 : 0 ≤ last) (hl1 : last ≤ 18446744073709551615) :
    Calls Try.prog 8 #[.slice ba base.length bc, .slice a len cap, .int .u64 last] w (RetB (.bool true) w) := by
  have HXS : Hid (∀ W, Below w.heap.size w W → ∀ i, i < len → ∃ b off, a = some ⟨b, off, none⟩ ∧ b < W.heap.size ∧ EntAt W b (off + i * 4) (xs i) ∧ SlW u8v W (xs i).v (xs i).d ∧ (xs i).d.length ≤ maxLen) := by
    refine Lib.hid fun W hW i hi => ?_
    rcases hx.2.2 with h | ⟨b, off, rfl, hbl, hc⟩
    · omega
    · obtain ⟨⟨c0, c1, c2, c3⟩, _, _, hs, hm⟩ := hc i hi
      have hcell : ∀ o, W.cell? ⟨b, o, none⟩ = w.cell? ⟨b, o, none⟩ := fun o => bcell hW b o hbl
      exact ⟨b, off, rfl, Nat.lt_of_lt_of_le hbl hW.size, ⟨(hcell _).trans c0, (hcell _).trans c1, (hcell _).trans c2, (hcell _).trans c3⟩, hs.below hW, hm⟩
  have HBS : Hid (∀ W, Below w.heap.size w W → Sl intv W (.slice ba base.length bc) base) := Lib.hid fun W hW => hb.below hW hb.row_lt
  have HBR := Lib.hid hb.row_lt
  have HL1 := Lib.hid hl1
  obtain ⟨i0, hi, hz0, hz1, hz2⟩ := info_parts info_i64
  clear hb hx hl1
  go_enter Try.func8, Try.ntmps8
  go_wp2_with fail
  refine (lives23 _).mono ?_
  rintro e w1 ⟨rfl, hb1⟩
  go_wp2_with fail
  refine (newlog_any w1 0 0).mono ?_
  rintro e w2 ⟨rfl, hlog, hb2⟩
  have hs1 := hb1.size
  have hbb := hb1.trans (hb2.mono hs1)
  have hst : OfSt w w2 w1.heap.size none [] xs 0 (.slice ba base.length bc) base :=
    ⟨hlog, rfl, fun i hi => by omega, fun i hi => by omega, HBS.out _ hbb, fun j hj => ⟨by have := HBR.out j hj; omega, by simp⟩, hbb, by simp, hs1⟩
  have HST := Lib.hid hst
  obtain ⟨t, ht⟩ : ∃ t, t = w1.heap.size := ⟨_, rfl⟩
  rw [← ht] at HST ⊢
  clear hlog hb1 hb2 hs1 hbb hst ht
  go_wp2_with fail
  go_loopw [8, 9, 34] (fun wv av i wr => ∃ (k : Nat) (r : Option Nat) (es : List Ent) (wa : Option Addr) (wc : Nat), k ≤ len ∧ i = .int .i64 k ∧ wv = .slice wa (wantF xs base last k).1.length wc ∧ av = .int .u64 (wantF xs base last k).2 ∧ OfSt w wr t r es xs k (.slice wa (wantF xs base last k).1.length wc) (wantF xs base last k).1) (fun _ _ i _ => len - (intOf i).toNat)
  case atStart => exact ⟨0, none, [], ba, bc, by omega, rfl, rfl, rfl, HST.out⟩
  case round =>
    clear HST
    obtain ⟨k, r, es, wa, wc, hk, rfl, rfl, rfl, hst⟩ := hrel
    obtain ⟨wo, rfl⟩ : ∃ wo : World, wo = wr := ⟨_, rfl⟩
    have HS := Lib.hid hst
    have hbw := hst.bel
    by_cases hlt : k < len
    · obtain ⟨b, off, rfl, hblt, ⟨c0, c1, c2, c3⟩, hsx, hmx⟩ := HXS.out wo hbw k hlt
      obtain ⟨va, vc, hv⟩ := hsx.form
      rw [hv] at c3 hsx
      obtain ⟨x, hxk⟩ : ∃ x, x = xs k := ⟨_, rfl⟩
      rw [← hxk] at c0 c1 c2 c3 hsx hmx
      have hok := hst.ok (by omega)
      have hlast := hst.last
      have hlg := hst.log
      have hesl := hst.len
      obtain ⟨ob, hob⟩ : ∃ ob, ob = Obj.cells #[.int .u64 x.ix, .int .u64 x.tm, .bool x.cf, .slice va x.d.length vc] 56 (0, 0) := ⟨_, rfl⟩
      have hal : Below wo.heap.size wo (wo.alloc ob) := (Below.refl _ _).alloc (Nat.le_refl _) _
      unfold maxLen at hmx
      have HXK := Lib.hid hxk
      clear hxk
      by_cases hlong : 100 < x.d.length
      · clear hst hok hlast hlg hal hob hsx HS
        go_wp2_with fail
        go_ret
        exact RetB.mk rfl (hbw.alloc hbw.size _)
      · have hadd := fun cf => add_any (wo.alloc ob) t r 0 0 es (hlg.below hal) hok 1 cf _ x.d (hsx.below hal) hlast (by omega) (by omega)
        have hbx := heap_new wo ob
        have HBX := Lib.hid hbx
        have HOB := Lib.hid hob
        have HC := Lib.hid (show wo.heap.size ≠ t ∧ r ≠ some wo.heap.size from ⟨fun e => by have := hlg.lt; omega, fun e => by have := hlg.row_lt _ e; omega⟩)
        have HSX := Lib.hid hsx
        have HADD := Lib.hid (hadd x.cf)
        have HES := Lib.hid hesl
        clear hst hok hlast hlg hal hsx hbx hesl hadd
        have hadd := HADD.out
        rw [hob] at hadd
        clear hob
        obtain ⟨W, hW⟩ : ∃ W, W = wantF xs base last k := ⟨_, rfl⟩
        have HW := Lib.hid hW
        rw [← hW] at HS ⊢
        clear hW HADD
        go_wp2_with fail
        refine hadd.mono ?_
        rintro en w3 ⟨v', r', rfl, hlog3, hk3, hnew3, hr3⟩
        clear hadd
        have hst3 : OfSt w w3 t r' (es ++ [⟨0 + es.length + 1, 1, (xs k).cf, v', (xs k).d⟩]) xs (k + 1) (.slice wa W.1.length wc) W.1 := HS.out.next (by rw [← HXK.out]; exact hlog3) hk3 (hr3.imp id id) (by rw [← HXK.out]; omega)
        have HST3 := Lib.hid hst3
        obtain ⟨es3, hes3⟩ : ∃ es3, es3 = es ++ [⟨0 + es.length + 1, 1, (xs k).cf, v', (xs k).d⟩] := ⟨_, rfl⟩
        rw [← hes3] at HST3
        have hbx3 := hk3.heap (k := wo.heap.size) (by rintro (e | e); exact HC.out.1 e; exact HC.out.2 e) (heap_new wo _)
        have b2 := blk_cell hbx3 2 rfl
        have HB3 := Lib.hid hbx3
        clear hlog3 hk3 hnew3 hr3 hst3 hbx3 hes3 HS HBX
        cases hcf : x.cf
        · rw [hcf] at b2
          have HWN := Lib.hid (show wantF xs base last (k + 1) = W by rw [wantF, if_neg (by rw [← HXK.out, hcf]; simp)]; exact HW.out.symm)
          have HCF := Lib.hid hcf
          clear hcf
          go_wp2_with fail
          go_roundw
          case rel => exact ⟨k + 1, r', es3, wa, wc, by omega, by go_num, by rw [HWN.out], by rw [HWN.out], by rw [HWN.out]; exact HST3.out⟩
          case measure => simp [intOf]; omega
        · rw [hcf] at b2
          by_cases hle : (k : Int) + 1 ≤ last
          · have HWN := Lib.hid (show wantF xs base last (k + 1) = scan x.d (k + 1) W 256 by rw [wantF, if_pos ⟨by rw [← HXK.out, hcf], by omega⟩, ← HXK.out, HW.out])
            have HCF := Lib.hid hcf
            clear hcf
            go_wp2_with fail
            go_loopw [8, 9, 59] (fun wv av qv wr2 => ∃ (q : Nat) (L : List Int × Nat) (la : Option Addr) (lc : Nat), q ≤ 256 ∧ qv = .int .i64 q ∧ L = scan x.d (k + 1) W q ∧ wv = .slice la L.1.length lc ∧ av = .int .u64 L.2 ∧ Below w3.heap.size w3 wr2 ∧ Sl intv wr2 (.slice la L.1.length lc) L.1 ∧ ∀ j, (Value.slice la L.1.length lc).ownBlock = some j → j ≠ t ∧ r' ≠ some j) (fun _ _ qv _ => 256 - (intOf qv).toNat)
            case atStart => exact ⟨0, W, wa, wc, by omega, rfl, rfl, rfl, rfl, Below.refl _ _, HST3.out.want, HST3.out.apart⟩
            case round =>
              clear b2
              obtain ⟨q, L, la, lc, hq, rfl, hL, rfl, rfl, hb2, hs2, hap⟩ := hrel
              obtain ⟨wr2, rfl⟩ : ∃ wr2 : World, wr2 = wr := ⟨_, rfl⟩
              have HLS := Lib.hid hL
              have HB2 := Lib.hid hb2
              have HS2 := Lib.hid hs2
              have HAP := Lib.hid hap
              clear hL hb2 hs2 hap
              by_cases hq6 : q < 256
              · have hqd : decide ((q : Int) < 256) = true := decide_eq_true (by omega)
                go_wp2_with fail
                go_loopw [13, 14] (fun mv nv wr3 => ∃ n : Nat, n ≤ 7 ∧ nv = .int .i64 ((n : Int) + 1) ∧ wr3.ownsRow 0 3 1 mv (ofK q n).length ((ofK q n).map intv) ∧ (∀ j, mv.ownBlock = some j → wr2.heap.size ≤ j) ∧ Below wr2.heap.size wr2 wr3) (fun _ nv _ => 8 - (intOf nv).toNat)
                case atStart => exact ⟨0, by omega, rfl, World.ownsRow_nil _ _ _ _, by simp [Value.ownBlock], Below.refl _ _⟩
                case round =>
                  obtain ⟨n, hn, rfl, hown, hnew, hbw3⟩ := hrel
                  obtain ⟨wr3, rfl⟩ : ∃ wr3 : World, wr3 = wr := ⟨_, rfl⟩
                  have HO := Lib.hid hown
                  have HN := Lib.hid hnew
                  have HB4 := Lib.hid hbw3
                  clear hnew hbw3 hown
                  rcases n with _ | _ | _ | _ | _ | _ | _ | _ | n
                  · have hbt := bit_i64 q 1 2 rfl hq6
                    cases ht : q.testBit 1
                    · have HS := Lib.hid (show ofK q 1 = ofK q 0 by rw [ofK_succ, ht]; simp)
                      rw [ht] at hbt
                      clear ht
                      go_wp2
                      go_roundw
                      case rel => exact ⟨1, by omega, rfl, by rw [HS.out]; exact HO.out, HN.out, HB4.out⟩
                      case measure => simp [intOf]
                    · have HS := Lib.hid (show ofK q 1 = ofK q 0 ++ [1] by rw [ofK_succ, ht]; simp)
                      rw [ht] at hbt
                      clear ht
                      have HM0 := Lib.hid (show (ofK q 0).length + 1 ≤ maxLen by have := ofK_len q 0; unfold maxLen; omega)
                      have HM1 := Lib.hid (show ((ofK q 0).length + 1) * 8 ≤ 140737488355328 by have := ofK_len q 0; omega)
                      go_wp2_with (at_builtin; refine wpList_append_one wr3 rfl _ _ _ rfl 3 i0 (.int .i64 0) 8 Try.underlying22 hi hz0 hz1 hz2 rfl u13 (ofK q 0).length ((ofK q 0).map intv) rfl HO.out (.int .i64 1) _ rfl rfl HM0.out HM1.out ?_; intro v5 w5 hown5 hg5 hrow5; have HO5 := Lib.hid hown5; have HG5 := Lib.hid hg5; have HR5 := Lib.hid hrow5; clear hown5 hg5 hrow5)
                      go_roundw
                      case rel =>
                        obtain ⟨q1, q2, q3⟩ := made_step' HS.out HO5.out HN.out HB4.out HG5.out HR5.out
                        exact ⟨1, by omega, rfl, q1, q2, q3⟩
                      case measure => simp [intOf]
                  · have hbt := bit_i64 q 2 4 rfl hq6
                    cases ht : q.testBit 2
                    · have HS := Lib.hid (show ofK q 2 = ofK q 1 by rw [ofK_succ, ht]; simp)
                      rw [ht] at hbt
                      clear ht
                      go_wp2
                      go_roundw
                      case rel => exact ⟨2, by omega, rfl, by rw [HS.out]; exact HO.out, HN.out, HB4.out⟩
                      case measure => simp [intOf]
                    · have HS := Lib.hid (show ofK q 2 = ofK q 1 ++ [2] by rw [ofK_succ, ht]; simp)
                      rw [ht] at hbt
                      clear ht
                      have HM0 := Lib.hid (show (ofK q 1).length + 1 ≤ maxLen by have := ofK_len q 1; unfold maxLen; omega)
                      have HM1 := Lib.hid (show ((ofK q 1).length + 1) * 8 ≤ 140737488355328 by have := ofK_len q 1; omega)
                      go_wp2_with (at_builtin; refine wpList_append_one wr3 rfl _ _ _ rfl 3 i0 (.int .i64 0) 8 Try.underlying22 hi hz0 hz1 hz2 rfl u13 (ofK q 1).length ((ofK q 1).map intv) rfl HO.out (.int .i64 2) _ rfl rfl HM0.out HM1.out ?_; intro v5 w5 hown5 hg5 hrow5; have HO5 := Lib.hid hown5; have HG5 := Lib.hid hg5; have HR5 := Lib.hid hrow5; clear hown5 hg5 hrow5)
                      go_roundw
                      case rel =>
                        obtain ⟨q1, q2, q3⟩ := made_step' HS.out HO5.out HN.out HB4.out HG5.out HR5.out
                        exact ⟨2, by omega, rfl, q1, q2, q3⟩
                      case measure => simp [intOf]
                  · have hbt := bit_i64 q 3 8 rfl hq6
                    cases ht : q.testBit 3
                    · have HS := Lib.hid (show ofK q 3 = ofK q 2 by rw [ofK_succ, ht]; simp)
                      rw [ht] at hbt
                      clear ht
                      go_wp2
                      go_roundw
                      case rel => exact ⟨3, by omega, rfl, by rw [HS.out]; exact HO.out, HN.out, HB4.out⟩
                      case measure => simp [intOf]
                    · have HS := Lib.hid (show ofK q 3 = ofK q 2 ++ [3] by rw [ofK_succ, ht]; simp)
                      rw [ht] at hbt
                      clear ht
                      have HM0 := Lib.hid (show (ofK q 2).length + 1 ≤ maxLen by have := ofK_len q 2; unfold maxLen; omega)
                      have HM1 := Lib.hid (show ((ofK q 2).length + 1) * 8 ≤ 140737488355328 by have := ofK_len q 2; omega)
                      go_wp2_with (at_builtin; refine wpList_append_one wr3 rfl _ _ _ rfl 3 i0 (.int .i64 0) 8 Try.underlying22 hi hz0 hz1 hz2 rfl u13 (ofK q 2).length ((ofK q 2).map intv) rfl HO.out (.int .i64 3) _ rfl rfl HM0.out HM1.out ?_; intro v5 w5 hown5 hg5 hrow5; have HO5 := Lib.hid hown5; have HG5 := Lib.hid hg5; have HR5 := Lib.hid hrow5; clear hown5 hg5 hrow5)
                      go_roundw
                      case rel =>
                        obtain ⟨q1, q2, q3⟩ := made_step' HS.out HO5.out HN.out HB4.out HG5.out HR5.out
                        exact ⟨3, by omega, rfl, q1, q2, q3⟩
                      case measure => simp [intOf]
                  · have hbt := bit_i64 q 4 16 rfl hq6
                    cases ht : q.testBit 4
                    · have HS := Lib.hid (show ofK q 4 = ofK q 3 by rw [ofK_succ, ht]; simp)
                      rw [ht] at hbt
                      clear ht
                      go_wp2
                      go_roundw
                      case rel => exact ⟨4, by omega, rfl, by rw [HS.out]; exact HO.out, HN.out, HB4.out⟩
                      case measure => simp [intOf]
                    · have HS := Lib.hid (show ofK q 4 = ofK q 3 ++ [4] by rw [ofK_succ, ht]; simp)
                      rw [ht] at hbt
                      clear ht
                      have HM0 := Lib.hid (show (ofK q 3).length + 1 ≤ maxLen by have := ofK_len q 3; unfold maxLen; omega)
                      have HM1 := Lib.hid (show ((ofK q 3).length + 1) * 8 ≤ 140737488355328 by have := ofK_len q 3; omega)
                      go_wp2_with (at_builtin; refine wpList_append_one wr3 rfl _ _ _ rfl 3 i0 (.int .i64 0) 8 Try.underlying22 hi hz0 hz1 hz2 rfl u13 (ofK q 3).length ((ofK q 3).map intv) rfl HO.out (.int .i64 4) _ rfl rfl HM0.out HM1.out ?_; intro v5 w5 hown5 hg5 hrow5; have HO5 := Lib.hid hown5; have HG5 := Lib.hid hg5; have HR5 := Lib.hid hrow5; clear hown5 hg5 hrow5)
                      go_roundw
                      case rel =>
                        obtain ⟨q1, q2, q3⟩ := made_step' HS.out HO5.out HN.out HB4.out HG5.out HR5.out
                        exact ⟨4, by omega, rfl, q1, q2, q3⟩
                      case measure => simp [intOf]
                  · have hbt := bit_i64 q 5 32 rfl hq6
                    cases ht : q.testBit 5
                    · have HS := Lib.hid (show ofK q 5 = ofK q 4 by rw [ofK_succ, ht]; simp)
                      rw [ht] at hbt
                      clear ht
                      go_wp2
                      go_roundw
                      case rel => exact ⟨5, by omega, rfl, by rw [HS.out]; exact HO.out, HN.out, HB4.out⟩
                      case measure => simp [intOf]
                    · have HS := Lib.hid (show ofK q 5 = ofK q 4 ++ [5] by rw [ofK_succ, ht]; simp)
                      rw [ht] at hbt
                      clear ht
                      have HM0 := Lib.hid (show (ofK q 4).length + 1 ≤ maxLen by have := ofK_len q 4; unfold maxLen; omega)
                      have HM1 := Lib.hid (show ((ofK q 4).length + 1) * 8 ≤ 140737488355328 by have := ofK_len q 4; omega)
                      go_wp2_with (at_builtin; refine wpList_append_one wr3 rfl _ _ _ rfl 3 i0 (.int .i64 0) 8 Try.underlying22 hi hz0 hz1 hz2 rfl u13 (ofK q 4).length ((ofK q 4).map intv) rfl HO.out (.int .i64 5) _ rfl rfl HM0.out HM1.out ?_; intro v5 w5 hown5 hg5 hrow5; have HO5 := Lib.hid hown5; have HG5 := Lib.hid hg5; have HR5 := Lib.hid hrow5; clear hown5 hg5 hrow5)
                      go_roundw
                      case rel =>
                        obtain ⟨q1, q2, q3⟩ := made_step' HS.out HO5.out HN.out HB4.out HG5.out HR5.out
                        exact ⟨5, by omega, rfl, q1, q2, q3⟩
                      case measure => simp [intOf]
                  · have hbt := bit_i64 q 6 64 rfl hq6
                    cases ht : q.testBit 6
                    · have HS := Lib.hid (show ofK q 6 = ofK q 5 by rw [ofK_succ, ht]; simp)
                      rw [ht] at hbt
                      clear ht
                      go_wp2
                      go_roundw
                      case rel => exact ⟨6, by omega, rfl, by rw [HS.out]; exact HO.out, HN.out, HB4.out⟩
                      case measure => simp [intOf]
                    · have HS := Lib.hid (show ofK q 6 = ofK q 5 ++ [6] by rw [ofK_succ, ht]; simp)
                      rw [ht] at hbt
                      clear ht
                      have HM0 := Lib.hid (show (ofK q 5).length + 1 ≤ maxLen by have := ofK_len q 5; unfold maxLen; omega)
                      have HM1 := Lib.hid (show ((ofK q 5).length + 1) * 8 ≤ 140737488355328 by have := ofK_len q 5; omega)
                      go_wp2_with (at_builtin; refine wpList_append_one wr3 rfl _ _ _ rfl 3 i0 (.int .i64 0) 8 Try.underlying22 hi hz0 hz1 hz2 rfl u13 (ofK q 5).length ((ofK q 5).map intv) rfl HO.out (.int .i64 6) _ rfl rfl HM0.out HM1.out ?_; intro v5 w5 hown5 hg5 hrow5; have HO5 := Lib.hid hown5; have HG5 := Lib.hid hg5; have HR5 := Lib.hid hrow5; clear hown5 hg5 hrow5)
                      go_roundw
                      case rel =>
                        obtain ⟨q1, q2, q3⟩ := made_step' HS.out HO5.out HN.out HB4.out HG5.out HR5.out
                        exact ⟨6, by omega, rfl, q1, q2, q3⟩
                      case measure => simp [intOf]
                  · have hbt := bit_i64 q 7 128 rfl hq6
                    cases ht : q.testBit 7
                    · have HS := Lib.hid (show ofK q 7 = ofK q 6 by rw [ofK_succ, ht]; simp)
                      rw [ht] at hbt
                      clear ht
                      go_wp2
                      go_roundw
                      case rel => exact ⟨7, by omega, rfl, by rw [HS.out]; exact HO.out, HN.out, HB4.out⟩
                      case measure => simp [intOf]
                    · have HS := Lib.hid (show ofK q 7 = ofK q 6 ++ [7] by rw [ofK_succ, ht]; simp)
                      rw [ht] at hbt
                      clear ht
                      have HM0 := Lib.hid (show (ofK q 6).length + 1 ≤ maxLen by have := ofK_len q 6; unfold maxLen; omega)
                      have HM1 := Lib.hid (show ((ofK q 6).length + 1) * 8 ≤ 140737488355328 by have := ofK_len q 6; omega)
                      go_wp2_with (at_builtin; refine wpList_append_one wr3 rfl _ _ _ rfl 3 i0 (.int .i64 0) 8 Try.underlying22 hi hz0 hz1 hz2 rfl u13 (ofK q 6).length ((ofK q 6).map intv) rfl HO.out (.int .i64 7) _ rfl rfl HM0.out HM1.out ?_; intro v5 w5 hown5 hg5 hrow5; have HO5 := Lib.hid hown5; have HG5 := Lib.hid hg5; have HR5 := Lib.hid hrow5; clear hown5 hg5 hrow5)
                      go_roundw
                      case rel =>
                        obtain ⟨q1, q2, q3⟩ := made_step' HS.out HO5.out HN.out HB4.out HG5.out HR5.out
                        exact ⟨7, by omega, rfl, q1, q2, q3⟩
                      case measure => simp [intOf]
                  · have hform : ∃ ma mc, u13 = .slice ma (ofB q).length mc := by
                      obtain ⟨ma, mc, e, _⟩ := owns_sl HO.out
                      exact ⟨ma, mc, e⟩
                    obtain ⟨ma, mc, e13⟩ := hform
                    subst e13
                    have hsm := owns_sl HO.out
                    change Sl intv wr3 (.slice ma (ofB q).length mc) (ofB q) at hsm
                    have hm7 := ofK_len q 7
                    change (ofB q).length ≤ 7 at hm7
                    change Hid (∀ j, (Value.slice ma (ofB q).length mc).ownBlock = some j → wr2.heap.size ≤ j) at HN
                    change Code.wp _ _ _ _ _
                    have hev := even_i64 q hq6
                    have HSM := Lib.hid hsm
                    have hb34 : Below w3.heap.size w3 wr3 := HB2.out.trans (HB4.out.mono HB2.out.size)
                    have hbx4 := bheap hb34 HB3.out (heap_lt HB3.out)
                    have HB34 := Lib.hid hb34
                    have HBX4 := Lib.hid hbx4
                    clear hsm hb34 hbx4 HO
                    have HRELS : Hid (∀ w9, Below wr3.heap.size wr3 w9 → scan x.d (k + 1) W (q + 1) = scan x.d (k + 1) W q → ∃ (q' : Nat) (L' : List Int × Nat) (la' : Option Addr) (lc' : Nat), q' ≤ 256 ∧ Value.int .i64 ((q : Int) + 1) = .int .i64 q' ∧ L' = scan x.d (k + 1) W q' ∧ Value.slice la L.1.length lc = .slice la' L'.1.length lc' ∧ Value.int .u64 L.2 = .int .u64 L'.2 ∧ Below w3.heap.size w3 w9 ∧ Sl intv w9 (.slice la' L'.1.length lc') L'.1 ∧ ∀ j, (Value.slice la' L'.1.length lc').ownBlock = some j → j ≠ t ∧ r' ≠ some j) := by
                      refine Lib.hid fun w9 h9 hsc => ⟨q + 1, L, la, lc, by omega, by go_num, by rw [hsc]; exact HLS.out, rfl, rfl, HB34.out.trans (h9.mono HB34.out.size), ?_, HAP.out⟩
                      have := HB4.out.trans (h9.mono HB4.out.size)
                      exact HS2.out.below this HS2.out.row_lt
                    by_cases he : q % 2 = 0
                    · rw [decide_eq_true he] at hev
                      have HE := Lib.hid he
                      clear he
                      by_cases hl0 : 0 < (ofB q).length
                      · obtain ⟨sd, hsd⟩ : ∃ sd, sd = x.d := ⟨_, rfl⟩
                        have HSD := Lib.hid hsd
                        have HML := Lib.hid (fun y (hy : y ∈ ofB q) => (show 0 ≤ y ∧ y ≤ 7 by have := (membersB_iff.1 (ofB_members (List.length_pos_iff.1 hl0))).2.1 y hy; omega))
                        have HKEEP : Hid (∀ W', Below wr3.heap.size wr3 W' → W'.cell? ⟨wo.heap.size, 3, none⟩ = some (.slice va x.d.length vc) ∧ (convert 48 9 (.slice va x.d.length vc)).run Try.prog W' = .ok (.string ⟨sd.toArray⟩) W') := by
                          refine Lib.hid fun W' hW' => ⟨blk_cell (bheap hW' HBX4.out (heap_lt HBX4.out)) 3 rfl, ?_⟩
                          obtain ⟨_, _, _, _, _, hsw, _⟩ := HXS.out W' (HST3.out.bel.trans ((HB34.out.trans (hW'.mono HB34.out.size)).mono HST3.out.bel.size)) k hlt
                          rw [hv, ← HXK.out] at hsw
                          rw [HSD.out]
                          exact string_W hsw
                        have HRM : Hid (∀ W', Below wr3.heap.size wr3 W' → Calls Try.prog 35 #[.slice ma (ofB q).length mc] W' (fun e w' => e = .returned (.string ⟨(membB (ofB q)).toArray⟩) ∧ Below wr3.heap.size wr3 w' ∧ (w'.cell? ⟨wo.heap.size, 3, none⟩ = some (.slice va x.d.length vc) ∧ (convert 48 9 (.slice va x.d.length vc)).run Try.prog w' = .ok (.string ⟨sd.toArray⟩) w'))) :=
                          Lib.hid fun W' hW' => (refmembers_any W' ma _ mc (ofB q) (HSM.out.below hW' HSM.out.row_lt) HML.out hm7).mono fun e w' h => ⟨h.1, hW'.trans (h.2.mono hW'.size), HKEEP.out w' (hW'.trans (h.2.mono hW'.size))⟩
                        clear hsd
                        by_cases hd : membB (ofB q) = sd
                        · have HSC := Lib.hid (show scan x.d (k + 1) W (q + 1) = (ofB q, k + 1) by rw [scan, if_pos ⟨HE.out, hl0, hd.trans HSD.out⟩])
                          subst hd
                          go_wp2_with fail
                          go_region_held3 (fun w' => w'.cell? ⟨wo.heap.size, 3, none⟩ = some (.slice va x.d.length vc) ∧ (convert 48 9 (.slice va x.d.length vc)).run Try.prog w' = .ok (.string ⟨(membB (ofB q)).toArray⟩) w') (first | exact HKEEP.out _ (belowD (Below.refl _ _)) | exact gm | go_keep) (first | (go_at_call 35; refine (HRM.out _ (belowD (Below.refl _ _))).mono ?_; rintro e w5 ⟨rfl, gb, gm⟩))
                          go_wp2_with fail
                          go_roundw
                          case rel =>
                            have hb35 := HB34.out.trans (gb.mono HB34.out.size)
                            refine ⟨q + 1, (ofB q, k + 1), ma, mc, by omega, by go_num, HSC.out.symm, rfl, by go_num, hb35, HSM.out.below gb HSM.out.row_lt, fun j hj => ?_⟩
                            have h1 := HN.out j hj
                            have h2 := HB2.out.size
                            have h3 := HST3.out.log.lt
                            refine ⟨by omega, fun e => ?_⟩
                            have h4 := HST3.out.log.row_lt j e
                            omega
                          case measure => simp [intOf]; omega
                        · have HSC := Lib.hid (show scan x.d (k + 1) W (q + 1) = scan x.d (k + 1) W q by rw [scan, if_neg (by rintro ⟨_, _, h⟩; exact hd (h.trans HSD.out.symm))])
                          have hne : (membB (ofB q) == sd) = false := by simpa using hd
                          clear hd
                          go_wp2_with fail
                          go_region_held3 (fun w' => w'.cell? ⟨wo.heap.size, 3, none⟩ = some (.slice va x.d.length vc) ∧ (convert 48 9 (.slice va x.d.length vc)).run Try.prog w' = .ok (.string ⟨sd.toArray⟩) w') (first | exact HKEEP.out _ (belowD (Below.refl _ _)) | exact gm | go_keep) (first | (go_at_call 35; refine (HRM.out _ (belowD (Below.refl _ _))).mono ?_; rintro e w5 ⟨rfl, gb, gm⟩))
                          go_wp2_with fail
                          go_roundw
                          case rel => exact HRELS.out _ gb HSC.out
                          case measure => simp [intOf]; omega
                      · have hz0 : (ofB q).length = 0 := by omega
                        rw [hz0]
                        have HSC := Lib.hid (show scan x.d (k + 1) W (q + 1) = scan x.d (k + 1) W q by rw [scan, if_neg (by rintro ⟨_, h, _⟩; exact hl0 h)])
                        clear hl0 hz0
                        go_wp2_with fail
                        go_quiet (fail)
                        go_wp2_with fail
                        go_roundw
                        case rel => exact HRELS.out _ (belowDN (Below.refl _ _) _) HSC.out
                        case measure => simp [intOf]; omega
                    · rw [decide_eq_false he] at hev
                      have HSC := Lib.hid (show scan x.d (k + 1) W (q + 1) = scan x.d (k + 1) W q by rw [scan, if_neg (by rintro ⟨h, _⟩; exact he h)])
                      clear he
                      go_wp2_with fail
                      go_quiet (fail)
                      go_wp2_with fail
                      go_roundw
                      case rel => exact HRELS.out _ (belowDN (Below.refl _ _) _) HSC.out
                      case measure => simp [intOf]; omega
                  · omega
              · have hq256 : q = 256 := by omega
                have HWL := Lib.hid (show wantF xs base last (k + 1) = L by rw [HWN.out, HLS.out, hq256])
                go_wp2_with fail
                go_roundw
                case rel => exact ⟨k + 1, r', es3, la, lc, by omega, by go_num, by rw [HWL.out], by rw [HWL.out], by rw [HWL.out]; exact HST3.out.seek HB2.out HS2.out HAP.out⟩
                case measure => simp [intOf]; omega
          · have HWN := Lib.hid (show wantF xs base last (k + 1) = W by rw [wantF, if_neg (by rintro ⟨_, h⟩; omega)]; exact HW.out.symm)
            have HCF := Lib.hid hcf
            clear hcf
            go_wp2_with fail
            go_roundw
            case rel => exact ⟨k + 1, r', es3, wa, wc, by omega, by go_num, by rw [HWN.out], by rw [HWN.out], by rw [HWN.out]; exact HST3.out⟩
            case measure => simp [intOf]; omega
    · obtain rfl : k = len := by omega
      clear hlt
      obtain ⟨W, hW⟩ : ∃ W, W = wantF xs base last k := ⟨_, rfl⟩
      rw [← hW] at HS ⊢
      have HW := Lib.hid hW
      clear hW hst
      have hesl := HS.out.len
      have hof := of_any wo t r 0 0 es HS.out.log (HS.out.ok (by omega)) (fun e he => by
        obtain ⟨i, hi⟩ := List.mem_iff_getElem?.1 he
        have hl := (List.getElem?_eq_some_iff.1 hi).1
        obtain ⟨e', h1, _, _, _, h5⟩ := HS.out.ent i (by omega)
        rw [hi] at h1; cases h1
        rw [h5]; have := HS.out.few i (by omega); omega) ba bc base (HBS.out wo HS.out.bel) (by omega) last hl0
      have hwf := want_of xs base last hl0 es (fun i hi => by obtain ⟨e', h1, _, _, h4, h5⟩ := HS.out.ent i (by omega); exact ⟨e', h1, h4, h5⟩) k (by omega)
      have HOF := Lib.hid (hof.mono fun e w' h => ofR_want rfl (W := W) (by rw [HW.out, hwf]; congr 3; omega) h)
      clear hof hwf hesl HXS
      go_wp2_with fail
      refine HOF.out.mono ?_
      rintro en w4 ⟨ga, gc, rfl, hb4, hs4⟩
      have HB4 := Lib.hid hb4
      have hsame := same_any w4 ga _ gc W.1 hs4 wa _ wc (HS.out.want.below hb4 HS.out.want.row_lt)
      clear hb4 hs4 HOF
      go_wp2_with fail
      refine hsame.mono ?_
      rintro en w5 ⟨rfl, hb5⟩
      go_wp2_with fail
      go_ret
      exact RetB.mk (by simp) (HS.out.bel.trans ((HB4.out.trans (hb5.mono HB4.out.size)).mono HS.out.bel.size))

theorem confOf_walk (ba : Option Addr) (bl bc : Nat) (base : List Int) (a : Option Addr) (len cap : Nat) (xs : Nat → Ent) (last : Int) (w : World) (hb : SlOk .i64 w (.slice ba bl bc) base) (hx : EntRow w a len cap xs) (hl : (Lit.int .u64 last).wf = true) :
    Calls Try.prog 8 #[.slice ba bl bc, .slice a len cap, .int .u64 last] w (RetB (.bool true) w) := by
  obtain ⟨⟨_, _, he, h1, h2, _⟩, _⟩ := id hb
  cases he
  have hm := hx.1
  unfold maxLen at h2 hm
  have hl2 : 0 ≤ last ∧ last ≤ 18446744073709551615 := by
    simp [Lit.wf, IntKind.min, IntKind.max, IntKind.bits, IntKind.signed] at hl
    omega
  by_cases hl : 20 < base.length ∨ base.length ≤ 20 ∧ 30 < len
  · exact confOf_long w ba _ bc a len cap last hl (by omega) (by omega)
  · exact confOf_main w ba bc base hb.1 (by omega) a len cap xs hx (by omega) last hl2.1 hl2.2

end Go.Proofs.Ytnnibcfbcpipfaa

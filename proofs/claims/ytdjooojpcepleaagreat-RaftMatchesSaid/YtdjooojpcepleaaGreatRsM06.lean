/- conf.Of: that its answer lies in new memory. A range over a map (MapOf): whichever order the keys come in. Of whatever program. -/
import Derived.Test.YtdjooojpcepleaaGreatRsM05
import Derived.Test.YtdjooojpcepleaaGreatRsM01
import Derived.Maps.RangeRun
import Derived.Maps.RangeWalk
import Derived.TacticsIn
import Derived.RangeFuncOwn
import Derived.Sort.MapsRangeIn

namespace Go.Proofs.YtdjooojpcepleaaGreat
section
open Go.RowKit Go.Sort
structure OwnI (w w' : World) (a : Option Addr) (cap : Nat) (l : List Int) : Prop where
 bel : Below w.heap.size w w'
 sl : Sl intv w' (.slice a l.length cap) l
 new : ∀ k, (Value.slice a l.length cap).ownBlock = some k → w.heap.size ≤ k
 row : 0 < l.length → ∃ g, a = some ⟨g, 0, none⟩ ∧ Holds intv w' g 0 l.toArray ∧ l.length ≤ cap ∧ cap ≤ maxLen ∧ g < w'.heap.size
theorem own_holdsI {w : World} {T : TypeId} {v : Value} {l : List Int} (h : w.ownsRow 0 T 1 v l.length (l.map intv)) (h0 : 0 < l.length) : ∃ g cap, v = .slice (some ⟨g, 0, none⟩) l.length cap ∧ Holds intv w g 0 l.toArray ∧ l.length ≤ cap ∧ cap ≤ maxLen ∧ g < w.heap.size := by
 rcases h.2 with ⟨_, h⟩ | ⟨g, cap, cur, rfl, _, hg, hn, hcm, hc, ht⟩
 ·omega
 ·refine ⟨g, cap, rfl, fun j hj => ⟨?_, bF hg _⟩, hn, hcm, heap_lt hg⟩
  have hj' : j < l.length := by simpa using hj
  have he : (l.map intv)[j]? = some (intv (l.toArray[j]!)) := by
   rw [List.getElem?_map, List.getElem?_eq_getElem hj', getElem!_pos l.toArray j (by simpa using hj')]
   simp
  rw [← ht, List.getElem?_take_of_lt (by omega)] at he
  refine bC hg _ ?_
  rw [Nat.zero_add, ← Array.getElem?_toList]
  exact he
theorem OwnI.of {w w' : World} {a : Option Addr} {cap : Nat} {l : List Int} (hb : Below w.heap.size w w') (ho : w'.ownsRow 0 3 1 (.slice a l.length cap) l.length (l.map intv)) (hn : ∀ k, (Value.slice a l.length cap).ownBlock = some k → w.heap.size ≤ k) : OwnI w w' a cap l :=
 ⟨hb, owns_sl ho, hn, fun h0 => by
   obtain ⟨g, c, e, h⟩ := own_holdsI ho h0
   injection e with e1 e2 e3
   subst e1 e3
   exact ⟨g, rfl, h⟩⟩
theorem OwnI.clip {w w' : World} {a : Option Addr} {cap : Nat} {l : List Int} (hb : Below w.heap.size w w') (ho : w'.ownsRow 0 3 1 (.slice a l.length cap) l.length (l.map intv)) (hn : ∀ k, (Value.slice a l.length cap).ownBlock = some k → w.heap.size ≤ k) : OwnI w w' a l.length l := by
 have h := OwnI.of hb ho hn
 refine ⟨hb, h.sl.clip, fun k hk => hn k (by cases a with | none => simp [Value.ownBlock] at hk | some x => exact hk), fun h0 => ?_⟩
 obtain ⟨g, e, h1, h2, h3, h4⟩ := h.row h0
 exact ⟨g, e, h1, Nat.le_refl _, by omega, h4⟩
theorem OwnI.behind {w w1 w' : World} {a : Option Addr} {cap : Nat} {l : List Int} (h : OwnI w1 w' a cap l) (hb : Below w.heap.size w w') (hs : w.heap.size ≤ w1.heap.size) : OwnI w w' a cap l :=
 ⟨hb, h.sl, fun k hk => Nat.le_trans hs (h.new k hk), h.row⟩
def MofN (o : Option (List Int)) (w : World) (e : Ending) (w' : World) : Prop :=
 match o with
 | some l => ∃ a, e = .returned (.tuple #[.slice a l.length l.length, .int .i64 0]) ∧ OwnI w w' a l.length l
 | none => ∃ x : Int, (x == 0) = false ∧ e = .returned (.tuple #[.slice none 0 0, .int .i64 x]) ∧ Below w.heap.size w w'
def OfN (ix : Int) (o : Option (List Int × Nat)) (base : List Int) (w : World) (e : Ending) (w' : World) : Prop :=
 match o with
 | some (l, k) => ∃ a cap, e = .returned (.tuple #[.slice a l.length cap, .int .u64 (ix + k)]) ∧ OwnI w w' a cap l
 | none => ∃ a cap, e = .returned (.tuple #[.slice a base.length cap, .int .u64 0]) ∧ OwnI w w' a cap base
set_option maxRecDepth 100000 in
theorem getInt_new (w : World) (p : Nat) (s : RS) (h : RdAt w p s) :
  Calls Tryz.prog 102 #[.pointer (some ⟨p, 0, none⟩), .int .i64 7, .func (Fn.func 103) #[] #[]] w fun e w' => ∃ a cap, e = .returned (.slice a (getI s).1.length cap) ∧ RdAt w' p (getI s).2 ∧ (w'.ownsRow 0 3 1 (.slice a (getI s).1.length cap) (getI s).1.length ((getI s).1.map intv) ∧ ∀ k, (Value.slice a (getI s).1.length cap).ownBlock = some k → w.heap.size ≤ k) ∧ Keeps (fun k => k = p) w w' := by
 have hc := count_any w p s h 7 (by omega)
 have hc7 := countR_le 7 s
 have hpl := h.lt
 obtain ⟨i0, hi, hz0, hz1, hz2⟩ := info_parts info_i64
 obtain ⟨n, hn⟩ : ∃ n, n = (countR 7 s).1 := ⟨_, rfl⟩
 have hG : getI s = rdL n (countR 7 s).2 [] := by rw [hn]; rfl
 rw [← hn] at hc hc7
 have HG := hI hG
 clear h hn hG
 go_enter Tryz.func102, Tryz.ntmps102
 go_wp2_with fail
 refine hc.mono ?_
 rintro e w1 ⟨rfl, h1, k1⟩
 have HR1 := hI h1
 have HK1 := hI k1
 clear hc h1 k1
 go_wp2_with fail
 go_loopw [7, 12] (fun ov i wr => ∃ (k : Nat) (s' : RS) (acc : List Int), k ≤ n ∧ i = .int .i64 k ∧ acc.length = k ∧ rdL (n - k) s' acc = getI s ∧ RdAt wr p s' ∧ wr.ownsRow 0 3 1 ov acc.length (acc.map intv) ∧ (∀ j, ov.ownBlock = some j → w.heap.size ≤ j) ∧ Keeps (fun k => k = p) w wr) (fun _ i _ => n - (intOf i).toNat)
 case atStart => exact ⟨0, (countR 7 s).2, [], by omega, rfl, rfl, HG.out.symm, HR1.out, World.ownsRow_nil _ _ _ _, by simp [Value.ownBlock], HK1.out⟩
 case round =>
  obtain ⟨k, s', acc, hk, rfl, hacc, hrd, hR, hown, hnew, hkp⟩ := hrel
  have HA := hI hacc
  have HD := hI hrd
  have HR := hI hR
  have HO := hI hown
  have HN := hI hnew
  have HK := hI hkp
  clear hrd hown hnew hkp
  by_cases hlt : k < n
  ·have hm1 := memOf1_any wr p s' hR
   have HS := hI (show rdL (n - k) s' acc = if (numR s').2.e = 0 then rdL (n - (k + 1)) (numR s').2 (acc ++ [min ((numR s').1 : Int) 8]) else ([], (numR s').2) by
     rw [show n - k = (n - (k + 1)) + 1 by omega, rdL])
   obtain ⟨s2, hs2⟩ : ∃ s2, s2 = (numR s').2 := ⟨_, rfl⟩
   obtain ⟨x, hx⟩ : ∃ x : Int, x = min ((numR s').1 : Int) 8 := ⟨_, rfl⟩
   rw [← hs2, ← hx] at hm1
   have hS2 := HS.out
   rw [← hs2, ← hx] at hS2
   have HS2 := hI hS2
   clear hS2 hs2 hx hR HS hacc
   go_wp2_with fail
   refine hm1.mono ?_
   rintro e w2 ⟨rfl, h2, k2⟩
   have he2 := err_any w2 p s2 h2
   have H2 := hI h2
   have K2 := hI k2
   clear hm1 h2 k2
   cases h0 : (s2.e == 0)
   ·have h0' : (s2.e != 0) = true := by rw [bne, h0]; rfl
    have H0 := hI h0
    clear h0
    go_wp2_with fail
    refine he2.mono ?_
    rintro e w' ⟨rfl, rfl⟩
    go_wp2_with fail
    go_ret
    have hS := HS2.out
    rw [HD.out, if_neg (by simpa using H0.out)] at hS
    refine ⟨none, 0, by rw [hS]; rfl, by rw [hS]; exact H2.out, by rw [hS]; exact ⟨World.ownsRow_nil _ _ _ _, fun k hk => by simp [Value.ownBlock] at hk⟩, HK.out.trans K2.out⟩
   ·have h0' : (s2.e != 0) = false := by rw [bne, h0]; rfl
    have H0 := hI h0
    have HM0 := hI (show acc.length + 1 ≤ maxLen by have := HA.out; unfold maxLen; omega)
    have HM1 := hI (show (acc.length + 1) * 8 ≤ 140737488355328 by have := HA.out; omega)
    have HO2 := hI (owns_kept HO.out K2.out fun j hj e => by have := HN.out j hj; omega)
    clear h0
    go_wp2_with (first
      | (go_at_call 111; refine he2.mono ?_; rintro e w' ⟨rfl, rfl⟩)
      | (at_builtin; refine wpList_append_one w2 rfl _ _ _ rfl 3 i0 (.int .i64 0) 8 Tryz.underlying37 hi hz0 hz1 hz2 rfl u7 acc.length (acc.map intv) rfl HO2.out (.int .i64 x) _ rfl rfl HM0.out HM1.out ?_; intro v' w3 hown3 hg3 hrow3; have HO3 := hI hown3; have HG3 := hI hg3; have HR3 := hI hrow3; clear hown3 hg3 hrow3))
    go_roundw
    case rel =>
     have hsz2 : w.heap.size ≤ w2.heap.size := Nat.le_trans HK.out.size K2.out.size
     have hk3 : Keeps (fun k => w.heap.size ≤ k) w2 w3 := ((Keeps.refl (fun k => w.heap.size ≤ k) w2).alloc _).trans (gK HG3.out fun j hj => HN.out j hj.symm)
     have hS := HS2.out
     rw [if_pos (by simpa using H0.out)] at hS
     refine ⟨k + 1, s2, acc ++ [x], by omega, by go_num, by rw [List.length_append, HA.out]; rfl, by rw [← hS]; exact HD.out, H2.out.kept hk3 fun j hj => by omega, ?_, fun j hj => ?_, ?_⟩
     ·rw [List.length_append, List.map_append]; exact HO3.out
     ·rcases HR3.out with h1 | ⟨i, h1, h2, _⟩
      ·exact HN.out j (h1 ▸ hj)
      ·rw [h1] at hj; cases hj; simp at h2; omega
     ·exact (HK.out.trans K2.out).andThen hk3 fun i hi => .inl hi
    case measure => simp [intOf]; omega
  ·have hkn : k = n := by omega
   have HF := hI (show (acc, s') = getI s by rw [← HD.out, hkn, Nat.sub_self]; rfl)
   clear hkn hR hacc
   obtain ⟨ad, cp, rfl, _⟩ := owns_sl HO.out
   go_wp2_with fail
   go_ret
   rw [← HF.out]
   exact ⟨ad, cp, rfl, HR.out, ⟨HO.out, HN.out⟩, HK.out⟩
theorem MembersOf_new (w : World) (a : Option Addr) (n cap : Nat) (d : List UInt8) (hs : Sl u8v w (.slice a n cap) d) (hl : d.length ≤ 70368744177664) :
  Calls Tryz.prog 80 #[.slice a n cap] w (MofN (membersOf d) w) := by
 have hr := read_any w a n cap d hs hl
 have HO := hI (show membersOf d = if endR (getI ⟨d, 0⟩).2 = 0 ∧ mB (getI ⟨d, 0⟩).1 = true then some (getI ⟨d, 0⟩).1 else none from rfl)
 clear hs hl
 go_enter Tryz.func80, Tryz.ntmps80
 go_wp2_with fail
 refine hr.mono ?_
 rintro e w1 ⟨p, rfl, hp, hR1, hb1⟩
 have hg := getInt_new w1 p _ hR1
 have HB1 := hI hb1
 clear hr hR1 hb1
 go_wp2_with fail
 refine hg.mono ?_
 rintro e w2 ⟨ad, cp, rfl, hR2, ⟨ho2, hn2⟩, hk2⟩
 have hs2 := owns_sl ho2
 have HOW := hI ho2
 have HNW := hI hn2
 clear ho2 hn2
 have hb2 : Below w.heap.size w w2 := ((Keeps.of_below HB1.out).mono (T := fun k => w.heap.size ≤ k) fun k _ h => h).trans (hk2.mono fun k _ h => by omega) |>.below nL fun k hk => hk
 have hend := end_any w2 p _ hR2
 have hmem := members_any w2 ad _ cp _ hs2
 have hcl := clip_any w2 ad cp _ hs2
 have hsc := hs2.clip
 clear hg hk2 hR2 hs2
 obtain ⟨L, hL⟩ : ∃ L, L = (getI ⟨d, 0⟩).1 := ⟨_, rfl⟩
 obtain ⟨E, hE⟩ : ∃ E, E = endR (getI ⟨d, 0⟩).2 := ⟨_, rfl⟩
 rw [← hL] at hmem hcl hsc HOW HNW
 rw [← hE] at hend
 have hO := HO.out
 rw [← hL, ← hE] at hO
 have HO' := hI hO
 have HB2 := hI hb2
 have HSC := hI hsc
 rw [← hL]
 clear hO hL hE hb2 hsc
 cases h0 : (E == 0)
 ·have h1 : (E != 0) = true := by rw [bne, h0]; rfl
  have H0 := hI (show membersOf d = none by rw [HO'.out, if_neg (by rintro ⟨rfl, _⟩; simp at h0)])
  go_wp2_with fail
  refine hend.mono ?_
  rintro e w' ⟨rfl, rfl⟩
  go_wp2_with fail
  go_ret2
  rw [H0.out]
  exact ⟨E, h0, rfl, HB2.out⟩
 ·have h1 : (E != 0) = false := by rw [bne, h0]; rfl
  have hE0 : E = 0 := by simpa using h0
  cases hm : mB L
  ·rw [hm] at hmem
   have H0 := hI (show membersOf d = none by rw [HO'.out, hm, if_neg (by simp)])
   clear hm
   subst hE0
   go_wp2_with fail
   refine hend.mono ?_
   rintro e w' ⟨rfl, rfl⟩
   clear hend
   go_wp2_with fail
   refine hmem.mono ?_
   rintro e w' ⟨rfl, rfl⟩
   go_wp2_with fail
   go_ret2
   rw [H0.out]
   exact ⟨2, rfl, rfl, HB2.out⟩
  ·rw [hm] at hmem
   have H0 := hI (show membersOf d = some L by rw [HO'.out, hm, hE0, if_pos (by simp)])
   clear hm
   subst hE0
   go_wp2_with fail
   refine hend.mono ?_
   rintro e w' ⟨rfl, rfl⟩
   clear hend
   go_wp2_with fail
   refine hmem.mono ?_
   rintro e w' ⟨rfl, rfl⟩
   clear hmem
   go_wp2_with fail
   refine hcl.mono ?_
   rintro e w' ⟨rfl, rfl⟩
   go_wp2_with fail
   go_ret2
   rw [H0.out]
   exact ⟨ad, rfl, OwnI.clip HB2.out HOW.out fun k hk => Nat.le_trans HB1.out.size (HNW.out k hk)⟩
section
variable (w : World) (t : Nat) (r : Option Nat) (ix tm : Int) (es : List Ent) (h : LogAt w t r ix tm es) (ok : LogOk ix tm es) (hd : ∀ e ∈ es, e.d.length ≤ 900)
 (a : Option Addr) (cap : Nat) (base : List Int) (hb : Sl intv w (.slice a base.length cap) base) (hbl : base.length ≤ 1000)
include h ok hd hb hbl
set_option maxRecDepth 100000 in
set_option maxHeartbeats 2000000 in
theorem of_new (last : Int) (hl : 0 ≤ last) : Calls Tryz.prog 51 #[.pointer (some ⟨t, 0, none⟩), .slice a base.length cap, .int .u64 last] w (OfN ix (ofD es (min last (ix + es.length) - ix).toNat) base w) := by
 have hbs := base_any w t r ix tm es h
 have hls := fun W (hW : Below w.heap.size w W) => last_any W t r ix tm es (h.below hW) ok
 have HAT : Hid (∀ W, Below w.heap.size w W → ∀ (k : Nat) (e : Ent), es[k]? = some e → ∀ i, i = ix + (k : Int) + 1 → Calls Tryz.prog 79 #[.pointer (some ⟨t, 0, none⟩), .int .u64 i] W (AtR W e)) :=
  hI fun W hW k e he i hi => at_any W t r ix tm es (h.below hW) ok k e he i hi (by have := hd e (List.mem_of_getElem? he); omega)
 have HDL := hI hd
 have HCL : Hid (∀ W, Below w.heap.size w W → Calls Tryz.prog 47 #[.slice a base.length cap] W (ClonedI W base)) := hI fun W hW => clone_anyI W a _ cap base (hb.below hW hb.row_lt) hbl
 have hx := ok.lo
 have hx2 := ok.hi
 clear h ok hd hb hbl
 generalize lT tm es = lt at *
 by_cases hlx : last < ix
 ·have h0 : (min last (ix + (es.length : Int)) - ix).toNat = 0 := by omega
  have hmin : min last (ix + (es.length : Int)) = last := by omega
  rw [h0]
  clear h0
  have HCL := HCL
  go_enter Tryz.func51, Tryz.ntmps51
  go_wp2_with fail
  refine hbs.mono ?_
  rintro e w1 ⟨rfl, n, rfl⟩
  have hb1 : Below w.heap.size w (w.drewN n) := belowDN bR n
  go_wp2_with fail
  refine (hls _ hb1).mono ?_
  rintro e w2 ⟨rfl, hb2⟩
  have hb12 := hb1.trans (hb2.mono hb1.size)
  clear hb1 hb2 hls hbs
  go_wp2_with fail
  go_loop [12] (fun i => i = .int .u64 last) (fun _ => 0)
  case atStart => rfl
  case round =>
   obtain rfl := hrel
   go_wp2_with fail
   refine (HCL.out _ hb12).mono ?_
   rintro e w3 ⟨v, rfl, hb3, hs3, ho3, hn3⟩
   obtain ⟨va, vc, rfl, _⟩ := id hs3
   go_wp2_with fail
   go_ret2
   exact ⟨va, vc, rfl, OwnI.of (hb12.trans (hb3.mono hb12.size)) ho3 fun k hk => Nat.le_trans hb12.size (hn3 k hk)⟩
 ·obtain ⟨k0, hk0⟩ : ∃ k0 : Nat, (min last (ix + (es.length : Int)) - ix).toNat = k0 := ⟨_, rfl⟩
  have hmin : min last (ix + (es.length : Int)) = ix + (k0 : Int) := by omega
  have hkl : k0 ≤ es.length := by omega
  rw [hk0]
  have HKE : Hid (ix + (es.length : Int) < last → k0 = es.length) := hI fun h => by omega
  have HKL : Hid (last ≤ ix + (es.length : Int) → last = ix + k0) := hI fun h => by omega
  clear hk0 hmin
  by_cases hle : last ≤ ix + (es.length : Int)
  all_goals
   go_enter Tryz.func51, Tryz.ntmps51
   go_wp2_with fail
   refine hbs.mono ?_
   rintro e w1 ⟨rfl, n, rfl⟩
   have hb1 : Below w.heap.size w (w.drewN n) := belowDN bR n
   go_wp2_with fail
   refine (hls _ hb1).mono ?_
   rintro e w2 ⟨rfl, hb2⟩
   have hb12 := hb1.trans (hb2.mono hb1.size)
   have HB12 := hI hb12
   clear hb1 hb2 hls hbs hb12
   go_wp2_with fail
   go_loopw [12] (fun i wr => ∃ k : Nat, k ≤ k0 ∧ i = .int .u64 (ix + k) ∧ ofD es k = ofD es k0 ∧ Below w.heap.size w wr) (fun i _ => (intOf i - ix).toNat)
   case atStart => first | exact ⟨es.length, by have := HKE.out (by omega); omega, rfl, by rw [HKE.out (by omega)], HB12.out⟩ | exact ⟨k0, Nat.le_refl _, by rw [HKL.out hle], rfl, HB12.out⟩
   case round =>
    obtain ⟨k, hk, rfl, hof, hbw⟩ := hrel
    have HF := hI hof
    have HB := hI hbw
    clear hof
    rcases k with _ | k
    ·clear hbw
     go_wp2_with fail
     refine (HCL.out _ HB.out).mono ?_
     rintro e w3 ⟨v, rfl, hb3, hs3, ho3, hn3⟩
     obtain ⟨va, vc, rfl, _⟩ := id hs3
     go_wp2_with fail
     go_ret2
     have hf : ofD es k0 = none := by rw [← HF.out]; rfl
     rw [hf]
     exact ⟨va, vc, rfl, OwnI.of (HB.out.trans (hb3.mono HB.out.size)) ho3 fun k hk => Nat.le_trans HB.out.size (hn3 k hk)⟩
    ·obtain ⟨e, he⟩ : ∃ e, es[k]? = some e := ⟨es[k], List.getElem?_eq_getElem (by omega)⟩
     obtain ⟨i, hi⟩ : ∃ i, i = ix + ((k + 1 : Nat) : Int) := ⟨_, rfl⟩
     rw [← hi]
     have hat := HAT.out wr hbw k e he i (by omega)
     have hdl := HDL.out e (List.mem_of_getElem? he)
     have hi1 : ix < i := by omega
     have hi2 : i ≤ 9223372036854775807 := by omega
     have HI := hI hi
     have HF2 := hI (show ofD es (k + 1) = if e.cf = true then (match membersOf e.d with | some l => some (l, k + 1) | none => ofD es k) else ofD es k by simp only [ofD, he]; first | done | rfl | (split <;> first | rfl | (split <;> rfl)))
     clear hbw he hi
     go_wp2_with fail
     refine hat.mono ?_
     rintro en w3 ⟨da, dc, rfl, hb3, hs3⟩
     clear hat
     have hb3' := HB.out.trans (hb3.mono HB.out.size)
     have HB3 := hI hb3'
     have HS3 := hI hs3
     clear hb3 hs3 hb3'
     have hmo := fun ob => MembersOf_new (w3.alloc ob) da _ dc e.d (HS3.out.alloc ob) (by omega)
     have HMO := hI hmo
     clear hmo
     cases hcf : e.cf
     ·have HC := hI hcf
      go_wp2_with fail
      go_roundw
      case rel => exact ⟨k, by omega, by rw [HI.out]; go_num, by rw [← HF.out, HF2.out, HC.out]; rfl, HB3.out.alloc HB3.out.size _⟩
      case measure => simp [intOf]; omega
     ·have HC := hI hcf
      cases hm : membersOf e.d with
      | none =>
       have hmo := HMO.out
       rw [hm] at hmo
       have HMM := hI hm
       clear hm
       go_wp2_with fail
       refine (hmo _).mono ?_
       rintro en w4 ⟨x, hx0, rfl, hb4⟩
       clear hmo
       have hb4' := (HB3.out.alloc HB3.out.size _).trans (hb4.mono (by have := HB3.out.size; simp; omega))
       have HB4 := hI hb4'
       clear hb4 hb4'
       go_wp2_with fail
       go_roundw
       case rel => exact ⟨k, by omega, by rw [HI.out]; go_num, by rw [← HF.out, HF2.out, HC.out, HMM.out]; rfl, HB4.out⟩
       case measure => simp [intOf]; omega
      | some l =>
       have hmo := HMO.out
       rw [hm] at hmo
       have HMM := hI hm
       clear hm
       go_wp2_with fail
       refine (hmo _).mono ?_
       rintro en w4 ⟨la, rfl, ho4⟩
       have hb4 := ho4.bel
       have HOW := hI ho4
       have hs4 := ho4.sl
       clear hmo
       have hb4' := (HB3.out.alloc HB3.out.size _).trans (hb4.mono (by have := HB3.out.size; simp; omega))
       have HB4 := hI hb4'
       have HS4 := hI hs4
       clear hb4 hb4' hs4 ho4
       go_wp2_with fail
       go_ret2
       have hf : ofD es k0 = some (l, k + 1) := by rw [← HF.out, HF2.out, HC.out, HMM.out]; rfl
       rw [hf]
       exact ⟨la, _, by rw [HI.out]; rfl, HOW.out.behind HB4.out (by have := HB3.out.size; simp; omega)⟩
end
end
section
open Go.RowKit Go.Maps Go.ChangeMaps
section
variable {P : Program} {k : TypeId} {α β : Type} {κ : α → Value} {φ : β → Value}
def MIter (P : Program) (k : TypeId) (κ : α → Value) (φ : β → Value) (w : World) (b r : Nat) (l : List (α × β)) (p : List α) : Prop :=
 ∃ es clock since seen c0, w.heap[b]? = some (.map es clock) ∧ es.toList.map (fun e => (e.key, e.val)) = l.map (fun p => (κ p.1, φ p.2)) ∧ (keys l).Nodup ∧ (∀ p ∈ l, ∃ x, keyOf P k (κ p.1) = some x) ∧ Born es.toList clock ∧
  w.heap[r]? = some (.mapIter (some b) since seen c0) ∧ (∀ x ∈ es.toList, x.born < since) ∧ since ≤ c0 ∧ since ≤ clock ∧ (∀ e ∈ es.toList, seen.contains e.born = true ↔ ∃ a ∈ p, e.key = κ a) ∧ seen.size = p.length
theorem MIter.map {w : World} {b r : Nat} {l : List (α × β)} {p : List α} (h : MIter P k κ φ w b r l p) : MapOf P k κ φ w b l := by
 obtain ⟨es, clock, since, seen, c0, h1, h2, h3, h4, h5, _⟩ := h
 exact ⟨es, clock, h1, h2, h3, h4, h5⟩
theorem MIter.ne {w : World} {b r : Nat} {l : List (α × β)} {p : List α} (h : MIter P k κ φ w b r l p) : r ≠ b := by
 obtain ⟨es, clock, since, seen, c0, h1, h2, h3, h4, h5, h6, h7⟩ := h
 rintro rfl
 rw [h1] at h6
 cases h6
theorem MIter.seen {w : World} {b r : Nat} {l : List (α × β)} {p : List α} (h : MIter P k κ φ w b r l p) : (w.iterSeen r).size = p.length := by
 obtain ⟨es, clock, since, seen, c0, h1, h2, h3, h4, h5, h6, h7, h8, h9, h10, h11⟩ := h
 simp [World.iterSeen, h6, h11]
theorem MapOf.run_range {w : World} {b : Nat} {l : List (α × β)} (h : MapOf P k κ φ w b l) {t e : TypeId} (ht : P.underlying t = some (.map k e)) :
  ∃ o, (Instr.range t (.map (some b))).run P w = .ok (.pointer (some ⟨w.heap.size, 0, none⟩)) (w.alloc o) ∧ MIter P k κ φ (w.alloc o) b w.heap.size l [] := by
 have hlt := h.lt
 obtain ⟨es, clock, h1, h2, h3, h4, h5⟩ := h
 refine ⟨_, run_range_map w t k e b es clock ht h1, es, clock, clock, #[], clock, (heap_alloc_old w _ hlt).trans h1, h2, h3, h4, h5, heap_alloc_new w _, h5.1, Nat.le_refl _, Nat.le_refl _, ?_, rfl⟩
 intro e he
 simp
theorem entry_mem {es : List MapEntry} {l : List (α × β)} (h : es.map (fun e => (e.key, e.val)) = l.map (fun p => (κ p.1, φ p.2))) {e : MapEntry} (he : e ∈ es) : ∃ p ∈ l, e.key = κ p.1 ∧ e.val = φ p.2 := by
 have : (e.key, e.val) ∈ l.map (fun p => (κ p.1, φ p.2)) := by rw [← h]; exact List.mem_map.2 ⟨e, he, rfl⟩
 obtain ⟨p, hp, hpe⟩ := List.mem_map.1 this
 simp only [Prod.mk.injEq] at hpe
 exact ⟨p, hp, hpe.1.symm, hpe.2.symm⟩
theorem mem_entry {es : List MapEntry} {l : List (α × β)} (h : es.map (fun e => (e.key, e.val)) = l.map (fun p => (κ p.1, φ p.2))) {p : α × β} (hp : p ∈ l) : ∃ e ∈ es, e.key = κ p.1 ∧ e.val = φ p.2 := by
 have : (κ p.1, φ p.2) ∈ es.map (fun e => (e.key, e.val)) := by rw [h]; exact List.mem_map.2 ⟨p, hp, rfl⟩
 obtain ⟨e, he, hpe⟩ := List.mem_map.1 this
 simp only [Prod.mk.injEq] at hpe
 exact ⟨e, he, hpe.1, hpe.2⟩
theorem key_entry (inj : ∀ a b : α, κ a = κ b → a = b) : ∀ {es : List MapEntry} {l : List (α × β)}, es.map (fun e => (e.key, e.val)) = l.map (fun p => (κ p.1, φ p.2)) → (keys l).Nodup → ∀ {x y : MapEntry}, x ∈ es → y ∈ es → x.key = y.key → x = y
 | [], _, _, _, _, _, hx, _, _ => by simp at hx
 | e :: es, [], h, _, _, _, _, _, _ => by simp at h
 | e :: es, (a, v) :: l, h, hn, x, y, hx, hy, hxy => by
  simp only [List.map_cons, List.cons.injEq, Prod.mk.injEq] at h
  simp only [keys, List.map_cons, List.nodup_cons] at hn
  have out : ∀ z ∈ es, z.key ≠ e.key := fun z hz hze => by
   obtain ⟨p, hp, hk, _⟩ := entry_mem h.2 hz
   rw [hze, h.1.1] at hk
   exact hn.1 (List.mem_map.2 ⟨p, hp, (inj _ _ hk).symm⟩)
  rcases List.mem_cons.1 hx with rfl | hx'
  ·rcases List.mem_cons.1 hy with rfl | hy'
   ·rfl
   ·exact absurd hxy.symm (out y hy')
  ·rcases List.mem_cons.1 hy with rfl | hy'
   ·exact absurd hxy (out x hx')
   ·exact key_entry inj h.2 hn.2 hx' hy' hxy
theorem MIter.run_next {w : World} {b r : Nat} {l : List (α × β)} {p : List α} (h : MIter P k κ φ w b r l p) (inj : ∀ a b : α, κ a = κ b → a = b) (ty : TypeId) :
  ((∀ x ∈ keys l, x ∈ p) ∧ (Instr.next (.pointer (some ⟨r, 0, none⟩)) false ty).run P w = .ok (.tuple #[.bool false]) w) ∨
  ∃ key val w', (key, val) ∈ l ∧ key ∉ p ∧ MIter P k κ φ w' b r l (p ++ [key]) ∧ Keeps (fun j => j = r) w w' ∧ w'.heap.size = w.heap.size ∧
   (Instr.entry (.pointer (some ⟨r, 0, none⟩))).run P w' = .ok (.tuple #[κ key, φ val]) w' ∧ (Instr.next (.pointer (some ⟨r, 0, none⟩)) false ty).run P w = .ok (.tuple #[.bool true, κ key, φ val]) w' := by
 have hne := h.ne
 obtain ⟨es, clock, since, seen, c0, h1, h2, h3, h4, h5, h6, h7, h8, h9, h10, h11⟩ := h
 rcases run_next_at (P := P) w ty r b since c0 seen es clock h6 h1 h7 h8 with ⟨h0, hr⟩ | ⟨e, he, w1, hw1, hr⟩
 ·left
  refine ⟨fun x hx => ?_, hr⟩
  obtain ⟨q, hq, rfl⟩ := List.mem_map.1 hx
  obtain ⟨e, he, hek, _⟩ := mem_entry h2 hq
  obtain ⟨a, ha, hea⟩ := (h10 e he).1 (all_seen es seen h0 e he)
  rw [hek] at hea
  rw [inj _ _ hea]
  exact ha
 ·right
  obtain ⟨he1, he2⟩ := mem_left he
  obtain ⟨q, hq, hqk, hqv⟩ := entry_mem h2 he1
  have hnp : q.1 ∉ p := fun hp => by
   have := (h10 e he1).2 ⟨q.1, hp, hqk⟩
   rw [he2] at this
   cases this
  have hh1 : w1.heap = w.heap := by rcases hw1 with rfl | rfl <;> rfl
  have hkeep : Keeps (fun j => j = r) w (setBlock w1 r (.mapIter (some b) since (seen.push e.born) clock)) := by
   rcases hw1 with rfl | rfl
   ·exact (Keeps.refl (fun j => j = r) _).setBlock (p := r) (.inl rfl) _
   ·exact (Keeps.refl (fun j => j = r) _).drew.setBlock (p := r) (.inl rfl) _
  have hsz : (setBlock w1 r (.mapIter (some b) since (seen.push e.born) clock)).heap.size = w.heap.size := by simp [setBlock, hh1]
  have hr1 : (setBlock w1 r (.mapIter (some b) since (seen.push e.born) clock)).heap[r]? = some (.mapIter (some b) since (seen.push e.born) clock) := by
   have := heap_lt h6
   simp only [setBlock, hh1, Array.getElem?_setIfInBounds]
   simp [this]
  have hb1 : (setBlock w1 r (.mapIter (some b) since (seen.push e.born) clock)).heap[b]? = some (.map es clock) := (hkeep.block b (heap_lt h1) (fun e => hne e.symm)).trans h1
  refine ⟨q.1, q.2, _, hq, hnp, ⟨es, clock, since, seen.push e.born, clock, hb1, h2, h3, h4, h5, hr1, h7, h9, h9, (fun x hx => ?_), by simp [h11]⟩, hkeep, hsz, ?_, ?_⟩
  ·rw [contains_push]
   constructor
   ·intro h
    rcases Bool.or_eq_true _ _ ▸ h with h | h
    ·obtain ⟨a, ha, hxa⟩ := (h10 x hx).1 h
     exact ⟨a, by simp [ha], hxa⟩
    ·have : x = e := born_inj h5.2 hx he1 (by simpa using h)
     exact ⟨q.1, by simp, by rw [this, hqk]⟩
   ·rintro ⟨a, ha, hxa⟩
    rcases List.mem_append.1 ha with ha | ha
    ·rw [(h10 x hx).2 ⟨a, ha, hxa⟩]; rfl
    ·simp at ha
     subst ha
     have : x = e := key_entry inj h2 h3 hx he1 (by rw [hxa, hqk])
     rw [this]; simp
  ·rw [← hqk, ← hqv]
   exact run_entry_at _ r b since seen es clock e hr1 hb1 he1 h5.2
  ·rw [← hqk, ← hqv]
   exact hr
variable (w : World) {ops : Array Oper} {rest : List Oper} {o : Oper} {a : Act} {Q : Exit → Act → World → Prop}
theorem wpList_map_range (hg : o.guard = none) (m : Operand) (t : TypeId) (hop : o.op = Op.range t m) (e : TypeId) (ht : P.underlying t = some (.map k e)) (b : Nat) (l : List (α × β)) (hm : a.eval m = .map (some b)) (h : MapOf P k κ φ w b l)
  (hK : ∀ ob, MIter P k κ φ (w.alloc ob) b w.heap.size l [] → wpList P ops Q rest (a.put o.dst (.pointer (some ⟨w.heap.size, 0, none⟩))) (w.alloc ob)) : wpList P ops Q (o :: rest) a w := by
 refine wpList_plain hg fun K' hK' => ?_
 obtain ⟨ob, hrun, hM⟩ := h.run_range ht
 unfold Oper.wp
 simp [execOp, hop, hm, hrun, Result.andThen]
 exact hK' _ _ (hK ob hM)
theorem wpList_map_next (hg : o.guard = none) (it : Operand) (hop : o.op = Op.next it false) (inj : ∀ a b : α, κ a = κ b → a = b) (b r : Nat) (l : List (α × β)) (p : List α) (hit : a.eval it = .pointer (some ⟨r, 0, none⟩)) (h : MIter P k κ φ w b r l p)
  (hDone : (∀ x ∈ keys l, x ∈ p) → wpList P ops Q rest (a.put o.dst (.tuple #[.bool false])) w)
  (hMore : ∀ key val w', (key, val) ∈ l → key ∉ p → MIter P k κ φ w' b r l (p ++ [key]) → Keeps (fun j => j = r) w w' → w'.heap.size = w.heap.size →
    (Instr.entry (.pointer (some ⟨r, 0, none⟩))).run P w' = .ok (.tuple #[κ key, φ val]) w' → wpList P ops Q rest (a.put o.dst (.tuple #[.bool true, κ key, φ val])) w') :
  wpList P ops Q (o :: rest) a w := by
 refine wpList_plain hg fun K' hK' => ?_
 unfold Oper.wp
 rcases h.run_next inj o.type with ⟨h0, hrun⟩ | ⟨key, val, w', h1, h2, h3, h4, h5, h6, hrun⟩
 ·simp [execOp, hop, hit, hrun, Result.andThen]
  exact hK' _ _ (hDone h0)
 ·simp [execOp, hop, hit, hrun, Result.andThen]
  exact hK' _ _ (hMore key val w' h1 h2 h3 h4 h5 h6)
theorem left_lt {l : List (α × β)} {p : List α} {key : α} {val : β} (hn : (p ++ [key]).Nodup) (hs : ∀ x ∈ p, x ∈ keys l) (hk : (key, val) ∈ l) : p.length < l.length := by
 have hsub : ∀ x ∈ p ++ [key], x ∈ keys l := fun x hx => by
  rcases List.mem_append.1 hx with hx | hx
  ·exact hs x hx
  ·simp at hx; subst hx; exact List.mem_map.2 ⟨_, hk, rfl⟩
 have := hn.length_le_of_subset hsub
 simp [keys] at this
 omega
theorem perm_keys {l : List (α × β)} {p : List α} (hl : (keys l).Nodup) (hn : p.Nodup) (hs : ∀ x ∈ p, x ∈ keys l) (ha : ∀ x ∈ keys l, x ∈ p) : p.Perm (keys l) :=
 (List.perm_ext_iff_of_nodup hn hl).2 fun x => ⟨hs x, ha x⟩
end
end
end Go.Proofs.YtdjooojpcepleaaGreat

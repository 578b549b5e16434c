/- raft, any node: what a leader sends. -/
import Derived.Test.YtdjooojpcepleaaGreatRsM15
import Derived.Test.YtdjooojpcepleaaGreatRsM11
import Derived.Test.YtdjooojpcepleaaGreatRsM06

namespace Go.Proofs.YtdjooojpcepleaaGreat
section
open Go.RowKit
theorem pl_en {l k : List Ent} (h : l.map Ent.pl = k.map Ent.pl) : l.map Ent.en = k.map Ent.en := by
 have e : ∀ l : List Ent, l.map Ent.en = (l.map Ent.pl).map fun q => (⟨q.2.1.toNat, q.2.2.1, q.2.2.2⟩ : En) := fun l => by rw [List.map_map]; rfl
 rw [e, e, h]
theorem pl_len {l k : List Ent} (h : l.map Ent.pl = k.map Ent.pl) : l.length = k.length := by
 have := congrArg List.length h
 simpa using this
theorem pl_get {l k : List Ent} (h : l.map Ent.pl = k.map Ent.pl) {i : Nat} {e : Ent} (he : l[i]? = some e) : ∃ e', k[i]? = some e' ∧ e'.pl = e.pl := by
 have h1 : (l.map Ent.pl)[i]? = some e.pl := by rw [List.getElem?_map, he]; rfl
 rw [h, List.getElem?_map] at h1
 cases hk : k[i]? with
 | none => rw [hk] at h1; cases h1
 | some e' => rw [hk] at h1; exact ⟨e', rfl, Option.some.inj h1⟩
theorem pl_lastTm {l k : List Ent} (h : l.map Ent.pl = k.map Ent.pl) (t : Int) : lT t l = lT t k := by
 have e : ∀ l : List Ent, lT t l = (((l.map Ent.pl).getLast?).map fun q => q.2.1).getD t := fun l => by
  unfold lT
  rw [List.getLast?_map]
  cases l.getLast? <;> rfl
 rw [e, e, h]
theorem FolOk.pl_ {i t : Int} {l k : List Ent} (h : FolOk i t k) (he : l.map Ent.pl = k.map Ent.pl) : FolOk i t l := fun j e hj => by
 obtain ⟨e', h1, h2⟩ := pl_get he hj
 obtain ⟨a, b, c, d⟩ := h j e' h1
 have h3 : (l.take j).map Ent.pl = (k.take j).map Ent.pl := by rw [List.map_take, List.map_take, he]
 rw [pl_lastTm h3]
 unfold Ent.pl at h2
 simp only [Prod.mk.injEq] at h2
 obtain ⟨q1, q2, q3, q4⟩ := h2
 rw [q1] at a
 rw [q2] at b c
 rw [q4] at d
 exact ⟨a, b, c, d⟩
theorem RowN.rowE {w0 w : World} {M : Nat → Prop} {v : Value} {l : List Ent} (h : RowN w0 w v l) (hM : ∀ k, M k → k < w0.heap.size) : RowE w M v l := by
 refine ⟨fun k hk e => by have := h.new k hk; have := hM k e; omega, fun e he => ⟨(h.data e he).1, fun k hk e' => by have := ((h.data e he).2 k hk).1; have := hM k e'; omega⟩, ?_⟩
 rcases h.own.2 with ⟨rfl, h0⟩ | ⟨g, cap, cur, rfl, _, hg, hn, hm, hc, ht⟩
 ·exact ⟨none, 0, by rw [h0], by rw [h0]; exact Nat.le_refl _, by unfold maxLen; omega, .inl ⟨rfl, rfl⟩⟩
 ·refine ⟨_, cap, rfl, hn, hm, .inr ⟨g, 0, rfl, heap_lt hg, fun i u hi => ?_⟩⟩
  have := h.own.cells (g := g) rfl i u hi
  rwa [addr_add] at this
section
variable {C0 : List Int} {g : Gh En} {n : Nat} {x : NodeS} {X : List En}
theorem OkN.tm_mono (h : OkN C0 g n x X) {i j : Nat} (hij : i ≤ j) (hj : j ≤ X.length) : tmAt En.tm X i ≤ tmAt En.tm X j := h.ni.coh.mono i j hij hj
theorem OkN.tm_le (h : OkN C0 g n x X) {i : Nat} (hi : i ≤ X.length) : (tmAt En.tm X i : Int) ≤ x.term := by
 have h1 := h.tm_mono hi nL
 have h2 := h.ni.last
 have h3 := h.t0
 unfold lastTX at h2
 simp only [NodeS.nd] at h2
 omega
theorem OkN.termE_ (h : OkN C0 g n x X) (hok : LogOk x.ix x.tm x.es) {i t : Int} (ht : termE x.ix x.tm x.es i = some t) : 0 ≤ t ∧ tmAt En.tm X i.toNat = t.toNat ∧ i.toNat ≤ X.length ∧ 0 ≤ i ∧ t ≤ x.term := by
 have hl := termE_le ht
 have hn := h.nums hok
 have hx := hok.lo
 have key : 0 ≤ t ∧ tmAt En.tm X i.toNat = t.toNat := by
  unfold termE at ht
  split at ht
  ·rename_i e
   injection ht with ht
   subst ht
   exact ⟨hok.tmlo, h.term_base (by omega)⟩
  ·rename_i hne
   rw [if_pos (by omega)] at ht
   cases he : x.es[(i - x.ix - 1).toNat]? with
   | none => rw [he] at ht; cases ht
   | some e =>
    rw [he] at ht
    injection ht with ht
    subst ht
    exact ⟨(hok.tms e (List.mem_of_getElem? he)).1, h.term_at hok he (by omega)⟩
 have hil : i.toNat ≤ X.length := by have := hn.last; omega
 have := h.tm_le hil
 exact ⟨key.1, key.2, hil, by omega, by have := key.1; have := key.2; omega⟩
theorem OkN.fol (h : OkN C0 g n x X) (hok : LogOk x.ix x.tm x.es) (hd : ∀ e ∈ x.es, e.d.length ≤ 900) {j : Nat} {t : Int} (ht : termE x.ix x.tm x.es (x.ix + j) = some t) (m : Nat) : FolOk (x.ix + j) t ((x.es.drop j).take m) := by
 intro k e he
 have hx := hok.lo
 have hn := h.nums hok
 have he' : x.es[j + k]? = some e := by
  rw [List.getElem?_take] at he
  split at he
  ·rwa [List.getElem?_drop] at he
  ·cases he
 have hkm : k < m := by
  rw [List.getElem?_take] at he
  split at he
  ·assumption
  ·cases he
 have hkl := (List.getElem?_eq_some_iff.1 he').1
 have h1 := hok.ixs _ e he'
 have h2 := hok.tms e (List.mem_of_getElem? he')
 refine ⟨by omega, ?_, h2.2, hd e (List.mem_of_getElem? he')⟩
 have ht1 := h.term_at hok he' (i := x.ix.toNat + (j + k) + 1) (by omega)
 rcases k with _ | k
 ·have h4 := h.termE_ hok ht
  have h5 := h.tm_mono (i := (x.ix + j).toNat) (j := x.ix.toNat + (j + 0) + 1) (by omega) (by have := hn.last; omega)
  rw [h4.2.1, ht1] at h5
  simp only [List.take_zero]
  have : lT t ([] : List Ent) = t := rfl
  rw [this]
  omega
 ·obtain ⟨e2, he2⟩ : ∃ e2, x.es[j + k]? = some e2 := ⟨x.es[j + k]'(by omega), by simp⟩
  have h3 : ((x.es.drop j).take m)[k]? = some e2 := by
   rw [List.getElem?_take, if_pos (by omega), List.getElem?_drop]
   exact he2
  rw [lastTm_take h3]
  have ht2 := h.term_at hok he2 (i := x.ix.toNat + (j + k) + 1) (by omega)
  have h5 := h.tm_mono (i := x.ix.toNat + (j + k) + 1) (j := x.ix.toNat + (j + (k + 1)) + 1) (by omega) (by have := hn.last; omega)
  rw [ht2, ht1] at h5
  have := hok.tms e2 (List.mem_of_getElem? he2)
  omega
end
theorem from_all (w : World) (t : Nat) (r : Option Nat) (ix tm : Int) (es : List Ent) (h : LogAt w t r ix tm es) (ok : LogOk ix tm es) (hd : ∀ e ∈ es, e.d.length ≤ 900) (hn : es.length ≤ 1024) (j : Nat) (hj : j ≤ es.length) (i : Int) (hi : i = ix + (j : Int) + 1) (most : Nat) (hm : most ≤ 9223372036854775807) :
  Calls Tryz.prog 27 #[.pointer (some ⟨t, 0, none⟩), .int .u64 i, .int .i64 most] w (FromR w ((es.drop j).take most)) := by
 by_cases hl : j < es.length
 ·exact from_any w t r ix tm es h ok hd hn j hl i hi most hm
 ·obtain rfl : j = es.length := by omega
  have := from_end w t r ix tm es h ok i hi most hm
  rwa [List.drop_length, List.take_nil]
def SendsTo (C0 : List Int) (g : Gh En) (n : Nat) (w : World) (M F : Nat → Prop) (p : Nat) (x : NodeS) (e : Ending) (w' : World) : Prop :=
 e = .returned (.tuple #[]) ∧ ∃ v m, NodTo w M F w' p { x with ov := v, out := x.out ++ [m] } ∧ OkM C0 g n m
end
section
open Go.RowKit Go.Maps Go.ChangeMaps
theorem aset_newR {α β : Type} [DecidableEq α] (a : α) (b : β) : ∀ l : List (α × β), aget a l = none → aset a b l = l ++ [(a, b)]
 | [], _ => rfl
 | (x, c) :: r, h => by
  by_cases e : x = a
  ·simp [aget, e] at h
  ·rw [aget, if_neg e] at h
   rw [aset, if_neg e, aset_newR a b r h, List.cons_append]
def BalNewP (w : World) (M : Nat → Prop) (mem : List Int) (e : Ending) (w' : World) : Prop :=
 ∃ v T, e = .returned v ∧ Below w.heap.size w w' ∧ (∀ k, T k → w.heap.size ≤ k ∧ k < w'.heap.size) ∧ BalP w' (fun k => M k ∨ T k) T v (some (mem, []))
theorem rballot_new (w : World) (M : Nat → Prop) (hM : ∀ k, M k → k < w.heap.size) (a : Option Addr) (n cap : Nat) (mem : List Int) (hs : Sl intv w (.slice a n cap) mem) (hb : mB mem = true) : Calls Tryz.prog 90 #[.slice a n cap] w (BalNewP w M mem) := by
 have hcl := clone_anyI w a n cap mem hs (by have := (mL hb).2.1; omega)
 have HM := hI hM
 have HB := hI hb
 clear hs hM hb
 have hmm := @run_makeMap Tryz.prog
 go_enter Tryz.func90, Tryz.ntmps90
 go_wp2_with fail
 refine hcl.mono ?_
 rintro e w1 ⟨v, rfl, hb1, hs1, ho1, hn1⟩
 obtain ⟨va, vc, rfl, _⟩ := _root_.id hs1
 have HB1 := hI hb1
 have HS1 := hI hs1
 have HN1 := hI hn1
 clear hcl hb1 hs1 ho1 hn1
 go_wp2_with fail
 go_ret
 have hz := HB1.out.size
 have hlt := HS1.out.row_lt
 have hb2 : Below w.heap.size w (w1.alloc (.map #[] 0)) := HB1.out.alloc hz _
 have e1 : (w1.alloc (.map #[] 0)).heap.size = w1.heap.size + 1 := by simp
 refine ⟨_, fun k => k = w1.heap.size ∨ k = w1.heap.size + 1, rfl, hb2.alloc hb2.size _, fun k hk => by simp; omega, w1.heap.size + 1, w1.heap.size, va, vc, rfl, ?_, (HS1.out.alloc _).alloc _, fun k hk e => ?_, (MapOf.made _ _ _ _ w1).alloc _, .inr rfl, .inl rfl, HB.out, fun x hx => by simp [keys] at hx⟩
 ·rw [← e1]
  exact bW _ _
 ·have h1 := HN1.out k hk
  have h2 := hlt k hk
  rcases e with e | e
  ·have := HM.out k e; omega
  ·omega
section
variable (w : World) (M S : Nat → Prop) (v : Value) (mem : List Int) (l : List (Int × Bool)) (h : BalP w M S v (some (mem, l)))
include h
theorem rballot_right : Calls Tryz.prog 92 #[v] w (RetB (.bool true) w) := by
 obtain ⟨b, m, a, cap, rfl, hbx, hsl, _, _, _, _, hmb, _⟩ := h
 have hr := right_any w a mem.length cap mem hsl
 rw [hmb] at hr
 have c0 : w.cell? ⟨b, 0, none⟩ = some (.slice a mem.length cap) := bC hbx 0 rfl
 have lt := heap_lt hbx
 clear hbx hsl hmb
 go_enter Tryz.func92, Tryz.ntmps92
 go_wp2_with fail
 refine hr.mono ?_
 rintro e w1 ⟨rfl, hb1⟩
 have HB1 := hI hb1
 clear hr hb1
 go_wp2_with fail
 go_ret
 exact RetB.mk rfl HB1.out
def voteF (mem : List Int) (l : List (Int × Bool)) (x : Int) (yes : Bool) : List (Int × Bool) := if x ∈ mem ∧ aget x l = none then l ++ [(x, yes)] else l
def VotedP (w : World) (M S : Nat → Prop) (v : Value) (mem : List Int) (l : List (Int × Bool)) (e : Ending) (w' : World) : Prop := (∃ b : Bool, e = .returned (.bool b)) ∧ BalP w' M S v (some (mem, l)) ∧ Keeps S w w'
set_option maxRecDepth 100000 in
theorem rballot_vote (hSM : ∀ k, S k → M k) (x : Int) (h1 : 1 ≤ x) (h7 : x ≤ 7) (yes : Bool) : Calls Tryz.prog 67 #[v, .int .i64 x, .bool yes] w (VotedP w M S v mem (voteF mem l x yes)) := by
 have hr := rballot_right w M S v mem l h
 have H := hI h
 have HSM := hI hSM
 have hwf := id_wf h1 h7
 obtain ⟨b, m, a, cap, rfl, _⟩ := h
 clear hSM
 go_enter Tryz.func67, Tryz.ntmps67
 go_wp2_with fail
 refine hr.mono ?_
 clear hr
 rintro e w1 ⟨rfl, hb1⟩
 have H1 := hI (H.out.mv (Mv.below M hb1) (Keeps.of_belowS (S := fun _ => False) hb1) fun _ _ h => h)
 have HB1 := hI hb1
 obtain ⟨b', m', a, cap, hv, hbx, hsl, him, hmp, hSb, hSm, hmb, hkl⟩ := id H1.out
 obtain ⟨rfl⟩ : b = b' := by injection hv with e; injection e with e; injection e
 have c0 : w1.cell? ⟨b, 0, none⟩ = some (.slice a mem.length cap) := bC hbx 0 rfl
 have c1 : w1.cell? ⟨b, 1, none⟩ = some (.map (some m')) := bC hbx 1 rfl
 have lt := heap_lt hbx
 have hh := has_any w1 a mem.length cap mem hsl x
 have HMP := hI hmp
 have HX := hI (show S b ∧ S m' ∧ mB mem = true ∧ (∀ x ∈ keys l, x ∈ mem) ∧ w1.heap[b]? = some (.cells #[.slice a mem.length cap, .map (some m')] 130 (0, 0)) ∧ Sl intv w1 (.slice a mem.length cap) mem ∧ im M (.slice a mem.length cap) from ⟨hSb, hSm, hmb, hkl, hbx, hsl, him⟩)
 clear hb1 hv hbx hsl him hmp hSb hSm hmb hkl
 by_cases hm : x ∈ mem
 rotate_left
 ·have hd : decide (x ∈ mem) = false := by simpa using hm
  rw [hd] at hh
  have HN : Hid (voteF mem l x yes = l) := hI (by unfold voteF; rw [if_neg fun e => hm e.1])
  clear hm hd
  go_wp2_with fail
  refine hh.mono ?_
  rintro e w' ⟨rfl, rfl⟩
  go_wp2_with fail
  go_ret
  rw [HN.out]
  exact ⟨⟨_, rfl⟩, H1.out, Keeps.of_belowS HB1.out⟩
 have hd : decide (x ∈ mem) = true := by simpa using hm
 rw [hd] at hh
 have HMEM := hI hm
 clear hm hd
 cases hg : aget x l with
 | some y =>
  have hlk := HMP.out.run_lookup nkeyed keyN_inj Tryz.underlying128 (vzero w1) (nkey hwf) true
  rw [hg] at hlk
  have HN : Hid (voteF mem l x yes = l) := hI (by unfold voteF; rw [if_neg fun e => by rw [hg] at e; cases e.2])
  clear hg
  go_wp2_with fail
  refine hh.mono ?_
  rintro e w' ⟨rfl, rfl⟩
  unfold keyN votV at hlk
  go_wp2_with fail
  go_ret
  rw [HN.out]
  exact ⟨⟨_, rfl⟩, H1.out, Keeps.of_belowS HB1.out⟩
 | none =>
  have hlk := HMP.out.run_lookup nkeyed keyN_inj Tryz.underlying128 (vzero w1) (nkey hwf) true
  rw [hg] at hlk
  have HG := hI hg
  have HN : Hid (voteF mem l x yes = aset x yes l) := hI (by unfold voteF; rw [if_pos ⟨HMEM.out, hg⟩, aset_newR x yes l hg])
  clear hg
  go_wp2_with fail
  refine hh.mono ?_
  rintro e w' ⟨rfl, rfl⟩
  unfold keyN votV at hlk
  go_wp2_with (first | (refine wpList_map_update _ rfl _ _ _ _ rfl _ nkeyed keyN_inj Tryz.underlying128 m' l rfl HMP.out x _ rfl (nkey hwf) yes rfl ?_; intro ob hmap; have HM := hI hmap; clear hmap) | fail)
  go_ret
  have hk : Keeps (fun k => k = m') w1 (setBlock w1 m' ob) := (Keeps.refl (fun k => k = m') w1).setBlock (.inl rfl) ob
  obtain ⟨x1, x2, x3, x4, x5, x6, x7⟩ := HX.out
  have hne : b ≠ m' := fun e => by
   obtain ⟨_, _, hmm, _⟩ := HMP.out
   rw [← e, x5] at hmm
   cases hmm
  have hmv : Mv w1 M (setBlock w1 m' ob) M := Mv.keep hk fun k e => e ▸ HSM.out m' x2
  rw [HN.out]
  refine ⟨⟨_, rfl⟩, ⟨b, m', a, cap, rfl, hk.heap hne x5, hmv.sl x6 x7, x7, HM.out, x1, x2, x3, fun y hy => ?_⟩, (Keeps.of_belowS HB1.out).trans (hk.mono fun k _ e => e ▸ x2)⟩
  rw [keys_aset] at hy
  split at hy
  ·exact x4 y hy
  ·rcases List.mem_append.1 hy with hy | hy
   ·exact x4 y hy
   ·simp at hy; subst hy; exact HMEM.out
end
end
section
open Go.RowKit Go.Maps Go.ChangeMaps
def yesOfL (l : List (Int × Bool)) : List Int := (l.filter (·.2)).map (·.1)
def cntB (l : List (Int × Bool)) (b : Bool) (p : List Int) : Nat := p.countP fun k => decide (aget k l = some b)
theorem cntB_snoc (l : List (Int × Bool)) (b : Bool) (p : List Int) (x : Int) : cntB l b (p ++ [x]) = cntB l b p + if aget x l = some b then 1 else 0 := by
 unfold cntB
 rw [List.countP_append]
 simp [List.countP_cons]
theorem cntB_le (l : List (Int × Bool)) (b : Bool) (p : List Int) : cntB l b p ≤ p.length := List.countP_le_length
theorem cntB_keys : ∀ (l : List (Int × Bool)), (keys l).Nodup → cntB l true (keys l) = (yesOfL l).length
 | [], _ => rfl
 | (x, y) :: r, hn => by
  have hn' : x ∉ keys r ∧ (keys r).Nodup := by simpa [keys] using hn
  have ih := cntB_keys r hn'.2
  have e : cntB ((x, y) :: r) true (keys r) = cntB r true (keys r) := by
   unfold cntB
   refine List.countP_congr fun k hk => ?_
   have hne : x ≠ k := fun e => hn'.1 (e ▸ hk)
   simp only [aget, if_neg hne]
  have e2 : cntB ((x, y) :: r) true (keys ((x, y) :: r)) = (if y = true then 1 else 0) + cntB ((x, y) :: r) true (keys r) := by
   show cntB ((x, y) :: r) true (x :: keys r) = _
   unfold cntB
   rw [List.countP_cons]
   simp only [aget]
   cases y <;> simp <;> omega
  rw [e2, e, ih]
  unfold yesOfL
  cases y <;> simp [] <;> omega
section
variable (w : World) (M S : Nat → Prop) (v : Value) (mem : List Int) (l : List (Int × Bool)) (h : BalP w M S v (some (mem, l)))
include h
theorem bal_nodup : (keys l).Nodup := by
 obtain ⟨_, _, _, _, _, _, _, _, hmp, _⟩ := h
 obtain ⟨_, _, _, _, h, _⟩ := hmp
 exact h
theorem bal_len : l.length ≤ 7 := by
 have hn := bal_nodup w M S v mem l h
 obtain ⟨_, _, _, _, _, _, _, _, _, _, _, hmb, hk⟩ := h
 have := hn.length_le_of_subset hk
 have := (mL hmb).2.1
 simp only [keys, List.length_map] at *
 omega
def CountP (w : World) (l : List (Int × Bool)) (e : Ending) (w' : World) : Prop := Below w.heap.size w w' ∧ ∃ n : Nat, n ≤ 7 ∧ e = .returned (.tuple #[.int .i64 ((yesOfL l).length : Nat), .int .i64 n])
set_option maxRecDepth 100000 in
theorem rballot_count : Calls Tryz.prog 93 #[v] w (CountP w l) := by
 have hnd := bal_nodup w M S v mem l h
 have hl7 := bal_len w M S v mem l h
 have hck := cntB_keys l hnd
 obtain ⟨b, m, a, cap, rfl, hbx, _, _, hmp, _⟩ := h
 have c1 : w.cell? ⟨b, 1, none⟩ = some (.map (some m)) := bC hbx 1 rfl
 have lt := heap_lt hbx
 have HM := hI hmp
 have HND := hI hnd
 have HCK := hI hck
 clear hbx hmp hnd hck
 go_enter Tryz.func93, Tryz.ntmps93
 go_wp2_with (first | (refine wpList_map_range _ rfl _ _ rfl _ Tryz.underlying128 m l rfl HM.out ?_; intro ob hit; have HIT := hI hit; clear hit) | fail)
 generalize hw1 : w.alloc ob = W1 at *
 have HB1 : Hid (Below w.heap.size w W1) := hI (by rw [← hw1]; exact bR.alloc nL _)
 clear hw1 c1 HM lt
 go_simp
 go_loopw [2, 3] (fun x y wr => ∃ (c d : Nat) (p : List Int), x = .int .i64 c ∧ y = .int .i64 d ∧ c ≤ 7 ∧ d ≤ 7 ∧ Hid (c = cntB l true p ∧ d = cntB l false p ∧ MIter Tryz.prog 3 keyN votV wr m w.heap.size l p ∧ Below w.heap.size w wr ∧ p.Nodup ∧ (∀ y ∈ p, y ∈ keys l))) (fun _ _ wr => l.length - (wr.iterSeen w.heap.size).size)
 case atStart => exact ⟨0, 0, [], rfl, rfl, by omega, by omega, hI ⟨rfl, rfl, HIT.out, HB1.out, List.nodup_nil, by simp⟩⟩
 case round =>
  clear HIT HB1
  obtain ⟨c, d, p, rfl, rfl, hc7, hd7, HI⟩ := hrel
  go_wp2_with (first | (refine wpList_map_next _ rfl _ rfl keyN_inj m w.heap.size l p rfl HI.out.2.2.1 (fun hd => ?_) (fun key val w' hkv hkp hit' hkw hsz hen => ?_)) | fail)
  ·have hp := perm_keys HND.out HI.out.2.2.2.2.1 HI.out.2.2.2.2.2 hd
   have hc : c = (yesOfL l).length := by
    rw [HI.out.1, ← HCK.out]
    exact hp.countP_eq _
   have HB := hI HI.out.2.2.2.1
   subst hc
   clear hd hp HI
   go_wp2
   go_ret2
   exact ⟨HB.out, d, hd7, rfl⟩
  all_goals
   rename_i hv
   have hmem : key ∈ keys l := List.mem_map.2 ⟨_, hkv, rfl⟩
   have hnd2 : (p ++ [key]).Nodup := List.nodup_append.2 ⟨HI.out.2.2.2.2.1, by simp, by rintro x hx y hy rfl; simp at hy; subst hy; exact hkp hx⟩
   have hlt := left_lt hnd2 HI.out.2.2.2.2.2 hkv
   have hag : aget key l = some val := aget_of_mem HND.out hkv
   have hS := HI.out.2.2.1.seen
   have hS2 := hit'.seen
   have hcl1 := cntB_le l true (p ++ [key])
   have hcl2 := cntB_le l false (p ++ [key])
   have hpl : (p ++ [key]).length ≤ 7 := by simp; omega
   have HN : Hid (MIter Tryz.prog 3 keyN votV w' m w.heap.size l (p ++ [key]) ∧ Below w.heap.size w w' ∧ (p ++ [key]).Nodup ∧ (∀ y ∈ p ++ [key], y ∈ keys l)) := hI ⟨hit', HI.out.2.2.2.1.trans (hkw.below HI.out.2.2.2.1.size (fun k hk => by omega)), hnd2, fun y hy => by
     rcases List.mem_append.1 hy with hy | hy
     · exact HI.out.2.2.2.2.2 y hy
     · simp at hy; subst hy; exact hmem⟩
   have HC : Hid (cntB l true (p ++ [key]) = c + (if val = true then 1 else 0) ∧ cntB l false (p ++ [key]) = d + (if val = false then 1 else 0)) := hI (by
     rw [cntB_snoc, cntB_snoc, hag, ← HI.out.1, ← HI.out.2.1]
     cases val <;> simp)
   have HME : Hid (l.length - (w'.iterSeen w.heap.size).size < l.length - (wr.iterSeen w.heap.size).size) := hI (by rw [hS, hS2]; simp; omega)
   have HLE : Hid (cntB l true (p ++ [key]) ≤ 7 ∧ cntB l false (p ++ [key]) ≤ 7) := hI ⟨by omega, by omega⟩
   clear hkv hkp hit' hkw hsz hmem hnd2 hlt hag hS hS2 hcl1 hcl2 hpl HI
   clear hen
   subst hv
   go_roundw
   case rel =>
    have hc := HC.out
    have hl := HLE.out
    simp at hc
    first
     | exact ⟨c + 1, d, p ++ [key], by go_num, rfl, by omega, by omega, hI ⟨hc.1.symm, hc.2.symm, HN.out⟩⟩
     | exact ⟨c, d + 1, p ++ [key], rfl, by go_num, by omega, by omega, hI ⟨hc.1.symm, hc.2.symm, HN.out⟩⟩
   case measure => exact HME.out
def StateP (w : World) (mem : List Int) (l : List (Int × Bool)) (e : Ending) (w' : World) : Prop := Below w.heap.size w w' ∧ ∃ r : Int, e = .returned (.int .i64 r) ∧ (r = 0 ∨ r = 1 ∨ r = 2) ∧ (r = 1 → mem.length < 2 * (yesOfL l).length)
set_option maxRecDepth 100000 in
theorem rballot_state : Calls Tryz.prog 68 #[v] w (StateP w mem l) := by
 have hr := rballot_right w M S v mem l h
 have H := hI h
 obtain ⟨b, m, a, cap, rfl, _⟩ := h
 go_enter Tryz.func68, Tryz.ntmps68
 go_wp2_with fail
 refine hr.mono ?_
 clear hr
 rintro e w1 ⟨rfl, hb1⟩
 have H1 := hI (H.out.mv (Mv.below M hb1) (Keeps.of_belowS (S := fun _ => False) hb1) fun _ _ h => h)
 have hc := rballot_count w1 M S _ mem l H1.out
 have HB1 := hI hb1
 clear hb1
 go_wp2_with fail
 refine hc.mono ?_
 clear hc
 rintro e w2 ⟨hb2, n, hn7, rfl⟩
 have H2 := H1.out.mv (Mv.below M hb2) (Keeps.of_belowS (S := fun _ => False) hb2) fun _ _ h => h
 have HB2 := hI (HB1.out.trans (hb2.mono HB1.out.size))
 obtain ⟨b', m', a', cap', hv, hbx, hsl, _, _, _, _, hmb, _⟩ := id H2
 obtain ⟨rfl⟩ : b = b' := by injection hv with e; injection e with e; injection e
 have c0 : w2.cell? ⟨b, 0, none⟩ = some (.slice a' mem.length cap') := bC hbx 0 rfl
 have lt := heap_lt hbx
 have hml := mL hmb
 obtain ⟨ml, hmle⟩ : ∃ ml, ml = mem.length := ⟨_, rfl⟩
 obtain ⟨yl, hyl⟩ : ∃ yl, yl = (yesOfL l).length := ⟨_, rfl⟩
 have hmaj := majority_any w2 a' ml cap' (by omega)
 have hm7 : ml ≤ 7 := by omega
 have HMY := hI (And.intro hmle hyl)
 rw [← hmle] at c0
 rw [← hyl]
 clear hv hbx hsl hmb hml hb2 H2 hmle hyl
 go_wp2_with fail
 refine hmaj.mono ?_
 rintro e w' ⟨rfl, rfl⟩
 by_cases h1 : ml / 2 + 1 ≤ yl
 ·have z1 : ((ml / 2 + 1 : Nat) : Int) ≤ (yl : Int) := by omega
  go_wp2_with fail
  go_ret
  exact ⟨HB2.out, 1, rfl, by omega, fun _ => by rw [← HMY.out.1, ← HMY.out.2]; omega⟩
 ·have z1 : ¬ ((ml / 2 + 1 : Nat) : Int) ≤ (yl : Int) := by omega
  by_cases h2 : (ml : Int) - n < ((ml / 2 + 1 : Nat) : Int)
  ·go_wp2_with fail
   go_ret
   exact ⟨HB2.out, 2, rfl, by omega, fun e => by omega⟩
  ·go_wp2_with fail
   go_ret
   exact ⟨HB2.out, 0, rfl, by omega, fun e => by omega⟩
end
end
section
open Go.RowKit Go.Maps Go.ChangeMaps
section
variable {P : Program} {k : TypeId} {α β : Type} [DecidableEq α] {κ : α → Value} {φ : β → Value}
theorem MIter.run_delete {w : World} {b r : Nat} {m : List (α × β)} {p : List α} (h : MIter P k κ φ w b r m p) (K : Keyed P k) (inj : ∀ a b : α, κ a = κ b → a = b) {t e : TypeId} (ht : P.underlying t = some (.map k e))
  {key : α} {kl : Lit} (hkey : keyOf P k (κ key) = some kl) (ty : TypeId) :
  ∃ o, (Builtin.delete_ #[t, k] ty #[.map (some b), κ key]).run P w = .ok (.tuple #[]) (setBlock w b o) ∧ MIter P k κ φ (setBlock w b o) b r (adel key m) p := by
 have hne := h.ne
 have hK := fun es clock => h.map.keysK (es := es) (clock := clock)
 obtain ⟨es, clock, since, seen, c0, hb, hm, hn, hk, hbn, g1, g2, g3, g4, g5, g6⟩ := h
 have hsub := adel_sub (a := key) m
 have hkeys : ∀ p ∈ adel key m, ∃ x, keyOf P k (κ p.1) = some x := fun p hp => hk p (hsub.subset hp)
 have hnd : (keys (adel key m)).Nodup := (hsub.map _).nodup hn
 have hr : ∀ o, (setBlock w b o).heap[r]? = some (.mapIter (some b) since seen c0) := fun o => by
  rw [← g1]
  simp [setBlock, Ne.symm hne]
 rcases K.find w hkey es.toList (hK _ _ hb) with ⟨h1, h2⟩ | ⟨j, e0, h1, h2, h3⟩
 ·have hf := aget_none.1 (entries_find inj hm h2)
  refine ⟨.map es clock, ?_, es, clock, since, seen, c0, heap_setBlock_same hb _, ?_, hnd, hkeys, hbn, hr _, g2, g3, g4, g5, g6⟩
  ·simp [Builtin.delete_, run_underlying ht, MapKept.run_getObj_map hb, K.check w _ hkey, h1, MapKept.run_setObj_map _ hb, Result.andThen, setBlock]
  ·rw [adel_none hf, hm]
 ·obtain ⟨v, hv, he, _, hdel⟩ := entries_at inj hm hn h2 h3
  have hjs : j < es.size := by simpa using (List.getElem?_eq_some_iff.1 h2).1
  have hl : (es.eraseIdxIfInBounds j).toList = es.toList.eraseIdx j := by
   unfold Array.eraseIdxIfInBounds
   rw [dif_pos hjs]
   simp
  have hs : ∀ x ∈ (es.eraseIdxIfInBounds j).toList, x ∈ es.toList := fun x hx => by
   rw [hl] at hx
   exact (List.eraseIdx_sublist _ _).subset hx
  refine ⟨.map (es.eraseIdxIfInBounds j) clock, ?_, es.eraseIdxIfInBounds j, clock, since, seen, c0, heap_setBlock_same hb _, ?_, hnd, hkeys, hbn.sub (by rw [hl]; exact List.eraseIdx_sublist _ _), hr _, fun x hx => g2 x (hs x hx), g3, g4, fun x hx => g5 x (hs x hx), g6⟩
  ·simp [Builtin.delete_, run_underlying ht, MapKept.run_getObj_map hb, K.check w _ hkey, h1, MapKept.run_setObj_map _ hb, Result.andThen, setBlock]
  ·rw [hl]
   exact hdel
variable (w : World) {ops : Array Oper} {rest : List Oper} {o : Oper} {a : Act} {Q : Exit → Act → World → Prop}
theorem wpList_map_delete_it (hg : o.guard = none) (m x : Operand) (t : TypeId) (hop : o.op = Op.call { callee := Callee.builtin Builtin.delete, args := #[m, x], argTypes := #[t, k] }) (e : TypeId) (K : Keyed P k) (inj : ∀ a b : α, κ a = κ b → a = b) (ht : P.underlying t = some (.map k e))
  (b r : Nat) (l : List (α × β)) (p : List α) (hm : a.eval m = .map (some b)) (h : MIter P k κ φ w b r l p) (key : α) (kl : Lit) (hx : a.eval x = κ key) (hkey : keyOf P k (κ key) = some kl)
  (hK : ∀ ob, MIter P k κ φ (setBlock w b ob) b r (adel key l) p → wpList P ops Q rest (a.put o.dst (.tuple #[])) (setBlock w b ob)) : wpList P ops Q (o :: rest) a w := by
 refine wpList_plain hg fun K' hK' => ?_
 obtain ⟨ob, hrun, hM⟩ := h.run_delete K inj ht hkey o.type
 unfold Oper.wp
 simp [execOp, hop, hm, hx, resolve, invoke, builtin, hrun, Result.andThen]
 exact hK' _ _ (hK ob hM)
end
end
section
open Go.RowKit Go.Maps Go.ChangeMaps
def aboveF (x : Int) : Int := max x (IntKind.u64.wrap (x + 1))
theorem aboveF_lo {x : Int} (h : 0 ≤ x) : 0 ≤ aboveF x := by unfold aboveF; omega
theorem aboveF_hi {x : Int} (h : x ≤ 18446744073709551615) : aboveF x ≤ 18446744073709551615 := by
 unfold aboveF
 have : IntKind.u64.wrap (x + 1) < 18446744073709551616 := by rw [IntKind.wrap_u64]; omega
 omega
theorem aboveF_small {x : Int} (h0 : 0 ≤ x) (h : x ≤ 9223372036854775807) : aboveF x = x + 1 := by
 unfold aboveF
 rw [IntKind.wrap_u64]
 omega
theorem above_any_ (w : World) (x : Int) : Calls Tryz.prog 97 #[.int .u64 x] w (Ret (.int .u64 (aboveF x)) w) := by
 unfold aboveF
 obtain ⟨y, hy⟩ : ∃ y, IntKind.u64.wrap (x + 1) = y := ⟨_, rfl⟩
 rw [hy]
 by_cases hx : x ≤ y
 ·rw [show max x y = y by omega]
  go_enter Tryz.func97, Tryz.ntmps97
  go_wp2
  all_goals
   go_ret
   first
    | exact Ret.mk rfl
    | (have e : x = y := (by omega); rw [← e]; exact Ret.mk rfl)
    | (have e : x = y := (by omega); rw [e]; exact Ret.mk rfl)
 ·rw [show max x y = x by omega]
  go_enter Tryz.func97, Tryz.ntmps97
  go_wp2
  all_goals
   go_ret
   first
    | exact Ret.mk rfl
    | (have e : x = y := (by omega); rw [← e]; exact Ret.mk rfl)
    | (have e : x = y := (by omega); rw [e]; exact Ret.mk rfl)
theorem mfield0 (w : World) (a b : Int) : (Instr.field 137 (.agg #[.int .u64 a, .int .u64 b]) 0).run Tryz.prog w = .ok (.int .u64 a) w := by kernel_rfl
theorem mfield1 (w : World) (a b : Int) : (Instr.field 137 (.agg #[.int .u64 a, .int .u64 b]) 1).run Tryz.prog w = .ok (.int .u64 b) w := by kernel_rfl
def tget (o : Option (List (Int × (Int × Int)))) (x : Int) : Option (Int × Int) := o.bind fun l => aget x l
section
variable (w : World) (S : Nat → Prop) (v : Value) (o : Option (List (Int × (Int × Int)))) (h : TrkP w S v o) (x : Int) (h1 : 1 ≤ x) (h7 : x ≤ 7)
include h h1 h7
set_option maxRecDepth 100000 in
theorem rtrk_has : Calls Tryz.prog 71 #[v, .int .i64 x] w (RetB (.bool (tget o x).isSome) w) := by
 have hwf := id_wf h1 h7
 cases o with
 | none =>
  obtain rfl := h
  go_enter Tryz.func71, Tryz.ntmps71
  go_wp2
  go_ret
  exact RetB.mk rfl bR
 | some l =>
  obtain ⟨b, m, rfl, hbx, hmp, _⟩ := h
  have c0 : w.cell? ⟨b, 0, none⟩ = some (.map (some m)) := bC hbx 0 rfl
  have lt := heap_lt hbx
  have hlk := hmp.run_lookup nkeyed keyN_inj Tryz.underlying138 (mzero w) (nkey hwf) true
  unfold tget
  simp only [Option.bind_some]
  cases hg : aget x l with
  | none =>
   rw [hg] at hlk
   unfold keyN at hlk
   simp only [Option.map_none, Option.getD_none, Option.isSome_none, if_true] at hlk
   clear hbx hmp hg
   go_enter Tryz.func71, Tryz.ntmps71
   go_wp2
   go_ret
   exact RetB.mk rfl (bR.alloc nL _)
  | some y =>
   rw [hg] at hlk
   unfold keyN marV at hlk
   simp only [Option.map_some, Option.getD_some, Option.isSome_some, if_true] at hlk
   clear hbx hmp hg
   go_enter Tryz.func71, Tryz.ntmps71
   go_wp2
   go_ret
   exact RetB.mk rfl (bR.alloc nL _)
set_option maxRecDepth 100000 in
theorem rtrk_match : Calls Tryz.prog 100 #[v, .int .i64 x] w (Ret (.int .u64 (((tget o x).map (·.1)).getD 0)) w) := by
 have hwf := id_wf h1 h7
 cases o with
 | none =>
  obtain rfl := h
  go_enter Tryz.func100, Tryz.ntmps100
  go_wp2
  go_ret
  exact Ret.mk rfl
 | some l =>
  obtain ⟨b, m, rfl, hbx, hmp, _⟩ := h
  have c0 : w.cell? ⟨b, 0, none⟩ = some (.map (some m)) := bC hbx 0 rfl
  have lt := heap_lt hbx
  have hlk := hmp.run_lookup nkeyed keyN_inj Tryz.underlying138 (mzero w) (nkey hwf) false
  unfold tget
  simp only [Option.bind_some]
  have hf := mfield0 w
  cases hg : aget x l with
  | none =>
   rw [hg] at hlk
   unfold keyN at hlk
   have hlk' : (Instr.lookup 138 (.map (some m)) (.int .i64 x) false).run Tryz.prog w = .ok (.agg #[.int .u64 0, .int .u64 0]) w := hlk
   clear hbx hmp hg hlk
   go_enter Tryz.func100, Tryz.ntmps100
   go_wp2
   go_ret
   exact Ret.mk rfl
  | some y =>
   rw [hg] at hlk
   unfold keyN marV at hlk
   have hlk' : (Instr.lookup 138 (.map (some m)) (.int .i64 x) false).run Tryz.prog w = .ok (.agg #[.int .u64 y.1, .int .u64 y.2]) w := hlk
   clear hbx hmp hg hlk
   go_enter Tryz.func100, Tryz.ntmps100
   go_wp2
   go_ret
   exact Ret.mk rfl
set_option maxRecDepth 100000 in
theorem rtrk_next : Calls Tryz.prog 73 #[v, .int .i64 x] w (Ret (.int .u64 (((tget o x).map (·.2)).getD 0)) w) := by
 have hwf := id_wf h1 h7
 cases o with
 | none =>
  obtain rfl := h
  go_enter Tryz.func73, Tryz.ntmps73
  go_wp2
  go_ret
  exact Ret.mk rfl
 | some l =>
  obtain ⟨b, m, rfl, hbx, hmp, _⟩ := h
  have c0 : w.cell? ⟨b, 0, none⟩ = some (.map (some m)) := bC hbx 0 rfl
  have lt := heap_lt hbx
  have hlk := hmp.run_lookup nkeyed keyN_inj Tryz.underlying138 (mzero w) (nkey hwf) false
  unfold tget
  simp only [Option.bind_some]
  have hf := mfield1 w
  cases hg : aget x l with
  | none =>
   rw [hg] at hlk
   unfold keyN at hlk
   have hlk' : (Instr.lookup 138 (.map (some m)) (.int .i64 x) false).run Tryz.prog w = .ok (.agg #[.int .u64 0, .int .u64 0]) w := hlk
   clear hbx hmp hg hlk
   go_enter Tryz.func73, Tryz.ntmps73
   go_wp2
   go_ret
   exact Ret.mk rfl
  | some y =>
   rw [hg] at hlk
   unfold keyN marV at hlk
   have hlk' : (Instr.lookup 138 (.map (some m)) (.int .i64 x) false).run Tryz.prog w = .ok (.agg #[.int .u64 y.1, .int .u64 y.2]) w := hlk
   clear hbx hmp hg hlk
   go_enter Tryz.func73, Tryz.ntmps73
   go_wp2
   go_ret
   exact Ret.mk rfl
end
end
end Go.Proofs.YtdjooojpcepleaaGreat

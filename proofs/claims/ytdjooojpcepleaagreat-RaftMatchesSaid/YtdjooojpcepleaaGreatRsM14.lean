/- raft: others: all members but the node itself. -/
import Derived.Test.YtdjooojpcepleaaGreatRsM06
import Derived.Test.YtdjooojpcepleaaGreatRsM13

namespace Go.Proofs.YtdjooojpcepleaaGreat
open Go.RowKit Go.Sort
theorem setCells_keeps (b : Nat) : ∀ (vs : List Value) (o : Nat) (w : World), Keeps (fun k => k = b) w (w.setCells b o vs)
 | [], _, w => Keeps.refl _ w
 | v :: r, o, w => ((Keeps.refl (fun k => k = b) w).setCell (.inl rfl) v).trans (setCells_keeps b r (o + 1) _)
theorem zero_i64 (w : World) : (zeroValue 3).run Tryz.prog w = .ok (.int .i64 0) w := by kernel_rfl
structure DelI (l : List Int) (x : Int) (d : Array Int) (i j : Nat) : Prop where
 sz : d.size = l.length
 kept : ((l.take j).filter fun y => !(y == x)).length = i
 pre : ∀ k, k < i → d[k]! = ((l.take j).filter fun y => !(y == x)).getD k 0
 rest : ∀ k, j ≤ k → k < l.length → d[k]! = l.getD k 0
theorem DelI.skip {l : List Int} {x : Int} {d : Array Int} {i j : Nat} (h : DelI l x d i j) (hj : l[j]? = some x) : DelI l x d i (j + 1) := by
 obtain ⟨hlt, hx⟩ := List.getElem?_eq_some_iff.1 hj
 have e : (l.take (j + 1)).filter (fun y => !(y == x)) = (l.take j).filter fun y => !(y == x) := by
  rw [List.take_succ_eq_append_getElem hlt, List.filter_append, hx]
  simp
 exact ⟨h.sz, by rw [e]; exact h.kept, by rw [e]; exact h.pre, fun k hk => h.rest k (by omega)⟩
theorem DelI.keep {l : List Int} {x y : Int} {d : Array Int} {i j : Nat} (h : DelI l x d i j) (hj : l[j]? = some y) (hne : (y == x) = false) (hij : i < j) : DelI l x (d.setIfInBounds i y) (i + 1) (j + 1) := by
 obtain ⟨hlt, hx⟩ := List.getElem?_eq_some_iff.1 hj
 have e : (l.take (j + 1)).filter (fun y => !(y == x)) = (l.take j).filter (fun y => !(y == x)) ++ [y] := by
  rw [List.take_succ_eq_append_getElem hlt, List.filter_append, hx]
  simp [hne]
 have hs := h.sz
 refine ⟨by simp [hs], by rw [e, List.length_append, h.kept]; rfl, fun k hk => ?_, fun k hk hk2 => ?_⟩
 ·rw [e]
  by_cases hki : k = i
  ·subst hki
   rw [getElem!_set_same d k y (by omega), List.getD_eq_getElem?_getD, List.getElem?_append_right (by rw [h.kept]; omega), h.kept]
   simp
  ·rw [getElem!_set_other d i k y hki, h.pre k (by omega), List.getD_eq_getElem?_getD, List.getD_eq_getElem?_getD, List.getElem?_append_left (by rw [h.kept]; omega)]
 ·rw [getElem!_set_other d i k y (by omega)]
  exact h.rest k (by omega) hk2
theorem putRow_keepsI (w : World) (g : Nat) (d : Array Int) (n : Nat) : Keeps (fun k => k = g) w (Sort.ahead (putRow intv w g 0 d) n) := by
 refine ⟨rfl, rfl, rfl, ?_, fun k hk hn => ?_⟩
 ·simp [Sort.ahead, putRow, mapBlock]
 ·show (w.heap.modify g _)[k]? = _
  rw [Array.getElem?_modify, if_neg (fun e => hn e.symm)]
theorem othf_any (w : World) (bx p : Nat) (id y : Int) (h1 : w.cell? ⟨bx, 0, none⟩ = some (.pointer (some ⟨p, 0, none⟩))) (h2 : w.cell? ⟨p, 0, none⟩ = some (.int .i64 id)) :
  Calls Tryz.prog 88 #[.int .i64 y, .pointer (some ⟨bx, 0, none⟩)] w (Ret (.bool (y == id)) w) := by
 go_enter Tryz.func88, Tryz.ntmps88
 go_wp2
 go_ret
 exact Ret.mk rfl
theorem oindex_in (w : World) (bx p : Nat) (x : Int) (hp : w.cell? ⟨bx, 0, none⟩ = some (.pointer (some ⟨p, 0, none⟩))) (hq : w.cell? ⟨p, 0, none⟩ = some (.int .i64 x)) (a : Option Addr) (n cap : Nat) (l : List Int) (h : Sl intv w (.slice a n cap) l) (hin : x ∈ l) :
  Calls Tryz.prog 107 #[.slice a n cap, .func (Fn.func 88) #[] #[.pointer (some ⟨bx, 0, none⟩)]] w fun e w' => ∃ i : Nat, i < l.length ∧ l[i]? = some x ∧ x ∉ l.take i ∧ e = .returned (.int .i64 i) ∧ w = w' := by
 have HIN := hI hin
 have hcut := fun y => othf_any w bx p x y hp hq
 obtain ⟨a', cap', he, h1, h2, h3⟩ := h
 cases he
 unfold maxLen at h2
 have HLC := hI h1
 have hlm : l.length ≤ 9223372036854775807 := by omega
 clear h1 hp hq hin
 go_enter Tryz.func107, Tryz.ntmps107
 go_wp2
 go_loop [8] (fun i => ∃ k : Nat, k ≤ l.length ∧ i = .int .i64 k ∧ x ∉ l.take k) (fun i => l.length - (intOf i).toNat)
 case atStart => exact ⟨0, by omega, rfl, by simp⟩
 case round =>
  obtain ⟨k, hk, rfl, hm⟩ := hrel
  have HM := hI hm
  clear hm
  by_cases hlt : k < l.length
  ·rcases h3 with ⟨rfl, rfl⟩ | ⟨b, o, rfl, hb, hc⟩
   ·have := HLC.out; omega
   ·have hk0 : l[k]? = some l[k] := List.getElem?_eq_getElem hlt
    have hcell : w.cell? ⟨b, o + k, none⟩ = some (.int .i64 l[k]) := hc k _ hk0
    have HTK := hI (show l.take (k + 1) = l.take k ++ [l[k]] by rw [List.take_succ_eq_append_getElem hlt])
    have hcy := hcut l[k]
    generalize l[k] = y at *
    have HK0 := hI hk0
    clear hc hk0 hcut
    cases he : (y == x)
    ·rw [he] at hcy
     have HE := hI he
     clear he
     go_wp2_with (go_at_call 88; refine hcy.mono ?_; rintro e w' ⟨rfl, rfl⟩)
     go_round
     case rel =>
      refine ⟨k + 1, by omega, by go_num, ?_⟩
      rw [HTK.out, List.mem_append, not_or]
      refine ⟨HM.out, ?_⟩
      have : ¬ y = x := by simpa using HE.out
      simp
      exact fun e => this e.symm
     case measure => simp [intOf]; omega
    ·rw [he] at hcy
     have HE := hI he
     clear he
     go_wp2_with (go_at_call 88; refine hcy.mono ?_; rintro e w' ⟨rfl, rfl⟩)
     go_ret
     have : y = x := by simpa using HE.out
     exact ⟨k, hlt, by rw [HK0.out, this], HM.out, rfl, rfl⟩
  ·exfalso
   have := HM.out
   rw [List.take_of_length_le (by omega)] at this
   exact this HIN.out
set_option maxRecDepth 100000 in
theorem oindex_out (w : World) (bx p : Nat) (x : Int) (hp : w.cell? ⟨bx, 0, none⟩ = some (.pointer (some ⟨p, 0, none⟩))) (hq : w.cell? ⟨p, 0, none⟩ = some (.int .i64 x)) (a : Option Addr) (n cap : Nat) (l : List Int) (h : Sl intv w (.slice a n cap) l) (hin : x ∉ l) :
  Calls Tryz.prog 107 #[.slice a n cap, .func (Fn.func 88) #[] #[.pointer (some ⟨bx, 0, none⟩)]] w fun e w' => e = .returned (.int .i64 (-1)) ∧ w = w' := by
 have HIN := hI hin
 have hcut := fun y => othf_any w bx p x y hp hq
 obtain ⟨a', cap', he, h1, h2, h3⟩ := h
 cases he
 unfold maxLen at h2
 have HLC := hI h1
 have hlm : l.length ≤ 9223372036854775807 := by omega
 clear h1 hp hq hin
 go_enter Tryz.func107, Tryz.ntmps107
 go_wp2
 go_loop [8] (fun i => ∃ k : Nat, k ≤ l.length ∧ i = .int .i64 k ∧ x ∉ l.take k) (fun i => l.length - (intOf i).toNat)
 case atStart => exact ⟨0, by omega, rfl, by simp⟩
 case round =>
  obtain ⟨k, hk, rfl, hm⟩ := hrel
  have HM := hI hm
  clear hm
  by_cases hlt : k < l.length
  ·rcases h3 with ⟨rfl, rfl⟩ | ⟨b, o, rfl, hb, hc⟩
   ·have := HLC.out; omega
   ·have hk0 : l[k]? = some l[k] := List.getElem?_eq_getElem hlt
    have hcell : w.cell? ⟨b, o + k, none⟩ = some (.int .i64 l[k]) := hc k _ hk0
    have HTK := hI (show l.take (k + 1) = l.take k ++ [l[k]] by rw [List.take_succ_eq_append_getElem hlt])
    have hcy := hcut l[k]
    generalize l[k] = y at *
    have HK0 := hI hk0
    clear hc hk0 hcut
    cases he : (y == x)
    ·rw [he] at hcy
     have HE := hI he
     clear he
     go_wp2_with (go_at_call 88; refine hcy.mono ?_; rintro e w' ⟨rfl, rfl⟩)
     go_round
     case rel =>
      refine ⟨k + 1, by omega, by go_num, ?_⟩
      rw [HTK.out, List.mem_append, not_or]
      refine ⟨HM.out, ?_⟩
      have : ¬ y = x := by simpa using HE.out
      simp
      exact fun e => this e.symm
     case measure => simp [intOf]; omega
    ·rw [he] at hcy
     have HE := hI he
     clear he
     exfalso
     have : y = x := by simpa using HE.out
     exact HIN.out (this ▸ List.mem_of_getElem? HK0.out)
  ·obtain rfl : k = l.length := by omega
   clear hcut h3
   go_wp2_with fail
   go_ret
   exact ⟨rfl, rfl⟩
set_option maxRecDepth 100000 in
set_option maxHeartbeats 2000000 in
theorem odelete_in (w : World) (bx p : Nat) (x : Int) (hp : w.cell? ⟨bx, 0, none⟩ = some (.pointer (some ⟨p, 0, none⟩))) (hq : w.cell? ⟨p, 0, none⟩ = some (.int .i64 x)) (g cap : Nat) (hpg : bx ≠ g) (hpg2 : p ≠ g) (l : List Int) (hH : Holds intv w g 0 l.toArray) (hcap : l.length ≤ cap) (hcm : cap ≤ maxLen) (hl : l.length ≤ 1000) (hin : x ∈ l) (hg : g < w.heap.size) :
  Calls Tryz.prog 87 #[.slice (some ⟨g, 0, none⟩) l.length cap, .func (Fn.func 88) #[] #[.pointer (some ⟨bx, 0, none⟩)]] w
   fun e w' => e = .returned (.slice (some ⟨g, 0, none⟩) (l.filter fun y => !(y == x)).length cap) ∧ Keeps (fun k => k = g) w w' ∧ Sl intv w' (.slice (some ⟨g, 0, none⟩) (l.filter fun y => !(y == x)).length cap) (l.filter fun y => !(y == x)) := by
 have hsl : Sl intv w (.slice (some ⟨g, 0, none⟩) l.length cap) l := by
  refine ⟨_, cap, rfl, hcap, hcm, .inr ⟨g, 0, rfl, hg, fun i c hi => ?_⟩⟩
  obtain ⟨hi', he⟩ := List.getElem?_eq_some_iff.1 hi
  have := (hH i (by simpa using hi')).1
  rw [this, getElem!_pos l.toArray i (by simpa using hi')]
  simp [he]
 have hix := oindex_in w bx p x hp hq _ _ _ l hsl hin
 have HH := hI hH
 have HP := hI hp
 have HQ := hI hq
 have HC := hI hcap
 have HCM := hI hcm
 have hlenp : (l.filter fun y => !(y == x)).length < l.length :=
  List.length_filter_lt_length_iff_exists.2 ⟨x, hin, by simp⟩
 have HLP := hI hlenp
 clear hsl hH hp hq hin hcm hlenp
 go_enter Tryz.func87, Tryz.ntmps87
 go_wp2_with fail
 refine hix.mono ?_
 rintro e w' ⟨i0, hi0, hix0, hnot, rfl, rfl⟩
 have hd0 : DelI l x l.toArray i0 (i0 + 1) := by
  obtain ⟨hlt0, hx0⟩ := List.getElem?_eq_some_iff.1 hix0
  have ef : (l.take (i0 + 1)).filter (fun y => !(y == x)) = l.take i0 := by
   rw [List.take_succ_eq_append_getElem hlt0, List.filter_append, hx0]
   have h1 : (l.take i0).filter (fun y => !(y == x)) = l.take i0 := by
    rw [List.filter_eq_self]
    intro y hy
    have : y ≠ x := by rintro rfl; exact hnot hy
    simpa using this
   rw [h1]
   simp
  refine ⟨by simp, by rw [ef, List.length_take]; omega, fun k hk => ?_, fun k _ hk => ?_⟩
  ·rw [ef, getElem!_pos l.toArray k (by simp; omega), List.getD_eq_getElem?_getD, List.getElem?_take, if_pos hk, List.getElem?_eq_getElem (by omega)]
   simp
  ·rw [getElem!_pos l.toArray k (by simpa using hk), List.getD_eq_getElem?_getD, List.getElem?_eq_getElem hk]
   simp
 have HD0 := hI hd0
 have hi1 : ((i0 : Int) == -1) = false := by simp
 clear hix0 hnot hd0 hix
 go_wp2_with fail
 go_loopw [5, 6] (fun iv jv wr => ∃ (i j m : Nat) (d : Array Int), iv = .int .i64 i ∧ jv = .int .i64 j ∧ i < j ∧ j ≤ l.length ∧ wr = Sort.ahead (putRow intv w g 0 d) m ∧ DelI l x d i j) (fun _ jv _ => l.length - (intOf jv).toNat)
 case atStart => exact ⟨i0, i0 + 1, 0, l.toArray, rfl, by go_num, by omega, by omega, by rw [putRow_self intv w g 0 _ HH.out]; rfl, HD0.out⟩
 case round =>
  obtain ⟨i, j, m, d, rfl, rfl, hij, hj, hwr, hD⟩ := hrel
  have HD := hI hD
  have hh := holds_ahead intv _ m g 0 d (holds_putRow intv w g 0 l.toArray d HH.out (by rw [hD.sz]; simp))
  have hpc : wr.cell? ⟨bx, 0, none⟩ = some (.pointer (some ⟨p, 0, none⟩)) := by
   rw [hwr]
   exact (cell?_putRow_other intv w g 0 d ⟨bx, 0, none⟩ (.inl hpg)).trans HP.out
  have hqc : wr.cell? ⟨p, 0, none⟩ = some (.int .i64 x) := by
   rw [hwr]
   exact (cell?_putRow_other intv w g 0 d ⟨p, 0, none⟩ (.inl hpg2)).trans HQ.out
  rw [← hwr] at hh
  have HWR := hI hwr
  clear hwr
  by_cases hlt : j < l.length
  ·have hcell := (hh j (by rw [hD.sz]; exact hlt)).1
   have hfri := (hh i (by rw [hD.sz]; omega)).2
   have hcelli := (hh i (by rw [hD.sz]; omega)).1
   have hrest := hD.rest j nL hlt
   have hjx : l[j]? = some (d[j]!) := by rw [hrest, List.getD_eq_getElem?_getD, List.getElem?_eq_getElem hlt]; rfl
   rw [Nat.zero_add] at hcell hfri hcelli
   have HJX := hI hjx
   have hcy := othf_any wr bx p x (d[j]!) hpc hqc
   clear hrest hjx hD hh hpc hqc
   generalize d[j]! = y at *
   generalize d[i]! = z at *
   unfold intv at hcell hcelli
   cases he : (y == x)
   ·rw [he] at hcy
    have HE := hI he
    clear he
    go_wp2_with (go_at_call 88; refine hcy.mono ?_; rintro e w' ⟨rfl, rfl⟩)
    go_roundw
    case rel =>
     refine ⟨i + 1, j + 1, m, d.setIfInBounds i y, by go_num, by go_num, by omega, by omega, ?_, HD.out.keep HJX.out HE.out hij⟩
     have hsw := putRow_set intv w g 0 d i y (by rw [HD.out.sz]; omega)
     rw [Nat.zero_add] at hsw
     rw [HWR.out, setCell_ahead, ← hsw]
     rfl
    case measure => simp [intOf]; omega
   ·rw [he] at hcy
    have HE := hI he
    clear he
    go_wp2_with (go_at_call 88; refine hcy.mono ?_; rintro e w' ⟨rfl, rfl⟩)
    go_roundw
    case rel =>
     have : y = x := by simpa using HE.out
     exact ⟨i, j + 1, m, d, rfl, by go_num, by omega, by omega, HWR.out, HD.out.skip (by rw [HJX.out, this])⟩
    case measure => simp [intOf]; omega
  ·obtain rfl : j = l.length := by omega
   have hki := hD.kept
   rw [List.take_length] at hki
   have hfri : ∀ k, k < l.length - i → wr.frozen? ⟨g, i + k, none⟩ = false := fun k hk => by have := (hh (i + k) (by rw [hD.sz]; omega)).2; rwa [Nat.zero_add] at this
   have hcell : ∀ k, k < l.length - i → (wr.cell? ⟨g, i + k, none⟩).isSome = true := fun k hk => by have := (hh (i + k) (by rw [hD.sz]; omega)).1; rw [Nat.zero_add] at this; rw [this]; rfl
   have hclr := fun ty => Lib.run_clear_slice (P := Tryz.prog) wr 37 3 ty (.int .i64 0) Tryz.underlying37 zero_i64 rfl rfl g i (l.length - i) (cap - i) (by omega) hcell hfri
   have hcne : ¬ cap = i := by omega
   have HHH := hI hh
   have HKI := hI hki
   clear hh hki hD hpc hqc hfri hcell
   go_wp2
   go_ret
   refine ⟨by rw [HKI.out]; rfl, ?_, ?_⟩
   ·rw [HWR.out]
    exact (putRow_keepsI w g d m).trans (setCells_keeps g _ i _)
   ·rw [HKI.out]
    have hci := HCM.out
    refine ⟨_, cap, by rw [HKI.out], by rw [HKI.out]; omega, hci, .inr ⟨g, 0, rfl, ?_, fun k c hk => ?_⟩⟩
    ·have := ((putRow_keepsI w g d m).trans (setCells_keeps g (List.replicate (l.length - i) (.int .i64 0)) i _)).size
     rw [HWR.out]
     exact Nat.lt_of_lt_of_le hg this
    ·obtain ⟨hk1, hk2⟩ := List.getElem?_eq_some_iff.1 hk
     rw [HKI.out] at hk1
     rw [Nat.zero_add, World.cell?_setCells_out g _ i wr ⟨g, k, none⟩ (fun _ _ => .inl hk1)]
     have := (HHH.out k (by rw [HD.out.sz]; omega)).1
     rw [Nat.zero_add] at this
     rw [this, HD.out.pre k hk1, List.take_length, List.getD_eq_getElem?_getD, hk]
     rfl
set_option maxRecDepth 100000 in
theorem odelete_out (w : World) (bx p : Nat) (x : Int) (hp : w.cell? ⟨bx, 0, none⟩ = some (.pointer (some ⟨p, 0, none⟩))) (hq : w.cell? ⟨p, 0, none⟩ = some (.int .i64 x)) (a : Option Addr) (n cap : Nat) (l : List Int) (h : Sl intv w (.slice a n cap) l) (hin : x ∉ l) :
  Calls Tryz.prog 87 #[.slice a n cap, .func (Fn.func 88) #[] #[.pointer (some ⟨bx, 0, none⟩)]] w fun e w' => e = .returned (.slice a n cap) ∧ w = w' := by
 have hix := oindex_out w bx p x hp hq a n cap l h hin
 clear h hin hp hq
 go_enter Tryz.func87, Tryz.ntmps87
 go_wp2_with fail
 refine hix.mono ?_
 rintro e w' ⟨rfl, rfl⟩
 go_wp2_with fail
 go_ret
 exact ⟨rfl, rfl⟩
def NewL (w : World) (l : List Int) (e : Ending) (w' : World) : Prop :=
 ∃ a cap, e = .returned (.slice a l.length cap) ∧ Below w.heap.size w w' ∧ Sl intv w' (.slice a l.length cap) l ∧ ∀ k, (Value.slice a l.length cap).ownBlock = some k → w.heap.size ≤ k
def NodeS.memb (x : NodeS) : List Int := ((ofD x.es x.es.length).map (·.1)).getD x.mem
def NodeS.oth (x : NodeS) : List Int := x.memb.filter fun y => !(y == x.id)
def atOf (ix : Int) : Option (List Int × Nat) → Int
 | some (_, k) => ix + k
 | none => 0
theorem OfN.all {ix : Int} {o : Option (List Int × Nat)} {base : List Int} {w w' : World} {e : Ending} (h : OfN ix o base w e w') :
  ∃ a cap, e = .returned (.tuple #[.slice a ((o.map (·.1)).getD base).length cap, .int .u64 (atOf ix o)]) ∧ OwnI w w' a cap ((o.map (·.1)).getD base) := by
 cases o with
 | none => exact h
 | some y => exact h
theorem members_node (w : World) (M F : Nat → Prop) (p : Nat) (x : NodeS) (h : NodeAt w M F p x) (hm : x.mem.length ≤ 1000) : Calls Tryz.prog 31 #[.pointer (some ⟨p, 0, none⟩)] w fun e w' => ∃ a cap, e = .returned (.slice a x.memb.length cap) ∧ OwnI w w' a cap x.memb := by
 have H := hI h
 obtain ⟨S, hn⟩ := h
 have hls := last_any w x.lg x.r x.ix x.tm x.es hn.log hn.ok
 obtain ⟨a, cap, himv, hs⟩ : ∃ a cap, x.imv = .slice a x.mem.length cap ∧ Sl intv w (.slice a x.mem.length cap) x.mem := by
  obtain ⟨a, cap, h1, _⟩ := id hn.mem
  exact ⟨a, cap, h1, h1 ▸ hn.mem⟩
 have HIM := hI himv
 have HOF := hI (fun W (hW : Below w.heap.size w W) => of_new W x.lg x.r x.ix x.tm x.es (hn.log.below hW) hn.ok hn.dl a cap x.mem (hs.below hW hs.row_lt) hm (x.ix + x.es.length) (by have := hn.ok.lo; omega))
 have e0 : (min (x.ix + (x.es.length : Int)) (x.ix + x.es.length) - x.ix).toNat = x.es.length := by omega
 rw [e0] at HOF
 have c9 := H.out.cell 9 rfl
 generalize lT x.tm x.es = lt at *
 obtain ⟨li, hli⟩ : ∃ li, li = x.ix + (x.es.length : Int) := ⟨_, rfl⟩
 rw [← hli] at HOF hls
 obtain ⟨o, ho⟩ : ∃ o, o = ofD x.es x.es.length := ⟨_, rfl⟩
 rw [← ho] at HOF
 have HMB : Hid ((o.map (·.1)).getD x.mem = x.memb) := hI (by rw [ho]; rfl)
 clear hn hs himv e0 hli ho
 go_enter Tryz.func31, Tryz.ntmps31
 go_wp2_with fail
 refine hls.mono ?_
 rintro e w1 ⟨rfl, hb1⟩
 have HB1 := hI hb1
 have H1 := hI (H.out.below hb1)
 have d9 : w1.cell? ⟨p, 9, none⟩ = some (.pointer (some ⟨x.lg, 0, none⟩)) := H1.out.cell 9 rfl
 have d12 : w1.cell? ⟨p, 12, none⟩ = some (.slice a x.mem.length cap) := by rw [← HIM.out]; exact H1.out.cell 12 rfl
 clear hb1 c9 hls
 go_wp2_with fail
 go_region_held3 (fun w' => w'.cell? ⟨p, 9, none⟩ = some (.pointer (some ⟨x.lg, 0, none⟩)) ∧ w'.cell? ⟨p, 12, none⟩ = some (.slice a x.mem.length cap)) (first | exact ⟨d9, d12⟩ | exact ⟨f9, f12⟩)
  (first | (go_at_call 51; refine (HOF.out _ (bD HB1.out)).mono ?_; rintro e w2 hof; obtain ⟨a2, cap2, rfl, hn2⟩ := hof.all; clear hof; have HN2 := hI hn2; have f9 : w2.cell? ⟨p, 9, none⟩ = some (.pointer (some ⟨x.lg, 0, none⟩)) := ((H1.out.below (bD (Below.refl _ w1))).below HN2.out.bel).cell 9 rfl; have f12 : w2.cell? ⟨p, 12, none⟩ = some (.slice a x.mem.length cap) := by rw [← HIM.out]; exact ((H1.out.below (bD (Below.refl _ w1))).below HN2.out.bel).cell 12 rfl))
 go_wp2_with fail
 go_ret
 have hz := HB1.out.size
 rw [HMB.out] at HN2 ⊢
 exact ⟨a2, cap2, rfl, HN2.out.behind ((bD HB1.out).trans (HN2.out.bel.mono hz)) hz⟩
theorem others_node (w : World) (M F : Nat → Prop) (p : Nat) (x : NodeS) (h : NodeAt w M F p x) (hm : x.mem.length ≤ 1000) (hml : x.memb.length ≤ 1000) : Calls Tryz.prog 57 #[.pointer (some ⟨p, 0, none⟩)] w (NewL w x.oth) := by
 have hb0 : Below w.heap.size w (w.alloc (.cells #[.pointer (some ⟨p, 0, none⟩)] 44)) := bR.alloc nL _
 have HM := hI (members_node _ M F p x (h.below hb0) hm)
 have H := hI h
 have HB0 := hI hb0
 have HML := hI hml
 have hpl := h.plt
 clear h hm hml hb0
 go_enter Tryz.func57, Tryz.ntmps57
 go_wp2_with fail
 refine HM.out.mono ?_
 rintro e w2 ⟨a, cap, rfl, hn⟩
 have hb2 : Below w.heap.size w w2 := HB0.out.trans (hn.bel.mono (by simp))
 have b0 : w2.cell? ⟨w.heap.size, 0, none⟩ = some (.pointer (some ⟨p, 0, none⟩)) := bC (bH hn.bel (bW _ _) (by simp)) 0 rfl
 have p0 : w2.cell? ⟨p, 0, none⟩ = some (.int .i64 x.id) := (H.out.below hb2).cell 0 rfl
 have HN := hI hn
 have HB2 := hI hb2
 have hnw : ∀ k, (Value.slice a x.memb.length cap).ownBlock = some k → w.heap.size < k := fun k hk => by have := hn.new k hk; simp at this; omega
 have HNW := hI hnw
 clear hn hb2 hnw
 by_cases hin : x.id ∈ x.memb
 ·have h0 : 0 < x.memb.length := List.length_pos_of_mem hin
  obtain ⟨g, rfl, hH, hc, hcm, hg⟩ := HN.out.row h0
  have hgn := HNW.out g rfl
  have HD := hI (odelete_in w2 w.heap.size p x.id b0 p0 g cap (by omega) (by omega) x.memb hH hc hcm HML.out hin hg)
  clear hH hin b0 p0 hc hcm hg
  go_wp2_with fail
  refine HD.out.mono ?_
  rintro e w3 ⟨rfl, hk3, hs3⟩
  have HK3 := hI hk3
  have HS3 := hI hs3
  clear hk3 hs3 HD
  go_wp2_with fail
  go_ret
  exact ⟨_, cap, rfl, HB2.out.trans (HK3.out.below HB2.out.size fun k hk => hk ▸ Nat.le_of_lt hgn), HS3.out, fun k hk => by cases hk; exact Nat.le_of_lt hgn⟩
 ·have HO : Hid (x.oth = x.memb) := hI (by
    unfold NodeS.oth
    rw [List.filter_eq_self]
    intro y hy
    have : y ≠ x.id := by rintro rfl; exact hin hy
    simpa using this)
  have HD := hI (odelete_out w2 w.heap.size p x.id b0 p0 _ _ cap x.memb HN.out.sl hin)
  clear hin b0 p0
  go_wp2_with fail
  refine HD.out.mono ?_
  rintro e w3 ⟨rfl, rfl⟩
  clear HD
  go_wp2_with fail
  go_ret
  rw [HO.out]
  exact ⟨a, cap, rfl, HB2.out, HN.out.sl, fun k hk => Nat.le_of_lt (HNW.out k hk)⟩
end Go.Proofs.YtdjooojpcepleaaGreat

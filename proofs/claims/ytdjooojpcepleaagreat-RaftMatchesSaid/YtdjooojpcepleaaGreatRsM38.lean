/- Package raft, a node alone: there are no others. -/
import Derived.Test.YtdjooojpcepleaaGreatRsM37
import Derived.Test.YtdjooojpcepleaaGreatRsM06

namespace Go.Proofs.YtdjooojpcepleaaGreat.L8
open Go.RowKit Go.Sort
theorem setCells_keepsC (b : Nat) : ∀ (vs : List Value) (o : Nat) (w : World), Keeps (fun k => k = b) w (w.setCells b o vs)
 | [], _, w => Keeps.refl _ w
 | v :: r, o, w => ((Keeps.refl (fun k => k = b) w).setCell (.inl rfl) v).trans (setCells_keepsC b r (o + 1) _)
theorem zero_i64C (w : World) : (zeroValue 3).run Tryz.prog w = .ok (.int .i64 0) w := by kernel_rfl
theorem others1_any (w : World) (bx p : Nat) (id y : Int) (h1 : w.cell? ⟨bx, 0, none⟩ = some (.pointer (some ⟨p, 0, none⟩))) (h2 : w.cell? ⟨p, 0, none⟩ = some (.int .i64 id)) :
  Calls Tryz.prog 88 #[.int .i64 y, .pointer (some ⟨bx, 0, none⟩)] w (Ret (.bool (y == id)) w) := by
 go_enter Tryz.func88, Tryz.ntmps88
 go_wp2
 go_ret
 exact Ret.mk rfl
section
variable (w : World) (bx p g cap : Nat) (id : Int) (h1 : w.cell? ⟨bx, 0, none⟩ = some (.pointer (some ⟨p, 0, none⟩))) (h2 : w.cell? ⟨p, 0, none⟩ = some (.int .i64 id)) (hg : w.cell? ⟨g, 0, none⟩ = some (.int .i64 id))
include h1 h2 hg
theorem index_lone : Calls Tryz.prog 107 #[.slice (some ⟨g, 0, none⟩) 1 cap, .func (Fn.func 88) #[] #[.pointer (some ⟨bx, 0, none⟩)]] w (Ret (.int .i64 0) w) := by
 have ho := others1_any w bx p id id h1 h2
 have he : (id == id) = true := by simp
 rw [he] at ho
 clear h1 h2 he
 go_enter Tryz.func107, Tryz.ntmps107
 go_wp2
 go_loop [8] (fun i => i = .int .i64 0) (fun _ => 0)
 case atStart => rfl
 case round =>
  obtain rfl := hrel
  go_wp2_with (go_at_call 88; refine ho.mono ?_; rintro e w' ⟨rfl, rfl⟩)
  go_ret
  exact Ret.mk rfl
set_option maxHeartbeats 800000 in
theorem delete_lone (hf : w.frozen? ⟨g, 0, none⟩ = false) (hcap : 1 ≤ cap) (hcm : cap ≤ 9223372036854775807) : Calls Tryz.prog 87 #[.slice (some ⟨g, 0, none⟩) 1 cap, .func (Fn.func 88) #[] #[.pointer (some ⟨bx, 0, none⟩)]] w
  fun e w' => e = .returned (.slice (some ⟨g, 0, none⟩) 0 cap) ∧ Keeps (fun k => k = g) w w' := by
 have hix := index_lone w bx p g cap id h1 h2 hg
 have q1 : ∀ j, j < 1 → (w.cell? ⟨g, 0 + j, none⟩).isSome = true := fun j hj => by
  obtain rfl : j = 0 := by omega
  rw [hg]; rfl
 have q2 : ∀ j, j < 1 → w.frozen? ⟨g, 0 + j, none⟩ = false := fun j hj => by
  obtain rfl : j = 0 := by omega
  exact hf
 have hclr := fun ty => Lib.run_clear_slice (P := Tryz.prog) w 37 3 ty (.int .i64 0) Tryz.underlying37 zero_i64C rfl rfl g 0 1 cap (by omega) q1 q2
 have HK := hI (setCells_keepsC g (List.replicate 1 (.int .i64 0)) 0 w)
 have hcne : ¬ cap = 0 := by omega
 clear h1 h2 q1 q2
 go_enter Tryz.func87, Tryz.ntmps87
 go_wp2_with fail
 refine hix.mono ?_
 rintro e w' ⟨rfl, rfl⟩
 clear hix
 go_wp2_with fail
 go_loop [5, 6] (fun i j => i = .int .i64 0 ∧ j = .int .i64 1) (fun _ _ => 0)
 case atStart => exact ⟨rfl, rfl⟩
 case round =>
  obtain ⟨rfl, rfl⟩ := hrel
  go_wp2_with fail
  go_ret
  exact ⟨rfl, HK.out⟩
end
theorem others_lone {w0 w : World} {p : Nat} {x : LoneS} (h : Lone w0 w p x) : Calls Tryz.prog 57 #[.pointer (some ⟨p, 0, none⟩)] w fun e w' => ∃ a cap, e = .returned (.slice a 0 cap) ∧ Below w.heap.size w w' := by
 have HM := hI (members_lone (h.alloc (.cells #[.pointer (some ⟨p, 0, none⟩)] 44)))
 have H := hI h
 clear h
 go_enter Tryz.func57, Tryz.ntmps57
 go_wp2_with fail
 refine HM.out.mono ?_
 rintro e w2 ⟨a, cap, rfl, hn⟩
 obtain ⟨g, rfl, hgb, hcap, hcm, hgz⟩ : ∃ g, a = some ⟨g, 0, none⟩ ∧ (∃ cur, w2.heap[g]? = some (.cells cur 3 (0, 0))) ∧ 1 ≤ cap ∧ cap ≤ maxLen ∧ w.heap.size ≤ g := by
  rcases hn.own.2 with ⟨_, h0⟩ | ⟨g, cap', cur, e, _, hg, hcn, hm, hc, ht⟩
  ·simp at h0
  ·injection e with e1 e2 e3
   subst e1 e3
   have hz := hn.new g rfl
   exact ⟨g, rfl, ⟨_, hg⟩, by simpa using hcn, hm, by simp at hz; omega⟩
 obtain ⟨cur, hgc⟩ := hgb
 have c0 : w2.cell? ⟨g, 0, none⟩ = some (.int .i64 x.id) := by
  have := hn.own.cells (g := g) rfl 0 (.int .i64 x.id) rfl
  rwa [addr_add, Nat.zero_add] at this
 have b0 : w2.cell? ⟨w.heap.size, 0, none⟩ = some (.pointer (some ⟨p, 0, none⟩)) := bC (bH hn.bel (bW _ _) (by simp)) 0 rfl
 have p0 : w2.cell? ⟨p, 0, none⟩ = some (.int .i64 x.id) := ((H.out.alloc _).below hn.bel).cell 0 rfl
 unfold maxLen at hcm
 have HD := hI (delete_lone w2 w.heap.size p g cap x.id b0 p0 c0 (bF hgc 0) hcap hcm)
 have HB2 : Hid (Below w.heap.size w w2) := hI ((bR.alloc nL _).trans (hn.bel.mono (by simp)))
 clear hn hgc c0 b0 p0
 go_wp2_with fail
 refine HD.out.mono ?_
 rintro e w3 ⟨rfl, hk3⟩
 have HB3 := hI (HB2.out.trans (hk3.below HB2.out.size (fun k hk => hk ▸ hgz)))
 clear hk3
 go_wp2_with fail
 go_ret
 exact ⟨_, _, rfl, HB3.out⟩
end Go.Proofs.YtdjooojpcepleaaGreat.L8

namespace Go.Proofs.YtdjooojpcepleaaGreat.L8
open Go.RowKit Go.Maps Go.ChangeMaps
def keyN (c : Int) : Value := .int .i64 c
def votV (b : Bool) : Value := .bool b
def marV (x : Int × Int) : Value := .agg #[.int .u64 x.1, .int .u64 x.2]
theorem keyN_inj : ∀ a b : Int, keyN a = keyN b → a = b := by intro a b h; simpa [keyN] using h
theorem nkeyed : Keyed Tryz.prog 3 := int_keyed Tryz.underlying3
theorem nkey {c : Int} (h : (Lit.int .i64 c).wf = true) : keyOf Tryz.prog 3 (keyN c) = some (.int .i64 c) := keyOf_int_mk Tryz.underlying3 h
theorem vzero (w : World) : (zeroValue 4).run Tryz.prog w = .ok (.bool false) w := by kernel_rfl
theorem id_wf {c : Int} (h1 : 1 ≤ c) (h7 : c ≤ 7) : (Lit.int .i64 c).wf = true := by
 simp [Lit.wf, IntKind.min, IntKind.max, IntKind.signed, IntKind.bits]; omega
structure BalAt (w : World) (b m : Nat) (id : Int) (l : List (Int × Bool)) : Prop where
 box : ∃ a cap, w.heap[b]? = some (.cells #[.slice a 1 cap, .map (some m)] 130 (0, 0)) ∧ Sl intv w (.slice a 1 cap) [id]
 map : MapOf Tryz.prog 3 keyN votV w m l
theorem BalAt.below {w w' : World} {b m : Nat} {id : Int} {l : List (Int × Bool)} (h : BalAt w b m id l) (hb : Below w.heap.size w w') : BalAt w' b m id l := by
 obtain ⟨a, cap, h1, h2⟩ := h.box
 exact ⟨⟨a, cap, bH hb h1 (heap_lt h1), h2.below hb h2.row_lt⟩, h.map.same (hb.block m h.map.lt)⟩
theorem BalAt.kept {S : Nat → Prop} {w w' : World} {b m : Nat} {id : Int} {l : List (Int × Bool)} (h : BalAt w b m id l) (hk : Keeps S w w') {B : Nat} (hS : ∀ k, S k → k < B) (hb : B ≤ b) (hm : B ≤ m)
  (hsl : ∀ a cap, w.heap[b]? = some (.cells #[.slice a 1 cap, .map (some m)] 130 (0, 0)) → ∀ k, (Value.slice a 1 cap).ownBlock = some k → B ≤ k) : BalAt w' b m id l := by
 obtain ⟨a, cap, h1, h2⟩ := h.box
 exact ⟨⟨a, cap, hk.heap (fun e => by have := hS _ e; omega) h1, h2.kept hk (fun k hk2 e => by have := hS _ e; have := hsl a cap h1 k hk2; omega)⟩, h.map.kept hk (fun e => by have := hS _ e; omega)⟩
def BalNew (w : World) (id : Int) (e : Ending) (w' : World) : Prop :=
 ∃ b m, e = .returned (.pointer (some ⟨b, 0, none⟩)) ∧ BalAt w' b m id [] ∧ Below w.heap.size w w' ∧ w.heap.size ≤ b ∧ w.heap.size ≤ m ∧ b ≠ m ∧
  ∃ a cap, w'.heap[b]? = some (.cells #[.slice a 1 cap, .map (some m)] 130 (0, 0)) ∧ ∀ k, (Value.slice a 1 cap).ownBlock = some k → w.heap.size ≤ k ∧ k ≠ m
theorem balnew_any (w : World) (a : Option Addr) (cap : Nat) (id : Int) (hs : Sl intv w (.slice a 1 cap) [id]) : Calls Tryz.prog 90 #[.slice a 1 cap] w (BalNew w id) := by
 have hcl := clone_anyI w a 1 cap [id] hs (by simp)
 clear hs
 have hmm := @run_makeMap Tryz.prog
 go_enter Tryz.func90, Tryz.ntmps90
 go_wp2_with fail
 refine hcl.mono ?_
 rintro e w1 ⟨v, rfl, hb1, hs1, ho1, hn1⟩
 obtain ⟨va, vc, rfl, _⟩ := _root_.id hs1
 have HB1 := hI hb1
 have HS1 := hI hs1
 have HN1 := hI hn1
 clear hcl hb1 hs1 ho1 hn1
 go_wp2_with fail
 go_ret
 have hz := HB1.out.size
 have hlt := HS1.out.row_lt
 have hb2 : Below w.heap.size w (w1.alloc (.map #[] 0)) := HB1.out.alloc hz _
 refine ⟨w1.heap.size + 1, w1.heap.size, rfl, ⟨⟨va, vc, ?_, (HS1.out.alloc _).alloc _⟩, (MapOf.made _ _ _ _ w1).alloc _⟩, hb2.alloc hb2.size _, by omega, hz, by omega, va, vc, ?_, fun k hk => ⟨HN1.out k hk, fun e => by have := hlt k hk; omega⟩⟩
 all_goals
  have : (w1.alloc (.map #[] 0)).heap.size = w1.heap.size + 1 := by simp
  rw [← this]
  exact bW _ _
section
variable (w : World) (b m : Nat) (id : Int)
theorem balright_any (l : List (Int × Bool)) (h : BalAt w b m id l) (i1 : 1 ≤ id) (i7 : id ≤ 7) : Calls Tryz.prog 92 #[.pointer (some ⟨b, 0, none⟩)] w (RetB (.bool true) w) := by
 obtain ⟨a, cap, h1, h2⟩ := h.box
 have hr := right_any w a 1 cap [id] h2
 have hm : mB [id] = true := by
  have e1 : (0 : Int) < id := by omega
  simp [mB, memFrom, e1, i7]
 rw [hm] at hr
 have c0 := bC h1 0 rfl
 clear h h1 h2 hm
 go_enter Tryz.func92, Tryz.ntmps92
 go_wp2_with fail
 refine hr.mono ?_
 rintro e w1 ⟨rfl, hb1⟩
 go_wp2_with fail
 go_ret
 exact RetB.mk rfl hb1
set_option maxRecDepth 100000 in
theorem vote_any (h : BalAt w b m id []) (i1 : 1 ≤ id) (i7 : id ≤ 7) (_ : b ≠ m) : Calls Tryz.prog 67 #[.pointer (some ⟨b, 0, none⟩), .int .i64 id, .bool true] w
  fun e w' => e = .returned (.bool true) ∧ MapOf Tryz.prog 3 keyN votV w' m [(id, true)] ∧ Keeps (fun k => k = m) w w' := by
 have hr := balright_any w b m id [] h i1 i7
 have H := hI h
 have hwf := id_wf i1 i7
 clear h
 go_enter Tryz.func67, Tryz.ntmps67
 go_wp2_with fail
 refine hr.mono ?_
 rintro e w1 ⟨rfl, hb1⟩
 have H1 := hI (H.out.below hb1)
 obtain ⟨a, cap, h1, h2⟩ := H1.out.box
 have hh := has_any w1 a 1 cap [id] h2 id
 have hdd : decide (id ∈ [id]) = true := by simp
 rw [hdd] at hh
 have c0 := bC h1 0 rfl
 have c1 := bC h1 1 rfl
 have HB1 := hI hb1
 have hlk := (H1.out.map).run_ok_none nkeyed keyN_inj Tryz.underlying128 (vzero w1) (nkey hwf) (key := id) rfl
 clear hr hb1 h1 h2 hdd
 go_wp2_with fail
 refine hh.mono ?_
 rintro e w' ⟨rfl, rfl⟩
 go_wp2_with (first | (refine wpList_map_lookup _ rfl _ _ _ _ rfl _ nkeyed keyN_inj Tryz.underlying128 (vzero _) m [] rfl H1.out.map id _ rfl (nkey hwf) (.tuple #[.bool false, .bool false]) rfl ?_) | (refine wpList_map_update _ rfl _ _ _ _ rfl _ nkeyed keyN_inj Tryz.underlying128 m [] rfl H1.out.map id _ rfl (nkey hwf) true rfl ?_; intro ob hmap) | fail)
 have HM := hI hmap
 clear hmap
 go_ret
 exact ⟨rfl, HM.out, (Keeps.of_belowS HB1.out).trans ((Keeps.refl (fun k => k = m) _).setBlock (.inl rfl) ob)⟩
set_option maxRecDepth 100000 in
theorem balcount_any (h : BalAt w b m id [(id, true)]) : Calls Tryz.prog 93 #[.pointer (some ⟨b, 0, none⟩)] w (RetB (.tuple #[.int .i64 1, .int .i64 0]) w) := by
 obtain ⟨a, cap, h1, h2⟩ := h.box
 have c1 := bC h1 1 rfl
 have HM := hI h.map
 have hlt := h.map.lt
 clear h h1 h2
 go_enter Tryz.func93, Tryz.ntmps93
 go_wp2_with (first | (refine wpList_map_range _ rfl _ _ rfl _ Tryz.underlying128 m [(id, true)] rfl HM.out ?_; intro ob hit; have HIT := hI hit; clear hit) | fail)
 generalize hw1 : w.alloc ob = W1 at *
 have HB1 : Hid (Below w.heap.size w W1) := hI (by rw [← hw1]; exact bR.alloc nL _)
 clear hw1 c1 HM
 go_simp
 go_loopw [2, 3] (fun x y wr => ∃ (c : Nat) (p : List Int), x = .int .i64 c ∧ y = .int .i64 0 ∧ c ≤ 1 ∧ Hid (c = p.length) ∧ MIter Tryz.prog 3 keyN votV wr m w.heap.size [(id, true)] p ∧ Below w.heap.size w wr ∧ p.Nodup ∧ ∀ y ∈ p, y = id) (fun _ _ wr => 1 - (wr.iterSeen w.heap.size).size)
 case atStart => exact ⟨0, [], rfl, rfl, by omega, hI rfl, HIT.out, HB1.out, List.nodup_nil, by simp⟩
 case round =>
  clear HIT HB1
  obtain ⟨c, p, rfl, rfl, hc1, HC, hit, hb, hnd, hal⟩ := hrel
  have HIT := hI hit
  have HB := hI hb
  have HND := hI hnd
  have HAL := hI hal
  clear hit hb hnd hal
  go_wp2_with (first | (refine wpList_map_next _ rfl _ rfl keyN_inj m w.heap.size [(id, true)] p rfl HIT.out (fun hd => ?_) (fun key val w' hkv hkp hit' hkw hsz hen => ?_)) | fail)
  ·have hp1 : p.length = 1 := by
    have h1 : id ∈ p := hd id (by simp [keys])
    have h2 := HND.out
    have h3 := HAL.out
    cases p with
    | nil => cases h1
    | cons x r =>
     cases r with
     | nil => rfl
     | cons y s =>
      exfalso
      have e1 := h3 x (by simp)
      have e2 := h3 y (by simp)
      subst e1 e2
      simp at h2
   have hc : c = 1 := HC.out.trans hp1
   subst hc
   clear hd hp1
   go_wp2
   go_ret2
   exact RetB.mk rfl HB.out
  ·obtain ⟨rfl, rfl⟩ : key = id ∧ val = true := by simpa using hkv
   have hp0 : p = [] := by
    cases p with
    | nil => rfl
    | cons x r => exact absurd (HAL.out x (by simp)) (fun e => hkp (by simp [e]))
   have hc0 : c = 0 := by have := HC.out; rw [hp0] at this; simpa using this
   have HIT2 := hI hit'
   have HS := hI HIT.out.seen
   have HS2 := hI hit'.seen
   have HB2 := hI (HB.out.trans (show Below w.heap.size wr w' from hkw.below HB.out.size (fun k hk => by omega)))
   have HP0 := hI hp0
   clear hkv hkp hit' hkw hsz hp0
   unfold keyN votV at hen
   go_wp2
   go_roundw
   case rel => exact ⟨c + 1, p ++ [key], by go_num, rfl, by omega, hI (by rw [List.length_append, ← HC.out]; rfl), HIT2.out, HB2.out, by rw [HP0.out]; simp, by rw [HP0.out]; simp⟩
   case measure =>
    have h1 := HS.out
    have h2 := HS2.out
    rw [h1, h2, HP0.out]
    simp
  ·exfalso
   have : val = true := by have h1 := hkv; simp at h1; exact h1.2
   rename_i hv
   rw [this] at hv
   cases hv
theorem majority_one (a : Option Addr) (cap : Nat) : Calls Tryz.prog 94 #[.slice a 1 cap] w (Ret (.int .i64 1) w) := majority_any w a 1 cap (by omega)
theorem state_any (h : BalAt w b m id [(id, true)]) (i1 : 1 ≤ id) (i7 : id ≤ 7) : Calls Tryz.prog 68 #[.pointer (some ⟨b, 0, none⟩)] w (RetB (.int .i64 1) w) := by
 have hr := balright_any w b m id _ h i1 i7
 have H := hI h
 clear h
 go_enter Tryz.func68, Tryz.ntmps68
 go_wp2_with fail
 refine hr.mono ?_
 rintro e w1 ⟨rfl, hb1⟩
 have H1 := hI (H.out.below hb1)
 have HB1 := hI hb1
 have hc := balcount_any w1 b m id H1.out
 clear hr hb1
 go_wp2_with fail
 refine hc.mono ?_
 rintro e w2 ⟨rfl, hb2⟩
 have HB2 := hI (HB1.out.trans (hb2.mono HB1.out.size))
 obtain ⟨a, cap, h1, h2⟩ := (H1.out.below hb2).box
 have c0 := bC h1 0 rfl
 clear hc hb2 h1 h2
 go_wp2_with fail
 refine (majority_one w2 a cap).mono ?_
 rintro e w' ⟨rfl, rfl⟩
 go_wp2_with fail
 go_ret
 exact RetB.mk rfl HB2.out
end
structure TrkAt (w : World) (b m : Nat) : Prop where
 box : w.heap[b]? = some (.cells #[.map (some m)] 140 (0, 0))
 map : MapOf Tryz.prog 3 keyN marV w m []
theorem TrkAt.below {w w' : World} {b m : Nat} (h : TrkAt w b m) (hb : Below w.heap.size w w') : TrkAt w' b m := ⟨bH hb h.box (heap_lt h.box), h.map.same (hb.block m h.map.lt)⟩
theorem TrkAt.kept {S : Nat → Prop} {w w' : World} {b m : Nat} (h : TrkAt w b m) (hk : Keeps S w w') (h1 : ¬ S b) (h2 : ¬ S m) : TrkAt w' b m := ⟨hk.heap h1 h.box, h.map.kept hk h2⟩
set_option maxRecDepth 100000 in
theorem follow_any (w : World) (b m : Nat) (h : TrkAt w b m) (a : Option Addr) (cap : Nat) (last : Int) : Calls Tryz.prog 76 #[.pointer (some ⟨b, 0, none⟩), .slice a 0 cap, .int .u64 last] w (RetB (.tuple #[]) w) := by
 have c0 := bC h.box 0 rfl
 have HM := hI h.map
 clear h
 go_enter Tryz.func76, Tryz.ntmps76
 go_wp2_with (first | (refine wpList_map_range _ rfl _ _ rfl _ Tryz.underlying138 m [] rfl HM.out ?_; intro ob hit; have HIT := hI hit; clear hit) | fail)
 generalize hw1 : w.alloc ob = W1 at *
 have HB1 : Hid (Below w.heap.size w W1) := hI (by rw [← hw1]; exact bR.alloc nL _)
 clear hw1 c0 HM
 go_simp
 go_loopw [6] (fun x wr => wr = W1) (fun _ _ => 0)
 case atStart => rfl
 case round =>
  obtain rfl := hrel
  go_wp2_with (first | (refine wpList_map_next _ rfl _ rfl keyN_inj m w.heap.size [] [] rfl HIT.out (fun hd => ?_) (fun key val w' hkv hkp hit' hkw hsz hen => ?_)) | fail)
  ·go_wp2_with fail
   go_loop [31] (fun i => i = .int .i64 0) (fun _ => 0)
   case atStart => rfl
   case round =>
    obtain rfl := hrel
    go_wp2_with fail
    refine bE rfl rfl ?_
    exact RetB.mk rfl HB1.out
  ·cases hkv
theorem track_new (w : World) (a : Option Addr) (cap : Nat) (last : Int) : Calls Tryz.prog 95 #[.slice a 0 cap, .int .u64 last] w
  fun e w' => ∃ b m, e = .returned (.pointer (some ⟨b, 0, none⟩)) ∧ TrkAt w' b m ∧ Below w.heap.size w w' ∧ w.heap.size ≤ b ∧ w.heap.size ≤ m := by
 have hmm := @run_makeMap Tryz.prog
 go_enter Tryz.func95, Tryz.ntmps95
 go_wp2_with fail
 obtain ⟨W, hW⟩ : ∃ W, W = (w.alloc (.map #[] 0)).alloc (.cells #[.map (some w.heap.size)] 140) := ⟨_, rfl⟩
 have HT : Hid (TrkAt W (w.heap.size + 1) w.heap.size) := hI (by
   rw [hW]
   refine ⟨?_, (MapOf.made _ _ _ _ w).alloc _⟩
   have : (w.alloc (.map #[] 0)).heap.size = w.heap.size + 1 := by simp
   rw [← this]
   exact bW _ _)
 have HB : Hid (Below w.heap.size w W) := hI (by rw [hW]; exact (bR.alloc nL _).alloc (by simp) _)
 rw [← hW]
 clear hW
 refine (follow_any W _ _ HT.out a cap last).mono ?_
 rintro e w1 ⟨rfl, hb1⟩
 have HT1 := hI (HT.out.below hb1)
 have HB1 := hI (HB.out.trans (hb1.mono HB.out.size))
 clear hb1
 go_wp2_with fail
 go_ret
 exact ⟨_, _, rfl, HT1.out, HB1.out, by omega, Nat.le_refl _⟩
end Go.Proofs.YtdjooojpcepleaaGreat.L8

namespace Go.Proofs.YtdjooojpcepleaaGreat.L8
open Go.RowKit
def reqZ : Array Value := #[.int .u64 0, .int .u64 0, .int .i64 0, .string ⟨#[]⟩, .string ⟨#[]⟩, .int .u64 0, .int .i64 0, .string ⟨#[]⟩, .string ⟨#[]⟩, .int .i64 0, .int .i64 0, .slice none 0 0, .int .i64 0, .int .i64 0, .int .i64 0, .int .i64 0, .string ⟨#[]⟩, .int .i64 0]
theorem fields_none (w : World) (b q : Nat) (h : w.cell? ⟨b, 2, none⟩ = some (.int .i64 0)) :
  Calls Tryz.prog 116 #[.agg #[.pointer (some ⟨q, 0, none⟩), .pointer none], .pointer (some ⟨b, 2, none⟩)] w (RetB (.tuple #[]) w) := by
 have hlt := cell_lt h
 simp at hlt
 go_enter Tryz.func116, Tryz.ntmps116
 go_wp2
 refine bE rfl rfl ?_
 exact RetB.mk rfl (bR.alloc nL _)
theorem known_zero (w : World) : Calls Tryz.prog 115 #[.int .i64 0] w (Ret (.bool true) w) := by
 go_enter Tryz.func115, Tryz.ntmps115
 go_wp2
 go_ret
 exact Ret.mk rfl
def nothB : List UInt8 := numB 0 ++ numB 0 ++ numB 0
set_option maxRecDepth 100000 in
theorem bytes_none (w : World) : Calls Tryz.prog 108 #[.agg reqZ] w fun e w' => ∃ a cap, e = .returned (.tuple #[.slice a nothB.length cap, .int .i64 0]) ∧ Below w.heap.size w w' ∧ Sl u8v w' (.slice a nothB.length cap) nothB := by
 have hn0 : (numB 0).length ≤ 10 := numB_len10 (by omega)
 unfold reqZ
 go_enter Tryz.func108, Tryz.ntmps108
 go_wp2_with fail
 refine (known_zero _).mono ?_
 rintro e w' ⟨rfl, rfl⟩
 go_wp2_with fail
 have hW0 : Wr ((w.alloc (.cells reqZ 157)).alloc (.cells #[.slice none 0 0] 119)) (w.heap.size + 1) none [] := by
  refine ⟨.slice none 0 0, ?_, rfl, by simp, World.ownsRow_nil _ _ _ _⟩
  have : (w.alloc (.cells reqZ 157)).heap.size = w.heap.size + 1 := by simp
  rw [← this]
  exact bW _ _
 have hX0 : ((w.alloc (.cells reqZ 157)).alloc (.cells #[.slice none 0 0] 119)).heap[w.heap.size]? = some (.cells reqZ 157 (0, 0)) := aheap (bW _ _) _
 have hK0 : Keeps (fun k => w.heap.size ≤ k) w ((w.alloc (.cells reqZ 157)).alloc (.cells #[.slice none 0 0] 119)) := ((Keeps.refl _ w).alloc _).alloc _
 unfold reqZ at hW0 hX0 hK0
 have hs0 : ((w.alloc (.cells #[.int .u64 0, .int .u64 0, .int .i64 0, .string ⟨#[]⟩, .string ⟨#[]⟩, .int .u64 0, .int .i64 0, .string ⟨#[]⟩, .string ⟨#[]⟩, .int .i64 0, .int .i64 0, .slice none 0 0, .int .i64 0, .int .i64 0, .int .i64 0, .int .i64 0, .string ⟨#[]⟩, .int .i64 0] 157)).alloc (.cells #[.slice none 0 0] 119)).heap.size = w.heap.size + 2 := by simp
 generalize (w.alloc (.cells #[.int .u64 0, .int .u64 0, .int .i64 0, .string ⟨#[]⟩, .string ⟨#[]⟩, .int .u64 0, .int .i64 0, .string ⟨#[]⟩, .string ⟨#[]⟩, .int .i64 0, .int .i64 0, .slice none 0 0, .int .i64 0, .int .i64 0, .int .i64 0, .int .i64 0, .string ⟨#[]⟩, .int .i64 0] 157)).alloc (.cells #[.slice none 0 0] 119) = W0 at *
 have step : ∀ (W W' : World) (r r' : Option Nat), Keeps (fun k => w.heap.size ≤ k) w W → W.heap[w.heap.size]? = some (.cells reqZ 157 (0, 0)) → (∀ k, r = some k → w.heap.size + 1 ≤ k) → w.heap.size + 2 ≤ W.heap.size → Wrote (w.heap.size + 1) W r W' r' →
   Keeps (fun k => w.heap.size ≤ k) w W' ∧ W'.heap[w.heap.size]? = some (.cells reqZ 157 (0, 0)) ∧ (∀ k, r' = some k → w.heap.size + 1 ≤ k) ∧ w.heap.size + 2 ≤ W'.heap.size := by
  intro W W' r r' h1 h2 h3 h4 h5
  refine ⟨h1.trans (h5.keeps.mono fun k _ hk => ?_), h5.keeps.heap (fun hk => ?_) h2, fun k hk => ?_, Nat.le_trans h4 h5.keeps.size⟩
  ·rcases hk with rfl | hk
   ·omega
   ·have := h3 k hk.symm; omega
  ·rcases hk with hk | hk
   ·omega
   ·have := h3 _ hk.symm; omega
  ·rcases h5.row with e | ⟨j, e, hj⟩
   ·exact h3 k (by rw [← e]; exact hk)
   ·rw [e] at hk; cases hk; omega
 have HST := hI step
 have HK0 := hI (show Keeps (fun k => w.heap.size ≤ k) w W0 ∧ W0.heap[w.heap.size]? = some (.cells reqZ 157 (0, 0)) ∧ (∀ k, (none : Option Nat) = some k → w.heap.size + 1 ≤ k) ∧ w.heap.size + 2 ≤ W0.heap.size from ⟨hK0, hX0, (fun k hk => by cases hk), by omega⟩)
 have HW0 := hI hW0
 have x0 : W0.cell? ⟨w.heap.size, 0, none⟩ = some (.int .u64 0) := bC hX0 0 rfl
 clear step hK0 hX0 hs0 hW0
 refine (num_any _ _ _ _ HW0.out 0 (by omega) (by omega) (by simp)).mono ?_
 rintro e w1 ⟨rfl, r1, hW1, hk1⟩
 have HK1 := hI (HST.out _ _ _ _ HK0.out.1 HK0.out.2.1 HK0.out.2.2.1 HK0.out.2.2.2 hk1)
 have HW1 := hI hW1
 have x1 : w1.cell? ⟨w.heap.size, 1, none⟩ = some (.int .u64 0) := bC HK1.out.2.1 1 rfl
 clear hW1 hk1 x0
 go_wp2_with fail
 refine (num_any _ _ _ _ HW1.out 0 (by omega) (by omega) (by have := hn0; show (numB 0).length + 10 ≤ _; omega)).mono ?_
 rintro e w2 ⟨rfl, r2, hW2, hk2⟩
 have HK2 := hI (HST.out _ _ _ _ HK1.out.1 HK1.out.2.1 HK1.out.2.2.1 HK1.out.2.2.2 hk2)
 have HW2 := hI hW2
 have x2 : w2.cell? ⟨w.heap.size, 2, none⟩ = some (.int .i64 0) := bC HK2.out.2.1 2 rfl
 clear hW2 hk2 x1
 go_wp2_with fail
 refine (num_any _ _ _ _ HW2.out 0 (by omega) (by omega) (by have := hn0; show ([] ++ numB 0 ++ numB 0).length + 10 ≤ _; simp only [List.nil_append, List.length_append]; omega)).mono ?_
 rintro e w3 ⟨rfl, r3, hW3, hk3⟩
 have HK3 := hI (HST.out _ _ _ _ HK2.out.1 HK2.out.2.1 HK2.out.2.2.1 HK2.out.2.2.2 hk3)
 have HW3 := hI hW3
 have x3 : w3.cell? ⟨w.heap.size, 2, none⟩ = some (.int .i64 0) := bC HK3.out.2.1 2 rfl
 clear hW3 hk3 x2
 go_wp2_with fail
 refine (fields_none w3 w.heap.size (w.heap.size + 1) x3).mono ?_
 rintro e w4 ⟨rfl, hb4⟩
 have HK4 := hI (HK3.out.1.trans (Keeps.of_belowS (S := fun k => w.heap.size ≤ k) hb4))
 have HW4 := hI (HW3.out.kept (Keeps.of_belowS (S := fun _ => False) hb4) (fun h => h) (fun _ _ h => h))
 clear hb4 x3
 go_wp2_with fail
 refine (wbytes_any w4 _ r3 nothB HW4.out (by have := hn0; unfold nothB; simp only [List.length_append]; omega)).mono ?_
 rintro e w5 ⟨v, rfl, hb5, hs5, _, hn5⟩
 obtain ⟨a, cap, rfl, _⟩ := id hs5
 have HS5 := hI hs5
 have HB5 := hI ((HK4.out.below nL (fun k hk => hk)).trans (hb5.mono HK4.out.size))
 have hlen : nothB.length ≤ 30 := by have := hn0; unfold nothB; simp only [List.length_append]; omega
 obtain ⟨nl, hnl⟩ : ∃ nl, nl = nothB.length := ⟨_, rfl⟩
 rw [← hnl] at HS5 hlen ⊢
 have hd0 : decide ((900 : Int) < (nl : Int)) = false := by simp; omega
 have HNL := hI hnl
 clear hb5 hs5 hn5 hnl
 go_wp2_with fail
 go_ret2
 have hnl := HNL.out
 subst hnl
 exact ⟨a, cap, rfl, HB5.out, HS5.out⟩
theorem nothing_any (w : World) : Calls Tryz.prog 96 #[] w fun e w' => ∃ a cap, e = .returned (.slice a nothB.length cap) ∧ Below w.heap.size w w' ∧ Sl u8v w' (.slice a nothB.length cap) nothB := by
 go_enter Tryz.func96, Tryz.ntmps96
 go_wp2_with fail
 refine (bytes_none w).mono ?_
 rintro e w1 ⟨a, cap, rfl, hb, hs⟩
 have HS := hI hs
 have HB := hI hb
 clear hs hb
 go_wp2_with fail
 go_ret
 exact ⟨a, cap, rfl, HB.out, HS.out⟩
end Go.Proofs.YtdjooojpcepleaaGreat.L8

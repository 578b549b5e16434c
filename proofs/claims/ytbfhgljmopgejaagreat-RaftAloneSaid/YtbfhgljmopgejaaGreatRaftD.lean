/- Packages ballot and progress, for a node alone. -/
import Derived.Test.YtbfhgljmopgejaaGreatRaftC
import Derived.Test.YtbfhgljmopgejaaGreatMapIt
namespace Go.Proofs.YtbfhgljmopgejaaGreat
open Go.RowKit Go.Maps Go.ChangeMaps

def keyN (c : Int) : Value := .int .i64 c
def votV (b : Bool) : Value := .bool b
def marV (x : Int × Int) : Value := .agg #[.int .u64 x.1, .int .u64 x.2]
theorem keyN_inj : ∀ a b : Int, keyN a = keyN b → a = b := by intro a b h; simpa [keyN] using h
theorem nkeyed : Keyed Tryz.prog 3 := int_keyed Tryz.underlying3
theorem nkey {c : Int} (h : (Lit.int .i64 c).wf = true) : keyOf Tryz.prog 3 (keyN c) = some (.int .i64 c) := keyOf_int_mk Tryz.underlying3 h
theorem vzero (w : World) : (zeroValue 4).run Tryz.prog w = .ok (.bool false) w := by kernel_rfl
theorem id_wf {c : Int} (h1 : 1 ≤ c) (h7 : c ≤ 7) : (Lit.int .i64 c).wf = true := by
  simp [Lit.wf, IntKind.min, IntKind.max, IntKind.signed, IntKind.bits]; omega

/-- Block b is a ballot of one member. -/
structure BalAt (w : World) (b m : Nat) (id : Int) (l : List (Int × Bool)) : Prop where
  box : ∃ a cap, w.heap[b]? = some (.cells #[.slice a 1 cap, .map (some m)] 119 (0, 0)) ∧ Sl intv w (.slice a 1 cap) [id]
  map : MapOf Tryz.prog 3 keyN votV w m l

theorem BalAt.lt {w : World} {b m : Nat} {id : Int} {l : List (Int × Bool)} (h : BalAt w b m id l) : b < w.heap.size := by
  obtain ⟨a, cap, hb, _⟩ := h.box
  exact heap_lt hb
theorem BalAt.below {w w' : World} {b m : Nat} {id : Int} {l : List (Int × Bool)} (h : BalAt w b m id l) (hb : Below w.heap.size w w') : BalAt w' b m id l := by
  obtain ⟨a, cap, h1, h2⟩ := h.box
  exact ⟨⟨a, cap, bheap hb h1 (heap_lt h1), h2.below hb h2.row_lt⟩, h.map.same (hb.block m h.map.lt)⟩
/-- Kept by a store into another block. -/
theorem BalAt.kept {S : Nat → Prop} {w w' : World} {b m : Nat} {id : Int} {l : List (Int × Bool)} (h : BalAt w b m id l) (hk : Keeps S w w') {B : Nat} (hS : ∀ k, S k → k < B) (hb : B ≤ b) (hm : B ≤ m)
    (hsl : ∀ a cap, w.heap[b]? = some (.cells #[.slice a 1 cap, .map (some m)] 119 (0, 0)) → ∀ k, (Value.slice a 1 cap).ownBlock = some k → B ≤ k) : BalAt w' b m id l := by
  obtain ⟨a, cap, h1, h2⟩ := h.box
  exact ⟨⟨a, cap, hk.heap (fun e => by have := hS _ e; omega) h1, h2.kept hk (fun k hk2 e => by have := hS _ e; have := hsl a cap h1 k hk2; omega)⟩, h.map.kept hk (fun e => by have := hS _ e; omega)⟩

/-- What New of a ballot leaves. -/
def BalNew (w : World) (id : Int) (e : Ending) (w' : World) : Prop :=
  ∃ b m, e = .returned (.pointer (some ⟨b, 0, none⟩)) ∧ BalAt w' b m id [] ∧ Below w.heap.size w w' ∧ w.heap.size ≤ b ∧ w.heap.size ≤ m ∧ b ≠ m ∧
    ∃ a cap, w'.heap[b]? = some (.cells #[.slice a 1 cap, .map (some m)] 119 (0, 0)) ∧ ∀ k, (Value.slice a 1 cap).ownBlock = some k → w.heap.size ≤ k ∧ k ≠ m

theorem balnew_any (w : World) (a : Option Addr) (cap : Nat) (id : Int) (hs : Sl intv w (.slice a 1 cap) [id]) : Calls Tryz.prog 57 #[.slice a 1 cap] w (BalNew w id) := by
  have hcl := clone_anyI w a 1 cap [id] hs (by simp)
  clear hs
  have hmm := @run_makeMap Tryz.prog
  go_enter Tryz.func57, Tryz.ntmps57
  go_wp2_with fail
  refine hcl.mono ?_
  rintro e w1 ⟨v, rfl, hb1, hs1, ho1, hn1⟩
  obtain ⟨va, vc, rfl, _⟩ := _root_.id hs1
  have HB1 := Lib.hid hb1
  have HS1 := Lib.hid hs1
  have HN1 := Lib.hid hn1
  clear hcl hb1 hs1 ho1 hn1
  go_wp2_with fail
  go_ret
  have hz := HB1.out.size
  have hlt := HS1.out.row_lt
  have hb2 : Below w.heap.size w (w1.alloc (.map #[] 0)) := HB1.out.alloc hz _
  refine ⟨w1.heap.size + 1, w1.heap.size, rfl, ⟨⟨va, vc, ?_, (HS1.out.alloc _).alloc _⟩, (MapOf.made _ _ _ _ w1).alloc _⟩, hb2.alloc hb2.size _, by omega, hz, by omega, va, vc, ?_, fun k hk => ⟨HN1.out k hk, fun e => by have := hlt k hk; omega⟩⟩
  all_goals
    have : (w1.alloc (.map #[] 0)).heap.size = w1.heap.size + 1 := by simp
    rw [← this]
    exact heap_new _ _

section
variable (w : World) (b m : Nat) (id : Int)

theorem balright_any (l : List (Int × Bool)) (h : BalAt w b m id l) (i1 : 1 ≤ id) (i7 : id ≤ 7) : Calls Tryz.prog 74 #[.pointer (some ⟨b, 0, none⟩)] w (RetB (.bool true) w) := by
  obtain ⟨a, cap, h1, h2⟩ := h.box
  have hr := right_any w a 1 cap [id] h2
  have hm : membersB [id] = true := by
    have e1 : (0 : Int) < id := by omega
    simp [membersB, memFrom, e1, i7]
  rw [hm] at hr
  have c0 := blk_cell h1 0 rfl
  clear h h1 h2 hm
  go_enter Tryz.func74, Tryz.ntmps74
  go_wp2_with fail
  refine hr.mono ?_
  rintro e w1 ⟨rfl, hb1⟩
  go_wp2_with fail
  go_ret
  exact RetB.mk rfl hb1

set_option maxRecDepth 100000 in
theorem vote_any (h : BalAt w b m id []) (i1 : 1 ≤ id) (i7 : id ≤ 7) (hbm : b ≠ m) : Calls Tryz.prog 58 #[.pointer (some ⟨b, 0, none⟩), .int .i64 id, .bool true] w
    fun e w' => e = .returned (.bool true) ∧ MapOf Tryz.prog 3 keyN votV w' m [(id, true)] ∧ Keeps (fun k => k = m) w w' := by
  have hr := balright_any w b m id [] h i1 i7
  have H := Lib.hid h
  have hwf := id_wf i1 i7
  clear h
  go_enter Tryz.func58, Tryz.ntmps58
  go_wp2_with fail
  refine hr.mono ?_
  rintro e w1 ⟨rfl, hb1⟩
  have H1 := Lib.hid (H.out.below hb1)
  obtain ⟨a, cap, h1, h2⟩ := H1.out.box
  have hh := has_any w1 a 1 cap [id] h2 id
  have hdd : decide (id ∈ [id]) = true := by simp
  rw [hdd] at hh
  have c0 := blk_cell h1 0 rfl
  have c1 := blk_cell h1 1 rfl
  have HB1 := Lib.hid hb1
  have hlk := (H1.out.map).run_ok_none nkeyed keyN_inj Tryz.underlying117 (vzero w1) (nkey hwf) (key := id) rfl
  clear hr hb1 h1 h2 hdd
  go_wp2_with fail
  refine hh.mono ?_
  rintro e w' ⟨rfl, rfl⟩
  go_wp2_with (first | (refine wpList_map_lookup _ rfl _ _ _ _ rfl _ nkeyed keyN_inj Tryz.underlying117 (vzero _) m [] rfl H1.out.map id _ rfl (nkey hwf) (.tuple #[.bool false, .bool false]) rfl ?_) | (refine wpList_map_update _ rfl _ _ _ _ rfl _ nkeyed keyN_inj Tryz.underlying117 m [] rfl H1.out.map id _ rfl (nkey hwf) true rfl ?_; intro ob hmap) | fail)
  have HM := Lib.hid hmap
  clear hmap
  go_ret
  exact ⟨rfl, HM.out, (Keeps.of_belowS HB1.out).trans ((Keeps.refl (fun k => k = m) _).setBlock (.inl rfl) ob)⟩

set_option maxRecDepth 100000 in
theorem balcount_any (h : BalAt w b m id [(id, true)]) : Calls Tryz.prog 75 #[.pointer (some ⟨b, 0, none⟩)] w (RetB (.tuple #[.int .i64 1, .int .i64 0]) w) := by
  obtain ⟨a, cap, h1, h2⟩ := h.box
  have c1 := blk_cell h1 1 rfl
  have HM := Lib.hid h.map
  have hlt := h.map.lt
  clear h h1 h2
  go_enter Tryz.func75, Tryz.ntmps75
  go_wp2_with (first | (refine wpList_map_range _ rfl _ _ rfl _ Tryz.underlying117 m [(id, true)] rfl HM.out ?_; intro ob hit; have HIT := Lib.hid hit; clear hit) | fail)
  generalize hw1 : w.alloc ob = W1 at *
  have HB1 : Hid (Below w.heap.size w W1) := Lib.hid (by rw [← hw1]; exact (Below.refl _ _).alloc (Nat.le_refl _) _)
  clear hw1 c1 HM
  go_simp
  go_loopw [2, 3] (fun x y wr => ∃ (c : Nat) (p : List Int), x = .int .i64 c ∧ y = .int .i64 0 ∧ c ≤ 1 ∧ Hid (c = p.length) ∧ MIter Tryz.prog 3 keyN votV wr m w.heap.size [(id, true)] p ∧ Below w.heap.size w wr ∧ p.Nodup ∧ ∀ y ∈ p, y = id) (fun _ _ wr => 1 - (wr.iterSeen w.heap.size).size)
  case atStart => exact ⟨0, [], rfl, rfl, by omega, Lib.hid rfl, HIT.out, HB1.out, List.nodup_nil, by simp⟩
  case round =>
    clear HIT HB1
    obtain ⟨c, p, rfl, rfl, hc1, HC, hit, hb, hnd, hal⟩ := hrel
    have HIT := Lib.hid hit
    have HB := Lib.hid hb
    have HND := Lib.hid hnd
    have HAL := Lib.hid hal
    clear hit hb hnd hal
    go_wp2_with (first | (refine wpList_map_next _ rfl _ rfl keyN_inj m w.heap.size [(id, true)] p rfl HIT.out (fun hd => ?_) (fun key val w' hkv hkp hit' hkw hsz hen => ?_)) | fail)
    · have hp1 : p.length = 1 := by
        have h1 : id ∈ p := hd id (by simp [keys])
        have h2 := HND.out
        have h3 := HAL.out
        cases p with
        | nil => cases h1
        | cons x r =>
          cases r with
          | nil => rfl
          | cons y s =>
            exfalso
            have e1 := h3 x (by simp)
            have e2 := h3 y (by simp)
            subst e1 e2
            simp at h2
      have hc : c = 1 := HC.out.trans hp1
      subst hc
      clear hd hp1
      go_wp2
      go_ret2
      exact RetB.mk rfl HB.out
    · obtain ⟨rfl, rfl⟩ : key = id ∧ val = true := by simpa using hkv
      have hp0 : p = [] := by
        cases p with
        | nil => rfl
        | cons x r => exact absurd (HAL.out x (by simp)) (fun e => hkp (by simp [e]))
      have hc0 : c = 0 := by have := HC.out; rw [hp0] at this; simpa using this
      have HIT2 := Lib.hid hit'
      have HS := Lib.hid HIT.out.seen
      have HS2 := Lib.hid hit'.seen
      have HB2 := Lib.hid (HB.out.trans (show Below w.heap.size wr w' from hkw.below HB.out.size (fun k hk => by omega)))
      have HP0 := Lib.hid hp0
      clear hkv hkp hit' hkw hsz hp0
      unfold keyN votV at hen
      go_wp2
      go_roundw
      case rel => exact ⟨c + 1, p ++ [key], by go_num, rfl, by omega, Lib.hid (by rw [List.length_append, ← HC.out]; rfl), HIT2.out, HB2.out, by rw [HP0.out]; simp, by rw [HP0.out]; simp⟩
      case measure =>
        have h1 := HS.out
        have h2 := HS2.out
        rw [h1, h2, HP0.out]
        simp
    · exfalso
      have : val = true := by have h1 := hkv; simp at h1; exact h1.2
      rename_i hv
      rw [this] at hv
      cases hv

theorem majority_one (a : Option Addr) (cap : Nat) : Calls Tryz.prog 76 #[.slice a 1 cap] w (Ret (.int .i64 1) w) := majority_any w a 1 cap (by omega)

theorem state_any (h : BalAt w b m id [(id, true)]) (i1 : 1 ≤ id) (i7 : id ≤ 7) : Calls Tryz.prog 59 #[.pointer (some ⟨b, 0, none⟩)] w (RetB (.int .i64 1) w) := by
  have hr := balright_any w b m id _ h i1 i7
  have H := Lib.hid h
  clear h
  go_enter Tryz.func59, Tryz.ntmps59
  go_wp2_with fail
  refine hr.mono ?_
  rintro e w1 ⟨rfl, hb1⟩
  have H1 := Lib.hid (H.out.below hb1)
  have HB1 := Lib.hid hb1
  have hc := balcount_any w1 b m id H1.out
  clear hr hb1
  go_wp2_with fail
  refine hc.mono ?_
  rintro e w2 ⟨rfl, hb2⟩
  have HB2 := Lib.hid (HB1.out.trans (hb2.mono HB1.out.size))
  obtain ⟨a, cap, h1, h2⟩ := (H1.out.below hb2).box
  have c0 := blk_cell h1 0 rfl
  clear hc hb2 h1 h2
  go_wp2_with fail
  refine (majority_one w2 a cap).mono ?_
  rintro e w' ⟨rfl, rfl⟩
  go_wp2_with fail
  go_ret
  exact RetB.mk rfl HB2.out
end

/-- Block b tracks nobody. -/
structure TrkAt (w : World) (b m : Nat) : Prop where
  box : w.heap[b]? = some (.cells #[.map (some m)] 104 (0, 0))
  map : MapOf Tryz.prog 3 keyN marV w m []

theorem TrkAt.below {w w' : World} {b m : Nat} (h : TrkAt w b m) (hb : Below w.heap.size w w') : TrkAt w' b m := ⟨bheap hb h.box (heap_lt h.box), h.map.same (hb.block m h.map.lt)⟩
theorem TrkAt.kept {S : Nat → Prop} {w w' : World} {b m : Nat} (h : TrkAt w b m) (hk : Keeps S w w') (h1 : ¬ S b) (h2 : ¬ S m) : TrkAt w' b m := ⟨hk.heap h1 h.box, h.map.kept hk h2⟩

set_option maxRecDepth 100000 in
theorem follow_any (w : World) (b m : Nat) (h : TrkAt w b m) (a : Option Addr) (cap : Nat) (last : Int) : Calls Tryz.prog 43 #[.pointer (some ⟨b, 0, none⟩), .slice a 0 cap, .int .u64 last] w (RetB (.tuple #[]) w) := by
  have c0 := blk_cell h.box 0 rfl
  have HM := Lib.hid h.map
  clear h
  go_enter Tryz.func43, Tryz.ntmps43
  go_wp2_with (first | (refine wpList_map_range _ rfl _ _ rfl _ Tryz.underlying102 m [] rfl HM.out ?_; intro ob hit; have HIT := Lib.hid hit; clear hit) | fail)
  generalize hw1 : w.alloc ob = W1 at *
  have HB1 : Hid (Below w.heap.size w W1) := Lib.hid (by rw [← hw1]; exact (Below.refl _ _).alloc (Nat.le_refl _) _)
  clear hw1 c0 HM
  go_simp
  go_loopw [6] (fun x wr => wr = W1) (fun _ _ => 0)
  case atStart => rfl
  case round =>
    obtain rfl := hrel
    go_wp2_with (first | (refine wpList_map_next _ rfl _ rfl keyN_inj m w.heap.size [] [] rfl HIT.out (fun hd => ?_) (fun key val w' hkv hkp hit' hkw hsz hen => ?_)) | fail)
    · go_wp2_with fail
      go_loop [31] (fun i => i = .int .i64 0) (fun _ => 0)
      case atStart => rfl
      case round =>
        obtain rfl := hrel
        go_wp2_with fail
        refine bodyPost_end (results_none rfl _ _ _) rfl ?_
        exact RetB.mk rfl HB1.out
    · cases hkv

theorem track_new (w : World) (a : Option Addr) (cap : Nat) (last : Int) : Calls Tryz.prog 77 #[.slice a 0 cap, .int .u64 last] w
    fun e w' => ∃ b m, e = .returned (.pointer (some ⟨b, 0, none⟩)) ∧ TrkAt w' b m ∧ Below w.heap.size w w' ∧ w.heap.size ≤ b ∧ w.heap.size ≤ m := by
  have hmm := @run_makeMap Tryz.prog
  go_enter Tryz.func77, Tryz.ntmps77
  go_wp2_with fail
  obtain ⟨W, hW⟩ : ∃ W, W = (w.alloc (.map #[] 0)).alloc (.cells #[.map (some w.heap.size)] 104) := ⟨_, rfl⟩
  have HT : Hid (TrkAt W (w.heap.size + 1) w.heap.size) := Lib.hid (by
    rw [hW]
    refine ⟨?_, (MapOf.made _ _ _ _ w).alloc _⟩
    have : (w.alloc (.map #[] 0)).heap.size = w.heap.size + 1 := by simp
    rw [← this]
    exact heap_new _ _)
  have HB : Hid (Below w.heap.size w W) := Lib.hid (by rw [hW]; exact ((Below.refl _ _).alloc (Nat.le_refl _) _).alloc (by simp) _)
  rw [← hW]
  clear hW
  refine (follow_any W _ _ HT.out a cap last).mono ?_
  rintro e w1 ⟨rfl, hb1⟩
  have HT1 := Lib.hid (HT.out.below hb1)
  have HB1 := Lib.hid (HB.out.trans (hb1.mono HB.out.size))
  clear hb1
  go_wp2_with fail
  go_ret
  exact ⟨_, _, rfl, HT1.out, HB1.out, by omega, Nat.le_refl _⟩

end Go.Proofs.YtbfhgljmopgejaaGreat

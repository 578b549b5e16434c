/- spec.Name, and the statements' own Name: whether a text is a name. Package wheel: put, Add (what they write). Texts as lists of bytes: cut at a byte, split at a byte. No program. -/
import Derived.Test.YtheipmallojdkaaGreatDoorIrM01
import Derived.Handy
import Derived.Test.YtheipmallojdkaaGreatDoorIrM08
import Derived.Lib.SplitLaws
import Derived.Lib.IndexBytes
import Derived.Lib.SlTrimSet

namespace Go.Proofs.YtheipmallojdkaaGreatDoor
open Go.RowKit

theorem at_list (s : ByteArray) (i : Nat) (h : i < s.size) : s[i]'h = s.data.toList.getD i 0 := by
  have : i < s.data.toList.length := by rw [Array.length_toList]; exact h
  rw [List.getD_eq_getElem?_getD, List.getElem?_eq_getElem this]
  rfl

def signB (c : Nat) : Bool := (decide (97 ≤ c) && decide (c ≤ 122)) || (decide (48 ≤ c) && decide (c ≤ 57)) || decide (c = 45) || decide (c = 46)

def nameL (l : List UInt8) : Bool := decide (1 ≤ l.length) && decide (l.length ≤ 24) && decide (97 ≤ (l.getD 0 0).toNat) && decide ((l.getD 0 0).toNat ≤ 122) && l.all fun c => signB c.toNat

def nameB (s : ByteArray) : Bool := nameL s.data.toList

theorem nameB_iff (s : ByteArray) : nameB s = true ↔ 1 ≤ s.size ∧ s.size ≤ 24 ∧ 97 ≤ (s.data.toList.getD 0 0).toNat ∧ (s.data.toList.getD 0 0).toNat ≤ 122 ∧ ∀ i, i < s.size → signB (s.data.toList.getD i 0).toNat = true := by
  have e0 : s.size = s.data.toList.length := by rw [Array.length_toList]; rfl
  unfold nameB nameL
  rw [e0]
  generalize s.data.toList = l
  simp only [Bool.and_eq_true, decide_eq_true_eq, List.all_eq_true]
  constructor
  · rintro ⟨⟨⟨⟨h1, h2⟩, h3⟩, h4⟩, h5⟩
    refine ⟨h1, h2, h3, h4, fun i hi => h5 _ ?_⟩
    rw [List.getD_eq_getElem?_getD, List.getElem?_eq_getElem hi]; exact List.getElem_mem hi
  · rintro ⟨h1, h2, h3, h4, h5⟩
    refine ⟨⟨⟨⟨h1, h2⟩, h3⟩, h4⟩, fun c hc => ?_⟩
    obtain ⟨i, hi, rfl⟩ := List.getElem_of_mem hc
    have := h5 i hi
    rw [List.getD_eq_getElem?_getD, List.getElem?_eq_getElem hi] at this
    exact this

theorem signB_iff (c : Nat) : signB c = true ↔ (97 ≤ c ∧ c ≤ 122) ∨ (48 ≤ c ∧ c ≤ 57) ∨ c = 45 ∨ c = 46 := by
  unfold signB
  simp only [Bool.or_eq_true, Bool.and_eq_true, decide_eq_true_eq]
  omega

theorem signB_no {c : Nat} (h : ¬ ((97 ≤ c ∧ c ≤ 122) ∨ (48 ≤ c ∧ c ≤ 57) ∨ c = 45 ∨ c = 46)) : signB c = false := by
  cases h' : signB c
  · rfl
  · exact absurd ((signB_iff c).1 h') h

theorem sign_any (c : Nat) (w : World) : Calls Tryz.prog 84 #[.int .i32 c] w (Ret (.bool (signB c)) w) := by
  have h8 := signB_iff c
  generalize signB c = b at *
  cases b
  all_goals
    simp only [Bool.false_eq_true, false_iff, true_iff] at h8
    by_cases h1 : 97 ≤ c <;> by_cases h2 : c ≤ 122 <;> by_cases h3 : 48 ≤ c <;> by_cases h4 : c ≤ 57 <;> by_cases h5 : c = 45 <;> by_cases h6 : c = 46
    all_goals try omega
    all_goals
      clear h8
      first
      | (have k5 : ((c : Int) == 45) = false := (by simp; omega))
      | (have k5 : ((c : Int) == 45) = true := (by simp; omega))
      first
      | (have k6 : ((c : Int) == 46) = false := (by simp; omega))
      | (have k6 : ((c : Int) == 46) = true := (by simp; omega))
      clear h5 h6
      go_enter Tryz.func84, Tryz.ntmps84
      go_wp2
      go_ret
      first
        | exact Ret.mk rfl
        | exact Ret.mk (bool_eq (by simp; omega))

theorem isEmpty_false (s : ByteArray) (hs : 1 ≤ s.size) : s.toList.isEmpty = false := by
  rw [ByteArray.toList_eq]
  have : s.data.toList.length = s.size := by rw [Array.length_toList]; rfl
  cases h : s.data.toList with
  | nil => rw [h] at this; simp at this; omega
  | cons c l => rfl

theorem isEmpty_true (s : ByteArray) (hs : s.size = 0) : s.toList.isEmpty = true := by
  rw [ByteArray.toList_eq]
  have : s.data.toList.length = s.size := by rw [Array.length_toList]; rfl
  cases h : s.data.toList with
  | nil => rfl
  | cons c l => rw [h] at this; simp at this; omega

theorem name_loop (s : ByteArray) (w : World) (b : Bool) (hs : 1 ≤ s.size) (hs2 : s.size ≤ 24) (h1 : 97 ≤ (s.data.toList.getD 0 0).toNat) (h2 : (s.data.toList.getD 0 0).toNat ≤ 122) (hb : nameB s = b) :
    Calls Tryz.prog 73 #[.string s] w (RetB (.bool b) w) := by
  have HB := Lib.hid hb
  have e0 := at_list s 0 (by omega)
  have H1 := Lib.hid h1
  have H2 := Lib.hid h2
  rw [← e0] at h1 h2
  have he := isEmpty_false s hs
  clear hb e0
  go_enter Tryz.func73, Tryz.ntmps73
  go_wp2_with fail
  clear h1 h2
  go_loopw [4] (fun _ wr => ∃ pos : Nat, wr = w.iter s pos ∧ ∀ i, i < pos → i < s.size → signB (s.data.toList.getD i 0).toNat = true) (fun _ wr => s.size - wr.iterPos w.heap.size)
  case atStart => exact ⟨0, rfl, fun i hi => by omega⟩
  case round =>
    obtain ⟨pos, rfl, hg⟩ := hrel
    have HG := Lib.hid hg
    clear hg
    by_cases hp : pos < s.size
    · by_cases ha : (s[pos]'hp).toNat < 128
      · have hnx : ∀ ty, (Instr.next (.pointer (some ⟨w.heap.size, 0, none⟩)) true ty).run Tryz.prog (w.iter s pos) = _ := fun ty => run_next_ascii w s pos ty hp ha
        cases hsg : signB (s[pos]'hp).toNat
        · go_wp2_with (go_at_call 84; refine (sign_any _ _).mono ?_; rintro e w' ⟨rfl, rfl⟩)
          go_ret
          refine RetB.mk (bool_eq ?_) ((Below.refl _ _).alloc (Nat.le_refl _) _)
          have := HB.out
          cases b
          · rfl
          · have h5 := ((nameB_iff s).1 this).2.2.2.2 pos hp
            rw [← at_list s pos hp, hsg] at h5
            cases h5
        · have HS := Lib.hid hsg
          go_wp2_with (go_at_call 84; refine (sign_any _ _).mono ?_; rintro e w' ⟨rfl, rfl⟩)
          go_roundw
          case rel =>
            refine ⟨pos + 1, rfl, fun i hi hi2 => ?_⟩
            rcases Nat.lt_or_ge i pos with h | h
            · exact HG.out i h hi2
            · obtain rfl : i = pos := by omega
              rw [← at_list s i hp]; exact HS.out
          case measure => simp; omega
      · have hnx : ∀ ty, (Instr.next (.pointer (some ⟨w.heap.size, 0, none⟩)) true ty).run Tryz.prog (w.iter s pos) = _ := fun ty => run_next_any w s pos ty hp
        have hhi := (decode_high s pos hp (by omega)).1
        have hsg : signB (Utf8.decode s pos).1 = false := signB_no (by omega)
        generalize (Utf8.decode s pos).1 = r at *
        clear hhi
        have HA := Lib.hid ha
        clear ha
        go_wp2_with (go_at_call 84; refine (sign_any _ _).mono ?_; rintro e w' ⟨rfl, rfl⟩)
        go_ret
        refine RetB.mk (bool_eq ?_) ((Below.refl _ _).alloc (Nat.le_refl _) _)
        have := HB.out
        cases b
        · rfl
        · have h5 := ((nameB_iff s).1 this).2.2.2.2 pos hp
          rw [← at_list s pos hp] at h5
          have := HA.out
          have h6 := (signB_iff _).1 h5
          omega
    · have hnx : ∀ ty, (Instr.next (.pointer (some ⟨w.heap.size, 0, none⟩)) true ty).run Tryz.prog (w.iter s pos) = _ := fun ty => run_next_end w s pos ty hp
      go_wp2
      go_ret
      refine RetB.mk (bool_eq ?_) ((Below.refl _ _).alloc (Nat.le_refl _) _)
      rw [← HB.out]
      symm
      exact (nameB_iff s).2 ⟨hs, hs2, H1.out, H2.out, fun i hi => HG.out i (by omega) hi⟩

theorem name_any (s : ByteArray) (w : World) (hm : s.size ≤ maxLen) : Calls Tryz.prog 73 #[.string s] w (RetB (.bool (nameB s)) w) := by
  unfold maxLen at hm
  by_cases h0 : s.size = 0
  · have hb : nameB s = false := by
      cases h : nameB s
      · rfl
      · have := ((nameB_iff s).1 h).1; omega
    have he := isEmpty_true s h0
    rw [hb]
    clear hb h0
    go_enter Tryz.func73, Tryz.ntmps73
    go_wp2_with fail
    go_ret
    exact RetB.mk rfl (Below.refl _ _)
  · by_cases h24 : 24 < s.size
    · have hb : nameB s = false := by
        cases h : nameB s
        · rfl
        · have := ((nameB_iff s).1 h).2.1; omega
      have he := isEmpty_false s (by omega)
      rw [hb]
      clear hb h0
      go_enter Tryz.func73, Tryz.ntmps73
      go_wp2_with fail
      go_ret
      exact RetB.mk rfl (Below.refl _ _)
    · by_cases h97 : 97 ≤ (s.data.toList.getD 0 0).toNat ∧ (s.data.toList.getD 0 0).toNat ≤ 122
      · exact name_loop s w _ (by omega) (by omega) h97.1 h97.2 rfl
      · have hb : nameB s = false := by
          cases h : nameB s
          · rfl
          · have := ((nameB_iff s).1 h).2.2; omega
        have he := isEmpty_false s (by omega)
        rw [hb]
        have hz : 0 < s.size := by omega
        rw [← at_list s 0 hz] at h97
        have hor : (s[0]'hz).toNat < 97 ∨ 97 ≤ (s[0]'hz).toNat ∧ 122 < (s[0]'hz).toNat := by omega
        clear h97
        clear hb
        rcases hor with hor | ⟨hor, hor2⟩
        all_goals
          go_enter Tryz.func73, Tryz.ntmps73
          go_wp2_with fail
          go_ret
          exact RetB.mk rfl (Below.refl _ _)

end Go.Proofs.YtheipmallojdkaaGreatDoor

namespace Go.Proofs.YtheipmallojdkaaGreatDoor
open Go.RowKit Go.Maps Go.ChangeMaps

theorem WheelAt.kept {S T : Nat → Prop} {w w' : World} {u : Nat} {C : Array Value} {now most : Int} {mw : Nat} {lw : List (ByteArray × (Int × Int))} (h : WheelAt w u S C now most mw lw) (hk : Keeps T w w') (hn : ∀ k, S k → ¬ T k) : WheelAt w' u S C now most mw lw :=
  ⟨hk.heap (hn u h.su) h.box, h.size, h.now, h.most, fun i h1 h2 => by
    obtain ⟨m, l, a, b, c, d⟩ := h.slots i h1 h2
    exact ⟨m, l, a, b.kept hk (hn m c), c, d⟩, h.wh, h.mapw.kept hk (hn mw h.sw), h.places, h.su, h.sw, fun k hs => Nat.lt_of_lt_of_le (h.lt k hs) hk.size⟩
theorem WheelAt.below {S : Nat → Prop} {w w' : World} {u : Nat} {C : Array Value} {now most : Int} {mw : Nat} {lw : List (ByteArray × (Int × Int))} (h : WheelAt w u S C now most mw lw) (hb : Below w.heap.size w w') : WheelAt w' u S C now most mw lw :=
  h.kept (Keeps.of_belowS (S := fun _ => False) hb) fun _ _ h => h

theorem map_ne_cells {α β : Type} {k : TypeId} {κ : α → Value} {φ : β → Value} {w : World} {m u : Nat} {l : List (α × β)} {C : Array Value} {T : TypeId} {fr : Nat × Nat} (h : MapOf Tryz.prog k κ φ w m l) (hu : w.heap[u]? = some (.cells C T fr)) : u ≠ m := by
  rintro rfl
  obtain ⟨es, cl, e2, _⟩ := h
  rw [hu] at e2
  cases e2

/-- A slot's map is another one now. -/
theorem WheelAt.slot {S : Nat → Prop} {w : World} {u : Nat} {C : Array Value} {now most : Int} {mw : Nat} {lw : List (ByteArray × (Int × Int))} (h : WheelAt w u S C now most mw lw) {m : Nat} {l : List (ByteArray × Int)} {ob : Obj} (hs : S m) (hne : m ≠ mw) (h0 : u ≠ m) (hM : SMap intV (setBlock w m ob) m l) : WheelAt (setBlock w m ob) u S C now most mw lw := by
  have hk : Keeps (fun k => k = m) w (setBlock w m ob) := (Keeps.refl (fun k => k = m) w).setBlock (.inl rfl) ob
  refine ⟨hk.heap h0 h.box, h.size, h.now, h.most, fun i h1 h2 => ?_, h.wh, h.mapw.kept hk (fun e => hne e.symm), h.places, h.su, h.sw, fun k hs => Nat.lt_of_lt_of_le (h.lt k hs) hk.size⟩
  obtain ⟨m', l', a, b, c, d⟩ := h.slots i h1 h2
  by_cases e : m' = m
  · subst e; exact ⟨m', l, a, hM, c, d⟩
  · exact ⟨m', l', a, b.kept hk e, c, d⟩
/-- .. where the timers are. -/
theorem WheelAt.where_ {S : Nat → Prop} {w : World} {u : Nat} {C : Array Value} {now most : Int} {mw : Nat} {lw lw' : List (ByteArray × (Int × Int))} (h : WheelAt w u S C now most mw lw) {ob : Obj} (hM : SMap plcV (setBlock w mw ob) mw lw') (hp : ∀ p ∈ lw', plcOk p.2) : WheelAt (setBlock w mw ob) u S C now most mw lw' := by
  have hk : Keeps (fun k => k = mw) w (setBlock w mw ob) := (Keeps.refl (fun k => k = mw) w).setBlock (.inl rfl) ob
  refine ⟨hk.heap (map_ne_cells h.mapw h.box) h.box, h.size, h.now, h.most, fun i h1 h2 => ?_, h.wh, hM, hp, h.su, h.sw, fun k hs => Nat.lt_of_lt_of_le (h.lt k hs) hk.size⟩
  obtain ⟨m', l', a, b, c, d⟩ := h.slots i h1 h2
  exact ⟨m', l', a, b.kept hk d, c, d⟩

/-- A call that wrote the wheel's blocks alone. -/
def PutP (w : World) (u : Nat) (S : Nat → Prop) (e : Ending) (w' : World) : Prop := e = .returned (.tuple #[]) ∧ Wheel w' u S ∧ Keeps S w w'

set_option maxRecDepth 100000 in
set_option maxHeartbeats 1600000 in
theorem wput_any (w : World) (u : Nat) (S : Nat → Prop) (h : Wheel w u S) (key : ByteArray) (hkey : key.size ≤ maxLen) (t : Int) (h0 : 0 ≤ t) (h1 : t ≤ 1099511627776) : Calls Tryz.prog 83 #[.pointer (some ⟨u, 0, none⟩), .string key, .int .i64 t] w (PutP w u S) := by
  have hf := find_any w u S h t h0 h1
  obtain ⟨C, now, most, mw, lw, h⟩ := h
  have H := Lib.hid h
  have HK := Lib.hid hkey
  clear h hkey
  go_enter Tryz.func83, Tryz.ntmps83
  go_wp2_with fail
  refine hf.mono ?_
  rintro e w1 ⟨⟨x, y⟩, rfl, hp, hb1⟩
  have H1 := Lib.hid (H.out.below hb1)
  have HB1 := Lib.hid hb1
  have HP := Lib.hid hp
  clear hf hb1 hp
  unfold plcV
  simp only
  go_wp2_with (first | (refine wpList_store_fresh _ rfl _ _ _ rfl _ rfl _ rfl w1 _ _ rfl rfl ?_ ?_ info_plc ?_ ?_; (focus (simp; done)); (focus (simp; done)); (focus (simp [OneCells, Value.oneCell']; done))) | (refine wpList_load_fresh _ rfl _ _ rfl _ rfl w1 _ _ rfl _ Tryz.underlying151 rfl rfl info_plc ?_) | fail)
  obtain ⟨W2, hW⟩ : ∃ W2, W2 = w1.alloc (.cells #[.int .i64 x, .int .i64 y] 151) := ⟨_, rfl⟩
  rw [← hW]
  have H2 : Hid (WheelAt W2 u S C now most mw lw) := Lib.hid (by rw [hW]; exact H1.out.below ((Below.refl _ _).alloc (Nat.le_refl _) _))
  have HZ2 : Hid (W2.heap[w1.heap.size]? = some (.cells #[.int .i64 x, .int .i64 y] 151 (0, 0))) := Lib.hid (by rw [hW]; exact heap_new _ _)
  have HB2 : Hid (Below w.heap.size w W2) := Lib.hid (by rw [hW]; exact HB1.out.alloc HB1.out.size _)
  have hz : Hid (w.heap.size ≤ w1.heap.size) := Lib.hid HB1.out.size
  clear hW
  have hat := wat_any W2 u S H2.out (x, y) HP.out
  unfold plcV at hat
  refine hat.mono ?_
  rintro e w3 ⟨m, l, rfl, hml, hSm, hne, hb3⟩
  have H3 := Lib.hid (H2.out.below hb3)
  have HZ3 := Lib.hid (bheap hb3 HZ2.out (heap_lt HZ2.out))
  have HB3 := Lib.hid (HB2.out.trans (hb3.mono HB2.out.size))
  have HML : Hid (SMap intV w3 m l) := Lib.hid (hml.kept (Keeps.of_belowS (S := fun _ => False) hb3) fun h => h)
  have HSM := Lib.hid hSm
  have HNE := Lib.hid hne
  clear hat hml hSm hne hb3
  go_wp2_with (first | (refine wpList_map_update _ rfl _ _ _ _ rfl _ skeyed keyS_inj Tryz.underlying104 m l rfl HML.out key _ rfl (skey HK.out) t rfl ?_; intro ob hM; have HM := Lib.hid hM; clear hM) | fail)
  refine still_tail 6 (by kernel_rfl) (by kernel_rfl) ?_
  intro W hW
  have hux := map_ne_cells HML.out H3.out.box
  have hzx := map_ne_cells HML.out HZ3.out
  have hkm : Keeps (fun k => k = m) w3 W := by rw [hW]; exact ((Keeps.refl (fun k => k = m) w3).setBlock (.inl rfl) ob).drew
  have hA : WheelAt W u S C now most mw lw := by
    have := H3.out.slot HSM.out HNE.out hux HM.out
    rw [hW]
    exact this.kept (T := fun _ => False) ((Keeps.refl _ _).drew) fun _ _ h => h
  have hZ : W.heap[w1.heap.size]? = some (.cells #[.int .i64 x, .int .i64 y] 151 (0, 0)) := hkm.heap hzx HZ3.out
  have HA := Lib.hid hA
  have HKM : Hid (Keeps S w W) := Lib.hid ((Keeps.of_belowS HB3.out).trans (hkm.mono fun k _ e => by rw [e]; exact HSM.out))
  have c60 := blk_cell hA.box 260 hA.wh
  have d0 := blk_cell hZ 0 rfl
  have d1 := blk_cell hZ 1 rfl
  have lu := heap_lt hA.box
  clear hW hA hZ hkm hux hzx
  simp only [List.take_succ_cons, List.take_zero, List.drop_succ_cons, List.drop_zero]
  repeat still_step
  refine wpStill_nil ?_
  refine wpList_map_update W rfl _ _ _ _ rfl _ skeyed keyS_inj Tryz.underlying105 mw lw rfl HA.out.mapw key _ rfl (skey HK.out) (x, y) rfl ?_
  intro ob2 hM2
  have HM2 := Lib.hid hM2
  clear hM2 c60 d0 d1 lu
  go_wp2
  go_end0
  refine ⟨rfl, ⟨C, now, most, mw, _, HA.out.where_ HM2.out fun p hp => ?_⟩, HKM.out.setBlock (.inl HA.out.sw) _⟩
  rcases aset_mem hp with hp | rfl
  · exact HA.out.places p hp
  · exact HP.out

def WAddP (w : World) (u : Nat) (S : Nat → Prop) (e : Ending) (w' : World) : Prop := ∃ x : Int, e = .returned (.int .i64 x) ∧ Wheel w' u S ∧ Keeps S w w'

theorem zero_plc (w : World) : (zeroValue 151).run Tryz.prog w = .ok (.agg #[.int .i64 0, .int .i64 0]) w := by kernel_rfl
theorem wlook {w : World} {m : Nat} {l : List (ByteArray × (Int × Int))} (h : SMap plcV w m l) {key : ByteArray} (hkey : key.size ≤ maxLen) : (Instr.lookup 105 (.map (some m)) (.string key) true).run Tryz.prog w = .ok (.tuple #[plcV ((aget key l).getD (0, 0)), .bool (aget key l).isSome]) w := by
  have := h.run_lookup skeyed keyS_inj Tryz.underlying105 (zero_plc w) (skey hkey) true
  cases e : aget key l <;> rw [e] at this <;> exact this
set_option maxRecDepth 100000 in
set_option maxHeartbeats 1600000 in
theorem wadd_any (w : World) (u : Nat) (S : Nat → Prop) (h : Wheel w u S) (key : ByteArray) (hkey : key.size ≤ maxLen) (t : Int) : Calls Tryz.prog 69 #[.pointer (some ⟨u, 0, none⟩), .string key, .int .i64 t] w (WAddP w u S) := by
  have H0 := Lib.hid h
  by_cases hs : key.size = 0
  · have e1 := isEmpty_true key hs
    clear h
    go_enter Tryz.func69, Tryz.ntmps69
    go_wp2
    go_ret
    exact ⟨_, rfl, H0.out, Keeps.refl _ _⟩
  have e1 := isEmpty_false key (by omega)
  by_cases h0 : t < 0
  · clear h
    go_enter Tryz.func69, Tryz.ntmps69
    go_wp2
    go_ret
    exact ⟨_, rfl, H0.out, Keeps.refl _ _⟩
  by_cases h1 : 1099511627776 < t
  · clear h
    go_enter Tryz.func69, Tryz.ntmps69
    go_wp2
    go_ret
    exact ⟨_, rfl, H0.out, Keeps.refl _ _⟩
  have HPUT : Hid (∀ W, Wheel W u S → Calls Tryz.prog 83 #[.pointer (some ⟨u, 0, none⟩), .string key, .int .i64 t] W (PutP W u S)) := Lib.hid fun W hW => wput_any W u S hW key hkey t (by omega) (by omega)
  obtain ⟨C, now, most, mw, lw, h⟩ := h
  have hr := wlook h.mapw hkey
  have c60 := blk_cell h.box 260 h.wh
  have l0 := heap_lt h.box
  obtain ⟨x, y, hxy⟩ : ∃ x y, (aget key lw).getD (0, 0) = (x, y) := ⟨_, _, rfl⟩
  obtain ⟨bt, hbt⟩ : ∃ bt, (aget key lw).isSome = bt := ⟨_, rfl⟩
  rw [hxy, hbt] at hr
  have H := Lib.hid h
  have HK := Lib.hid hkey
  clear h hkey hxy hbt
  unfold plcV at hr
  simp only at hr
  have HB1 : Hid (Keeps S w (w.alloc (.cells #[.int .i64 x, .int .i64 y] 151))) := Lib.hid ((Keeps.refl _ w).alloc _)
  have HW1 : Hid (Wheel (w.alloc (.cells #[.int .i64 x, .int .i64 y] 151)) u S) := Lib.hid (H0.out.kept (T := fun _ => False) ((Keeps.refl _ w).alloc _) fun _ _ h => h)
  cases bt
  · go_enter Tryz.func69, Tryz.ntmps69
    go_wp2_with (first | (refine wpList_store_fresh _ rfl _ _ _ rfl _ rfl _ rfl w _ _ rfl rfl ?_ ?_ info_plc ?_ ?_; (focus (simp; done)); (focus (simp; done)); (focus (simp [OneCells, Value.oneCell']; done))) | fail)
    obtain ⟨W1, hW⟩ : ∃ W1, W1 = w.alloc (.cells #[.int .i64 x, .int .i64 y] 151) := ⟨_, rfl⟩
    rw [← hW] at HB1 HW1 ⊢
    have h1' : WheelAt W1 u S C now most mw lw := by rw [hW]; exact H.out.below ((Below.refl _ _).alloc (Nat.le_refl _) _)
    have d60 := blk_cell h1'.box 260 h1'.wh
    have d1 := blk_cell h1'.box 1 h1'.most
    have l1 := heap_lt h1'.box
    have hlen : ∀ n ty, (Builtin.len_ #[105] ty #[.map (some mw)]).run Tryz.prog (W1.drewN n) = .ok (.int .i64 lw.length) (W1.drewN n) := fun n ty => (h1'.mapw.same (w' := W1.drewN n) rfl).run_len Tryz.underlying105 ty
    clear hW h1' c60 l0 hr
    by_cases hf : most ≤ (lw.length : Int)
    · go_quiet (fail)
      go_wp2
      go_ret
      exact ⟨_, rfl, HW1.out.kept (T := fun _ => False) (keeps_drewN (Keeps.refl _ _) nq) (fun _ _ h => h), keeps_drewN HB1.out nq⟩
    · go_quiet (fail)
      have HW2 : Hid (Wheel (W1.drewN nq) u S) := Lib.hid (HW1.out.kept (T := fun _ => False) (keeps_drewN (Keeps.refl _ _) nq) (fun _ _ h => h))
      have HB2 := Lib.hid (keeps_drewN HB1.out nq)
      clear d60 d1 hlen
      go_wp2_with fail
      refine (HPUT.out _ HW2.out).mono ?_
      rintro e w2 ⟨rfl, hw2, hk2⟩
      have HF := Lib.hid (show Wheel w2 u S ∧ Keeps S w w2 from ⟨hw2, HB2.out.trans hk2⟩)
      clear hw2 hk2
      go_wp2
      go_ret
      exact ⟨_, rfl, HF.out⟩
  · go_enter Tryz.func69, Tryz.ntmps69
    go_wp2_with (first | (refine wpList_store_fresh _ rfl _ _ _ rfl _ rfl _ rfl w _ _ rfl rfl ?_ ?_ info_plc ?_ ?_; (focus (simp; done)); (focus (simp; done)); (focus (simp [OneCells, Value.oneCell']; done))) | fail)
    go_ret
    exact ⟨_, rfl, HW1.out, HB1.out⟩

end Go.Proofs.YtheipmallojdkaaGreatDoor

namespace Go.Proofs.YtheipmallojdkaaGreatDoor

abbrev Bs := List UInt8

/-- .. cut at the first c. -/
def cutL (c : UInt8) : Bs → Bs × Bs × Bool
  | [] => ([], [], false)
  | x :: r => if x = c then ([], r, true) else (x :: (cutL c r).1, (cutL c r).2)
/-- .. split at each c. -/
def splitL (c : UInt8) : Bs → List Bs
  | [] => [[]]
  | x :: r => if x = c then [] :: splitL c r else (x :: (splitL c r).headD []) :: (splitL c r).tail

theorem splitL_ne (c : UInt8) : ∀ l, splitL c l ≠ []
  | [] => by simp [splitL]
  | x :: r => by unfold splitL; split <;> simp
theorem splitL_form (c : UInt8) (l : Bs) : splitL c l = (splitL c l).headD [] :: (splitL c l).tail := by
  have := splitL_ne c l
  cases h : splitL c l with
  | nil => exact absurd h this
  | cons a b => rfl
theorem splitL_length_pos (c : UInt8) (l : Bs) : 0 < (splitL c l).length := List.length_pos_iff.2 (splitL_ne c l)
theorem splitL_length (c : UInt8) : ∀ l, (splitL c l).length = l.count c + 1
  | [] => by simp [splitL]
  | x :: r => by
    have ih := splitL_length c r
    unfold splitL
    by_cases h : x = c
    · subst h; simp [ih]
    · have hp := splitL_length_pos c r
      rw [if_neg h]
      simp only [List.length_cons, List.length_tail, List.count_cons]
      have hb : (x == c) = false := by simpa using h
      rw [hb]
      simp
      omega
theorem splitL_le (c : UInt8) (l : Bs) : (splitL c l).length ≤ l.length + 1 := by
  rw [splitL_length]; have := List.count_le_length (a := c) (l := l); omega
/-- One byte more at the end. -/
theorem splitL_snoc (c : UInt8) (x : UInt8) : ∀ l, splitL c (l ++ [x]) = if x = c then splitL c l ++ [[]] else (splitL c l).dropLast ++ [(splitL c l).getLastD [] ++ [x]]
  | [] => by
    by_cases h : x = c
    · simp [splitL, h]
    · simp [splitL, h]
  | y :: r => by
    have ih := splitL_snoc c x r
    have hf := splitL_form c r
    have e1 : splitL c (y :: r ++ [x]) = if y = c then [] :: splitL c (r ++ [x]) else (y :: (splitL c (r ++ [x])).headD []) :: (splitL c (r ++ [x])).tail := rfl
    have e2 : splitL c (y :: r) = if y = c then [] :: splitL c r else (y :: (splitL c r).headD []) :: (splitL c r).tail := rfl
    rw [e1, e2, ih]
    generalize splitL c r = S at *
    cases S with
    | nil => simp at hf
    | cons a b =>
      by_cases h1 : x = c
      · by_cases h2 : y = c
        · simp [h1, h2]
        · simp [h1, h2]
      · by_cases h2 : y = c
        · cases b with
          | nil => simp [h1, h2]
          | cons d e => simp [h1, h2, List.getLastD]
        · cases b with
          | nil => simp [h1, h2]
          | cons d e => simp [h1, h2, List.getLastD]
theorem splitL_mem_len (c : UInt8) : ∀ l, ∀ p ∈ splitL c l, p.length ≤ l.length
  | [], p, h => by simp [splitL] at h; subst h; simp
  | x :: r, p, h => by
    have ih := splitL_mem_len c r
    have hf := splitL_form c r
    unfold splitL at h
    split at h
    · rcases List.mem_cons.1 h with rfl | h
      · simp
      · have := ih p h; simp; omega
    · rcases List.mem_cons.1 h with rfl | h
      · have := ih _ (by rw [hf]; exact List.mem_cons_self ..)
        simp; simpa using this
      · have := ih p (List.mem_of_mem_tail h); simp; omega

theorem indexByte_cons (x c : UInt8) (r : Bs) : Lib.index (x :: r) [c] = if x = c then 0 else if Lib.index r [c] == -1 then -1 else Lib.index r [c] + 1 := by
  show (if [c].isPrefixOf (x :: r) then (0 : Int) else _) = _
  by_cases h : x = c
  · rw [if_pos h, if_pos (by simp [List.isPrefixOf, h])]
  · rw [if_neg h, if_neg (by simp only [List.isPrefixOf]; simp [beq_eq_false_iff_ne.2 (Ne.symm h)])]
theorem index_nil (c : UInt8) : Lib.index [] [c] = -1 := rfl

theorem cut_eq (c : UInt8) : ∀ l : Bs, Lib.cut l [c] = cutL c l
  | [] => by simp [Lib.cut, index_nil, cutL]
  | x :: r => by
    have ih := cut_eq c r
    have hg := Lib.index_ge r [c]
    unfold cutL
    rw [← ih]
    unfold Lib.cut
    rw [indexByte_cons]
    by_cases h : x = c
    · simp [h]
    · rw [if_neg h, if_neg h]
      by_cases h2 : Lib.index r [c] = -1
      · simp [h2]
      · have h3 : (Lib.index r [c] == -1) = false := by simpa using h2
        have e : (Lib.index r [c] + 1).toNat = (Lib.index r [c]).toNat + 1 := by omega
        have e0 : (if (Lib.index r [c] == -1) = true then (-1 : Int) else Lib.index r [c] + 1) = Lib.index r [c] + 1 := by rw [h3]; rfl
        rw [e0, if_pos (by omega), if_pos (by omega), e]
        simp only [List.length_cons, List.length_nil, List.take_succ_cons]
        congr 2

theorem splitK_eq (c : UInt8) : ∀ l : Bs, ∀ k, l.count c ≤ k → Lib.splitK [c] 0 k l = splitL c l := by
  intro l
  induction hn : l.length using Nat.strongRecOn generalizing l with
  | _ n ih =>
    intro k hk
    cases hl : Lib.index l [c] == -1 with
    | true =>
      have hi : Lib.index l [c] = -1 := by simpa using hl
      have hno : splitL c l = [l] := by
        clear ih hk hn hl
        induction l with
        | nil => rfl
        | cons x r ih =>
          rw [indexByte_cons] at hi
          have hg := Lib.index_ge r [c]
          by_cases h : x = c
          · rw [if_pos h] at hi; cases hi
          · rw [if_neg h] at hi
            have hr : Lib.index r [c] = -1 := by
              split at hi
              · rename_i h2; simpa using h2
              · omega
            unfold splitL
            rw [if_neg h, ih hr]
            rfl
      rw [hno]
      cases k with
      | zero => rfl
      | succ k => unfold Lib.splitK; rw [hl, if_pos rfl]
    | false =>
      have hi : Lib.index l [c] ≠ -1 := by simpa using hl
      have hg := Lib.index_ge l [c]
      obtain ⟨i, hii⟩ : ∃ i : Nat, Lib.index l [c] = (i : Int) := ⟨(Lib.index l [c]).toNat, by omega⟩
      have key : ∀ (l : Bs) (i : Nat), Lib.index l [c] = (i : Int) → i < l.length ∧ splitL c l = l.take i :: splitL c (l.drop (i + 1)) ∧ l.count c = (l.drop (i + 1)).count c + 1 := by
        clear ih hk hn hl hi hg hii i l
        intro l
        induction l with
        | nil => intro i h; rw [index_nil] at h; omega
        | cons x r ih =>
          intro i h
          rw [indexByte_cons] at h
          have hg := Lib.index_ge r [c]
          by_cases hx : x = c
          · rw [if_pos hx] at h
            have h0 : i = 0 := by omega
            subst h0 hx
            refine ⟨Nat.succ_pos _, ?_, by simp⟩
            conv => lhs; unfold splitL
            rw [if_pos rfl]
            rfl
          · rw [if_neg hx] at h
            split at h
            · omega
            · rename_i hm
              have hm2 : Lib.index r [c] ≠ -1 := by simpa using hm
              obtain ⟨j, rfl⟩ : ∃ j, i = j + 1 := ⟨i - 1, by omega⟩
              obtain ⟨h1, h2, h3⟩ := ih j (by omega)
              refine ⟨Nat.succ_lt_succ h1, ?_, ?_⟩
              · conv => lhs; unfold splitL
                rw [if_neg hx, h2]
                simp
              · rw [List.count_cons]
                have hb : (x == c) = false := by simpa using hx
                rw [hb]
                simpa using h3
      obtain ⟨h1, h2, h3⟩ := key l i hii
      cases k with
      | zero => omega
      | succ k =>
        unfold Lib.splitK
        rw [hl, if_neg (by simp), h2]
        have e : (Lib.index l [c]).toNat = i := by omega
        rw [e, Nat.add_zero]
        congr 1
        exact ih (l.drop (i + 1)).length (by rw [List.length_drop]; omega) _ rfl k (by omega)

theorem split_eq (c : UInt8) (l : Bs) : Lib.splitB ⟨#[c]⟩ 0 (Lib.countB ⟨l.toArray⟩ ⟨#[c]⟩) ⟨l.toArray⟩ = (splitL c l).map fun p => ⟨p.toArray⟩ := by
  have h := Lib.splitB_data ⟨#[c]⟩ 0 (Lib.countB ⟨l.toArray⟩ ⟨#[c]⟩) ⟨l.toArray⟩
  have hc : Lib.countB ⟨l.toArray⟩ ⟨#[c]⟩ = l.count c := (Lib.count_one c l)
  rw [hc] at h ⊢
  have e : Lib.splitK (⟨#[c]⟩ : ByteArray).data.toList 0 (l.count c) (⟨l.toArray⟩ : ByteArray).data.toList = splitL c l := splitK_eq c l _ (Nat.le_refl _)
  rw [e] at h
  rw [← h, List.map_map]
  generalize Lib.splitB ⟨#[c]⟩ 0 (l.count c) ⟨l.toArray⟩ = L
  induction L with
  | nil => rfl
  | cons a r ih => rw [List.map_cons, ← ih]; rfl
theorem split_len (c : UInt8) (l : Bs) : Lib.countB ⟨l.toArray⟩ ⟨#[c]⟩ + 1 = (splitL c l).length := by
  rw [splitL_length]; exact congrArg (· + 1) (Lib.count_one c l)

/-- Digits. -/
def digB (c : UInt8) : Bool := decide (48 ≤ c.toNat) && decide (c.toNat ≤ 57)
def digits10 : Bs := [48, 49, 50, 51, 52, 53, 54, 55, 56, 57]
theorem dig_mem (c : UInt8) : digits10.contains c = digB c := by
  have h : ∀ c : Fin 256, digits10.contains (UInt8.ofNat c.val) = digB (UInt8.ofNat c.val) := by decide +kernel
  have := h ⟨c.toNat, c.toNat_lt⟩
  simpa using this
theorem dropW_nil (p : UInt8 → Bool) : ∀ l : Bs, l.dropWhile p = [] ↔ ∀ x ∈ l, p x = true
  | [] => by simp
  | x :: r => by
    have ih := dropW_nil p r
    by_cases h : p x = true
    · simp [List.dropWhile_cons, h, ih]
    · simp [List.dropWhile_cons, h]
theorem trim_digits (l : Bs) : (Lib.trimS l digits10 = []) ↔ l.all digB = true := by
  have hd : (fun c => digits10.contains c) = digB := funext dig_mem
  unfold Lib.trimS Lib.trimLeftS Lib.trimRightS
  rw [hd, dropW_nil]
  constructor
  · intro h
    rw [List.all_eq_true]
    intro x hx
    by_cases hall : ∀ y ∈ l, digB y = true
    · exact hall x hx
    · exfalso
      have hne : l.reverse.dropWhile digB ≠ [] := by
        intro e
        rw [dropW_nil] at e
        exact hall fun y hy => e y (List.mem_reverse.2 hy)
      have hh := List.head_dropWhile_not digB hne
      have := h ((l.reverse.dropWhile digB).head hne) (List.mem_reverse.2 (List.head_mem hne))
      rw [hh] at this
      cases this
  · intro h x hx
    rw [List.all_eq_true] at h
    have h1 := List.mem_reverse.1 hx
    have h2 := (List.dropWhile_suffix digB).subset h1
    exact h x (List.mem_reverse.1 h2)
/-- A number's value. -/
def decV (l : Bs) : Int := l.foldl (fun a c => a * 10 + ((c.toNat : Int) - 48)) 0

end Go.Proofs.YtheipmallojdkaaGreatDoor

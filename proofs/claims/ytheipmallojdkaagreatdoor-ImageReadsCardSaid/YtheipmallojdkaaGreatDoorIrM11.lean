/- Package heap: a heap's blocks; swap (what it writes). Package heap: up, down (what they write). -/
import Derived.Test.YtheipmallojdkaaGreatDoorIrM10
import Derived.Test.YtheipmallojdkaaGreatDoorIrM03
import Derived.BigRegion

namespace Go.Proofs.YtheipmallojdkaaGreatDoor
open Go.RowKit Go.Maps Go.ChangeMaps

/-- Items' cells. -/
def flatI : List (ByteArray × Int) → List Value
  | [] => []
  | x :: xs => .string x.1 :: .int .u64 x.2 :: flatI xs
theorem flatI_len : ∀ xs : List (ByteArray × Int), (flatI xs).length = xs.length * 2
  | [] => rfl
  | x :: xs => by simp only [flatI, List.length_cons, flatI_len xs]; omega
theorem flatI_snoc : ∀ (xs : List (ByteArray × Int)) (x : ByteArray × Int), flatI (xs ++ [x]) = flatI xs ++ [.string x.1, .int .u64 x.2]
  | [], x => rfl
  | y :: xs, x => by simp only [flatI, List.cons_append, flatI_snoc xs x]
theorem flatI_at : ∀ (xs : List (ByteArray × Int)) (i : Nat) (x : ByteArray × Int), xs[i]? = some x → (flatI xs)[i * 2]? = some (.string x.1) ∧ (flatI xs)[i * 2 + 1]? = some (.int .u64 x.2)
  | [], i, x, h => by simp at h
  | y :: xs, 0, x, h => by simp at h; subst h; simp [flatI]
  | y :: xs, i + 1, x, h => by
    have := flatI_at xs i x (by simpa using h)
    rw [show (i + 1) * 2 = i * 2 + 1 + 1 by omega]
    simpa [flatI] using this
theorem flatI_set : ∀ (xs : List (ByteArray × Int)) (i : Nat) (x : ByteArray × Int), ((flatI xs).set (i * 2) (.string x.1)).set (i * 2 + 1) (.int .u64 x.2) = flatI (xs.set i x)
  | [], i, x => by simp [flatI]
  | y :: xs, 0, x => by simp [flatI]
  | y :: xs, i + 1, x => by
    rw [show (i + 1) * 2 = i * 2 + 1 + 1 by omega]
    simp only [flatI, List.set_cons_succ, flatI_set xs i x]

/-- Block h is a heap, all of whose blocks lie in S. -/
structure HeapAt (w : World) (h : Nat) (S : Nat → Prop) (v : Value) (m : Nat) (xs : List (ByteArray × Int)) (ats : List (ByteArray × Int)) : Prop where
  box : w.heap[h]? = some (.cells #[v, .map (some m)] 137 (0, 0))
  own : w.ownsRow 0 178 2 v xs.length (flatI xs)
  map : SMap intV w m ats
  ins : ∀ p ∈ ats, 0 ≤ p.2 ∧ p.2 < xs.length
  nms : ∀ x ∈ xs, x.1.size ≤ maxLen
  sh : S h
  sm : S m
  row : ∀ k, v.ownBlock = some k → S k
  lt : ∀ k, S k → k < w.heap.size

def Heap (w : World) (h : Nat) (S : Nat → Prop) (n : Nat) : Prop := ∃ v m xs ats, HeapAt w h S v m xs ats ∧ xs.length ≤ n

theorem HeapAt.kept {S T : Nat → Prop} {w w' : World} {h : Nat} {v : Value} {m : Nat} {xs ats : List (ByteArray × Int)} (H : HeapAt w h S v m xs ats) (hk : Keeps T w w') (hn : ∀ k, S k → ¬ T k) : HeapAt w' h S v m xs ats :=
  ⟨hk.heap (hn h H.sh) H.box, owns_kept H.own hk fun k hk' => hn k (H.row k hk'), H.map.kept hk (hn m H.sm), H.ins, H.nms, H.sh, H.sm, H.row, fun k hs => Nat.lt_of_lt_of_le (H.lt k hs) hk.size⟩
theorem HeapAt.below {S : Nat → Prop} {w w' : World} {h : Nat} {v : Value} {m : Nat} {xs ats : List (ByteArray × Int)} (H : HeapAt w h S v m xs ats) (hb : Below w.heap.size w w') : HeapAt w' h S v m xs ats :=
  H.kept (Keeps.of_belowS (S := fun _ => False) hb) fun _ _ h => h
theorem HeapAt.wider {S S' : Nat → Prop} {w : World} {h : Nat} {v : Value} {m : Nat} {xs ats : List (ByteArray × Int)} (H : HeapAt w h S v m xs ats) (hs : ∀ k, S k → S' k) (hl : ∀ k, S' k → k < w.heap.size) : HeapAt w h S' v m xs ats :=
  ⟨H.box, H.own, H.map, H.ins, H.nms, hs _ H.sh, hs _ H.sm, fun k hk => hs _ (H.row k hk), hl⟩

theorem HeapAt.row_of {S : Nat → Prop} {w : World} {h : Nat} {v : Value} {m : Nat} {xs ats : List (ByteArray × Int)} (H : HeapAt w h S v m xs ats) (hp : 0 < xs.length) :
    ∃ g cap cur, v = .slice (some ⟨g, 0, none⟩) xs.length cap ∧ w.heap[g]? = some (.cells cur 178 (0, 0)) ∧ xs.length ≤ cap ∧ cap ≤ 9223372036854775807 ∧ cur.size = cap * 2 ∧ cur.toList.take (xs.length * 2) = flatI xs ∧ S g ∧ g ≠ h := by
  rcases H.own.2 with ⟨_, h0⟩ | ⟨g, cap, cur, rfl, _, hg, h1, h2, h3, h4⟩
  · omega
  · refine ⟨g, cap, cur, rfl, hg, h1, h2, h3, h4, H.row g rfl, ?_⟩
    rintro rfl
    have := H.box
    rw [hg] at this
    simp at this

theorem it_cell {w : World} {g : Nat} {cur : Array Value} {T : TypeId} {xs : List (ByteArray × Int)} (hg : w.heap[g]? = some (.cells cur T (0, 0))) (ht : cur.toList.take (xs.length * 2) = flatI xs) {i : Nat} {x : ByteArray × Int} (hx : xs[i]? = some x) :
    w.cell? ⟨g, i * 2, none⟩ = some (.string x.1) ∧ w.cell? ⟨g, i * 2 + 1, none⟩ = some (.int .u64 x.2) := by
  have hi := (List.getElem?_eq_some_iff.1 hx).1
  obtain ⟨h1, h2⟩ := flatI_at xs i x hx
  rw [← ht] at h1 h2
  rw [List.getElem?_take_of_lt (by omega)] at h1 h2
  exact ⟨blk_cell hg _ (by simpa using h1), blk_cell hg _ (by simpa using h2)⟩

/-- An item is another one now. -/
theorem HeapAt.put {S : Nat → Prop} {w W : World} {h g cap : Nat} {m : Nat} {xs ats : List (ByteArray × Int)} {cur : Array Value} (H : HeapAt w h S (.slice (some ⟨g, 0, none⟩) xs.length cap) m xs ats) (hg : w.heap[g]? = some (.cells cur 178 (0, 0))) (i : Nat) (hi : i < xs.length) (x : ByteArray × Int) (hx : x.1.size ≤ maxLen)
    (hW : W.heap[g]? = some (.cells (spl cur (i * 2) [.string x.1, .int .u64 x.2]) 178 (0, 0))) (hk : Keeps (fun k => k = g) w W) : HeapAt W h S (.slice (some ⟨g, 0, none⟩) (xs.set i x).length cap) m (xs.set i x) ats := by
  obtain ⟨g', cap', cur', e1, hg', h1, h2, h3, h4, h5, h6⟩ := H.row_of (by omega)
  cases e1
  rw [hg] at hg'
  injection hg' with hg'
  injection hg' with hg' _ _
  subst hg'
  have hlen : (xs.set i x).length = xs.length := List.length_set
  have hsp : spl cur (i * 2) [.string x.1, .int .u64 x.2] = (cur.setIfInBounds (i * 2) (.string x.1)).setIfInBounds (i * 2 + 1) (.int .u64 x.2) := rfl
  refine ⟨by rw [hlen]; exact hk.heap (fun e => h6 e.symm) H.box, ⟨by rw [flatI_len], .inr ⟨g, cap, _, rfl, Nat.zero_le _, hW, by rw [hlen]; exact h1, h2, by rw [hsp]; simpa using h3, ?_⟩⟩, H.map.kept hk (fun e => ?_), by rw [hlen]; exact H.ins, fun y hy => ?_, H.sh, H.sm, fun k hk' => H.row k hk', fun k hs => Nat.lt_of_lt_of_le (H.lt k hs) hk.size⟩
  · rw [hlen, hsp, Array.toList_setIfInBounds, Array.toList_setIfInBounds, List.take_set, List.take_set, h4]
    exact flatI_set xs i x
  · exact map_ne_cells H.map hg e.symm
  · rcases List.mem_or_eq_of_mem_set hy with hy | rfl
    · exact H.nms y hy
    · exact hx

/-- A map's entry is another one now. -/
theorem HeapAt.at_ {S : Nat → Prop} {w : World} {h : Nat} {v : Value} {m : Nat} {xs ats ats' : List (ByteArray × Int)} (H : HeapAt w h S v m xs ats) {ob : Obj} (hM : SMap intV (setBlock w m ob) m ats') (hi : ∀ p ∈ ats', 0 ≤ p.2 ∧ p.2 < xs.length) : HeapAt (setBlock w m ob) h S v m xs ats' := by
  have hk : Keeps (fun k => k = m) w (setBlock w m ob) := (Keeps.refl (fun k => k = m) w).setBlock (.inl rfl) ob
  refine ⟨hk.heap (map_ne_cells H.map H.box) H.box, owns_kept H.own hk fun k hk' e => ?_, hM, hi, H.nms, H.sh, H.sm, H.row, fun k hs => Nat.lt_of_lt_of_le (H.lt k hs) hk.size⟩
  rcases H.own.2 with ⟨rfl, _⟩ | ⟨g, cap, cur, rfl, _, hg, _⟩
  · simp [Value.ownBlock] at hk'
  · simp [Value.ownBlock] at hk'
    subst hk'
    exact map_ne_cells H.map hg e

theorem cell_setBlockD {W : World} {m : Nat} {o : Obj} {a : Addr} (h : a.block ≠ m) : (setBlock W m o).cell? a = W.cell? a := by
  simp only [World.cell?, setBlock, Array.getElem?_setIfInBounds, if_neg (fun e : m = a.block => h e.symm)]

/-- What swap's reads find, whatever has been stored into the map. -/
def SwS (g cap h i k m n : Nat) (a b : ByteArray) (w' : World) : Prop := w'.cell? ⟨h, 0, none⟩ = some (.slice (some ⟨g, 0, none⟩) n cap) ∧ w'.cell? ⟨h, 1, none⟩ = some (.map (some m)) ∧ w'.cell? ⟨g, i * 2, none⟩ = some (.string b) ∧ w'.cell? ⟨g, k * 2, none⟩ = some (.string a)
theorem SwS.set {g cap h i k m n : Nat} {a b : ByteArray} {w : World} {o : Obj} (hs : SwS g cap h i k m n a b w) (h1 : g ≠ m) (h2 : h ≠ m) : SwS g cap h i k m n a b (setBlock w m o) := by
  obtain ⟨a1, a2, a3, a4⟩ := hs
  refine ⟨?_, ?_, ?_, ?_⟩
  · rw [cell_setBlockD (show h ≠ m from h2)]; exact a1
  · rw [cell_setBlockD (show h ≠ m from h2)]; exact a2
  · rw [cell_setBlockD (show g ≠ m from h1)]; exact a3
  · rw [cell_setBlockD (show g ≠ m from h1)]; exact a4

theorem info_it : (Tryz.prog.info? 178).map (·.size) = some 2 := by kernel_rfl

/-- What swap leaves. -/
def SwapP (w : World) (h : Nat) (S : Nat → Prop) (v : Value) (m n : Nat) (e : Ending) (w' : World) : Prop := e = .returned (.tuple #[]) ∧ (∃ xs ats, HeapAt w' h S v m xs ats ∧ xs.length = n) ∧ Keeps S w w'

set_option maxRecDepth 100000 in
set_option maxHeartbeats 3200000 in
theorem swap_any (w : World) (h : Nat) (S : Nat → Prop) (v : Value) (m : Nat) (xs ats : List (ByteArray × Int)) (H : HeapAt w h S v m xs ats) (i k : Nat) (hi : i < xs.length) (hk : k < xs.length) (hik : i ≠ k) (hl : xs.length ≤ 1000000) :
    Calls Tryz.prog 115 #[.pointer (some ⟨h, 0, none⟩), .int .i64 i, .int .i64 k] w (SwapP w h S v m xs.length) := by
  obtain ⟨g, cap, cur, rfl, hg, h1, h2, h3, h4, h5, h6⟩ := H.row_of (by omega)
  obtain ⟨⟨a, p⟩, hx⟩ : ∃ x, xs[i]? = some x := ⟨xs[i], by simp⟩
  obtain ⟨⟨b, q⟩, hy⟩ : ∃ x, xs[k]? = some x := ⟨xs[k], by simp⟩
  have hsa : a.size ≤ maxLen := H.nms _ (List.mem_of_getElem? hx)
  have hsb : b.size ≤ maxLen := H.nms _ (List.mem_of_getElem? hy)
  have HH := Lib.hid H
  obtain ⟨n, hn⟩ : ∃ n, n = xs.length := ⟨_, rfl⟩
  have c0 : w.cell? ⟨h, 0, none⟩ = some (.slice (some ⟨g, 0, none⟩) n cap) := by rw [hn]; exact blk_cell H.box 0 rfl
  have l0 : h < w.heap.size := heap_lt H.box
  have lg : g < w.heap.size := heap_lt hg
  obtain ⟨a0, a1⟩ := it_cell hg h4 hx
  obtain ⟨b0, b1⟩ := it_cell hg h4 hy
  have HG := Lib.hid hg
  have H4 := Lib.hid h4
  have HSZ := Lib.hid h3
  have HSA := Lib.hid hsa
  have HSB := Lib.hid hsb
  rw [← hn] at hi hk h1 hl
  have HN := Lib.hid hn
  clear H hg h3 h4 h5 h6 hx hy hsa hsb hn
  have fa0 : w.frozen? ⟨g, i * 2, none⟩ = false := blk_free HG.out _
  have fa1 : w.frozen? ⟨g, i * 2 + 1, none⟩ = false := blk_free HG.out _
  have fb0 : w.frozen? ⟨g, k * 2, none⟩ = false := blk_free HG.out _
  have fb1 : w.frozen? ⟨g, k * 2 + 1, none⟩ = false := blk_free HG.out _
  have n1 : ¬ k * 2 = i * 2 := by omega
  have n2 : ¬ k * 2 = i * 2 + 1 := by omega
  have n3 : ¬ k * 2 + 1 = i * 2 := by omega
  have n4 : ¬ k * 2 + 1 = i * 2 + 1 := by omega
  have n5 : ¬ i * 2 = k * 2 := by omega
  have n6 : ¬ i * 2 = k * 2 + 1 := by omega
  have n7 : ¬ i * 2 + 1 = k * 2 := by omega
  have n8 : ¬ i * 2 + 1 = k * 2 + 1 := by omega
  go_enter Tryz.func115, Tryz.ntmps115
  go_wp2_with fail
  go_region
  obtain ⟨W1, hW1⟩ : ∃ W1, W1 = (w.setCell ⟨g, i * 2, none⟩ (.string b)).setCell ⟨g, i * 2 + 1, none⟩ (.int .u64 q) := ⟨_, rfl⟩
  rw [← hW1]
  have k1 : Keeps (fun k => k = g) w W1 := by rw [hW1]; exact ((Keeps.refl (fun k => k = g) w).setCell (p := ⟨g, i * 2, none⟩) (.inl rfl) _).setCell (p := ⟨g, i * 2 + 1, none⟩) (.inl rfl) _
  have g1 : W1.heap[g]? = some (.cells (spl cur (i * 2) [.string b, .int .u64 q]) 178 (0, 0)) := by rw [hW1]; exact blk_set (blk_set HG.out _ _) _ _
  have H1 := HH.out.put HG.out i (by have := HN.out; omega) (b, q) HSB.out g1 k1
  obtain ⟨W2, hW2⟩ : ∃ W2, W2 = ((W1.setCell ⟨g, k * 2, none⟩ (.string a)).setCell ⟨g, k * 2 + 1, none⟩ (.int .u64 p)).drew := ⟨_, rfl⟩
  rw [← hW2]
  have k2 : Keeps (fun k => k = g) W1 W2 := by rw [hW2]; exact (((Keeps.refl (fun k => k = g) W1).setCell (p := ⟨g, k * 2, none⟩) (.inl rfl) _).setCell (p := ⟨g, k * 2 + 1, none⟩) (.inl rfl) _).drew
  have g2 : W2.heap[g]? = some (.cells (spl (spl cur (i * 2) [.string b, .int .u64 q]) (k * 2) [.string a, .int .u64 p]) 178 (0, 0)) := by rw [hW2]; exact blk_set (blk_set g1 _ _) _ _
  have H2 := H1.put g1 k (by have := HN.out; rw [List.length_set]; omega) (a, p) HSA.out g2 k2
  have hlen : ((xs.set i (b, q)).set k (a, p)).length = n := by rw [List.length_set, List.length_set]; exact HN.out.symm
  have hx2 : ((xs.set i (b, q)).set k (a, p))[i]? = some (b, q) := by rw [List.getElem?_set_ne (fun e => hik e.symm), List.getElem?_set_self (by have := HN.out; omega)]
  have hy2 : ((xs.set i (b, q)).set k (a, p))[k]? = some (a, p) := by rw [List.getElem?_set_self (by rw [List.length_set]; have := HN.out; omega)]
  generalize (xs.set i (b, q)).set k (a, p) = ys at H2 hlen hx2 hy2
  obtain ⟨g', cap', cur', e1, hg', _, _, _, h4', hSg, _⟩ := H2.row_of (by omega)
  cases e1
  obtain ⟨a0', _⟩ := it_cell hg' h4' hx2
  obtain ⟨b0', _⟩ := it_cell hg' h4' hy2
  simp only at a0' b0'
  rw [hlen] at H2
  have HK : Hid (Keeps S w W2) := Lib.hid ((k1.trans k2).mono fun k _ e => by rw [e]; exact hSg)
  have hgg := hg'
  clear hW1 hW2 k1 k2 g1 g2 H1 hg' h4' a0 a1 b0 b1 c0 l0 lg fa0 fa1 fb0 fb1 n1 n2 n3 n4 n5 n6 n7 n8
  have c0 : W2.cell? ⟨h, 0, none⟩ = some (.slice (some ⟨g, 0, none⟩) n cap) := blk_cell H2.box 0 rfl
  have c1 : W2.cell? ⟨h, 1, none⟩ = some (.map (some m)) := blk_cell H2.box 1 rfl
  have l0 : h < W2.heap.size := heap_lt H2.box
  have HH2 := Lib.hid H2
  have HA0 : Hid (m < W2.drew.heap.size) := Lib.hid H2.map.lt
  have HHM : Hid (h ≠ m) := Lib.hid (map_ne_cells H2.map H2.box)
  have HGM : Hid (g ≠ m) := Lib.hid (map_ne_cells H2.map hgg)
  have HYL := Lib.hid hlen
  clear H2 hlen hgg
  go_wp2_with fail
  obtain ⟨W, hW⟩ : ∃ W, W = W2.drew := ⟨_, rfl⟩
  have hA : HeapAt W h S (.slice (some ⟨g, 0, none⟩) n cap) m ys ats := by
    have := HH2.out.kept (T := fun _ => False) (w' := W) (by rw [hW]; exact (Keeps.refl _ _).drew) fun _ _ h => h
    exact this
  have HKW : Hid (Keeps S w W) := Lib.hid (by rw [hW]; exact HK.out.drew)
  have HA := Lib.hid hA
  obtain ⟨v1, s1, ob0, ob1, r1, r2, hM1⟩ := hA.map.run_entry skeyed keyS_inj Tryz.underlying100 zero_int (key := b) (skey HSB.out) (i : Int)
  have hH1 := HA.out.at_ hM1 (fun y hy => by
    rcases aset_mem hy with hy | rfl
    · exact HA.out.ins y hy
    · rw [HYL.out]; constructor
      · show (0 : Int) ≤ (i : Int); omega
      · show (i : Int) < (n : Int); omega)
  obtain ⟨v2, s2, ob2, ob3, r3, r4, hM2⟩ := hM1.run_entry skeyed keyS_inj Tryz.underlying100 zero_int (key := a) (skey HSA.out) (k : Int)
  have hH2 := hH1.at_ hM2 (fun y hy => by
    rcases aset_mem hy with hy | rfl
    · exact hH1.ins y hy
    · rw [HYL.out]; constructor
      · show (0 : Int) ≤ (k : Int); omega
      · show (k : Int) < (n : Int); omega)
  have hkk : Keeps S w (setBlock (setBlock W m ob1) m ob3) := (HKW.out.setBlock (.inl HA.out.sm) _).setBlock (.inl HA.out.sm) _
  have HF := Lib.hid (show (∃ xs ats, HeapAt (setBlock (setBlock W m ob1) m ob3) h S (.slice (some ⟨g, 0, none⟩) n cap) m xs ats ∧ xs.length = n) ∧ Keeps S w (setBlock (setBlock W m ob1) m ob3) from ⟨⟨_, _, hH2, HYL.out⟩, hkk⟩)
  unfold keyS at r1 r3
  unfold intV at r2 r4
  rw [hW] at r1 r2 r3 r4 HF
  have hS0 : SwS g cap h i k m n a b W2.drew := ⟨c0, c1, a0', b0'⟩
  have hS1 := fun o => SwS.set (o := o) hS0 HGM.out HHM.out
  have hS2 := fun o o' => SwS.set (o := o') (hS1 o) HGM.out HHM.out
  clear hM1 hH1 hM2 hH2 hkk hA hW HKW HA
  unfold SwS at hS0 hS1 hS2
  go_region_held3 (fun w' => w'.cell? ⟨h, 0, none⟩ = some (.slice (some ⟨g, 0, none⟩) n cap) ∧ w'.cell? ⟨h, 1, none⟩ = some (.map (some m)) ∧ w'.cell? ⟨g, i * 2, none⟩ = some (.string b) ∧ w'.cell? ⟨g, k * 2, none⟩ = some (.string a)) (first | exact hS0 | exact hS1 _ | exact hS2 _ _ ) (fail)
  all_goals
    rw [← HN.out]
    go_wp2_with fail
    go_end0
    exact ⟨rfl, HF.out⟩

end Go.Proofs.YtheipmallojdkaaGreatDoor

namespace Go.Proofs.YtheipmallojdkaaGreatDoor
open Go.RowKit Go.Maps Go.ChangeMaps

/-- A heap of n items, in the same row. -/
def HeapN (w : World) (h : Nat) (S : Nat → Prop) (v : Value) (m n : Nat) : Prop := ∃ xs ats, HeapAt w h S v m xs ats ∧ xs.length = n

theorem HeapN.below {w w' : World} {h : Nat} {S : Nat → Prop} {v : Value} {m n : Nat} (H : HeapN w h S v m n) (hb : Below w.heap.size w w') : HeapN w' h S v m n := by
  obtain ⟨xs, ats, H, hl⟩ := H
  exact ⟨xs, ats, H.below hb, hl⟩

/-- What up leaves. -/
def UpP (w : World) (h : Nat) (S : Nat → Prop) (v : Value) (m n : Nat) (e : Ending) (w' : World) : Prop := (∃ j : Nat, j < n ∧ e = .returned (.int .i64 j)) ∧ HeapN w' h S v m n ∧ Keeps S w w'

theorem bcell2 {w w' : World} (hb : Below w.heap.size w w') {a : Addr} {v : Value} (h : w.cell? a = some v) : w'.cell? a = some v := by
  rw [hb.cell (cell_lt h)]; exact h

set_option maxRecDepth 100000 in
set_option maxHeartbeats 3200000 in
theorem up_any (w : World) (h : Nat) (S : Nat → Prop) (v : Value) (m n : Nat) (H : HeapN w h S v m n) (i0 : Nat) (hi0 : i0 < n) (hl : n ≤ 1000000) :
    Calls Tryz.prog 103 #[.pointer (some ⟨h, 0, none⟩), .int .i64 i0] w (UpP w h S v m n) := by
  have HH := Lib.hid H
  clear H
  go_enter Tryz.func103, Tryz.ntmps103
  go_wp2
  go_loopw [1] (fun iv wr => ∃ i : Nat, iv = .int .i64 i ∧ i < n ∧ Hid (HeapN wr h S v m n) ∧ Hid (Keeps S w wr)) (fun iv _ => (intOf iv).toNat)
  case atStart => exact ⟨i0, rfl, hi0, HH, Lib.hid (Keeps.refl _ _)⟩
  case round =>
    obtain ⟨i, rfl, hi, HN, HK⟩ := hrel
    clear HH
    rcases Nat.eq_zero_or_pos i with rfl | hpos
    · go_wp2_with fail
      go_region
      all_goals
        go_wp2_with fail
        go_ret
        exact ⟨⟨0, hi, rfl⟩, HN.out.below (below_drewN' (Below.refl _ _) 1), keeps_drewN HK.out 1⟩
    · obtain ⟨xs, ats, H, hxl⟩ := HN.out
      obtain ⟨g, cap, cur, rfl, hg, h1, h2, h3, h4, h5, h6⟩ := H.row_of (by omega)
      obtain ⟨p, hp⟩ : ∃ p, p = (i - 1) / 2 := ⟨_, rfl⟩
      have hpn : p < n := by omega
      have hpi : p < i := by omega
      obtain ⟨⟨a, r⟩, hx⟩ : ∃ x, xs[i]? = some x := ⟨xs[i]'(by omega), by simp⟩
      obtain ⟨⟨b, q⟩, hy⟩ : ∃ x, xs[p]? = some x := ⟨xs[p]'(by omega), by simp⟩
      have c0 : wr.cell? ⟨h, 0, none⟩ = some (.slice (some ⟨g, 0, none⟩) n cap) := by rw [← hxl]; exact blk_cell H.box 0 rfl
      obtain ⟨a0, a1⟩ := it_cell hg h4 hx
      obtain ⟨b0, b1⟩ := it_cell hg h4 hy
      simp only at a0 a1 b0 b1
      rw [hxl] at h1
      have l0 : h < wr.heap.size := heap_lt H.box
      have lg : g < wr.heap.size := heap_lt hg
      have w1 : IntKind.i64.wrap ((i : Int) - 1) = ((i - 1 : Nat) : Int) := by rw [IntKind.wrap_i64]; omega
      have w2 : ((i - 1 : Nat) : Int) / 2 = (p : Int) := by rw [hp]; rfl
      have w3 : IntKind.i64.wrap (p : Int) = (p : Int) := by rw [IntKind.wrap_i64]; omega
      have hO := fun W => order_any W (a, r) (b, q)
      unfold itV at hO
      simp only at hO
      obtain ⟨o, ho⟩ : ∃ o, o = orderF (a, r) (b, q) := ⟨_, rfl⟩
      rw [← ho] at hO
      have HO := Lib.hid hO
      have z1 : (0 : Int) ≤ (p : Int) := by omega
      have z2 : (p : Int) < (n : Int) := by omega
      have z3 : (i : Int) < (n : Int) := by omega
      have z4 : (0 : Int) < (i : Int) := by omega
      have hd : decide (0 < i) = true := by simpa using hpos
      have HXS : Hid (HeapN wr h S (.slice (some ⟨g, 0, none⟩) xs.length cap) m n) := Lib.hid ⟨xs, ats, H, hxl⟩
      clear HN H hg h3 h4 hx hy hO ho hp
      go_wp2_with fail
      go_region_held3 (fun w' => w'.cell? ⟨h, 0, none⟩ = some (.slice (some ⟨g, 0, none⟩) n cap) ∧ w'.cell? ⟨g, i * 2, none⟩ = some (.string a) ∧ w'.cell? ⟨g, i * 2 + 1, none⟩ = some (.int .u64 r) ∧ w'.cell? ⟨g, p * 2, none⟩ = some (.string b) ∧ w'.cell? ⟨g, p * 2 + 1, none⟩ = some (.int .u64 q)) (first | exact ⟨c0, a0, a1, b0, b1⟩ | exact ⟨e0, e1, e2, e3, e4⟩)
        (first | (go_at_call 114; refine (HO.out _).mono ?_; rintro en w5 ⟨rfl, hb5⟩; have HB5 := Lib.hid hb5; have e0 := bcell2 hb5 c0; have e1 := bcell2 hb5 a0; have e2 := bcell2 hb5 a1; have e3 := bcell2 hb5 b0; have e4 := bcell2 hb5 b1; clear hb5))
      have H5 := Lib.hid (HeapN.below (w' := w5) (HXS.out.below (w' := wr.drew) (below_drewN' (Below.refl _ _) 1)) HB5.out)
      have K5 := Lib.hid (HK.out.trans (Keeps.of_belowS (show Below wr.heap.size wr w5 from ⟨HB5.out.os, HB5.out.tape, HB5.out.output, HB5.out.size, HB5.out.block⟩)))
      clear e0 e1 e2 e3 e4 c0 a0 a1 b0 b1 l0 lg HXS HB5 HK
      by_cases ho : o < 0
      · have dd : decide (o < 0) = true := by simpa using ho
        simp only [dd]
        clear ho
        go_wp2_with fail
        obtain ⟨ys, bts, hY, hyl⟩ := H5.out
        refine (swap_any w5 h S _ m ys bts hY i p (by omega) (by omega) (by omega) (by omega)).mono ?_
        rintro en w6 ⟨rfl, hY6, hk6⟩
        have H6 : Hid (HeapN w6 h S (.slice (some ⟨g, 0, none⟩) xs.length cap) m n) := Lib.hid (by rw [hyl] at hY6; exact hY6)
        have K6 := Lib.hid (K5.out.trans hk6)
        clear hY hY6 hk6
        go_wp2_with fail
        go_roundw
        case rel => exact ⟨p, rfl, hpn, H6, K6⟩
        case measure => simp [intOf]; omega
      · have dd : decide (o < 0) = false := by simpa using ho
        simp only [dd]
        clear ho
        go_wp2_with fail
        go_ret
        exact ⟨⟨i, hi, rfl⟩, H5.out, K5.out⟩

end Go.Proofs.YtheipmallojdkaaGreatDoor

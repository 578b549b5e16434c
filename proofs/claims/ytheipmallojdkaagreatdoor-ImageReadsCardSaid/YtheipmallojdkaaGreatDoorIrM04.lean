/- Package dag: a graph's blocks; New, has, Add (what they write). A map's entry and its store, in whatever world that holds the map. Of whatever program. -/
import Derived.Test.YtheipmallojdkaaGreatDoorIrM03
import Derived.Deep.RegionHeld3

namespace Go.Proofs.YtheipmallojdkaaGreatDoor
open Go.RowKit Go.Maps Go.ChangeMaps

def mapV (b : Nat) : Value := .map (some b)
def booV (x : Bool) : Value := .bool x
theorem zero_set (w : World) : (zeroValue 126).run Tryz.prog w = .ok (.map none) w := by kernel_rfl
theorem zero_boo (w : World) : (zeroValue 4).run Tryz.prog w = .ok (.bool false) w := by kernel_rfl

/-- Block g is a graph, all of whose blocks lie in S. -/
structure GraphAt (w : World) (g : Nat) (S : Nat → Prop) (mo mu : Nat) (lo lu : List (ByteArray × Nat)) : Prop where
  box : w.heap[g]? = some (.cells #[.map (some mo), .map (some mu)] 113 (0, 0))
  on : SMap mapV w mo lo
  users : SMap mapV w mu lu
  same : keys lu = keys lo
  sets : ∀ p, p ∈ lo ∨ p ∈ lu → ∃ l, SMap booV w p.2 l ∧ (∀ k ∈ keys l, k ∈ keys lo) ∧ S p.2 ∧ p.2 ≠ mo ∧ p.2 ≠ mu
  nms : ∀ k ∈ keys lo, k.size ≤ maxLen
  ne : mo ≠ mu
  sg : S g
  so : S mo
  su : S mu
  lt : ∀ k, S k → k < w.heap.size
def Graph (w : World) (g : Nat) (S : Nat → Prop) (n : Nat) : Prop := ∃ mo mu lo lu, GraphAt w g S mo mu lo lu ∧ lo.length ≤ n

theorem GraphAt.kept {S T : Nat → Prop} {w w' : World} {g mo mu : Nat} {lo lu : List (ByteArray × Nat)} (h : GraphAt w g S mo mu lo lu) (hk : Keeps T w w') (hn : ∀ k, S k → ¬ T k) : GraphAt w' g S mo mu lo lu :=
  ⟨hk.heap (hn g h.sg) h.box, h.on.kept hk (hn mo h.so), h.users.kept hk (hn mu h.su), h.same, fun p hp => by
    obtain ⟨l, a, b, c, d⟩ := h.sets p hp
    exact ⟨l, a.kept hk (hn _ c), b, c, d⟩, h.nms, h.ne, h.sg, h.so, h.su, fun k hs => Nat.lt_of_lt_of_le (h.lt k hs) hk.size⟩
theorem GraphAt.below {S : Nat → Prop} {w w' : World} {g mo mu : Nat} {lo lu : List (ByteArray × Nat)} (h : GraphAt w g S mo mu lo lu) (hb : Below w.heap.size w w') : GraphAt w' g S mo mu lo lu :=
  h.kept (Keeps.of_belowS (S := fun _ => False) hb) fun _ _ h => h
theorem Graph.kept {S T : Nat → Prop} {w w' : World} {g n : Nat} (h : Graph w g S n) (hk : Keeps T w w') (hn : ∀ k, S k → ¬ T k) : Graph w' g S n := by
  obtain ⟨mo, mu, lo, lu, h, hl⟩ := h
  exact ⟨mo, mu, lo, lu, h.kept hk hn, hl⟩
theorem Graph.lt {S : Nat → Prop} {w : World} {g n : Nat} (h : Graph w g S n) : ∀ k, S k → k < w.heap.size := by
  obtain ⟨mo, mu, lo, lu, h, hl⟩ := h
  exact h.lt
theorem Graph.mono {S : Nat → Prop} {w : World} {g n n' : Nat} (h : Graph w g S n) (hn : n ≤ n') : Graph w g S n' := by
  obtain ⟨mo, mu, lo, lu, h, hl⟩ := h
  exact ⟨mo, mu, lo, lu, h, Nat.le_trans hl hn⟩
theorem GraphAt.wider {S S' : Nat → Prop} {w : World} {g mo mu : Nat} {lo lu : List (ByteArray × Nat)} (h : GraphAt w g S mo mu lo lu) (hs : ∀ k, S k → S' k) (hl : ∀ k, S' k → k < w.heap.size) : GraphAt w g S' mo mu lo lu :=
  ⟨h.box, h.on, h.users, h.same, fun p hp => by
    obtain ⟨l, a, b, c, d⟩ := h.sets p hp
    exact ⟨l, a, b, hs _ c, d⟩, h.nms, h.ne, hs _ h.sg, hs _ h.so, hs _ h.su, hl⟩

theorem look_some {α β : Type} [DecidableEq α] {a : α} {l : List (α × β)} (h : a ∈ keys l) : ∃ b, aget a l = some b ∧ (a, b) ∈ l := by
  cases e : aget a l with
  | none => exact absurd h (aget_none.1 e)
  | some b => exact ⟨b, rfl, aget_some_mem e⟩

theorem mne {w : World} {α β : Type} {k : TypeId} {κ : α → Value} {φ : β → Value} {m u : Nat} {l : List (α × β)} {C : Array Value} {T : TypeId} {fr : Nat × Nat} (h : MapOf Tryz.prog k κ φ w m l) (hu : w.heap[u]? = some (.cells C T fr)) : u ≠ m := by
  rintro rfl
  obtain ⟨es, cl, e2, _⟩ := h
  rw [hu] at e2
  cases e2

/-- A node's set is another one now. -/
theorem GraphAt.set_ {S : Nat → Prop} {w : World} {g mo mu : Nat} {lo lu : List (ByteArray × Nat)} (h : GraphAt w g S mo mu lo lu) {b : Nat} {l : List (ByteArray × Bool)} {ob : Obj} (hS : S b) (h1 : b ≠ mo) (h2 : b ≠ mu) (hg : g ≠ b) (hM : SMap booV (setBlock w b ob) b l) (hl : ∀ k ∈ keys l, k ∈ keys lo) : GraphAt (setBlock w b ob) g S mo mu lo lu := by
  have hk : Keeps (fun k => k = b) w (setBlock w b ob) := (Keeps.refl (fun k => k = b) w).setBlock (.inl rfl) ob
  refine ⟨hk.heap hg h.box, h.on.kept hk (fun e => h1 e.symm), h.users.kept hk (fun e => h2 e.symm), h.same, fun p hp => ?_, h.nms, h.ne, h.sg, h.so, h.su, fun k hs => Nat.lt_of_lt_of_le (h.lt k hs) hk.size⟩
  obtain ⟨l', a, b', c, d⟩ := h.sets p hp
  by_cases e : p.2 = b
  · exact ⟨l, e ▸ hM, hl, c, d⟩
  · exact ⟨l', a.kept hk e, b', c, d⟩

/-- What New leaves. -/
def GNewP (w : World) (e : Ending) (w' : World) : Prop := ∃ g, e = .returned (.pointer (some ⟨g, 0, none⟩)) ∧ Graph w' g (fun k => w.heap.size ≤ k ∧ k < w'.heap.size) 0 ∧ Below w.heap.size w w'
theorem gnew_any (w : World) : Calls Tryz.prog 28 #[] w (GNewP w) := by
  have hmm := @run_makeMap Tryz.prog
  go_enter Tryz.func28, Tryz.ntmps28
  go_wp2
  go_ret
  have m2 : SMap mapV ((w.alloc (.map #[] 0)).alloc (.map #[] 0)) (w.heap.size + 1) [] := by
    have := MapOf.made Tryz.prog 9 keyS mapV (w.alloc (.map #[] 0))
    rwa [World.size_alloc] at this
  refine ⟨w.heap.size + 2, rfl, ⟨w.heap.size, w.heap.size + 1, [], [], ⟨?_, ((MapOf.made _ _ _ _ w).alloc _).alloc _, m2.alloc _, rfl, by simp, by simp [keys], by omega, ?_, ?_, ?_, fun k hk => hk.2⟩, Nat.le_refl _⟩, (((Below.refl _ w).alloc (Nat.le_refl _) _).alloc (by simp) _).alloc (by simp; omega) _⟩
  · have := heap_new ((w.alloc (.map #[] 0)).alloc (.map #[] 0)) (.cells #[.map (some w.heap.size), .map (some (w.heap.size + 1))] 113)
    rwa [World.size_alloc, World.size_alloc] at this
  · constructor <;> simp <;> omega
  · constructor <;> simp <;> omega
  · constructor <;> simp <;> omega

section
variable {w : World} {m : Nat} {l : List (ByteArray × Nat)} (h : SMap mapV w m l) {key : ByteArray} (hkey : key.size ≤ maxLen)
include h hkey
theorem glook_some {b : Nat} (hg : aget key l = some b) : (Instr.lookup 111 (.map (some m)) (.string key) false).run Tryz.prog w = .ok (.map (some b)) w :=
  h.run_get_some skeyed keyS_inj Tryz.underlying111 (zero_set w) (skey hkey) hg
theorem glook_none (hg : aget key l = none) : (Instr.lookup 111 (.map (some m)) (.string key) false).run Tryz.prog w = .ok (.map none) w :=
  h.run_get_none skeyed keyS_inj Tryz.underlying111 (zero_set w) (skey hkey) hg
end
theorem slook {w : World} {m : Nat} {l : List (ByteArray × Bool)} (h : SMap booV w m l) {key : ByteArray} (hkey : key.size ≤ maxLen) : (Instr.lookup 126 (.map (some m)) (.string key) false).run Tryz.prog w = .ok (.bool ((aget key l).getD false)) w := by
  have := h.run_lookup skeyed keyS_inj Tryz.underlying126 (zero_boo w) (skey hkey) false
  cases e : aget key l <;> rw [e] at this <;> exact this

theorem neq_mapR {P : Program} (w : World) (t k e : TypeId) (b : Nat) (ht : P.underlying t = some (.map k e)) : (binOp .neq t (.map (some b)) (.map none)).run P w = .ok (.bool true) w := by
  have h : ∀ d : Nat, (Op.equalIn (d + 1) t (.map (some b)) (.map none)).run P w = .ok false w := fun d => by simp [Op.equalIn, run_underlying ht]
  simp only [binOp]
  simp [Op.equal, Op.maxDepth, h 9999]
theorem neq_nilR {P : Program} (w : World) (t k e : TypeId) (ht : P.underlying t = some (.map k e)) : (binOp .neq t (.map none) (.map none)).run P w = .ok (.bool false) w := by
  have h : ∀ d : Nat, (Op.equalIn (d + 1) t (.map none) (.map none)).run P w = .ok true w := fun d => by simp [Op.equalIn, run_underlying ht]
  simp only [binOp]
  simp [Op.equal, Op.maxDepth, h 9999]

set_option maxRecDepth 100000 in
theorem ghas_any (w : World) (g : Nat) (S : Nat → Prop) {mo mu : Nat} {lo lu : List (ByteArray × Nat)} (h : GraphAt w g S mo mu lo lu) (key : ByteArray) (hkey : key.size ≤ maxLen) :
    Calls Tryz.prog 59 #[.pointer (some ⟨g, 0, none⟩), .string key] w (Ret (.bool (aget key lo).isSome) w) := by
  have c0 : w.cell? ⟨g, 0, none⟩ = some (.map (some mo)) := blk_cell h.box 0 rfl
  have l0 := heap_lt h.box
  cases hg : aget key lo with
  | none =>
    have hr := glook_none h.on hkey hg
    have hq := neq_nilR w _ _ _ Tryz.underlying126
    clear h hg
    go_enter Tryz.func59, Tryz.ntmps59
    go_wp2
    go_ret
    exact Ret.mk rfl
  | some b =>
    have hr := glook_some h.on hkey hg
    have hq := neq_mapR w _ _ _ b Tryz.underlying126
    clear h hg
    go_enter Tryz.func59, Tryz.ntmps59
    go_wp2
    go_ret
    exact Ret.mk rfl

end Go.Proofs.YtheipmallojdkaaGreatDoor

namespace Go.Proofs.YtheipmallojdkaaGreatDoor
open Go.RowKit Go.Maps Go.ChangeMaps

section
variable {P : Program} {k : TypeId} {α β : Type} {κ : α → Value} {φ : β → Value} [DecidableEq α]

/-- Block b holds this object. -/
structure HasO (b : Nat) (o : Obj) (w : World) : Prop where
  at_ : w.heap[b]? = some o

theorem HasO.lt {b : Nat} {o : Obj} {w : World} (h : HasO b o w) : b < w.heap.size := heap_lt h.at_
theorem HasO.alloc {b : Nat} {o : Obj} {w : World} (h : HasO b o w) (o' : Obj) : HasO b o (w.alloc o') := ⟨aheap h.at_ _⟩
theorem HasO.drew {b : Nat} {o : Obj} {w : World} (h : HasO b o w) : HasO b o w.drew := ⟨h.at_⟩
theorem HasO.other {b c : Nat} {o o' : Obj} {w : World} (h : HasO b o w) (hne : b ≠ c) : HasO b o (setBlock w c o') := ⟨blk_setBlock_other h.at_ hne _⟩
theorem HasO.same {b : Nat} {o o' : Obj} {w : World} (h : HasO b o w) : HasO b o' (setBlock w b o') := ⟨setBlock_at h.lt _⟩

/-- The same, in whatever world block b holds the map: the entry, its stamp, and what comes of the store hang on the map alone. -/
theorem MapOf.entry_law {w : World} {b : Nat} {m : List (α × β)} (h : MapOf P k κ φ w b m) (K : Keyed P k) (inj : ∀ a b : α, κ a = κ b → a = b) {t e : TypeId} (ht : P.underlying t = some (.map k e)) {z : Value} (hz : ∀ u : World, (zeroValue e).run P u = .ok z u)
    {key : α} {kl : Lit} (hkey : keyOf P k (κ key) = some kl) :
    ∃ (o : Obj) (v0 s : Value) (o1 : Obj) (o2 : β → Obj), HasO b o w ∧ (∀ W, HasO b o W → (Instr.mapEntry t (.map (some b)) (κ key)).run P W = .ok (.tuple #[v0, s]) (setBlock W b o1)) ∧
      (∀ W val, HasO b o1 W → (Instr.entryStore t (.map (some b)) s (φ val)).run P W = .ok () (setBlock W b (o2 val))) ∧ ∀ W val, HasO b (o2 val) W → MapOf P k κ φ W b (aset key val m) := by
  have hK := fun es clock => h.keysK (es := es) (clock := clock)
  have h0 := h
  obtain ⟨es, clock, hb, hm, hn, hk, hbn⟩ := h
  obtain ⟨s1, s2⟩ := hbn
  have hmap : ∀ W : World, HasO b (.map es clock) W → MapOf P k κ φ W b m := fun W hW => ⟨es, clock, hW.at_, hm, hn, hk, s1, s2⟩
  rcases K.find w hkey es.toList (hK _ _ hb) with ⟨h1, h2⟩ | ⟨j, e0, h1, h2, h3⟩
  · have hfind : ∀ W : World, (Instr.findKey k (κ key) es.toList).run P W = .ok none W := fun W => by
      rcases K.find W hkey es.toList (hK _ _ hb) with ⟨g1, _⟩ | ⟨j, e0, _, g2, g3⟩
      · exact g1
      · exact absurd g3 (h2 e0 (List.mem_of_getElem? g2))
    have hidx : (es.push ⟨κ key, z, clock⟩).findIdx? (fun e => ((e.born : Nat) : Int) == ((clock : Nat) : Int)) = some es.size := by
      rw [WideElems.findIdx_arr]
      exact WideElems.findIdx_born (l := (es.push ⟨κ key, z, clock⟩).toList) (j := es.size) (e0 := ⟨κ key, z, clock⟩) (by
        simp only [Array.toList_push, List.map_append, List.map_cons, List.map_nil]
        refine List.nodup_append.2 ⟨s2, by simp, fun a ha c hc e1 => ?_⟩
        simp only [List.mem_singleton] at hc
        obtain ⟨x, hx, rfl⟩ := List.mem_map.1 ha
        have := s1 x hx
        omega) (by simp)
    have hmod : ∀ val : β, (es.push ⟨κ key, z, clock⟩).modify es.size (fun e => { e with val := φ val }) = es.push ⟨κ key, φ val, clock⟩ := fun val => by
      apply Array.ext'
      rw [Array.toList_modify, Array.toList_push, Array.toList_push, ← Array.length_toList, WideElems.modify_last]
    refine ⟨.map es clock, z, goInt clock, .map (es.push ⟨κ key, z, clock⟩) (clock + 1), fun val => .map (es.push ⟨κ key, φ val, clock⟩) (clock + 1), ⟨hb⟩, fun W hW => ?_, fun W val hW => ?_, fun W val hW => ?_⟩
    · simp [Instr.mapEntry, run_underlying ht, MapKept.run_getObj_map hW.at_, K.check W false hkey, hfind W, hz, MapKept.run_setObj_map _ hW.at_, Result.andThen, setBlock]
    · simp [Instr.entryStore, MapKept.run_getObj_map hW.at_, asInt, asIntOf, goInt, hidx, hmod, MapKept.run_setObj_map _ hW.at_, Result.andThen, setBlock]
    · obtain ⟨o, hu, hM⟩ := (hmap w ⟨hb⟩).run_update K inj ht hkey val
      have hu2 : (Instr.mapUpdate t (.map (some b)) (κ key) (φ val)).run P w = .ok () (setBlock w b (.map (es.push ⟨κ key, φ val, clock⟩) (clock + 1))) := by
        simp [Instr.mapUpdate, run_underlying ht, MapKept.run_getObj_map hb, K.check w false hkey, h1, MapKept.run_setObj_map _ hb, Result.andThen, setBlock]
      rw [hu2] at hu
      injection hu with _ hu
      rw [← hu] at hM
      exact hM.same (hW.at_.trans (setBlock_at (heap_lt hb) _).symm)
  · have hj : es[j]? = some e0 := by simpa using h2
    have hfind : ∀ W : World, (Instr.findKey k (κ key) es.toList).run P W = .ok (some (j, e0.val)) W := fun W => by
      rcases K.find W hkey es.toList (hK _ _ hb) with ⟨_, g2⟩ | ⟨j', e0', g1, g2, g3⟩
      · exact absurd h3 (g2 e0 (List.mem_of_getElem? h2))
      · have hjj : j' = j := by
          have hnd : (es.toList.map (·.key)).Nodup := by
            have : es.toList.map (·.key) = (keys m).map κ := by
              have e1 := congrArg (List.map (·.1)) hm
              simpa [keys, Function.comp_def] using e1
            rw [this]
            exact List.pairwise_map.2 (hn.imp fun hne e => hne (inj _ _ e))
          have h4 := (List.getElem?_eq_some_iff.1 h2)
          have h5 := (List.getElem?_eq_some_iff.1 g2)
          obtain ⟨l4, e4⟩ := h4
          obtain ⟨l5, e5⟩ := h5
          refine (List.getElem_inj (h₀ := by simpa using l5) (h₁ := by simpa using l4) hnd).1 ?_
          simp only [List.getElem_map]
          rw [e4, e5, h3, g3]
        subst hjj
        rw [h2] at g2
        cases g2
        exact g1
    have hsame : es.modify j (fun e => { e with key := κ key }) = es := by
      apply Array.ext'
      rw [Array.toList_modify, modify_eq_set _ _ _ _ h2]
      have : ({ e0 with key := κ key } : MapEntry) = e0 := by rw [← h3]
      rw [this]
      exact WideElems.set_self _ _ _ h2
    have hidx : es.findIdx? (fun e => ((e.born : Nat) : Int) == ((e0.born : Nat) : Int)) = some j := by
      rw [WideElems.findIdx_arr]
      exact WideElems.findIdx_born s2 h2
    have hmod : ∀ val : β, es.modify j (fun e => { e with val := φ val }) = es.modify j (fun e' => { e' with key := κ key, val := φ val }) := fun val => by
      apply Array.ext'
      rw [Array.toList_modify, Array.toList_modify, modify_eq_set _ _ _ _ h2, modify_eq_set _ _ _ _ h2, ← h3]
    refine ⟨.map es clock, e0.val, goInt e0.born, .map es clock, fun val => .map (es.modify j fun e' => { e' with key := κ key, val := φ val }) clock, ⟨hb⟩, fun W hW => ?_, fun W val hW => ?_, fun W val hW => ?_⟩
    · simp [Instr.mapEntry, run_underlying ht, MapKept.run_getObj_map hW.at_, K.check W false hkey, hfind W, hj, h3, K.stays W hkey, hsame, MapKept.run_setObj_map _ hW.at_, Result.andThen, setBlock]
    · simp [Instr.entryStore, MapKept.run_getObj_map hW.at_, asInt, asIntOf, goInt, hidx, hmod, MapKept.run_setObj_map _ hW.at_, Result.andThen, setBlock]
    · obtain ⟨o, hu, hM⟩ := (hmap w ⟨hb⟩).run_update K inj ht hkey val
      have hu2 : (Instr.mapUpdate t (.map (some b)) (κ key) (φ val)).run P w = .ok () (setBlock w b (.map (es.modify j fun e => { e with key := κ key, val := φ val }) clock)) := by
        simp [Instr.mapUpdate, run_underlying ht, MapKept.run_getObj_map hb, K.check w false hkey, h1, hj, h3, K.stays w hkey, MapKept.run_setObj_map _ hb, Result.andThen, setBlock]
      rw [hu2] at hu
      injection hu with _ hu
      rw [← hu] at hM
      exact hM.same (hW.at_.trans (setBlock_at (heap_lt hb) _).symm)

end

end Go.Proofs.YtheipmallojdkaaGreatDoor

/- Package dag: Add of a node that stands on nothing (what it writes). A range over an iterator that tells nothing: the caller's law, under the wide fence. A range over an iterator that tells some values, each once, in whatever order (a map's keys), whose body goes on always: the caller's law, under the wide fence. maps.Keys of a scheduler's jobs: the iterator tells each name once. -/
import Derived.Test.YtheipmallojdkaaGreatDoorIrM04
import Derived.RangeFuncNested
import Derived.RangeFuncBound
import Derived.RangeFuncCalls
import Derived.RangeFuncLeaves
import Derived.RangeFuncFrom
import Derived.Test.YtheipmallojdkaaGreatDoorIrM02
import Derived.Test.YtheipmallojdkaaGreatDoorIrM01
import Derived.Test.YtheipmallojdkaaGreatDoorIrM03
import Derived.OwnWalkIn
import Derived.TacticsInMore
import Derived.LoopNIn
import Derived.LoopIn

namespace Go.Proofs.YtheipmallojdkaaGreatDoor
open Go.RowKit Go.Maps Go.ChangeMaps

set_option maxRecDepth 100000 in
theorem indexNil_any (w : World) (f : Value) : Calls Tryz.prog 76 #[.slice none 0 0, f] w (Ret (.int .i64 (-1)) w) := by
  go_enter Tryz.func76, Tryz.ntmps76
  go_wp2
  go_loop [8] (fun i => i = .int .i64 0) (fun _ => 0)
  case atStart => rfl
  case round =>
    obtain rfl := hrel
    go_wp2
    go_ret
    exact Ret.mk rfl
set_option maxRecDepth 100000 in
theorem containsNil_any (w : World) (f : Value) : Calls Tryz.prog 60 #[.slice none 0 0, f] w (Ret (.bool false) w) := by
  have h := indexNil_any w f
  go_enter Tryz.func60, Tryz.ntmps60
  go_wp2_with fail
  refine h.mono ?_
  rintro e w1 ⟨rfl, rfl⟩
  go_wp2_with fail
  go_ret
  exact Ret.mk rfl

theorem below_drewG {B : Nat} {a w : World} (h : Below B a w) : Below B a w.drew := ⟨h.os, h.tape, h.output, h.size, h.block⟩
theorem cell_newG (w : World) (x : Value) (T : TypeId) : (w.alloc (.cells #[x] T)).cell? ⟨w.heap.size, 0, none⟩ = some x := blk_cell (heap_new w _) 0 rfl

def GAddP (w : World) (g : Nat) (S : Nat → Prop) (n : Nat) (e : Ending) (w' : World) : Prop := (∃ x : Int, e = .returned (.int .i64 x)) ∧ Graph w' g (gr S w w') n ∧ Keeps S w w'

theorem drew_heapG (W : World) : W.drew.heap = W.heap := rfl
theorem HasO.put {b : Nat} {o : Obj} {w : World} (h : b < w.heap.size) : HasO b o (setBlock w b o) := ⟨setBlock_at h _⟩
theorem HasO.made (W : World) (o : Obj) : HasO W.heap.size o (W.alloc o) := ⟨heap_new _ _⟩

theorem HasO.made1 (W : World) (o o' : Obj) : HasO (W.heap.size + 1) o ((W.alloc o').alloc o) := by
  have := HasO.made (W.alloc o') o
  rwa [World.size_alloc] at this

theorem GraphAt.fin {S : Nat → Prop} {w W0 Wf : World} {g mo mu b1 b2 n : Nat} {lo lu : List (ByteArray × Nat)} (h : GraphAt W0 g S mo mu lo lu) {key : ByteArray} (hkey : key.size ≤ maxLen) (hnew : aget key lo = none)
    (hM1 : SMap mapV Wf mo (aset key b1 lo)) (hM2 : SMap mapV Wf mu (aset key b2 lu)) (hk : Keeps (fun k => k = mo ∨ k = mu) W0 Wf) (e1 : HasO b1 (.map #[] 0) Wf) (e2 : HasO b2 (.map #[] 0) Wf) (g1 : W0.heap.size ≤ b1) (g2 : W0.heap.size ≤ b2)
    (hw : Keeps S w W0) (hl : lo.length ≤ n) (hS : ∀ k, S k → k < w.heap.size) : Graph Wf g (gr S w Wf) (n + 1) ∧ Keeps S w Wf := by
  have hno : key ∉ keys lo := aget_none.1 hnew
  have hnu : key ∉ keys lu := by rw [h.same]; exact hno
  have ko : keys (aset key b1 lo) = keys lo ++ [key] := by rw [keys_aset, if_neg hno]
  have ku : keys (aset key b2 lu) = keys lu ++ [key] := by rw [keys_aset, if_neg hnu]
  have hz := hk.size
  have hz0 := hw.size
  have mo_lt := h.lt mo h.so
  have mu_lt := h.lt mu h.su
  have mk : ∀ {b : Nat}, HasO b (.map #[] 0) Wf → SMap booV Wf b [] := fun hb => ⟨#[], 0, hb.at_, rfl, List.nodup_nil, by simp, by simp [Born]⟩
  refine ⟨⟨mo, mu, _, _, ⟨hk.heap (fun e => e.elim (mne h.on h.box) (mne h.users h.box)) h.box, hM1, hM2, by rw [ko, ku, h.same], fun p hp => ?_, fun k hk' => ?_, h.ne, .inl h.sg, .inl h.so, .inl h.su, fun k hk' => ?_⟩, ?_⟩, ?_⟩
  · have hc : (p ∈ lo ∨ p ∈ lu) ∨ p = (key, b1) ∨ p = (key, b2) := by
      rcases hp with hp | hp
      · rcases aset_mem hp with hp | hp
        · exact .inl (.inl hp)
        · exact .inr (.inl hp)
      · rcases aset_mem hp with hp | hp
        · exact .inl (.inr hp)
        · exact .inr (.inr hp)
    rcases hc with hc | rfl | rfl
    · obtain ⟨l, a, b, c, d1, d2⟩ := h.sets p hc
      exact ⟨l, a.kept hk (fun e => e.elim d1 d2), fun k hk' => by rw [ko]; exact List.mem_append_left _ (b k hk'), .inl c, d1, d2⟩
    · exact ⟨[], mk e1, by simp [keys], .inr ⟨by show w.heap.size ≤ b1; omega, e1.lt⟩, by show b1 ≠ mo; omega, by show b1 ≠ mu; omega⟩
    · exact ⟨[], mk e2, by simp [keys], .inr ⟨by show w.heap.size ≤ b2; omega, e2.lt⟩, by show b2 ≠ mo; omega, by show b2 ≠ mu; omega⟩
  · rw [ko] at hk'
    rcases List.mem_append.1 hk' with hk' | hk'
    · exact h.nms k hk'
    · simp at hk'; subst hk'; exact hkey
  · rcases hk' with hk' | hk'
    · have := hS k hk'; omega
    · exact hk'.2
  · rw [length_aset]; split <;> omega
  · exact hw.trans (hk.mono fun k _ e => by rcases e with e | e <;> rw [e]; exact h.so; exact h.su)

/-- What Add's reads find, whatever has been stored into the maps. -/
def GAddS (g B mo mu : Nat) (w' : World) : Prop := w'.cell? ⟨B, 0, none⟩ = some (.pointer (some ⟨g, 0, none⟩)) ∧ w'.cell? ⟨g, 0, none⟩ = some (.map (some mo)) ∧ w'.cell? ⟨g, 1, none⟩ = some (.map (some mu))
theorem GAddS.alloc {g B mo mu : Nat} {w : World} (h : GAddS g B mo mu w) (o : Obj) : GAddS g B mo mu (w.alloc o) := by
  obtain ⟨a, b, c⟩ := h
  have q : ∀ {p : Addr} {v : Value}, w.cell? p = some v → (w.alloc o).cell? p = some v := fun {p v} hp => (((Below.refl w.heap.size w).alloc (Nat.le_refl _) o).cell (cell_lt hp)).trans hp
  exact ⟨q a, q b, q c⟩
theorem GAddS.drew {g B mo mu : Nat} {w : World} (h : GAddS g B mo mu w) : GAddS g B mo mu w.drew := h
theorem cell_setBlockG {W : World} {m : Nat} {o : Obj} {a : Addr} (h : a.block ≠ m) : (setBlock W m o).cell? a = W.cell? a := by
  simp only [World.cell?, setBlock, Array.getElem?_setIfInBounds, if_neg (fun e : m = a.block => h e.symm)]
theorem GAddS.set {g B mo mu m : Nat} {w : World} (h : GAddS g B mo mu w) (h1 : g ≠ m) (h2 : B ≠ m) (o : Obj) : GAddS g B mo mu (setBlock w m o) := by
  obtain ⟨a, b, c⟩ := h
  refine ⟨?_, ?_, ?_⟩
  · rw [cell_setBlockG (show B ≠ m from h2)]; exact a
  · rw [cell_setBlockG (show g ≠ m from h1)]; exact b
  · rw [cell_setBlockG (show g ≠ m from h1)]; exact c

set_option maxRecDepth 100000 in
set_option maxHeartbeats 1600000 in
theorem gadd_any (w : World) (g : Nat) (S : Nat → Prop) (n : Nat) (H : Graph w g S n) (key : ByteArray) (hkey : key.size ≤ maxLen) :
    Calls Tryz.prog 40 #[.pointer (some ⟨g, 0, none⟩), .string key, .slice none 0 0] w (GAddP w g S (n + 1)) := by
  obtain ⟨mo, mu, lo, lu, H, hl⟩ := H
  obtain ⟨W0, hW⟩ : ∃ W0, W0 = w.alloc (.cells #[.pointer (some ⟨g, 0, none⟩)] 67) := ⟨_, rfl⟩
  have H0 : GraphAt W0 g S mo mu lo lu := by rw [hW]; exact H.below ((Below.refl _ _).alloc (Nat.le_refl _) _)
  have hk0 : Keeps S w W0 := by rw [hW]; exact (Keeps.refl _ _).alloc _
  have hx : W0.cell? ⟨w.heap.size, 0, none⟩ = some (.pointer (some ⟨g, 0, none⟩)) := by rw [hW]; exact cell_newG _ _ _
  have hz0 : W0.heap.size = w.heap.size + 1 := by rw [hW]; simp
  have hh := ghas_any W0 g S H0 key hkey
  have c0 : W0.cell? ⟨g, 0, none⟩ = some (.map (some mo)) := blk_cell H0.box 0 rfl
  have c1 : W0.cell? ⟨g, 1, none⟩ = some (.map (some mu)) := blk_cell H0.box 1 rfl
  have l0 := heap_lt H0.box
  have hnil := Lib.hid fun f => containsNil_any W0 f
  have HLT := Lib.hid H.lt
  have HH0 := Lib.hid H0
  have HK0 := Lib.hid hk0
  have HW := Lib.hid hW
  have HZ := Lib.hid hz0
  cases hg : aget key lo with
  | some b =>
    rw [hg] at hh
    simp only [Option.isSome_some] at hh
    clear H hW H0 hk0 hz0 hg c0 c1
    go_enter Tryz.func40, Tryz.ntmps40
    go_wp2_with (first | (rw [← HW.out]) | fail)
    refine hh.mono ?_
    rintro e w1 ⟨rfl, rfl⟩
    go_wp2_with fail
    go_ret
    refine ⟨⟨_, rfl⟩, ⟨mo, mu, lo, lu, HH0.out.wider (fun k h => .inl h) (fun k hk => ?_), by omega⟩, HK0.out⟩
    rcases hk with hk | hk
    · have := HLT.out k hk; have := HZ.out; omega
    · exact hk.2
  | none =>
    rw [hg] at hh
    simp only [Option.isSome_none] at hh
    have hmm := @run_makeMap Tryz.prog
    obtain ⟨OO, v1, s1, o1, o2, hO0, hE1, hS1, hMO⟩ := H0.on.entry_law skeyed keyS_inj Tryz.underlying111 zero_set (key := key) (skey hkey)
    obtain ⟨OU, v2, s2, p1, p2, hU0, hE2, hS2, hMU⟩ := H0.users.entry_law skeyed keyS_inj Tryz.underlying111 zero_set (key := key) (skey hkey)
    have q1 : g ≠ mo := mne H0.on H0.box
    have q2 : g ≠ mu := mne H0.users H0.box
    have q3 : w.heap.size ≠ mo := fun e => by have := H.lt mo H.so; omega
    have q4 : w.heap.size ≠ mu := fun e => by have := H.lt mu H.su; omega
    have q5 : mo ≠ mu := H0.ne
    have q6 : mu ≠ mo := fun e => H0.ne e.symm
    have hX0 : GAddS g w.heap.size mo mu W0 := ⟨hx, c0, c1⟩
    unfold keyS at hE1 hE2
    unfold mapV at hS1 hS2
    have w1 := hE1 W0.drew ((hO0).drew)
    have w2 := fun (x : Nat) => hS1 ((setBlock W0.drew mo o1).alloc (.map #[] 0)) x ((((hO0).drew).same).alloc _)
    have w3 := fun (x : Nat) => hE2 (setBlock ((setBlock W0.drew mo o1).alloc (.map #[] 0)) mo (o2 x)) (((((hU0).drew).other q6).alloc _).other q6)
    have w4 := fun (x y : Nat) => hS2 ((setBlock (setBlock ((setBlock W0.drew mo o1).alloc (.map #[] 0)) mo (o2 x)) mu p1).alloc (.map #[] 0)) y (((((((hU0).drew).other q6).alloc _).other q6).same).alloc _)
    have w5 := fun (x : Nat) => hE2 ((setBlock ((setBlock W0.drew mo o1).alloc (.map #[] 0)) mo (o2 x)).alloc (.map #[] 0)) ((((((hU0).drew).other q6).alloc _).other q6).alloc _)
    have w6 := fun (x y : Nat) => hS2 (setBlock ((setBlock ((setBlock W0.drew mo o1).alloc (.map #[] 0)) mo (o2 x)).alloc (.map #[] 0)) mu p1) y (((((((hU0).drew).other q6).alloc _).other q6).alloc _).same)
    have w7 := fun (x : Nat) => hS1 (((setBlock W0.drew mo o1).alloc (.map #[] 0)).alloc (.map #[] 0)) x (((((hO0).drew).same).alloc _).alloc _)
    have w8 := fun (x : Nat) => hE2 (setBlock (((setBlock W0.drew mo o1).alloc (.map #[] 0)).alloc (.map #[] 0)) mo (o2 x)) ((((((hU0).drew).other q6).alloc _).alloc _).other q6)
    have w9 := fun (x y : Nat) => hS2 (setBlock (setBlock (((setBlock W0.drew mo o1).alloc (.map #[] 0)).alloc (.map #[] 0)) mo (o2 x)) mu p1) y (((((((hU0).drew).other q6).alloc _).alloc _).other q6).same)
    have w10 := hE1 (W0.alloc (.map #[] 0)).drew (((hO0).alloc _).drew)
    have w11 := fun (x : Nat) => hS1 (setBlock (W0.alloc (.map #[] 0)).drew mo o1) x ((((hO0).alloc _).drew).same)
    have w12 := fun (x : Nat) => hE2 (setBlock (setBlock (W0.alloc (.map #[] 0)).drew mo o1) mo (o2 x)) (((((hU0).alloc _).drew).other q6).other q6)
    have w13 := fun (x y : Nat) => hS2 ((setBlock (setBlock (setBlock (W0.alloc (.map #[] 0)).drew mo o1) mo (o2 x)) mu p1).alloc (.map #[] 0)) y (((((((hU0).alloc _).drew).other q6).other q6).same).alloc _)
    have w14 := fun (x : Nat) => hE2 ((setBlock (setBlock (W0.alloc (.map #[] 0)).drew mo o1) mo (o2 x)).alloc (.map #[] 0)) ((((((hU0).alloc _).drew).other q6).other q6).alloc _)
    have w15 := fun (x y : Nat) => hS2 (setBlock ((setBlock (setBlock (W0.alloc (.map #[] 0)).drew mo o1) mo (o2 x)).alloc (.map #[] 0)) mu p1) y (((((((hU0).alloc _).drew).other q6).other q6).alloc _).same)
    have w16 := fun (x : Nat) => hS1 ((setBlock (W0.alloc (.map #[] 0)).drew mo o1).alloc (.map #[] 0)) x (((((hO0).alloc _).drew).same).alloc _)
    have w17 := fun (x : Nat) => hE2 (setBlock ((setBlock (W0.alloc (.map #[] 0)).drew mo o1).alloc (.map #[] 0)) mo (o2 x)) ((((((hU0).alloc _).drew).other q6).alloc _).other q6)
    have w18 := fun (x y : Nat) => hS2 (setBlock (setBlock ((setBlock (W0.alloc (.map #[] 0)).drew mo o1).alloc (.map #[] 0)) mo (o2 x)) mu p1) y (((((((hU0).alloc _).drew).other q6).alloc _).other q6).same)
    have w19 := hE1 ((W0.alloc (.map #[] 0)).alloc (.map #[] 0)).drew ((((hO0).alloc _).alloc _).drew)
    have w20 := fun (x : Nat) => hS1 (setBlock ((W0.alloc (.map #[] 0)).alloc (.map #[] 0)).drew mo o1) x (((((hO0).alloc _).alloc _).drew).same)
    have w21 := fun (x : Nat) => hE2 (setBlock (setBlock ((W0.alloc (.map #[] 0)).alloc (.map #[] 0)).drew mo o1) mo (o2 x)) ((((((hU0).alloc _).alloc _).drew).other q6).other q6)
    have w22 := fun (x y : Nat) => hS2 (setBlock (setBlock (setBlock ((W0.alloc (.map #[] 0)).alloc (.map #[] 0)).drew mo o1) mo (o2 x)) mu p1) y (((((((hU0).alloc _).alloc _).drew).other q6).other q6).same)
    have HMO := Lib.hid hMO
    have HMU := Lib.hid hMU
    have HG := Lib.hid hg
    have HO0 := Lib.hid hO0
    have HU0 := Lib.hid hU0
    have HK := Lib.hid hkey
    clear H hW H0 hk0 hz0 hg hMO hMU hE1 hE2 hS1 hS2 hO0 hU0
    go_enter Tryz.func40, Tryz.ntmps40
    go_wp2_with (first | (rw [← HW.out]) | fail)
    refine hh.mono ?_
    rintro e w1 ⟨rfl, rfl⟩
    go_wp2_with fail
    refine (hnil.out _).mono ?_
    rintro e w1 ⟨rfl, rfl⟩
    go_wp2_with fail
    go_region_held3 (fun w' => w'.cell? ⟨w.heap.size, 0, none⟩ = some (.pointer (some ⟨g, 0, none⟩)) ∧ w'.cell? ⟨g, 0, none⟩ = some (.map (some mo)) ∧ w'.cell? ⟨g, 1, none⟩ = some (.map (some mu))) ((show GAddS g w.heap.size mo mu _; repeat' (first | with_reducible exact hX0 | with_reducible refine GAddS.alloc ?_ _ | with_reducible refine GAddS.drew ?_ | with_reducible refine GAddS.set ?_ q1 q3 _ | with_reducible refine GAddS.set ?_ q2 q4 _))) (fail)
    all_goals
      generalize hWf : setBlock _ mu (p2 _) = Wf
      have hn0 : HasO W0.heap.size (.map #[] 0) (W0.alloc (.map #[] 0)) := HasO.made _ _
      have hmo : mo < W0.heap.size := HO0.out.lt
      have hmu : mu < W0.heap.size := HU0.out.lt
      have hO0 := HO0.out
      have hU0 := HU0.out
      have hK : Keeps (fun k => k = mo ∨ k = mu) W0 Wf := by
        rw [← hWf]
        repeat' (first | with_reducible exact Keeps.refl _ _ | with_reducible refine Keeps.drew ?_ | with_reducible refine Keeps.alloc ?_ _ | with_reducible refine Keeps.setBlock ?_ (.inl (.inl rfl)) _ | with_reducible refine Keeps.setBlock ?_ (.inl (.inr rfl)) _)
      obtain ⟨b1, hb1, he1, hz1⟩ : ∃ b1, HasO mo (o2 b1) Wf ∧ HasO b1 (.map #[] 0) Wf ∧ W0.heap.size ≤ b1 := by
        rw [← hWf]
        apply Exists.intro
        refine ⟨?_, ?_, ?_⟩
        · repeat' (first | with_reducible exact hO0 | with_reducible refine HasO.alloc ?_ _ | with_reducible refine HasO.drew ?_ | with_reducible refine HasO.other ?_ q5 | with_reducible refine HasO.put ?_)
          all_goals (simp [setBlock, drew_heapG]; try omega)
        · repeat' (first | with_reducible exact hn0 | with_reducible exact HasO.made1 _ _ _ | with_reducible exact HasO.made _ _ | with_reducible refine HasO.alloc ?_ _ | with_reducible refine HasO.drew ?_ | with_reducible refine HasO.other ?_ ?_)
          all_goals (simp [setBlock, drew_heapG]; try omega)
        · simp [setBlock, drew_heapG]
      obtain ⟨b2, hb2, he2, hz2⟩ : ∃ b2, HasO mu (p2 b2) Wf ∧ HasO b2 (.map #[] 0) Wf ∧ W0.heap.size ≤ b2 := by
        rw [← hWf]
        apply Exists.intro
        refine ⟨?_, ?_, ?_⟩
        · repeat' (first | with_reducible exact hU0 | with_reducible refine HasO.alloc ?_ _ | with_reducible refine HasO.drew ?_ | with_reducible refine HasO.other ?_ q6 | with_reducible refine HasO.put ?_)
          all_goals (simp [setBlock, drew_heapG]; try omega)
        · repeat' (first | with_reducible exact hn0 | with_reducible exact HasO.made1 _ _ _ | with_reducible exact HasO.made _ _ | with_reducible refine HasO.alloc ?_ _ | with_reducible refine HasO.drew ?_ | with_reducible refine HasO.other ?_ ?_)
          all_goals (simp [setBlock, drew_heapG]; try omega)
        · simp [setBlock, drew_heapG]
      have HFIN := Lib.hid (HH0.out.fin HK.out HG.out (HMO.out Wf b1 hb1) (HMU.out Wf b2 hb2) hK he1 he2 hz1 hz2 HK0.out hl HLT.out)
      clear hWf hn0 hmo hmu hO0 hU0 hK hb1 he1 hz1 hb2 he2 hz2 w1 w2 w3 w4 w5 w6 w7 w8 w9 w10 w11 w12 w13 w14 w15 w16 w17 w18 w19 w20 w21 w22
      go_wp2_with fail
      go_loop [38] (fun i => i = .int .i64 0) (fun _ => 0)
      case atStart => rfl
      case round =>
        obtain rfl := hrel
        go_wp2_with fail
        go_ret
        exact ⟨⟨_, rfl⟩, HFIN.out⟩

end Go.Proofs.YtheipmallojdkaaGreatDoor

namespace Go.Proofs.YtheipmallojdkaaGreatDoor
open Go.RowKit

theorem below_putObj {B : Nat} {a w : World} (h : Below B a w) {l : Nat} (hl : B ≤ l) (o : Obj) : Below B a (w.putObj l o) :=
  ⟨h.os, h.tape, h.output, by simpa using h.size, fun k hk => (World.putObj_heap_other (by omega)).trans (h.block k hk)⟩

theorem range_none {g : Operand} {ps : Array Tmp} {assign body : Code} {Q : Exit → Act → World → Prop} {a : Act} {w : World} {n : Nat} {gf : Nat} {lb : Array Value}
    (hg : a.eval g = .func (.func gf) #[] lb) (eg : ∀ args w, (callFunc gf args).run Tryz.prog w = .ok (.enter gf args) w)
    (iter : ∀ (l : Nat) (W : World), Below w.heap.size w W → CallsIn Fence.wide (n - 1) Tryz.prog gf (#[.func (.yield l) #[] #[]] ++ lb) W fun e B => (∃ v, e = .returned v) ∧ Below W.heap.size W B)
    (hdone : ∀ (D : Nat) (W : World), w.heap.size ≤ D → Below w.heap.size w W → W.heap[D]? = some (.deferred (some [])) → Q .normal { a with defers := { target := .collected D, args := #[] } :: a.defers } W) :
    (Code.rangeFunc g ps assign body).wpIn Fence.wide n Tryz.prog Q a w := by
  refine wpIn_rangeFunc ?_
  intro fn hfn
  obtain ⟨rec, hrec⟩ : ∃ rec : LoopState → Option Code → Loop, rec = fun st pe => { state := st, pending := pe, fn, tmps := a.tmps, params := ps, assign, body, defers := w.heap.size } := ⟨_, rfl⟩
  obtain ⟨W1, hW1⟩ : ∃ W1, (w.alloc (.deferred (some []))).alloc (.loop (rec .ready none)) = W1 := ⟨_, rfl⟩
  have hL1 : W1.heap[w.heap.size + 1]? = some (.loop (rec .ready none)) := by
    rw [← hW1]; have := World.alloc_heap_new (w.alloc (.deferred (some []))) (.loop (rec .ready none)); rwa [World.size_alloc] at this
  have hK1 : W1.heap[w.heap.size]? = some (.deferred (some [])) := by
    rw [← hW1]; exact (Below.heap_alloc _ _ _ (by simp)).trans (World.alloc_heap_new w _)
  have hbw : Below w.heap.size w W1 := by rw [← hW1]; exact ((Below.refl _ w).alloc (Nat.le_refl _) _).alloc (by simp) _
  refine ⟨w.heap.size + 1, [{ target := .collected w.heap.size, args := #[] }], W1, { target := .fn (.func gf) lb, args := #[.func (.yield (w.heap.size + 1)) #[] #[]] }, W1, gf,
    #[.func (.yield (w.heap.size + 1)) #[] #[]] ++ lb, W1, ?_, ?_, ?_, ?_, fun h => by simp [Fence.wide] at h, ?_⟩
  · rw [← hW1, hrec]; exact run_enterLoop_outer _ _ _ _ _
  · simp only [resolve, hg]
    simp [go_sem]
  · intro f' _; trivial
  · simp [invoke, go_sem, eg]
  · refine (iter (w.heap.size + 1) W1 hbw).mono ?_
    rintro e W2 ⟨⟨v, rfl⟩, hb⟩
    have hl : W2.heap[w.heap.size + 1]? = some (.loop (rec .ready none)) := (hb.block _ (Array.getElem?_eq_some_iff.1 hL1).1).trans hL1
    have hk : W2.heap[w.heap.size]? = some (.deferred (some [])) := (hb.block _ (Array.getElem?_eq_some_iff.1 hK1).1).trans hK1
    exact ⟨none, _, by have := run_endLoop (P := Tryz.prog) hl (by rw [hrec]; simp); rw [hrec] at this; exact this,
      hdone _ _ (Nat.le_refl _) (below_putObj (hbw.trans (hb.mono hbw.size)) (by omega) _) ((World.putObj_heap_other (by omega)).trans hk)⟩

end Go.Proofs.YtheipmallojdkaaGreatDoor

namespace Go.Proofs.YtheipmallojdkaaGreatDoor
open Go.RowKit

/-- The iterator's contract: it tells these, each once, in some order, over what R holds of; it writes its own walk's object. -/
def IterK {α : Type} (enc : α → Value) (ks : List α) (R : World → Prop) (n gf : Nat) (lb : Array Value) : Prop :=
  ∀ (l : Nat) (J : List α → World → Prop) (W : World), (∀ p A B, J p A → Below A.heap.size A B → J p B) →
    (∀ p A B r m s seen c, J p A → W.heap.size ≤ r → A.heap[r]? = some (.mapIter m s seen c) → Keeps (fun k => k = r) A B → J p B) → (∀ p A, J p A → R A) →
    (∀ p x A, x ∈ ks → (p ++ [x]).Nodup → (∀ y ∈ p, y ∈ ks) → J p A → YieldAt Fence.wide (n - 1) Tryz.prog l #[enc x] A fun e B => e = .returned (.bool true) ∧ J (p ++ [x]) B ∧ KeepsWalks A B) →
    J [] W → CallsIn Fence.wide n Tryz.prog gf (#[.func (.yield l) #[] #[]] ++ lb) W fun e B => (∃ v, e = .returned v) ∧ ∃ xs, xs.Perm ks ∧ J xs B

theorem keeps_putObj (w : World) (l : Nat) (o : Obj) : Keeps (fun k => k = l) w (w.putObj l o) :=
  ⟨rfl, rfl, rfl, by simp, fun k _ hn => World.putObj_heap_other hn⟩

theorem range_any {α : Type} {enc : α → Value} {g : Operand} {ps : Array Tmp} {assign body : Code} {Q : Exit → Act → World → Prop} {a : Act} {w : World} {n : Nat} {gf : Nat} {lb : Array Value}
    (hg : a.eval g = .func (.func gf) #[] lb) (eg : ∀ args w, (callFunc gf args).run Tryz.prog w = .ok (.enter gf args) w) (hps : ps.size = 1)
    {ks : List α} {R : World → Prop} (iter : IterK enc ks R (n - 1) gf lb)
    (I : List α → World → Prop)
    (hIb : ∀ p A B, I p A → Below A.heap.size A B → I p B)
    (hIr : ∀ p A, I p A → R A)
    (hIk : ∀ p A B r o, I p A → w.heap.size ≤ r → A.heap[r]? = some o → o.isCells = false → Keeps (fun k => k = r) A B → I p B)
    (h0 : I [] w) (a₁ : α → Act)
    (hassign : ∀ (l : Nat) (x : α) (W : World) (K : Act → World → Prop), K (a₁ x) W →
      assign.wpIn (Fence.wide.inRound l) (n - 1 - 1) Tryz.prog (Exit.then K (fun _ _ _ => False)) { tmps := (ps.zip #[enc x]).foldl (fun t (p, v) => t.setIfInBounds p v) a.tmps, defers := [] } W)
    (hbody : ∀ (l : Nat) (p : List α) (x : α) (W : World), x ∈ ks → (p ++ [x]).Nodup → (∀ y ∈ p, y ∈ ks) → w.heap.size ≤ W.heap.size → I p W → body.wpIn (Fence.wide.inRound l) (n - 1 - 1) Tryz.prog (fun e _ W' => e = .normal ∧ KeepsOthers W W' ∧ I (p ++ [x]) W') (a₁ x) W)
    (hdone : ∀ (D : Nat) (W : World) (xs : List α), w.heap.size ≤ D → xs.Perm ks → I xs W → W.heap[D]? = some (.deferred (some [])) → Q .normal { a with defers := { target := .collected D, args := #[] } :: a.defers } W) :
    (Code.rangeFunc g ps assign body).wpIn Fence.wide n Tryz.prog Q a w := by
  have hIo : ∀ p A l o o', I p A → w.heap.size ≤ l → A.heap[l]? = some o → o.isCells = false → I p (A.putObj l o') := fun p A l o o' h1 h2 h3 h4 => hIk p A _ l o h1 h2 h3 h4 (keeps_putObj A l o')
  refine wpIn_rangeFunc ?_
  intro fn hfn
  obtain ⟨rec, hrec⟩ : ∃ rec : LoopState → Option Code → Loop, rec = fun st pe => { state := st, pending := pe, fn, tmps := a.tmps, params := ps, assign, body, defers := w.heap.size } := ⟨_, rfl⟩
  obtain ⟨W1, hW1⟩ : ∃ W1, (w.alloc (.deferred (some []))).alloc (.loop (rec .ready none)) = W1 := ⟨_, rfl⟩
  have hL1 : W1.heap[w.heap.size + 1]? = some (.loop (rec .ready none)) := by
    rw [← hW1]; have := World.alloc_heap_new (w.alloc (.deferred (some []))) (.loop (rec .ready none)); rwa [World.size_alloc] at this
  have hK1 : W1.heap[w.heap.size]? = some (.deferred (some [])) := by
    rw [← hW1]; exact (Below.heap_alloc _ _ _ (by simp)).trans (World.alloc_heap_new w _)
  have hbw : Below w.heap.size w W1 := by rw [← hW1]; exact ((Below.refl _ w).alloc (Nat.le_refl _) _).alloc (by simp) _
  have hI1 : I [] W1 := hIb _ _ _ h0 hbw
  refine ⟨w.heap.size + 1, [{ target := .collected w.heap.size, args := #[] }], W1, { target := .fn (.func gf) lb, args := #[.func (.yield (w.heap.size + 1)) #[] #[]] }, W1, gf,
    #[.func (.yield (w.heap.size + 1)) #[] #[]] ++ lb, W1, ?_, ?_, ?_, ?_, fun h => by simp [Fence.wide] at h, ?_⟩
  · rw [← hW1, hrec]; exact run_enterLoop_outer _ _ _ _ _
  · simp only [resolve, hg]
    simp [go_sem]
  · intro f' _; trivial
  · simp [invoke, go_sem, eg]
  · refine (iter (w.heap.size + 1)
      (fun p W => I p W ∧ W.heap[w.heap.size + 1]? = some (.loop (rec .ready none)) ∧ W.heap[w.heap.size]? = some (.deferred (some [])))
      W1 ?_ ?_ ?_ ?_ ⟨hI1, hL1, hK1⟩).mono ?_
    · rintro p A B ⟨hi, hl, hk⟩ hb
      exact ⟨hIb _ _ _ hi hb, (hb.block _ (Array.getElem?_eq_some_iff.1 hl).1).trans hl, (hb.block _ (Array.getElem?_eq_some_iff.1 hk).1).trans hk⟩
    · rintro p A B r m s seen c ⟨hi, hl, hk⟩ hr hro hkp
      refine ⟨hIk _ _ _ r _ hi (by have := hbw.size; omega) hro rfl hkp, ?_, ?_⟩
      · refine hkp.heap ?_ hl
        rintro rfl
        rw [hro] at hl
        cases hl
      · refine hkp.heap ?_ hk
        rintro rfl
        rw [hro] at hk
        cases hk
    · rintro p A ⟨hi, _⟩
      exact hIr _ _ hi
    · rintro p x W hx hnd hsub ⟨hi, hl, hk⟩
      have hlt : w.heap.size + 1 < W.heap.size := (Array.getElem?_eq_some_iff.1 hl).1
      have hy := run_yield (P := Tryz.prog) (args := #[enc x]) hl (by rw [hrec]; simp [hps])
      rw [hrec] at hy
      refine ⟨fn, _, assign, body, hy, roundIn_of_wpIn hfn (hassign _ x W _ ⟨_, run_beginRound hl (by rw [hrec]), ?_⟩)⟩
      have hl2 : (W.putObj (w.heap.size + 1) (.loop { rec .ready none with state := .busy })).heap[w.heap.size + 1]? = some (.loop { rec .ready none with state := .busy }) := World.putObj_heap_same hlt
      have hk2 : (W.putObj (w.heap.size + 1) (.loop { rec .ready none with state := .busy })).heap[w.heap.size]? = some (.deferred (some [])) := (World.putObj_heap_other (by omega)).trans hk
      refine wpIn_mono (hbody _ p x _ hx hnd hsub (by simp; omega) (hIo _ _ _ _ _ hi (by omega) hl rfl)) ?_
      rintro e a3 W3 ⟨rfl, hk3, hi3⟩
      have hl0 := hl
      have hl3 := hk3.same _ _ hl2 rfl
      have hr := run_endRound (P := Tryz.prog) none hl3
      rw [hrec] at hr
      exact ⟨_, _, hr, rfl, ⟨hIo _ _ _ _ _ hi3 (by omega) hl3 rfl, by rw [hrec] at hl3 ⊢; exact World.putObj_heap_same (Array.getElem?_eq_some_iff.1 hl3).1, (World.putObj_heap_other (by omega)).trans (hk3.same _ _ hk2 rfl)⟩,
        ((KeepsWalks.putObj _ hl0 rfl).trans hk3.walks).trans (KeepsWalks.putObj _ hl3 rfl)⟩
    · rintro e W2 ⟨⟨v, rfl⟩, xs, hxs, hi, hl, hk⟩
      exact ⟨none, _, by have := run_endLoop (P := Tryz.prog) hl (by rw [hrec]; simp); rw [hrec] at this; exact this, hdone _ _ xs (Nat.le_refl _) hxs (hIo _ _ _ _ _ hi (by omega) hl rfl) ((World.putObj_heap_other (by omega)).trans hk)⟩

end Go.Proofs.YtheipmallojdkaaGreatDoor

namespace Go.Proofs.YtheipmallojdkaaGreatDoor
open Go.RowKit Go.Maps Go.ChangeMaps

/-- A pointer to a block's first cell. -/
def ptrV (b : Nat) : Value := .pointer (some ⟨b, 0, none⟩)

/-- Where the keys' iterator finds its map. -/
def KeysRS (b m : Nat) (l : List (ByteArray × Nat)) (w : World) : Prop := w.heap[b]? = some (.cells #[.map (some m)] 66 (0, 0)) ∧ SMap ptrV w m l

abbrev JMapIt (w : World) (m r : Nat) (l : List (ByteArray × Nat)) (p : List ByteArray) : Prop := MIter Tryz.prog 9 keyS ptrV w m r l p

set_option maxRecDepth 100000 in
theorem keysS_iter (n b m : Nat) (l : List (ByteArray × Nat)) :
    IterK keyS (keys l) (KeysRS b m l) n 66 #[.pointer (some ⟨b, 0, none⟩)] := by
  intro lp J W hJb hJk hJr hY h0
  have HJB := Lib.hid hJb
  have HJK := Lib.hid hJk
  have HJR := Lib.hid hJr
  have HY := Lib.hid hY
  have HJ0 := Lib.hid h0
  obtain ⟨g1, g2⟩ := hJr _ _ h0
  have c1 : W.cell? ⟨b, 0, none⟩ = some (.map (some m)) := blk_cell g1 0 rfl
  have HM := Lib.hid g2
  have hnd : Hid ((keys l).Nodup) := Lib.hid (by obtain ⟨_, _, _, _, h, _⟩ := g2; exact h)
  clear hJb hJk hJr hY h0 g1 g2
  refine callsIn_of_wp Tryz.func66 rfl trivial ?_ rfl
  simp only [Tryz.ntmps66, List.size_toArray, List.length_cons, List.length_nil, Nat.reduceAdd, Nat.reduceSub, Array.replicate_succ, Array.replicate_zero, List.push_toArray, List.append_toArray, List.nil_append, List.cons_append]
  gi_wp2_with (first | (refine wpListIn_map_range _ rfl _ _ rfl _ Tryz.underlying66 m l rfl HM.out ?_; intro ob hit; have HIT := Lib.hid hit; clear hit) | fail)
  generalize hw1 : W.alloc ob = W1 at *
  have HJ1 : Hid (J [] W1) := Lib.hid (HJB.out _ _ _ HJ0.out (by rw [← hw1]; exact (Below.refl _ _).alloc (Nat.le_refl _) _))
  clear hw1 c1 HJ0 HM
  go_simp
  gi_loopw [3] (fun _ wr => ∃ p : List ByteArray, J p wr ∧ JMapIt wr m W.heap.size l p ∧ p.Nodup ∧ ∀ y ∈ p, y ∈ keys l) (fun _ wr => l.length - (wr.iterSeen W.heap.size).size)
  case atStart => exact ⟨[], HJ1.out, HIT.out, List.nodup_nil, by simp⟩
  case round =>
    clear HJ1 HIT
    obtain ⟨p, hJ, hit, hpn, hps⟩ := hrel
    have HJ := Lib.hid hJ
    have HIT := Lib.hid hit
    have HPN := Lib.hid hpn
    have HPS := Lib.hid hps
    clear hJ hit hpn hps
    gi_wp2_with (first | (refine wpListIn_map_next _ rfl _ rfl keyS_inj m W.heap.size l p rfl HIT.out (fun hd => ?_) (fun key val w' hkv hkp hit' hkw hsz hen => ?_)) | fail)
    · have HD : Hid (p.Perm (keys l)) := Lib.hid (perm_keys hnd.out HPN.out HPS.out hd)
      clear hd
      gi_wp2
      refine bodyPost_end (results_none rfl _ _ _) rfl ?_
      exact ⟨⟨_, rfl⟩, p, HD.out, HJ.out⟩
    · have HIT2 := Lib.hid hit'
      have hJ2 : J p w' := by
        obtain ⟨mm, ss, se, cc, hobj⟩ := HIT.out.iter_obj
        exact HJK.out p wr w' W.heap.size mm ss se cc HJ.out (Nat.le_refl _) hobj hkw
      have hmem : key ∈ keys l := List.mem_map.2 ⟨_, hkv, rfl⟩
      have hnd2 : (p ++ [key]).Nodup := List.nodup_append.2 ⟨HPN.out, by simp, by rintro x hx y hy rfl; simp at hy; subst hy; exact hkp hx⟩
      have HM : Hid (p.length < l.length) := Lib.hid (left_lt hnd2 HPS.out hkv)
      have HS1 := Lib.hid (HIT.out.seen)
      have HND2 := Lib.hid hnd2
      have HMEM := Lib.hid hmem
      obtain ⟨fn, tmps, assign, body, hy, hR⟩ := HY.out p key w' hmem hnd2 HPS.out hJ2
      clear hkv hkp hit' hkw hsz hJ2 hmem hnd2
      gi_wp2
      rw [hy]
      refine ⟨fun h => by simp [Fence.wide] at h, hR.mono ?_⟩
      rintro en W3 ⟨rfl, hJ3, hkw3⟩
      have HJ3 := Lib.hid hJ3
      have HIT3 := Lib.hid (HIT2.out.walks hkw3)
      have HS3 := Lib.hid HIT3.out.seen
      clear hJ3 hR hy hen hkw3
      gi_wp2
      go_roundw
      case rel => exact ⟨p ++ [key], HJ3.out, HIT3.out, HND2.out, (fun y hy => by
        rcases List.mem_append.1 hy with hy | hy
        · exact HPS.out y hy
        · simp at hy; subst hy; exact HMEM.out)⟩
      case measure => rw [HS3.out, HS1.out]; have := HM.out; simp; omega

end Go.Proofs.YtheipmallojdkaaGreatDoor

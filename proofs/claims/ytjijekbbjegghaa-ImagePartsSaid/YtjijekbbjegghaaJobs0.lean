/- The keys of a map without any, sorted; a scheduler's jobs where it has none. -/
import Derived.Test.YtjijekbbjegghaaSchedN
import Derived.Test.YtjijekbbjegghaaRangeN
import Derived.Laws.IdiomRangeMap
import Derived.Shelf.Abstract
import Derived.Shelf.RegionOpen
import Derived.WalkKit
import Derived.OwnWalkIn
import Derived.TacticsInMore
import Derived.LoopNIn
import Derived.LoopIn
namespace Go.Proofs.Ytjijekbbjegghaa
open Go.RowKit Go.ChangeMaps Go.Sort

set_option maxRecDepth 100000 in
theorem keys1_none (w : World) (l b m : Nat) (hb : w.heap[b]? = some (.cells #[.map (some m)] 70 (0, 0))) (hm : w.heap[m]? = some (.map #[] 0)) :
    Calls Try.prog 43 #[.func (.yield l) #[] #[], .pointer (some ⟨b, 0, none⟩)] w (RetB (.tuple #[]) w) := by
  have c0 : w.cell? ⟨b, 0, none⟩ = some (.map (some m)) := blk_cell hb 0 rfl
  have hrg := run_range_map w 70 9 87 m #[] 0 Try.underlying70 hm
  have hnx : ∀ ty, (Instr.next (.pointer (some ⟨w.heap.size, 0, none⟩)) false ty).run Try.prog (w.alloc (.mapIter (some m) 0 #[] 0)) = .ok (.tuple #[.bool false]) (w.alloc (.mapIter (some m) 0 #[] 0)) := fun ty => by
    rcases run_next_map (P := Try.prog) w ty m 0 0 #[] #[] 0 hm (fun x hx => by simp at hx) (Nat.le_refl _) with ⟨_, h⟩ | ⟨e, he, _⟩
    · exact h
    · simp [leftOf] at he
  have HB : Hid (Below w.heap.size w (w.alloc (.mapIter (some m) 0 #[] 0))) := Lib.hid ((Below.refl _ _).alloc (Nat.le_refl _) _)
  clear hb hm
  go_enter Try.func43, Try.ntmps43
  go_wp2
  generalize w.alloc (.mapIter (some m) 0 #[] 0) = W1 at *
  go_loopw [6] (fun _ wr => wr = W1) (fun _ _ => 0)
  case atStart => rfl
  case round =>
    obtain rfl := hrel
    go_wp2
    go_end0
    exact RetB.mk rfl HB.out

theorem keys_any (w : World) (m : Nat) : Calls Try.prog 34 #[.map (some m)] w (fun e w' => e = .returned (.func (.func 43) #[] #[.pointer (some ⟨w.heap.size, 0, none⟩)]) ∧ w' = w.alloc (.cells #[.map (some m)] 70)) := by
  go_enter Try.func34, Try.ntmps34
  go_wp2
  go_ret
  exact ⟨rfl, rfl⟩

set_option maxRecDepth 100000 in
theorem appendS_none (w : World) (gf : Nat) (lb : Array Value) (eg : ∀ args w, (callFunc gf args).run Try.prog w = .ok (.enter gf args) w)
    (iter : ∀ (l : Nat) (W : World), Below w.heap.size w W → Calls Try.prog gf (#[.func (.yield l) #[] #[]] ++ lb) W fun e B => (∃ v, e = .returned v) ∧ Below W.heap.size W B) :
    Calls Try.prog 48 #[.slice none 0 0, .func (.func gf) #[] lb] w (RetB (.slice none 0 0) w) := by
  refine (callsIn_wide (n := 5)).1 (callsIn_of_wp_marks Try.func48 rfl trivial ?_ rfl)
  have HI := Lib.hid iter
  clear iter
  simp only [Try.ntmps48, List.size_toArray, List.length_cons, List.length_nil, Nat.reduceAdd, Nat.reduceSub, Array.replicate_succ, Array.replicate_zero, List.push_toArray, List.append_toArray, List.nil_append, List.cons_append]
  refine wpIn_wide.2 ?_
  go_wp2
  obtain ⟨W0, hW0⟩ : ∃ W0, W0 = w.alloc (.cells #[.slice none 0 0] 51) := ⟨_, rfl⟩
  rw [← hW0]
  have hx : W0.heap[w.heap.size]? = some (.cells #[.slice none 0 0] 51) := by rw [hW0]; exact heap_new _ _
  have hb : Below w.heap.size w W0 := by rw [hW0]; exact (Below.refl _ _).alloc (Nat.le_refl _) _
  clear hW0
  refine (wpIn_wide (n := 5)).1 ?_
  refine range_none (n := 5) (gf := gf) (lb := lb) rfl eg (fun l W hW => callsIn_wide.2 (HI.out l W (hb.trans (hW.mono hb.size)))) ?_
  intro D W hD hB hDef
  have hz := bheap hB hx (heap_lt hx)
  have c0 : W.cell? ⟨w.heap.size, 0, none⟩ = some (.slice none 0 0) := blk_cell hz 0 rfl
  have HDF := Lib.hid hDef
  have HB := Lib.hid (below_putObj (hb.trans (hB.mono hb.size)) (Nat.le_trans hb.size hD) (.deferred none))
  clear hx hb hB hDef hz hD
  go_wp2
  refine ⟨by simp, .inl ⟨_, _, rfl, run_takeDeferred HDF.out, ?_⟩⟩
  exact ⟨.slice none 0 0, by simp [results, Try.results48, go_sem], RetB.mk rfl HB.out⟩

theorem collectS_none (w : World) (gf : Nat) (lb : Array Value) (eg : ∀ args w, (callFunc gf args).run Try.prog w = .ok (.enter gf args) w)
    (iter : ∀ (l : Nat) (W : World), Below w.heap.size w W → Calls Try.prog gf (#[.func (.yield l) #[] #[]] ++ lb) W fun e B => (∃ v, e = .returned v) ∧ Below W.heap.size W B) :
    Calls Try.prog 41 #[.func (.func gf) #[] lb] w (RetB (.slice none 0 0) w) := by
  have h := appendS_none w gf lb eg iter
  generalize (Value.func (.func gf) #[] lb) = f at *
  go_enter Try.func41, Try.ntmps41
  go_wp2_with (go_at_call 48; refine h.mono ?_; rintro e w' ⟨rfl, hb⟩)
  go_ret
  exact RetB.mk rfl hb

set_option maxRecDepth 100000 in
theorem appendJ_none (w : World) (gf : Nat) (lb : Array Value) (eg : ∀ args w, (callFunc gf args).run Try.prog w = .ok (.enter gf args) w)
    (iter : ∀ (l : Nat) (W : World), Below w.heap.size w W → Calls Try.prog gf (#[.func (.yield l) #[] #[]] ++ lb) W fun e B => (∃ v, e = .returned v) ∧ Below W.heap.size W B) :
    Calls Try.prog 31 #[.slice none 0 0, .func (.func gf) #[] lb] w (RetB (.slice none 0 0) w) := by
  refine (callsIn_wide (n := 5)).1 (callsIn_of_wp_marks Try.func31 rfl trivial ?_ rfl)
  have HI := Lib.hid iter
  clear iter
  simp only [Try.ntmps31, List.size_toArray, List.length_cons, List.length_nil, Nat.reduceAdd, Nat.reduceSub, Array.replicate_succ, Array.replicate_zero, List.push_toArray, List.append_toArray, List.nil_append, List.cons_append]
  refine wpIn_wide.2 ?_
  go_wp2
  obtain ⟨W0, hW0⟩ : ∃ W0, W0 = w.alloc (.cells #[.slice none 0 0] 56) := ⟨_, rfl⟩
  rw [← hW0]
  have hx : W0.heap[w.heap.size]? = some (.cells #[.slice none 0 0] 56) := by rw [hW0]; exact heap_new _ _
  have hb : Below w.heap.size w W0 := by rw [hW0]; exact (Below.refl _ _).alloc (Nat.le_refl _) _
  clear hW0
  refine (wpIn_wide (n := 5)).1 ?_
  refine range_none (n := 5) (gf := gf) (lb := lb) rfl eg (fun l W hW => callsIn_wide.2 (HI.out l W (hb.trans (hW.mono hb.size)))) ?_
  intro D W hD hB hDef
  have hz := bheap hB hx (heap_lt hx)
  have c0 : W.cell? ⟨w.heap.size, 0, none⟩ = some (.slice none 0 0) := blk_cell hz 0 rfl
  have HDF := Lib.hid hDef
  have HB := Lib.hid (below_putObj (hb.trans (hB.mono hb.size)) (Nat.le_trans hb.size hD) (.deferred none))
  clear hx hb hB hDef hz hD
  go_wp2
  refine ⟨by simp, .inl ⟨_, _, rfl, run_takeDeferred HDF.out, ?_⟩⟩
  exact ⟨.slice none 0 0, by simp [results, Try.results31, go_sem], RetB.mk rfl HB.out⟩

theorem collectJ_none (w : World) (gf : Nat) (lb : Array Value) (eg : ∀ args w, (callFunc gf args).run Try.prog w = .ok (.enter gf args) w)
    (iter : ∀ (l : Nat) (W : World), Below w.heap.size w W → Calls Try.prog gf (#[.func (.yield l) #[] #[]] ++ lb) W fun e B => (∃ v, e = .returned v) ∧ Below W.heap.size W B) :
    Calls Try.prog 19 #[.func (.func gf) #[] lb] w (RetB (.slice none 0 0) w) := by
  have h := appendJ_none w gf lb eg iter
  generalize (Value.func (.func gf) #[] lb) = f at *
  go_enter Try.func19, Try.ntmps19
  go_wp2_with (go_at_call 31; refine h.mono ?_; rintro e w' ⟨rfl, hb⟩)
  go_ret
  exact RetB.mk rfl hb

set_option maxRecDepth 100000 in
theorem len64_zero (w : World) : Calls Try.prog 62 #[.int .u64 0] w (fun e w' => ∃ k : Int, e = .returned (.int .i64 k) ∧ Below w.heap.size w w') := by
  go_enter Try.func62, Try.ntmps62
  go_wp2
  go_ret
  exact ⟨_, rfl, Below.refl _ _⟩

theorem len_zero (w : World) : Calls Try.prog 50 #[.int .u64 0] w (fun e w' => ∃ k : Int, e = .returned (.int .i64 k) ∧ Below w.heap.size w w') := by
  have h := len64_zero w
  go_enter Try.func50, Try.ntmps50
  go_wp2_with (go_at_call 62; refine h.mono ?_; rintro e w' ⟨k, rfl, hb⟩)
  go_ret
  exact ⟨_, rfl, hb⟩

set_option maxRecDepth 100000 in
theorem pdq_none (w : World) (k : Int) : Calls Try.prog 49 #[.slice none 0 0, .int .i64 0, .int .i64 0, .int .i64 k] w (RetB (.tuple #[]) w) := by
  have hi : ∀ W, Calls Try.prog 52 #[.slice none 0 0, .int .i64 0, .int .i64 0] W (RetB (.tuple #[]) W) := fun W => by
    go_enter Try.func52, Try.ntmps52
    go_wp2
    go_loop [6] (fun i => i = .int .i64 1) (fun _ => 0)
    case atStart => rfl
    case round =>
      obtain rfl := hrel
      go_wp2
      go_end0
      exact RetB.mk rfl (Below.refl _ _)
  have HI := Lib.hid hi
  clear hi
  go_enter Try.func49, Try.ntmps49
  go_wp2
  go_loop [1, 2, 3, 8, 9] (fun s1 s2 s3 s8 s9 => s1 = .int .i64 0 ∧ s2 = .int .i64 0 ∧ s3 = .int .i64 k ∧ s8 = .bool true ∧ s9 = .bool true) (fun _ _ _ _ _ => 0)
  case atStart => exact ⟨rfl, rfl, rfl, rfl, rfl⟩
  case round =>
    obtain ⟨rfl, rfl, rfl, rfl, rfl⟩ := hrel
    go_wp2_with fail
    refine (HI.out _).mono ?_
    rintro e w' ⟨rfl, hb⟩
    go_wp2_with fail
    go_end0
    exact RetB.mk rfl hb

theorem sort_none (w : World) : Calls Try.prog 42 #[.slice none 0 0] w (RetB (.tuple #[]) w) := by
  have HL := Lib.hid len_zero
  have HP := Lib.hid pdq_none
  go_enter Try.func42, Try.ntmps42
  go_wp2_with fail
  refine (HL.out _).mono ?_
  rintro e w1 ⟨k, rfl, hb1⟩
  go_wp2_with fail
  refine (HP.out _ k).mono ?_
  rintro e w2 ⟨rfl, hb2⟩
  go_wp2_with fail
  go_end0
  exact RetB.mk rfl (hb1.trans (hb2.mono hb1.size))

theorem sorted_none (w : World) (gf : Nat) (lb : Array Value) (eg : ∀ args w, (callFunc gf args).run Try.prog w = .ok (.enter gf args) w)
    (iter : ∀ (l : Nat) (W : World), Below w.heap.size w W → Calls Try.prog gf (#[.func (.yield l) #[] #[]] ++ lb) W fun e B => (∃ v, e = .returned v) ∧ Below W.heap.size W B) :
    Calls Try.prog 33 #[.func (.func gf) #[] lb] w (RetB (.slice none 0 0) w) := by
  have h := collectS_none w gf lb eg iter
  have HS := Lib.hid sort_none
  generalize (Value.func (.func gf) #[] lb) = f at *
  go_enter Try.func33, Try.ntmps33
  go_wp2_with fail
  refine h.mono ?_
  rintro e w1 ⟨rfl, hb1⟩
  go_wp2_with fail
  refine (HS.out _).mono ?_
  rintro e w2 ⟨rfl, hb2⟩
  go_wp2_with fail
  go_ret
  exact RetB.mk rfl (hb1.trans (hb2.mono hb1.size))

end Go.Proofs.Ytjijekbbjegghaa

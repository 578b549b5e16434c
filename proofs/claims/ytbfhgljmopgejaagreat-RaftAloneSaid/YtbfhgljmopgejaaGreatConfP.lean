/- Package command: members as bytes. -/
import Derived.Test.YtbfhgljmopgejaaGreatConfM0
namespace Go.Proofs.YtbfhgljmopgejaaGreat
open Go.RowKit

/-- A row of numbers' bytes. -/
def numsB (l : List Int) : List UInt8 := (l.map fun n => numB n.toNat).flatten
/-- Members' bytes. -/
def membB (l : List Int) : List UInt8 := numB l.length ++ numsB l

section
variable (w : World) (p : Nat) (r : Option Nat) (bs : List UInt8) (h : Wr w p r bs)
include h

theorem mem1_any (x : Int) (h0 : 0 ≤ x) (hx : x ≤ 7) (hl : bs.length + 10 ≤ 70368744177664) :
    Calls Tryz.prog 47 #[.pointer (some ⟨p, 0, none⟩), .int .i64 x] w (WroteB p w r (bs ++ numB x.toNat)) := by
  have hn := num_any w p r bs h x h0 (by omega) hl
  clear h hl
  go_enter Tryz.func47, Tryz.ntmps47
  go_wp2_with fail
  refine hn.mono ?_
  rintro e w1 ⟨rfl, r1, hW1, hk1⟩
  go_wp2_with fail
  go_end0
  exact ⟨rfl, r1, hW1, hk1⟩
end

theorem numsB_snoc (l : List Int) (x : Int) : numsB (l ++ [x]) = numsB l ++ numB x.toNat := by simp [numsB]
theorem numsB_len : ∀ {l : List Int}, (∀ n ∈ l, 0 ≤ n ∧ n ≤ 7) → (numsB l).length ≤ 10 * l.length
  | [], _ => by simp [numsB]
  | x :: r, h => by
    have h1 := numB_len10 (x := x.toNat) (by have := h x (by simp); omega)
    have h2 := numsB_len (l := r) fun n hn => h n (List.mem_cons_of_mem _ hn)
    simp only [numsB, List.map_cons, List.flatten_cons, List.length_append, List.length_cons] at *
    omega

/-- Behind writes the slice reads as it did. -/
theorem Sl.wrote {α : Type} {enc : α → Value} {w w' : World} {p : Nat} {r r' : Option Nat} {v : Value} {l : List α} (h : Sl enc w v l) (hk : Wrote p w r w' r') (hp : v.ownBlock ≠ some p) (hr : v.ownBlock = none ∨ v.ownBlock ≠ r) : Sl enc w' v l :=
  h.kept hk.keeps fun k hv => by
    rintro (rfl | e)
    · exact hp hv
    · rcases hr with h | h
      · rw [h] at hv; cases hv
      · exact h (hv.symm ▸ e)

theorem put_any (w : World) (p : Nat) (r : Option Nat) (bs : List UInt8) (h : Wr w p r bs) (a : Option Addr) (n cap : Nat) (l : List Int) (hs : Sl intv w (.slice a n cap) l) (hp : (Value.slice a n cap).ownBlock ≠ some p) (hr : (Value.slice a n cap).ownBlock = none ∨ (Value.slice a n cap).ownBlock ≠ r)
    (hm : ∀ x ∈ l, 0 ≤ x ∧ x ≤ 7) (hl7 : l.length ≤ 7) (hl : bs.length ≤ 60000) :
    Calls Tryz.prog 46 #[.pointer (some ⟨p, 0, none⟩), .slice a n cap, .func (Fn.func 47) #[] #[]] w (WroteB p w r (bs ++ membB l)) := by
  have hn := num_any w p r bs h l.length (by omega) (by omega) (by omega)
  have e1 : ((l.length : Int)).toNat = l.length := by omega
  rw [e1] at hn
  have HS := Lib.hid hs
  have HPP := Lib.hid hp
  have HRR := Lib.hid hr
  have HM := Lib.hid hm
  have HL := Lib.hid hl
  obtain ⟨a', cap', he, hl1, hl2, hx⟩ := hs
  cases he
  have HLC := Lib.hid hl1
  clear hl1 hp hr hm hl h hl2 e1
  go_enter Tryz.func46, Tryz.ntmps46
  go_wp2_with fail
  refine hn.mono ?_
  rintro e w1 ⟨rfl, r1, hW1, hk1⟩
  clear hn
  go_wp2_with fail
  go_loopw [15] (fun i wr => ∃ (k : Nat) (r' : Option Nat), k ≤ l.length ∧ i = .int .i64 k ∧ Wr wr p r' (bs ++ (numB l.length ++ numsB (l.take k))) ∧ Wrote p w r wr r') (fun i _ => l.length - (intOf i).toNat)
  case atStart => exact ⟨0, r1, by omega, rfl, by simpa [numsB] using hW1, hk1⟩
  case round =>
    obtain ⟨k, r', hk, rfl, hW, hkk⟩ := hrel
    have HW := Lib.hid hW
    have HKK := Lib.hid hkk
    clear hW hkk hW1 hk1
    by_cases hlt : k < l.length
    · rcases hx with ⟨rfl, rfl⟩ | ⟨b, o, rfl, hb, hc⟩
      · have := HLC.out; omega
      · have hsw := HS.out.wrote HKK.out HPP.out HRR.out
        obtain ⟨_, _, he, _, _, hx2⟩ := hsw
        cases he
        rcases hx2 with ⟨h, _⟩ | ⟨b', o', he, hb', hc'⟩
        · cases h
        · cases he
          have hk0 : l[k]? = some l[k] := List.getElem?_eq_getElem hlt
          have hcell : wr.cell? ⟨b, o + k, none⟩ = some (.int .i64 l[k]) := hc' k _ hk0
          obtain ⟨hx0, hx1⟩ := HM.out l[k] (List.getElem_mem hlt)
          have htk : l.take (k + 1) = l.take k ++ [l[k]] := by rw [List.take_succ_eq_append_getElem hlt]
          generalize l[k] = x at *
          have HTK := Lib.hid htk
          clear hc hc' htk hk0
          have hlen : (bs ++ (numB l.length ++ numsB (l.take k))).length + 10 ≤ 70368744177664 := by
            have h1 := numB_len10 (x := l.length) (by omega)
            have h2 := numsB_len (l := l.take k) fun n hn => by have := HM.out n (List.mem_of_mem_take hn); omega
            have h3 : (l.take k).length ≤ 7 := by rw [List.length_take]; omega
            have h4 := HL.out
            simp only [List.length_append]
            omega
          have hnx := mem1_any wr p r' _ HW.out x hx0 hx1 hlen
          clear hlen
          go_wp2_with fail
          refine hnx.mono ?_
          rintro e w2 ⟨rfl, r2, hW2, hk2⟩
          go_wp2_with fail
          go_roundw
          case rel =>
            refine ⟨k + 1, r2, by omega, by go_num, ?_, HKK.out.trans hk2⟩
            rw [HTK.out, numsB_snoc, ← List.append_assoc (numB _), ← List.append_assoc bs]
            exact hW2
          case measure => simp [intOf]; omega
    · obtain rfl : k = l.length := by omega
      clear hx
      go_wp2_with fail
      go_end0
      refine ⟨rfl, r', ?_, HKK.out⟩
      have := HW.out
      rw [List.take_length] at this
      exact this

/-- Members' bytes, or that they may not be. -/
def MembersR (l : List Int) (w : World) (e : Ending) (w' : World) : Prop :=
  if membersB l = true then ∃ v, e = .returned (.tuple #[v, .int .i64 0]) ∧ Below w.heap.size w w' ∧ Sl u8v w' v (membB l) ∧ ∀ k, v.ownBlock = some k → w.heap.size ≤ k
  else e = .returned (.tuple #[.slice none 0 0, .int .i64 1]) ∧ w = w'

theorem Members_any (w : World) (a : Option Addr) (n cap : Nat) (l : List Int) (h : Sl intv w (.slice a n cap) l) :
    Calls Tryz.prog 29 #[.slice a n cap] w (MembersR l w) := by
  have hmm := fun W hW => members_any W a n cap l hW
  have H := Lib.hid h
  have hlt := Lib.hid h.row_lt
  clear h
  unfold MembersR
  cases hb : membersB l
  · rw [hb] at hmm
    simp only [Bool.false_eq_true, if_false]
    go_enter Tryz.func29, Tryz.ntmps29
    go_wp2_with (go_at_call 45; refine (hmm _ H.out).mono ?_; rintro e w' ⟨rfl, rfl⟩)
    go_ret2
    exact ⟨rfl, rfl⟩
  · obtain ⟨h1, h7, hm⟩ := members_len hb
    have HM := Lib.hid hm
    rw [hb] at hmm
    simp only [if_true]
    clear hb hm
    go_enter Tryz.func29, Tryz.ntmps29
    go_wp2_with (go_at_call 45; refine (hmm _ H.out).mono ?_; rintro e w' ⟨rfl, rfl⟩)
    have hW : Wr (w.alloc (.cells #[.slice none 0 0] 86)) w.heap.size none [] := ⟨.slice none 0 0, heap_new _ _, rfl, by simp, World.ownsRow_nil _ _ _ _⟩
    have hput := put_any _ _ _ _ hW a n cap l (H.out.alloc _) (fun e => by have := hlt.out _ e; omega) (by cases h : (Value.slice a n cap).ownBlock <;> simp) (fun x hx => by have := HM.out x hx; omega) h7 (by simp)
    clear hW
    refine hput.mono ?_
    rintro e w1 ⟨rfl, r1, hW1, hk1⟩
    have hlb : (membB l).length ≤ 70368744177664 := by
      unfold membB
      have h2 := numB_len10 (x := l.length) (by omega)
      have h3 := numsB_len (l := l) fun n hn => by have := HM.out n hn; omega
      rw [List.length_append]; omega
    have hby := wbytes_any w1 w.heap.size r1 (membB l) hW1 hlb
    clear hput hlb
    go_wp2_with fail
    refine hby.mono ?_
    rintro e w2 ⟨v, rfl, hb2, hs2, _, hn2⟩
    go_wp2_with fail
    go_ret2
    have hs1 := hk1.keeps.size
    simp at hs1
    refine ⟨v, rfl, ?_, hs2, fun k hk => by have := hn2 k hk; omega⟩
    have hk2 : Below w.heap.size w w1 := (((Keeps.refl (fun k => w.heap.size ≤ k) w).alloc _).trans (hk1.keeps.mono fun k _ hk => by
      rcases hk with rfl | hk
      · exact Nat.le_refl _
      · cases hk)).below (Nat.le_refl _) (fun k hk => hk)
    exact hk2.trans (hb2.mono (by omega))

theorem right_any (w : World) (a : Option Addr) (n cap : Nat) (l : List Int) (h : Sl intv w (.slice a n cap) l) :
    Calls Tryz.prog 16 #[.slice a n cap] w (RetB (.bool (membersB l)) w) := by
  have hm := Members_any w a n cap l h
  clear h
  unfold MembersR at hm
  cases hb : membersB l
  · rw [hb] at hm
    simp only [Bool.false_eq_true, if_false] at hm
    clear hb
    go_enter Tryz.func16, Tryz.ntmps16
    go_wp2_with fail
    refine hm.mono ?_
    rintro e w' ⟨rfl, rfl⟩
    go_wp2_with fail
    go_ret
    exact RetB.mk rfl (Below.refl _ _)
  · rw [hb] at hm
    simp only [if_true] at hm
    clear hb
    go_enter Tryz.func16, Tryz.ntmps16
    go_wp2_with fail
    refine hm.mono ?_
    rintro e w1 ⟨v, rfl, hb, _⟩
    go_wp2_with fail
    go_ret
    exact RetB.mk rfl hb

end Go.Proofs.YtbfhgljmopgejaaGreat

/- Package octet: the Writer's texts and signed numbers, its bytes; a Reader of bytes. -/
import Derived.Test.YtbfhgljmopgejaaGreatOctU
import Derived.Lib.ConvBytes
namespace Go.Proofs.YtbfhgljmopgejaaGreat
open Go.RowKit

theorem u8v_one (c : UInt8) : (u8v c).oneCell' = true := rfl

/-- '[]byte(s)'. -/
theorem wpList_bytes_of {w : World} {ops : Array Oper} {rest : List Oper} {o : Oper} {a : Act} {Q : Exit → Act → World → Prop} (hgd : o.guard = none) (x : Operand) (ho : o.op = .convert 9 33 x) (s : ByteArray) (hx : a.eval x = .string s) (hs : s.size ≤ maxLen)
    (h : ∀ v w', Below w.heap.size w w' → v.ownBlock = some w.heap.size → Sl u8v w' v s.data.toList → wpList Tryz.prog ops Q rest (a.put o.dst v) w') : wpList Tryz.prog ops Q (o :: rest) a w := by
  refine wpList_plain hgd fun K hK => ?_
  have hr := Lib.run_convert_string_bytes (P := Tryz.prog) w 9 33 5 s Tryz.underlying9 Tryz.underlying33 Tryz.underlying5
  unfold Oper.wp execOp
  simp only [ho, hx, hr, Sem.run_bind, Result.andThen_ok]
  refine hK _ _ (h _ _ ⟨rfl, rfl, rfl, by rw [Lib.bytesWorld_size]; omega, fun k hk => Lib.bytesWorld_at_old w _ s k hk⟩ rfl ?_)
  have hge := grownCap_ge w s.size 0 5
  have hle := grownCap_le_maxLen w s.size 0 5 hs
  have hlen : s.data.toList.length = s.size := by rw [Array.length_toList]; rfl
  refine ⟨_, _, by rw [hlen], by omega, hle, .inr ⟨w.heap.size, 0, rfl, by rw [Lib.bytesWorld_size]; omega, fun i c hi => ?_⟩⟩
  have hi' : i < s.size := by have := (List.getElem?_eq_some_iff.1 hi).1; omega
  rw [Nat.zero_add, Lib.bytesWorld_cell w _ s i hi', List.getD_eq_getElem?_getD, hi]
  rfl

/-- A slice of bytes behind a Writer's. -/
theorem wpList_wr_raw (W : World) {ops : Array Oper} {rest : List Oper} {o : Oper} {a : Act} {Q : Exit → Act → World → Prop} (hgd : o.guard = none) (s x : Operand)
    (ho : o.op = .call { callee := .builtin .append, args := #[s, x], argTypes := #[33, 33] })
    (p : Nat) (r : Option Nat) (bs : List UInt8) (hW : Wr W p r bs) (v : Value) (hv : W.cell? ⟨p, 0, none⟩ = some v) (hs : a.eval s = v)
    (u : Value) (l : List UInt8) (hx : a.eval x = u) (hu : Sl u8v W u l) (hl : bs.length + l.length ≤ 70368744177664)
    (h : ∀ ad n cp w1, WrMid W p r (bs ++ l) (.slice ad n cp) w1 → wpList Tryz.prog ops Q rest (a.put o.dst (.slice ad n cp)) w1) : wpList Tryz.prog ops Q (o :: rest) a W := by
  obtain ⟨v0, hp, rfl, hne, hown⟩ := hW
  obtain ⟨i0, hi, hz0, hz1, hz2⟩ := info_parts info_u8
  have : v0 = v := by rw [cell_of_one hp] at hv; exact Option.some.inj hv
  subst this
  refine wpList_append_sl W hgd s x 33 ho 5 i0 (.int .u8 0) 1 Tryz.underlying33 hi hz0 hz1 hz2 rfl v0 _ _ hs hown u l hx hu u8v_one (by unfold maxLen; omega) (by omega) ?_
  intro v' w1 hown1 hg1 hrow1
  have hb0 := Below.refl W.heap.size W
  obtain ⟨hc1, hf1, hl1⟩ := wr_still hp hne hb0 hg1
  obtain ⟨h1, h2⟩ := Wr.push (bs := bs) (more := l) hp hne (by simp) (by simp) hb0 hown1 hg1 hrow1
  obtain ⟨ad, n, cp, rfl⟩ : ∃ ad n cp, v' = .slice ad n cp := by
    rcases hown1.2 with ⟨rfl, _⟩ | ⟨g, cap, cur, rfl, _⟩
    · exact ⟨_, _, _, rfl⟩
    · exact ⟨_, _, _, rfl⟩
  exact h ad n cp w1 ⟨⟨_, hc1⟩, hf1, hl1, h1, h2⟩

theorem fold_any (w : World) (x : Int) (h1 : -9223372036854775808 ≤ x) (h2 : x ≤ 9223372036854775807) : Calls Tryz.prog 121 #[.int .i64 x] w (Ret (.int .u64 (zig x)) w) := by
  have H1 := Lib.hid h1
  have H2 := Lib.hid h2
  clear h1 h2
  go_enter Tryz.func121, Tryz.ntmps121
  go_wp2
  go_ret
  exact Ret.mk (int_eq (fold_bits x H1.out H2.out))

section
variable (w : World) (p : Nat) (r : Option Nat) (bs : List UInt8) (h : Wr w p r bs)
include h

theorem raw_any (ad : Option Addr) (n cp : Nat) (l : List UInt8) (hu : Sl u8v w (.slice ad n cp) l) (hl : bs.length + l.length ≤ 70368744177664) :
    Calls Tryz.prog 120 #[.pointer (some ⟨p, 0, none⟩), .slice ad n cp] w (WroteB p w r (bs ++ l)) := by
  have H := Lib.hid h
  have HU := Lib.hid hu
  have HL := Lib.hid hl
  obtain ⟨v, hp, _⟩ := h
  have hcell := cell_of_one hp
  clear hu hl hp
  go_enter Tryz.func120, Tryz.ntmps120
  go_wp2_with (at_builtin; refine wpList_wr_raw w rfl _ _ rfl p r _ H.out v hcell rfl _ l rfl HU.out HL.out ?_; intro ad' n' cp' w1 hm; obtain ⟨⟨vv, hc1⟩, hf1, hl1, hw1, hk1⟩ := hm; have HW1 := Lib.hid hw1; have HK1 := Lib.hid hk1; clear hw1 hk1 hcell)
  go_end0
  exact ⟨rfl, _, HW1.out, HK1.out⟩

theorem wtext_any (s : ByteArray) (hl : bs.length + s.size + 10 ≤ 70368744177664) :
    Calls Tryz.prog 115 #[.pointer (some ⟨p, 0, none⟩), .string s] w (WroteB p w r (bs ++ textB s.data.toList)) := by
  have hlen : s.data.toList.length = s.size := by rw [Array.length_toList]; rfl
  have hn := num_any w p r bs h s.size (by omega) (by omega) (by omega)
  have e1 : ((s.size : Int)).toNat = s.size := by omega
  rw [e1] at hn
  have HL := Lib.hid hl
  have HLN := Lib.hid hlen
  have hsz : s.size ≤ 70368744177664 := by omega
  clear hl hlen e1 h
  go_enter Tryz.func115, Tryz.ntmps115
  go_wp2_with fail
  refine hn.mono ?_
  rintro e w1 ⟨rfl, r1, hW1, hk1⟩
  go_wp2_with (first
    | (refine wpList_bytes_of rfl _ rfl s rfl (by unfold maxLen; omega) ?_; intro v w2 hb2 hv2 hs2)
    )
  obtain ⟨ad, cp, rfl, _⟩ := id hs2
  have hl2 := HL.out
  have hW2 : Wr w2 p r1 (bs ++ numB s.size) := hW1.kept (Keeps.of_belowS (S := fun _ => False) hb2) (fun h => h) (fun _ _ h => h)
  have hlb : (bs ++ numB s.size).length + s.data.toList.length ≤ 70368744177664 := by
    have := numB_len10 (x := s.size) (by omega)
    rw [List.length_append, HLN.out]; omega
  have hraw := raw_any w2 p r1 _ hW2 ad _ cp s.data.toList hs2 hlb
  clear hs2 hn hlb
  go_wp2_with fail
  refine hraw.mono ?_
  rintro e w3 ⟨rfl, r3, hW3, hk3⟩
  go_wp2_with fail
  go_end0
  refine ⟨rfl, r3, ?_, hk1.trans (Wrote.trans ⟨Keeps.of_belowS hb2, .inl rfl⟩ hk3)⟩
  unfold textB
  rw [HLN.out, ← List.append_assoc]
  exact hW3

theorem wint_any (x : Int) (h1 : -9223372036854775808 ≤ x) (h2 : x ≤ 9223372036854775807) (hl : bs.length + 10 ≤ 70368744177664) :
    Calls Tryz.prog 116 #[.pointer (some ⟨p, 0, none⟩), .int .i64 x] w (WroteB p w r (bs ++ intB x)) := by
  have hf := fold_any w x h1 h2
  have hz := zig_lt h1 h2
  have hn := num_any w p r bs h (zig x) (by omega) (by omega) hl
  unfold intB
  have e1 : ((zig x : Int)).toNat = zig x := by omega
  rw [e1] at hn
  generalize zig x = z at *
  clear h h1 h2 hz e1
  go_enter Tryz.func116, Tryz.ntmps116
  go_wp2_with (go_at_call 121; refine hf.mono ?_; rintro e w' ⟨rfl, rfl⟩)
  refine hn.mono ?_
  rintro e w1 ⟨rfl, r1, hW1, hk1⟩
  go_wp2_with fail
  go_end0
  exact ⟨rfl, r1, hW1, hk1⟩
end

/-- What is cloned: the same bytes, in a row of its own. -/
def Cloned (w : World) (l : List UInt8) (e : Ending) (w' : World) : Prop :=
  ∃ v, e = .returned v ∧ Below w.heap.size w w' ∧ Sl u8v w' v l ∧ w'.ownsRow 0 5 1 v l.length (l.map u8v) ∧ ∀ k, v.ownBlock = some k → w.heap.size ≤ k

set_option maxRecDepth 100000 in
theorem clone_any (w : World) (ad : Option Addr) (n cp : Nat) (l : List UInt8) (hu : Sl u8v w (.slice ad n cp) l) (hl : l.length ≤ 70368744177664) :
    Calls Tryz.prog 30 #[.slice ad n cp] w (Cloned w l) := by
  have HU := Lib.hid hu
  have HL := Lib.hid hl
  clear hl
  cases ad with
  | none =>
    obtain ⟨rfl, rfl, rfl⟩ := hu.none_nil
    clear hu
    have hnil := fun w => Lib.run_eql_slice_nil (P := Tryz.prog) w 33 5 none 0 0 0 0 Tryz.underlying33
    go_enter Tryz.func30, Tryz.ntmps30
    go_wp2
    go_ret
    exact ⟨_, rfl, Below.refl _ _, Sl.nil _ _, World.ownsRow_nil _ _ _ _, fun k hk => by simp [Value.ownBlock] at hk⟩
  | some x =>
    obtain ⟨b, o, rfl, hb, rfl, hn, hc⟩ := hu.some_row
    clear hu hc hn
    have hnil := fun w => Lib.run_eql_slice_nil (P := Tryz.prog) w 33 5 (some ⟨b, o, none⟩) l.length cp 0 0 Tryz.underlying33
    obtain ⟨i0, hi, hz0, hz1, hz2⟩ := info_parts info_u8
    go_enter Tryz.func30, Tryz.ntmps30
    have how : (w.alloc (.cells #[] 5)).ownsRow 0 5 1 (.slice (some ⟨w.heap.size, 0, none⟩) 0 0) 0 [] := World.ownsRow_made w #[] 0 (Nat.zero_le _) (Nat.zero_le _) rfl
    have hus : Sl u8v (w.alloc (.cells #[] 5)) (.slice (some ⟨b, o, none⟩) l.length cp) l := HU.out.alloc _
    have HM0 := Lib.hid (show 0 + l.length ≤ maxLen by unfold maxLen; have := HL.out; omega)
    have HM1 := Lib.hid (show (0 + l.length) * 1 ≤ 140737488355328 by have := HL.out; omega)
    have HO0 := Lib.hid how
    have HU0 := Lib.hid hus
    clear how hus
    go_wp2_with (at_builtin; refine wpList_append_sl (w.alloc (.cells #[] 5)) rfl _ _ _ rfl 5 i0 (.int .u8 0) 1 Tryz.underlying33 hi hz0 hz1 hz2 rfl (.slice (some ⟨w.heap.size, 0, none⟩) 0 0) 0 [] rfl HO0.out (.slice (some ⟨b, o, none⟩) l.length cp) l rfl HU0.out u8v_one HM0.out HM1.out ?_; intro v' w1 hown hg hrow; have HO := Lib.hid hown; have HG := Lib.hid hg; have HR := Lib.hid hrow; clear hown hg hrow)
    go_ret
    have hown : w1.ownsRow 0 5 1 v' l.length (l.map u8v) := by have := HO.out; rwa [Nat.zero_add, List.nil_append] at this
    refine ⟨v', rfl, ?_, owns_sl hown, hown, fun k hk => ?_⟩
    · have h1 : Keeps (fun k => w.heap.size ≤ k) w w1 := ((Keeps.refl _ w).alloc _).trans (grown_keeps HG.out (fun k hk => by simp [Value.ownBlock] at hk; omega))
      exact h1.below (Nat.le_refl _) (fun k hk => hk)
    · rcases HR.out with h1 | ⟨j, h1, h2, _⟩
      · rw [h1] at hk; simp [Value.ownBlock] at hk; omega
      · rw [h1] at hk; cases hk; simp at h2; omega

section
variable (w : World) (p : Nat) (r : Option Nat) (bs : List UInt8) (h : Wr w p r bs)
include h

theorem wbytes_any (hl : bs.length ≤ 70368744177664) : Calls Tryz.prog 49 #[.pointer (some ⟨p, 0, none⟩)] w (Cloned w bs) := by
  obtain ⟨v, hp, _, _, hown⟩ := h
  have hcell := cell_of_one hp
  have hs := owns_sl hown
  obtain ⟨ad, cp, rfl, _⟩ := id hs
  have hcl := clone_any w ad _ cp bs hs hl
  clear hp hown hs hl
  go_enter Tryz.func49, Tryz.ntmps49
  go_wp2_with fail
  refine hcl.mono ?_
  rintro e w1 ⟨u, rfl, hr⟩
  go_wp2_with fail
  go_ret
  exact ⟨_, rfl, hr⟩
end

end Go.Proofs.YtbfhgljmopgejaaGreat

/- A spec, a job, as they are written (package spec's Put, PutJob; octet's Put at texts): printed by wip/tools/gen_putjob.py. Jobs as they are written (octet's Put at jobs). -/
import Derived.Test.YtheipmallojdkaaGreatDoorIrM19
import Derived.Test.YtheipmallojdkaaGreatDoorIrM20

namespace Go.Proofs.YtheipmallojdkaaGreatDoor
open Go.RowKit Go.ChangeMaps

theorem strB_len {s : ByteArray} (h : s.size ≤ 255) : (strB s).length ≤ 265 := by
  have h1 := numB_len10 (x := s.data.toList.length) (by rw [Array.length_toList]; have : s.data.size = s.size := rfl; omega)
  have h2 : s.data.toList.length = s.size := by rw [Array.length_toList]; rfl
  unfold strB textB
  rw [List.length_append]
  omega
theorem strsB_len : ∀ (l : List ByteArray), (∀ d ∈ l, d.size ≤ 255) → ((l.map strB).flatten).length ≤ 265 * l.length
  | [], _ => by simp
  | d :: l, h => by
    have h1 := strB_len (h d (by simp))
    have h2 := strsB_len l (fun x hx => h x (by simp [hx]))
    simp only [List.map_cons, List.flatten_cons, List.length_append, List.length_cons]
    omega
theorem intB_len10 {x : Int} (h : i64B x) : (intB x).length ≤ 10 := numB_len10 (zig_lt h.1 h.2)

theorem cellS {w : World} {ad : Option Addr} {n cp : Nat} {l : List ByteArray} (h : Sl strv w (.slice ad n cp) l) {i : Nat} {x : ByteArray} (hx : l[i]? = some x) : ∃ b o, ad = some ⟨b, o, none⟩ ∧ w.cell? ⟨b, o + i, none⟩ = some (.string x) ∧ b < w.heap.size := by
  obtain ⟨a', cap', he, h1, h2, h3⟩ := h
  cases he
  rcases h3 with ⟨rfl, rfl⟩ | ⟨b, o, rfl, hb, hc⟩
  · have := (List.getElem?_eq_some_iff.1 hx).1
    omega
  · exact ⟨b, o, rfl, hc i x hx, hb⟩

/-- Behind what leaves the Writer alone: what was read stands still. -/
def PutP2 (p : Nat) (w : World) (r : Option Nat) (bs : List UInt8) (e : Ending) (w' : World) : Prop := e = .returned (.tuple #[]) ∧ ∃ r', Wr w' p r' bs ∧ Wrote p w r w' r'

set_option maxRecDepth 100000 in
set_option maxHeartbeats 1600000 in
theorem putS_any (w : World) (p : Nat) (r : Option Nat) (bs : List UInt8) (h : Wr w p r bs) (ad : Option Addr) (n cp : Nat) (l : List ByteArray) (hs : Sl strv w (.slice ad n cp) l) (hsp : ∀ k, (Value.slice ad n cp).ownBlock = some k → k ≠ p ∧ r ≠ some k) (hn : l.length ≤ 255) (hd : ∀ d ∈ l, d.size ≤ 255) (hl : bs.length ≤ 100000000) :
    Calls Tryz.prog 70 #[.pointer (some ⟨p, 0, none⟩), .slice ad n cp, .func (Fn.func 52) #[] #[]] w (WroteB p w r (bs ++ depsB l)) := by
  have hlen : n = l.length := by obtain ⟨_, _, e, _⟩ := hs; cases e; rfl
  have hcap : n ≤ cp ∧ cp ≤ 9223372036854775807 := by obtain ⟨_, _, e, h1, h2, _⟩ := hs; cases e; exact ⟨h1, h2⟩
  obtain ⟨hcap1, hcap2⟩ := hcap
  have hnum := num_any w p r bs h (n : Int) (by omega) (by omega) (by omega)
  rw [show ((n : Int)).toNat = l.length by omega] at hnum
  have hnl := numB_len10 (x := l.length) (by omega)
  have HS := Lib.hid hs
  have HSP := Lib.hid hsp
  have HD := Lib.hid hd
  have HL := Lib.hid hlen
  obtain ⟨N, hN⟩ : ∃ N, N = numB l.length := ⟨_, rfl⟩
  rw [← hN] at hnum hnl
  have HN := Lib.hid hN
  clear h hs hsp hd hN hlen
  go_enter Tryz.func70, Tryz.ntmps70
  go_wp2_with fail
  refine hnum.mono ?_
  rintro e w1 ⟨rfl, r1, hP1, hk1⟩
  have HP1 := Lib.hid hP1
  have HK1 := Lib.hid hk1
  clear hnum hP1 hk1
  go_wp2_with fail
  go_loopw [15] (fun iv wr => ∃ (i : Nat) (r' : Option Nat), iv = .int .i64 i ∧ i ≤ n ∧ Hid (Wr wr p r' (bs ++ N ++ ((l.take i).map strB).flatten)) ∧ Hid (Wrote p w r wr r')) (fun iv _ => n - (intOf iv).toNat)
  case atStart => exact ⟨0, r1, rfl, by omega, Lib.hid (by simpa using HP1.out), HK1⟩
  case round =>
    obtain ⟨i, r', rfl, hi, HW, HK⟩ := hrel
    clear HP1 HK1
    by_cases hlt : i < n
    · obtain ⟨x, hx⟩ : ∃ x, l[i]? = some x := ⟨l[i]'(by have := HL.out; omega), by simp⟩
      have HX := Lib.hid hx
      have hxs : x.size ≤ 255 := HD.out x (List.mem_of_getElem? hx)
      have hsw : Sl strv wr (.slice ad n cp) l := HS.out.kept HK.out.keeps fun k hk e => by
        have := HSP.out k hk
        rcases e with e | e
        · exact this.1 e
        · exact this.2 e.symm
      obtain ⟨b, o, rfl, hc', hbl⟩ := cellS hsw hx
      have hfl := strsB_len (l.take i) (fun d hd => HD.out d (List.mem_of_mem_take hd))
      have htl : (l.take i).length ≤ 255 := by rw [List.length_take]; omega
      have ht := wtext_any wr p r' _ HW.out x (by (try simp only [List.length_append]); omega)
      have HT := Lib.hid ht
      have z1 : (i : Int) < (n : Int) := by omega
      clear hsw hx ht hfl htl
      go_wp2_with fail
      refine HT.out.mono ?_
      rintro e w2 ⟨rfl, r2, hP2, hk2⟩
      have HP2 : Hid (Wr w2 p r2 (bs ++ N ++ ((l.take (i + 1)).map strB).flatten)) := Lib.hid (by
        have e : l.take (i + 1) = l.take i ++ [x] := by rw [List.take_add_one, HX.out]; rfl
        rw [e, List.map_append, List.flatten_append]
        simpa [List.append_assoc, strB] using hP2)
      have HK2 := Lib.hid (HK.out.trans hk2)
      clear hP2 hk2 hc'
      go_wp2_with fail
      go_roundw
      case rel => exact ⟨i + 1, r2, by go_num, by omega, HP2, HK2⟩
      case measure => simp [intOf]; omega
    · obtain rfl : i = n := by omega
      go_wp2_with fail
      go_end0
      refine ⟨rfl, r', ?_, HK.out⟩
      have := HW.out
      rw [List.take_of_length_le (by have := HL.out; omega), HN.out, List.append_assoc] at this
      exact this

/-- In the midst of a writing: block b holds the struct C (the row of texts dl in it). -/
structure PS (w0 : World) (p : Nat) (r0 : Option Nat) (b : Nat) (T : TypeId) (C : Array Value) (dv : Value) (dl : List ByteArray) (bs : List UInt8) (r : Option Nat) (w : World) : Prop where
  wr : Wr w p r bs
  wrote : Wrote p w0 r0 w r
  blk : w.heap[b]? = some (.cells C T (0, 0))
  dep : Sl strv w dv dl
  far : ∀ k, dv.ownBlock = some k → k ≠ p ∧ r ≠ some k
  bp : b ≠ p
  br : r ≠ some b
theorem PS.call {w0 : World} {p : Nat} {r0 : Option Nat} {b : Nat} {T : TypeId} {C : Array Value} {dv : Value} {dl : List ByteArray} {bs bs' : List UInt8} {r r' : Option Nat} {w w' : World} (h : PS w0 p r0 b T C dv dl bs r w) (hw : Wr w' p r' bs') (hk : Wrote p w r w' r') : PS w0 p r0 b T C dv dl bs' r' w' := by
  refine ⟨hw, h.wrote.trans hk, hk.keeps.heap (fun e => e.elim h.bp fun e => h.br e.symm) h.blk, h.dep.kept hk.keeps fun k hk' e => e.elim (h.far k hk').1 fun e => (h.far k hk').2 e.symm, fun k hk' => ⟨(h.far k hk').1, ?_⟩, h.bp, ?_⟩
  · rcases hk.row with e | ⟨j, e, hj⟩
    · rw [e]; exact (h.far k hk').2
    · rw [e]; intro e'; cases e'; have := h.dep.row_lt k hk'; omega
  · rcases hk.row with e | ⟨j, e, hj⟩
    · rw [e]; exact h.br
    · rw [e]; intro e'; cases e'; have := heap_lt h.blk; omega

set_option maxRecDepth 100000 in
set_option maxHeartbeats 3200000 in
theorem putP_any (w : World) (p : Nat) (r : Option Nat) (bs : List UInt8) (h : Wr w p r bs) (s : Sp) (hs : s.small) (ad : Option Addr) (dn cp : Nat) (hsl : Sl strv w (.slice ad dn cp) s.deps) (hsp : ∀ k, (Value.slice ad dn cp).ownBlock = some k → k ≠ p ∧ r ≠ some k) (hl : bs.length ≤ 90000000) :
    Calls Tryz.prog 51 #[.pointer (some ⟨p, 0, none⟩), s.v (.slice ad dn cp)] w (WroteB p w r (bs ++ specB s)) := by
  obtain ⟨ya, yb, yc, yd, ye, yf, yg, yh, yi, yj, yk⟩ := s
  have sa : ya.size ≤ 255 := hs.name
  have sb : yb.size ≤ 255 := hs.ten
  have sj : yj.size ≤ 255 := hs.cron
  have hdl : ye.length ≤ 255 := hs.dlen
  have hds : ∀ d ∈ ye, d.size ≤ 255 := hs.deps
  have sc : i64B yc := hs.pri
  have sd : i64B yd := hs.delay
  have sf : i64B yf := hs.base
  have sg : i64B yg := hs.cap
  have sh : i64B yh := hs.att
  have si : i64B yi := hs.lease
  have sk : i64B yk := hs.catch_
  have hsl : Sl strv w (.slice ad dn cp) ye := hsl
  clear hs
  have la := strB_len sa
  have lb := strB_len sb
  have lj := strB_len sj
  have le : (depsB ye).length ≤ 10 + 265 * 255 := by
    have h1 := numB_len10 (x := ye.length) (by omega)
    have h2 := strsB_len ye hds
    unfold depsB
    rw [List.length_append]
    omega
  unfold strB at la lb lj

  have l_yc := intB_len10 sc
  have l_yd := intB_len10 sd
  have l_yf := intB_len10 sf
  have l_yg := intB_len10 sg
  have l_yh := intB_len10 sh
  have l_yi := intB_len10 si
  have l_yk := intB_len10 sk
  unfold Sp.v Sp.cells
  simp only
  obtain ⟨b, hb⟩ : ∃ b, b = w.heap.size := ⟨_, rfl⟩
  obtain ⟨W0, hW⟩ : ∃ W0, W0 = w.alloc (.cells #[.string ya, .string yb, .int .i64 yc, .int .i64 yd, .slice ad dn cp, .int .i64 yf, .int .i64 yg, .int .i64 yh, .int .i64 yi, .string yj, .int .i64 yk] 40) := ⟨_, rfl⟩
  have HG0 : Hid (PS w p r b 40 #[.string ya, .string yb, .int .i64 yc, .int .i64 yd, .slice ad dn cp, .int .i64 yf, .int .i64 yg, .int .i64 yh, .int .i64 yi, .string yj, .int .i64 yk] (.slice ad dn cp) ye bs r W0) := Lib.hid (by
    rw [hW, hb]
    exact ⟨h.alloc _, ⟨(Keeps.refl _ _).alloc _, .inl rfl⟩, heap_new _ _, hsl.alloc _, hsp, by have := h.lt; omega, fun e => by have := h.row_lt _ e; omega⟩)
  have HW := Lib.hid hW
  have HB := Lib.hid hb
  clear h hsl hsp hW hb
  go_enter Tryz.func51, Tryz.ntmps51
  go_wp2_with fail
  rw [← HW.out]
  try rw [← HB.out]
  have l0 := heap_lt HG0.out.blk
  refine (wtext_any W0 p _ _ HG0.out.wr ya (by (try simp only [List.length_append]); omega)).mono ?_
  rintro e u1 ⟨rfl, q1, hP, hk⟩
  have HGc1 := Lib.hid (HG0.out.call hP hk)
  clear hP hk l0
  have c1 : u1.cell? ⟨b, 1, none⟩ = some (.string yb) := blk_cell HGc1.out.blk 1 rfl
  have l1 := heap_lt HGc1.out.blk
  go_wp2_with fail
  refine (wtext_any u1 p _ _ HGc1.out.wr yb (by (try simp only [List.length_append]); omega)).mono ?_
  rintro e u2 ⟨rfl, q2, hP, hk⟩
  have HGc2 := Lib.hid (HGc1.out.call hP hk)
  clear hP hk l1 c1
  have c2 : u2.cell? ⟨b, 2, none⟩ = some (.int .i64 yc) := blk_cell HGc2.out.blk 2 rfl
  have l2 := heap_lt HGc2.out.blk
  go_wp2_with fail
  refine (wint_any u2 p _ _ HGc2.out.wr yc sc.1 sc.2 (by (try simp only [List.length_append]); omega)).mono ?_
  rintro e u3 ⟨rfl, q3, hP, hk⟩
  have HGc3 := Lib.hid (HGc2.out.call hP hk)
  clear hP hk l2 c2
  have c3 : u3.cell? ⟨b, 3, none⟩ = some (.int .i64 yd) := blk_cell HGc3.out.blk 3 rfl
  have l3 := heap_lt HGc3.out.blk
  go_wp2_with fail
  refine (wint_any u3 p _ _ HGc3.out.wr yd sd.1 sd.2 (by (try simp only [List.length_append]); omega)).mono ?_
  rintro e u4 ⟨rfl, q4, hP, hk⟩
  have HGc4 := Lib.hid (HGc3.out.call hP hk)
  clear hP hk l3 c3
  have c4 : u4.cell? ⟨b, 4, none⟩ = some (.slice ad dn cp) := blk_cell HGc4.out.blk 4 rfl
  have l4 := heap_lt HGc4.out.blk
  go_wp2_with fail
  refine (putS_any u4 p _ _ HGc4.out.wr ad dn cp ye HGc4.out.dep HGc4.out.far hdl hds (by (try simp only [List.length_append]); omega)).mono ?_
  rintro e u5 ⟨rfl, q5, hP, hk⟩
  have HGc5 := Lib.hid (HGc4.out.call hP hk)
  clear hP hk l4 c4
  have c5 : u5.cell? ⟨b, 5, none⟩ = some (.int .i64 yf) := blk_cell HGc5.out.blk 5 rfl
  have l5 := heap_lt HGc5.out.blk
  go_wp2_with fail
  refine (wint_any u5 p _ _ HGc5.out.wr yf sf.1 sf.2 (by (try simp only [List.length_append]); omega)).mono ?_
  rintro e u6 ⟨rfl, q6, hP, hk⟩
  have HGc6 := Lib.hid (HGc5.out.call hP hk)
  clear hP hk l5 c5
  have c6 : u6.cell? ⟨b, 6, none⟩ = some (.int .i64 yg) := blk_cell HGc6.out.blk 6 rfl
  have l6 := heap_lt HGc6.out.blk
  go_wp2_with fail
  refine (wint_any u6 p _ _ HGc6.out.wr yg sg.1 sg.2 (by (try simp only [List.length_append]); omega)).mono ?_
  rintro e u7 ⟨rfl, q7, hP, hk⟩
  have HGc7 := Lib.hid (HGc6.out.call hP hk)
  clear hP hk l6 c6
  have c7 : u7.cell? ⟨b, 7, none⟩ = some (.int .i64 yh) := blk_cell HGc7.out.blk 7 rfl
  have l7 := heap_lt HGc7.out.blk
  go_wp2_with fail
  refine (wint_any u7 p _ _ HGc7.out.wr yh sh.1 sh.2 (by (try simp only [List.length_append]); omega)).mono ?_
  rintro e u8 ⟨rfl, q8, hP, hk⟩
  have HGc8 := Lib.hid (HGc7.out.call hP hk)
  clear hP hk l7 c7
  have c8 : u8.cell? ⟨b, 8, none⟩ = some (.int .i64 yi) := blk_cell HGc8.out.blk 8 rfl
  have l8 := heap_lt HGc8.out.blk
  go_wp2_with fail
  refine (wint_any u8 p _ _ HGc8.out.wr yi si.1 si.2 (by (try simp only [List.length_append]); omega)).mono ?_
  rintro e u9 ⟨rfl, q9, hP, hk⟩
  have HGc9 := Lib.hid (HGc8.out.call hP hk)
  clear hP hk l8 c8
  have c9 : u9.cell? ⟨b, 9, none⟩ = some (.string yj) := blk_cell HGc9.out.blk 9 rfl
  have l9 := heap_lt HGc9.out.blk
  go_wp2_with fail
  refine (wtext_any u9 p _ _ HGc9.out.wr yj (by (try simp only [List.length_append]); omega)).mono ?_
  rintro e u10 ⟨rfl, q10, hP, hk⟩
  have HGc10 := Lib.hid (HGc9.out.call hP hk)
  clear hP hk l9 c9
  have c10 : u10.cell? ⟨b, 10, none⟩ = some (.int .i64 yk) := blk_cell HGc10.out.blk 10 rfl
  have l10 := heap_lt HGc10.out.blk
  go_wp2_with fail
  refine (wint_any u10 p _ _ HGc10.out.wr yk sk.1 sk.2 (by (try simp only [List.length_append]); omega)).mono ?_
  rintro e u11 ⟨rfl, q11, hP, hk⟩
  have HGc11 := Lib.hid (HGc10.out.call hP hk)
  clear hP hk l10 c10
  go_wp2_with fail
  go_end0
  refine ⟨rfl, q11, ?_, HGc11.out.wrote⟩
  have := HGc11.out.wr
  unfold specB strB
  simpa [List.append_assoc] using this

theorem specB_len {s : Sp} (h : s.small) : (specB s).length ≤ 100000 := by
  obtain ⟨ya, yb, yc, yd, ye, yf, yg, yh, yi, yj, yk⟩ := s
  have la := strB_len (s := ya) h.name
  have lb := strB_len (s := yb) h.ten
  have lj := strB_len (s := yj) h.cron
  have hdl : ye.length ≤ 255 := h.dlen
  have le : (depsB ye).length ≤ 10 + 265 * 255 := by
    have h1 := numB_len10 (x := ye.length) (by omega)
    have h2 := strsB_len ye h.deps
    unfold depsB
    rw [List.length_append]
    omega
  have l1 := intB_len10 (x := yc) h.pri
  have l2 := intB_len10 (x := yd) h.delay
  have l3 := intB_len10 (x := yf) h.base
  have l4 := intB_len10 (x := yg) h.cap
  have l5 := intB_len10 (x := yh) h.att
  have l6 := intB_len10 (x := yi) h.lease
  have l7 := intB_len10 (x := yk) h.catch_
  unfold specB
  simp only [List.length_append]
  omega

theorem info_jobP : (Tryz.prog.info? 40).map (·.size) = some 11 := by kernel_rfl

set_option maxRecDepth 100000 in
set_option maxHeartbeats 3200000 in
theorem putJ_any (w : World) (p : Nat) (r : Option Nat) (bs : List UInt8) (h : Wr w p r bs) (j : Jb) (hs : j.small) (ad : Option Addr) (dn cp : Nat) (hsl : Sl strv w (.slice ad dn cp) j.sp.deps) (hsp : ∀ k, (Value.slice ad dn cp).ownBlock = some k → k ≠ p ∧ r ≠ some k) (hl : bs.length ≤ 80000000) :
    Calls Tryz.prog 24 #[.pointer (some ⟨p, 0, none⟩), Jb.v j (.slice ad dn cp)] w (WroteB p w r (bs ++ jobB j)) := by
  obtain ⟨⟨ya, yb, yc, yd, ye, yf, yg, yh, yi, yj, yk⟩, b1, b2, b3, b4, b5, b6, b7, b8, b9, b10⟩ := j
  have hsl : Sl strv w (.slice ad dn cp) ye := hsl
  have s1 : i64B b1 := hs.state
  have s2 : i64B b2 := hs.due
  have s3 : 0 ≤ b3 := hs.tok0
  have s3' : b3 ≤ 18446744073709551615 := hs.tok1
  have s4 : i64B b4 := hs.failed
  have s5 : i64B b5 := hs.res
  have s6 : b6.size ≤ 255 := hs.worker
  have s7 : 0 ≤ b7 := hs.ord0
  have s7' : b7 ≤ 18446744073709551615 := hs.ord1
  have s8 : i64B b8 := hs.created
  have s9 : i64B b9 := hs.runs
  have s10 : i64B b10 := hs.missed
  have lsp := specB_len hs.sp
  have HSP : Hid (Sp.small ⟨ya, yb, yc, yd, ye, yf, yg, yh, yi, yj, yk⟩) := Lib.hid hs.sp
  have l6 := strB_len s6
  unfold strB at l6
  have l1 := intB_len10 s1
  have l2 := intB_len10 s2
  have l3 := numB_len10 (x := b3.toNat) (by omega)
  have l4 := intB_len10 s4
  have l5 := intB_len10 s5
  have l7 := numB_len10 (x := b7.toNat) (by omega)
  have l8 := intB_len10 s8
  have l9 := intB_len10 s9
  have l10 := intB_len10 s10
  obtain ⟨SB, hSB⟩ : ∃ SB, SB = specB ⟨ya, yb, yc, yd, ye, yf, yg, yh, yi, yj, yk⟩ := ⟨_, rfl⟩
  rw [← hSB] at lsp
  have HSB := Lib.hid hSB
  clear hs hSB
  unfold Jb.v Jb.cells
  simp only
  obtain ⟨b, hb⟩ : ∃ b, b = w.heap.size := ⟨_, rfl⟩
  obtain ⟨W0, hW⟩ : ∃ W0, W0 = w.alloc (.cells #[.string ya, .string yb, .int .i64 yc, .int .i64 yd, .slice ad dn cp, .int .i64 yf, .int .i64 yg, .int .i64 yh, .int .i64 yi, .string yj, .int .i64 yk, .int .i64 b1, .int .i64 b2, .int .u64 b3, .int .i64 b4, .int .i64 b5, .string b6, .int .u64 b7, .int .i64 b8, .int .i64 b9, .int .i64 b10] 42) := ⟨_, rfl⟩
  have HG0 : Hid (PS w p r b 42 #[.string ya, .string yb, .int .i64 yc, .int .i64 yd, .slice ad dn cp, .int .i64 yf, .int .i64 yg, .int .i64 yh, .int .i64 yi, .string yj, .int .i64 yk, .int .i64 b1, .int .i64 b2, .int .u64 b3, .int .i64 b4, .int .i64 b5, .string b6, .int .u64 b7, .int .i64 b8, .int .i64 b9, .int .i64 b10] (.slice ad dn cp) ye bs r W0) := Lib.hid (by
    rw [hW, hb]
    exact ⟨h.alloc _, ⟨(Keeps.refl _ _).alloc _, .inl rfl⟩, heap_new _ _, hsl.alloc _, hsp, by have := h.lt; omega, fun e => by have := h.row_lt _ e; omega⟩)
  have HW := Lib.hid hW
  have HB := Lib.hid hb
  have hfr : (w.alloc (.cells #[.string ya, .string yb, .int .i64 yc, .int .i64 yd, .slice ad dn cp, .int .i64 yf, .int .i64 yg, .int .i64 yh, .int .i64 yi, .string yj, .int .i64 yk, .int .i64 b1, .int .i64 b2, .int .u64 b3, .int .i64 b4, .int .i64 b5, .string b6, .int .u64 b7, .int .i64 b8, .int .i64 b9, .int .i64 b10] 42)).heap[w.heap.size]? = some (.cells #[.string ya, .string yb, .int .i64 yc, .int .i64 yd, .slice ad dn cp, .int .i64 yf, .int .i64 yg, .int .i64 yh, .int .i64 yi, .string yj, .int .i64 yk, .int .i64 b1, .int .i64 b2, .int .u64 b3, .int .i64 b4, .int .i64 b5, .string b6, .int .u64 b7, .int .i64 b8, .int .i64 b9, .int .i64 b10] 42 (0, 0)) := heap_new _ _
  clear h hsl hsp hW hb
  go_enter Tryz.func24, Tryz.ntmps24
  go_wp2_with (first | (refine wpList_load_blk _ rfl _ _ rfl _ 0 rfl _ _ _ hfr #[.string ya, .string yb, .int .i64 yc, .int .i64 yd, .slice ad dn cp, .int .i64 yf, .int .i64 yg, .int .i64 yh, .int .i64 yi, .string yj, .int .i64 yk] rfl _ Tryz.underlying40 rfl info_jobP ?_) | fail)
  rw [← HW.out]
  try rw [← HB.out]
  clear hfr
  refine (putP_any W0 p _ _ HG0.out.wr ⟨ya, yb, yc, yd, ye, yf, yg, yh, yi, yj, yk⟩ HSP.out ad dn cp HG0.out.dep HG0.out.far (by omega)).mono ?_
  rintro e u0 ⟨rfl, q0, hP, hk⟩
  rw [← HSB.out] at hP
  have HGc0 := Lib.hid (HG0.out.call hP hk)
  clear hP hk
  have c0 : u0.cell? ⟨b, 11, none⟩ = some (.int .i64 b1) := blk_cell HGc0.out.blk 11 rfl
  have m0 := heap_lt HGc0.out.blk
  go_wp2_with fail
  refine (wint_any u0 p _ _ HGc0.out.wr b1 s1.1 s1.2 (by (try simp only [List.length_append]); omega)).mono ?_
  rintro e u1 ⟨rfl, q1, hP, hk⟩
  have HGc1 := Lib.hid (HGc0.out.call hP hk)
  clear hP hk m0 c0
  have c1 : u1.cell? ⟨b, 12, none⟩ = some (.int .i64 b2) := blk_cell HGc1.out.blk 12 rfl
  have m1 := heap_lt HGc1.out.blk
  go_wp2_with fail
  refine (wint_any u1 p _ _ HGc1.out.wr b2 s2.1 s2.2 (by (try simp only [List.length_append]); omega)).mono ?_
  rintro e u2 ⟨rfl, q2, hP, hk⟩
  have HGc2 := Lib.hid (HGc1.out.call hP hk)
  clear hP hk m1 c1
  have c2 : u2.cell? ⟨b, 13, none⟩ = some (.int .u64 b3) := blk_cell HGc2.out.blk 13 rfl
  have m2 := heap_lt HGc2.out.blk
  go_wp2_with fail
  refine (num_any u2 p _ _ HGc2.out.wr b3 s3 (by omega) (by (try simp only [List.length_append]); omega)).mono ?_
  rintro e u3 ⟨rfl, q3, hP, hk⟩
  have HGc3 := Lib.hid (HGc2.out.call hP hk)
  clear hP hk m2 c2
  have c3 : u3.cell? ⟨b, 14, none⟩ = some (.int .i64 b4) := blk_cell HGc3.out.blk 14 rfl
  have m3 := heap_lt HGc3.out.blk
  go_wp2_with fail
  refine (wint_any u3 p _ _ HGc3.out.wr b4 s4.1 s4.2 (by (try simp only [List.length_append]); omega)).mono ?_
  rintro e u4 ⟨rfl, q4, hP, hk⟩
  have HGc4 := Lib.hid (HGc3.out.call hP hk)
  clear hP hk m3 c3
  have c4 : u4.cell? ⟨b, 15, none⟩ = some (.int .i64 b5) := blk_cell HGc4.out.blk 15 rfl
  have m4 := heap_lt HGc4.out.blk
  go_wp2_with fail
  refine (wint_any u4 p _ _ HGc4.out.wr b5 s5.1 s5.2 (by (try simp only [List.length_append]); omega)).mono ?_
  rintro e u5 ⟨rfl, q5, hP, hk⟩
  have HGc5 := Lib.hid (HGc4.out.call hP hk)
  clear hP hk m4 c4
  have c5 : u5.cell? ⟨b, 16, none⟩ = some (.string b6) := blk_cell HGc5.out.blk 16 rfl
  have m5 := heap_lt HGc5.out.blk
  go_wp2_with fail
  refine (wtext_any u5 p _ _ HGc5.out.wr b6 (by (try simp only [List.length_append]); omega)).mono ?_
  rintro e u6 ⟨rfl, q6, hP, hk⟩
  have HGc6 := Lib.hid (HGc5.out.call hP hk)
  clear hP hk m5 c5
  have c6 : u6.cell? ⟨b, 17, none⟩ = some (.int .u64 b7) := blk_cell HGc6.out.blk 17 rfl
  have m6 := heap_lt HGc6.out.blk
  go_wp2_with fail
  refine (num_any u6 p _ _ HGc6.out.wr b7 s7 (by omega) (by (try simp only [List.length_append]); omega)).mono ?_
  rintro e u7 ⟨rfl, q7, hP, hk⟩
  have HGc7 := Lib.hid (HGc6.out.call hP hk)
  clear hP hk m6 c6
  have c7 : u7.cell? ⟨b, 18, none⟩ = some (.int .i64 b8) := blk_cell HGc7.out.blk 18 rfl
  have m7 := heap_lt HGc7.out.blk
  go_wp2_with fail
  refine (wint_any u7 p _ _ HGc7.out.wr b8 s8.1 s8.2 (by (try simp only [List.length_append]); omega)).mono ?_
  rintro e u8 ⟨rfl, q8, hP, hk⟩
  have HGc8 := Lib.hid (HGc7.out.call hP hk)
  clear hP hk m7 c7
  have c8 : u8.cell? ⟨b, 19, none⟩ = some (.int .i64 b9) := blk_cell HGc8.out.blk 19 rfl
  have m8 := heap_lt HGc8.out.blk
  go_wp2_with fail
  refine (wint_any u8 p _ _ HGc8.out.wr b9 s9.1 s9.2 (by (try simp only [List.length_append]); omega)).mono ?_
  rintro e u9 ⟨rfl, q9, hP, hk⟩
  have HGc9 := Lib.hid (HGc8.out.call hP hk)
  clear hP hk m8 c8
  have c9 : u9.cell? ⟨b, 20, none⟩ = some (.int .i64 b10) := blk_cell HGc9.out.blk 20 rfl
  have m9 := heap_lt HGc9.out.blk
  go_wp2_with fail
  refine (wint_any u9 p _ _ HGc9.out.wr b10 s10.1 s10.2 (by (try simp only [List.length_append]); omega)).mono ?_
  rintro e u10 ⟨rfl, q10, hP, hk⟩
  have HGc10 := Lib.hid (HGc9.out.call hP hk)
  clear hP hk m9 c9
  go_wp2_with fail
  go_end0
  refine ⟨rfl, q10, ?_, HGc10.out.wrote⟩
  have := HGc10.out.wr
  rw [HSB.out] at this
  unfold jobB strB nuB
  simpa [List.append_assoc] using this

end Go.Proofs.YtheipmallojdkaaGreatDoor

namespace Go.Proofs.YtheipmallojdkaaGreatDoor
open Go.RowKit Go.ChangeMaps

theorem flatJ_at (xs : List JD) (k : Nat) (x : JD) (h : xs[k]? = some x) : ((flatJ xs).drop (k * 21)).take 21 = (x.1.cells x.2).toList := by
  induction xs generalizing k with
  | nil => simp at h
  | cons y ys ih =>
    have e : flatJ (y :: ys) = (y.1.cells y.2).toList ++ flatJ ys := by simp [flatJ]
    have hl : (y.1.cells y.2).toList.length = 21 := rfl
    cases k with
    | zero =>
      simp at h
      subst h
      rw [e, Nat.zero_mul, List.drop_zero, List.take_append_of_le_length (by omega), List.take_of_length_le (by omega)]
    | succ k =>
      simp at h
      rw [e, show (k + 1) * 21 = 21 + k * 21 by omega, ← List.drop_drop, List.drop_append_of_le_length (by omega), show (y.1.cells y.2).toList.drop 21 = [] from List.drop_of_length_le (by omega), List.nil_append]
      exact ih k h

theorem job_at {w : World} {v : Value} {xs : List JD} (h : w.ownsRow 0 42 21 v xs.length (flatJ xs)) {k : Nat} {x : JD} (hx : xs[k]? = some x) :
    ∃ g cap C, v = .slice (some ⟨g, 0, none⟩) xs.length cap ∧ w.heap[g]? = some (.cells C 42 (0, 0)) ∧ (C.toList.drop (k * 21)).take 21 = (x.1.cells x.2).toList ∧ xs.length ≤ cap ∧ cap ≤ 9223372036854775807 := by
  have hk := (List.getElem?_eq_some_iff.1 hx).1
  rcases h.2 with ⟨_, h0⟩ | ⟨g, cap, cur, rfl, _, hg, hn, hm, hc, ht⟩
  · omega
  · refine ⟨g, cap, cur, rfl, hg, ?_, hn, by unfold maxLen at hm; exact hm⟩
    rw [← flatJ_at xs k x hx, ← ht, List.drop_take, List.take_take, Nat.min_eq_left (by omega)]

theorem jobB_len {j : Jb} (h : j.small) : (jobB j).length ≤ 100400 := by
  have h0 := specB_len h.sp
  have h1 := strB_len h.worker
  have l1 := intB_len10 h.state
  have l2 := intB_len10 h.due
  have l3 := numB_len10 (x := j.tok.toNat) (by have := h.tok0; have := h.tok1; omega)
  have l4 := intB_len10 h.failed
  have l5 := intB_len10 h.res
  have l7 := numB_len10 (x := j.order.toNat) (by have := h.ord0; have := h.ord1; omega)
  have l8 := intB_len10 h.created
  have l9 := intB_len10 h.runs
  have l10 := intB_len10 h.missed
  unfold jobB nuB
  simp only [List.length_append]
  omega
theorem jobsB_len : ∀ (l : List Jb), (∀ d ∈ l, d.small) → ((l.map jobB).flatten).length ≤ 100400 * l.length
  | [], _ => by simp
  | d :: l, h => by
    have h1 := jobB_len (h d (by simp))
    have h2 := jobsB_len l (fun x hx => h x (by simp [hx]))
    simp only [List.map_cons, List.flatten_cons, List.length_append, List.length_cons]
    omega

set_option maxRecDepth 100000 in
set_option maxHeartbeats 3200000 in
theorem putJs_any (w : World) (p : Nat) (r : Option Nat) (bs : List UInt8) (h : Wr w p r bs) (v : Value) (xs : List JD) (hown : w.ownsRow 0 42 21 v xs.length (flatJ xs)) (hvp : ∀ k, v.ownBlock = some k → k ≠ p ∧ r ≠ some k)
    (hd : ∀ x ∈ xs, Sl strv w x.2 x.1.sp.deps ∧ (∀ k, x.2.ownBlock = some k → k ≠ p ∧ r ≠ some k) ∧ x.1.small) (hn : xs.length ≤ 128) (hl : bs.length ≤ 10000000) :
    Calls Tryz.prog 21 #[.pointer (some ⟨p, 0, none⟩), v, .func (Fn.func 24) #[] #[]] w (WroteB p w r (bs ++ jobsB (xs.map (·.1)))) := by
  obtain ⟨n, hnn⟩ : ∃ n, n = xs.length := ⟨_, rfl⟩
  obtain ⟨ad, cp, rfl⟩ : ∃ ad cp, v = .slice ad n cp := by
    rcases hown.2 with ⟨e1, e2⟩ | ⟨g, c, cur, e1, _⟩
    · exact ⟨none, 0, by rw [e1, hnn, e2]⟩
    · exact ⟨_, _, by rw [e1, hnn]⟩
  have hnum := num_any w p r bs h (n : Int) (by omega) (by omega) (by omega)
  have hnl := numB_len10 (x := n) (by omega)
  obtain ⟨N, hN⟩ : ∃ N, N = numB n := ⟨_, rfl⟩
  rw [show ((n : Int)).toNat = n by omega, ← hN] at hnum
  rw [← hN] at hnl
  have HN := Lib.hid hN
  have HO := Lib.hid hown
  have HVP := Lib.hid hvp
  have HD := Lib.hid hd
  have HNN := Lib.hid hnn
  have hn' : n ≤ 128 := by omega
  clear h hown hvp hd hN hnn hn
  go_enter Tryz.func21, Tryz.ntmps21
  go_wp2_with fail
  refine hnum.mono ?_
  rintro e w1 ⟨rfl, r1, hP1, hk1⟩
  have HP1 := Lib.hid hP1
  have HK1 := Lib.hid hk1
  clear hnum hP1 hk1
  go_wp2_with fail
  go_loopw [15] (fun iv wr => ∃ (i : Nat) (r' : Option Nat), iv = .int .i64 i ∧ i ≤ n ∧ Hid (Wr wr p r' (bs ++ N ++ (((xs.take i).map (·.1)).map jobB).flatten)) ∧ Hid (Wrote p w r wr r')) (fun iv _ => n - (intOf iv).toNat)
  case atStart => exact ⟨0, r1, rfl, by omega, Lib.hid (by simpa using HP1.out), HK1⟩
  case round =>
    obtain ⟨i, r', rfl, hi, HW, HK⟩ := hrel
    clear HP1 HK1
    by_cases hlt : i < n
    · obtain ⟨x, hx⟩ : ∃ x, xs[i]? = some x := ⟨xs[i]'(by have := HNN.out; omega), by simp⟩
      have HX := Lib.hid hx
      have hxd := HD.out x (List.mem_of_getElem? hx)
      have hown' : wr.ownsRow 0 42 21 (.slice ad n cp) xs.length (flatJ xs) := owns_kept HO.out HK.out.keeps fun k hk e => by
        have := HVP.out k hk
        rcases e with e | e
        · exact this.1 e
        · exact this.2 e.symm
      obtain ⟨g, cap, C, hv, hg, hC, hcap1, hcap2⟩ := job_at hown' hx
      have hv' : ad = some ⟨g, 0, none⟩ ∧ cp = cap := by
        injection hv with e1 e2 e3
        exact ⟨e1, e3⟩
      obtain ⟨rfl, rfl⟩ := hv'
      obtain ⟨j, dv⟩ := x
      simp only at hxd hC
      obtain ⟨hs0, hs1, hs2⟩ := hxd
      have hdep : Sl strv wr dv j.sp.deps := hs0.kept HK.out.keeps fun k hk e => by
        have := hs1 k hk
        rcases e with e | e
        · exact this.1 e
        · exact this.2 e.symm
      have hfar : ∀ k, dv.ownBlock = some k → k ≠ p ∧ r' ≠ some k := fun k hk => ⟨(hs1 k hk).1, by
        rcases HK.out.row with e | ⟨q, e, hq⟩
        · rw [e]; exact (hs1 k hk).2
        · rw [e]; intro e'; cases e'; have := hs0.row_lt k hk; omega⟩
      obtain ⟨ad2, cp2, rfl, _⟩ := id hs0
      have hfl := jobsB_len ((xs.take i).map (·.1)) (fun d hd => by
        obtain ⟨y, hy, rfl⟩ := List.mem_map.1 hd
        exact (HD.out y (List.mem_of_mem_take hy)).2.2)
      have htl : ((xs.take i).map (·.1)).length ≤ 128 := by rw [List.length_map, List.length_take]; omega
      have HG := Lib.hid hg
      have lg := heap_lt hg
      have z1 : (i : Int) < (n : Int) := by omega
      obtain ⟨D, hD⟩ : ∃ D, D = j.cells (.slice ad2 j.sp.deps.length cp2) := ⟨_, rfl⟩
      have hDs : D.size = 21 := by rw [hD]; rfl
      have HCD : Hid ((C.toList.drop (i * 21)).take D.size = D.toList) := Lib.hid (by rw [hDs, hD]; exact hC)
      have HDS := Lib.hid hDs
      have ht := putJ_any (wr.alloc (.cells D 42)) p r' _ (HW.out.alloc _) j hs2 ad2 _ cp2 (hdep.alloc _) hfar (by simp only [List.length_append]; omega)
      have HT := Lib.hid ht
      unfold Jb.v at HT
      rw [← hD] at HT
      have HD1 : Hid (OneCells D.toList) := Lib.hid (by rw [hD]; simp [Jb.cells, OneCells, Value.oneCell'])
      have hcn : n ≤ cp := by have := HNN.out; omega
      clear hown' hv hg hC hs0 hs1 hs2 hdep hfar hfl htl ht hD hDs hx hcap1
      go_wp2_with (first | (refine wpList_load_blk _ rfl _ _ rfl _ (i * 21) rfl _ _ _ HG.out D HCD.out _ Tryz.underlying42 rfl (by rw [HDS.out]; exact info_jobG) ?_) | (refine wpList_store_fresh _ rfl _ _ _ rfl _ rfl D rfl wr _ _ rfl rfl (by rw [HDS.out]; decide) (by rw [HDS.out]; rfl) (by rw [HDS.out]; exact info_jobG) HD1.out ?_) | (refine wpList_load_fresh _ rfl _ _ rfl _ rfl wr _ _ rfl _ Tryz.underlying42 rfl rfl (by rw [HDS.out]; exact info_jobG) ?_) | fail)
      refine HT.out.mono ?_
      rintro e w2 ⟨rfl, r2, hP2, hk2⟩
      have HP2 : Hid (Wr w2 p r2 (bs ++ N ++ (((xs.take (i + 1)).map (·.1)).map jobB).flatten)) := Lib.hid (by
        have e : xs.take (i + 1) = xs.take i ++ [(j, .slice ad2 j.sp.deps.length cp2)] := by rw [List.take_add_one, HX.out]; rfl
        rw [e, List.map_append, List.map_append, List.flatten_append]
        simpa [List.append_assoc] using hP2)
      have HK2 := Lib.hid (HK.out.trans ((show Wrote p wr r' (wr.alloc (.cells D 42)) r' from ⟨(Keeps.refl _ _).alloc _, .inl rfl⟩).trans hk2))
      clear hP2 hk2 lg
      go_wp2_with fail
      go_roundw
      case rel => exact ⟨i + 1, r2, by go_num, by omega, HP2, HK2⟩
      case measure => simp [intOf]; omega
    · obtain rfl : i = n := by omega
      go_wp2_with fail
      go_end0
      refine ⟨rfl, r', ?_, HK.out⟩
      have := HW.out
      rw [List.take_of_length_le (by have := HNN.out; omega), HN.out, List.append_assoc] at this
      unfold jobsB
      rw [List.length_map, ← HNN.out]
      exact this

end Go.Proofs.YtheipmallojdkaaGreatDoor

/- The statement WorkerPlays: its walk. -/
import Derived.Test.YtebkdkoamiefjaaWorkerN
import Derived.Test.YtebkdkoamiefjaaRefName
import Derived.Test.YtebkdkoamiefjaaActs
namespace Go.Proofs.Ytebkdkoamiefjaa
open Go.RowKit

/-- What holds of the worker itself. -/
structure PNum (name : ByteArray) (client : Int) (k : Nat) (bz : Bool) (s : Wk) : Prop where
  hname : s.name = name
  hclient : s.client = client
  st : (s.state = 0 ∧ bz = false ∧ s.hn = ⟨#[]⟩ ∧ s.ht = 0 ∧ s.hu = 0) ∨ (s.state = 1 ∧ bz = true)
  num : 0 ≤ s.number ∧ s.number ≤ k
  dn : 0 ≤ s.done ∧ s.done ≤ k
  ls : 0 ≤ s.lost ∧ s.lost ≤ k
  wt : s.waits = true → s.ac = s.client ∧ s.an = s.number ∧ ((s.ak = 2 ∧ s.state = 0) ∨ ((s.ak = 3 ∨ s.ak = 4 ∨ s.ak = 5) ∧ s.state = 1))

/-- What holds at each act's head. -/
structure PInv (w0 wr : World) (m ab : Nat) (name : ByteArray) (client : Int) (k : Nat) (bz : Bool) (s : Wk) : Prop where
  at' : WAt wr m s
  asked : wr.heap[ab]? = some (.cells (Cmd.mk s.ak s.anm s.awk s.atk s.av).cells 52)
  hm : w0.heap.size ≤ m
  hab : w0.heap.size ≤ ab
  ne : ab ≠ m
  below : Below w0.heap.size w0 wr
  num : PNum name client k bz s

theorem PInv.told {w0 W W2 : World} {m ab : Nat} {name : ByteArray} {client : Int} {k : Nat} {bz : Bool} {s2 : Wk} (hA : W.heap[ab]? = some (.cells (Cmd.mk s2.ak s2.anm s2.awk s2.atk s2.av).cells 52)) (hB : Below w0.heap.size w0 W)
    (hm : w0.heap.size ≤ m) (hab : w0.heap.size ≤ ab) (hne : ab ≠ m) (hk : Keeps (fun k => k = m) W W2) (hT : WAt W2 m s2) (hn : PNum name client k bz s2) : PInv w0 W2.drew m ab name client k bz s2 :=
  ⟨hT.drew, hk.heap hne hA, hm, hab, hne, (hB.trans (hk.below hB.size (fun _ h => by omega))).drew, hn⟩

theorem take_again_any (w : World) (b : Nat) (s : Wk) (h : WAt w b s) (a : Ans) (hw : s.waits = true) (ha : againB a.err = true) {n : Int} (hn : n = s.number) :
    Calls Try.prog 23 #[.pointer (some ⟨b, 0, none⟩), .int .u64 n, a.v] w (RetW (.int .i64 a.err) b s w) := by
  subst hn
  exact take_again w b s h a hw ha

set_option maxRecDepth 100000 in
set_option maxHeartbeats 40000000 in
theorem plays_main (name : ByteArray) (client : Int) (a : Option Addr) (len cap : Nat) (xs : Nat → ActV) (w : World) (h0 : name.size ≤ 60) (h1 : len ≤ 80) (hn : nameB name = true) (hc : (client == 0) = false) (hrow : ActRow w a len cap xs) :
    Calls Try.prog 8 #[.string name, .int .u64 client, .slice a len cap] w (RetB (.bool true) w) := by
  have hr := fun w => refName_any name w h0
  rw [hn] at hr
  have hnw := fun w => newW_yes w name client (by unfold maxLen; omega) hn hc
  have HR := Lib.hid hrow
  clear hn hrow
  go_enter Try.func8, Try.ntmps8
  go_wp2_with fail
  refine (lives31 _).mono ?_
  rintro e w1 ⟨rfl, hb1⟩
  go_wp2_with fail
  refine (hnw _).mono ?_
  rintro e w2 ⟨m, rfl, hm, hT, hb2⟩
  have hb := hb1.trans (hb2.mono hb1.size)
  have hs1 := hb1.size
  go_wp2_with fail
  refine (hr _).mono ?_
  rintro e w' ⟨rfl, rfl⟩
  have hI : PInv w (w2.alloc (.cells (Cmd.mk 0 ⟨#[]⟩ ⟨#[]⟩ 0 0).cells 52)) m w2.heap.size name client 0 false (Wk.fresh name client) :=
    ⟨hT.alloc _, heap_new _ _, by omega, hb.size, Nat.ne_of_gt hT.lt, hb.alloc hb.size _, rfl, rfl, .inl ⟨rfl, rfl, rfl, rfl, rfl⟩, ⟨by simp [Wk.fresh], by simp [Wk.fresh]⟩, ⟨by simp [Wk.fresh], by simp [Wk.fresh]⟩, ⟨by simp [Wk.fresh], by simp [Wk.fresh]⟩, by simp [Wk.fresh]⟩
  generalize hab : w2.heap.size = ab at *
  clear hr hnw hb1 hb2 hT hb hm
  go_wp2_with fail
  go_loopw [9, 10, 11, 12, 13, 14, 15, 16, 66] (fun i9 i10 i11 i12 i13 i14 i15 i16 i wr => ∃ (k : Nat) (bz : Bool) (s : Wk), k ≤ len ∧ i = .int .i64 k ∧ PInv w wr m ab name client k bz s ∧ i9 = .bool bz ∧ i10 = .bool s.waits ∧ i11 = .int .u64 s.number ∧ i12 = .int .u64 s.ht ∧ i13 = .int .i64 s.hu ∧ i14 = .string s.hn ∧ i15 = .int .i64 s.done ∧ i16 = .int .i64 s.lost)
    (fun _ _ _ _ _ _ _ _ i _ => len - (intOf i).toNat)
  case atStart => exact ⟨0, _, _, by omega, rfl, hI, rfl, rfl, rfl, rfl, rfl, rfl, rfl, rfl⟩
  case round =>
    obtain ⟨k, bz, s, hk, rfl, hP, rfl, rfl, rfl, rfl, rfl, rfl, rfl, rfl⟩ := hrel
    clear hI
    by_cases hlt : k < len
    · obtain ⟨b, off, rfl, hbs, hx⟩ := HR.out.2.2.resolve_left (by omega)
      obtain ⟨⟨y0, y1, y2, y3, y4, y5, y6⟩, hok⟩ := hx k hlt
      rw [← bcell hP.below b _ hbs] at y0 y1 y2 y3 y4 y5 y6
      clear hx HR
      generalize xs k = x at *
      obtain ⟨xk, xd, xn, xe, xm, xt, xv⟩ := x
      obtain ⟨o0, o1, o2, o3, o4, o5, o6⟩ := hok
      obtain ⟨hd0, hd1⟩ := bounds_u64 o1
      simp only [] at hd0 hd1 o2 o3 o4 o5 o6
      simp only [] at y0 y1 y2 y3 y4 y5 y6
      obtain ⟨nm, cl, nu, st, hn, ht, hu, ac, an, ak, anm, awk, atk, av, wt, dn, ls⟩ := s
      obtain ⟨hT, hA, hm, hab0, hne, hB, hname, hclient, hst, hnum, hdn, hls, hwt⟩ := hP
      simp only [] at hname hclient hst hnum hdn hls hwt
      obtain ⟨hnu0, hnu1⟩ := hnum
      obtain ⟨hdn0, hdn1⟩ := hdn
      obtain ⟨hls0, hls1⟩ := hls
      subst hname hclient
      have hk1 : (k : Int) ≤ 79 := by omega
      have hms := hT.lt
      have has := heap_lt hA
      have hw0 := hB.size
      have hT := hT.alloc (.cells #[.int .i64 xk, .int .u64 xd, .int .u64 xn, .int .i64 xe, .string xm, .int .u64 xt, .int .i64 xv] 62)
      have hA := aheap hA (.cells #[.int .i64 xk, .int .u64 xd, .int .u64 xn, .int .i64 xe, .string xm, .int .u64 xt, .int .i64 xv] 62)
      have hX := heap_new wr (.cells #[.int .i64 xk, .int .u64 xd, .int .u64 xn, .int .i64 xe, .string xm, .int .u64 xt, .int .i64 xv] 62)
      have hB := hB.alloc hB.size (.cells #[.int .i64 xk, .int .u64 xd, .int .u64 xn, .int .i64 xe, .string xm, .int .u64 xt, .int .i64 xv] 62)
      have KT := Lib.hid hT
      have KA := Lib.hid hA
      have KX := Lib.hid hX
      have KB := Lib.hid hB
      clear hT hA hX hB
      by_cases hx60 : 60 < xm.size
      · go_wp2_with fail
        go_ret
        exact RetB.mk rfl KB.out
      cases hk0 : (xk == 0)
      · cases wt
        · have hta := take_state _ m _ KT.out xn ⟨xe, xm, xt, xv⟩ rfl
          have hsb : (st == 1) = bz := by rcases hst with ⟨rfl, rfl, _⟩ | ⟨rfl, rfl⟩ <;> rfl
          as_aux_lemma =>
            go_wp2_with fail
            refine hta.mono ?_
            rintro e w2 ⟨rfl, hT2, hk2⟩
            have HT2 := Lib.hid hT2
            go_wp2_with (first
              | (go_at_call 26; refine (job_any _ _ _ HT2.out).mono ?_; rintro e wj ⟨rfl, rfl⟩)
              | (go_at_call 27; refine (state_any _ _ _ HT2.out.drew).mono ?_; rintro e wj ⟨rfl, rfl⟩)
              | (go_at_call 24; refine (waits_any _ _ _ HT2.out.drew).mono ?_; rintro e wj ⟨rfl, rfl⟩)
              | (go_at_call 28; refine (done_any _ _ _ HT2.out.drew).mono ?_; rintro e wj ⟨rfl, rfl⟩)
              | (go_at_call 29; refine (lost_any _ _ _ HT2.out.drew).mono ?_; rintro e wj ⟨rfl, rfl⟩))
            all_goals first | (exfalso; rename_i hh; exact hh hsb) | skip
            go_roundw
            case rel => exact ⟨k + 1, bz, _, by omega, by go_num, PInv.told (s2 := _) KA.out KB.out hm hab0 hne hk2 HT2.out ⟨rfl, rfl, hst, ⟨hnu0, by simp only []; omega⟩, ⟨hdn0, by simp only []; omega⟩, ⟨hls0, by simp only []; omega⟩, by simp⟩, rfl, rfl, rfl, rfl, rfl, rfl, rfl, rfl⟩
            case measure => simp [intOf]; omega
        · obtain ⟨rfl, rfl, hak⟩ := hwt rfl
          cases hkn : (xn == an)
          · have hkn' : (xn != an) = true := by simp [bne, hkn]
            have hta := take_old _ m _ KT.out xn ⟨xe, xm, xt, xv⟩ rfl hkn
            have hsb : (st == 1) = bz := by rcases hst with ⟨rfl, rfl, _⟩ | ⟨rfl, rfl⟩ <;> rfl
            as_aux_lemma =>
              go_wp2_with fail
              refine hta.mono ?_
              rintro e w2 ⟨rfl, hT2, hk2⟩
              have HT2 := Lib.hid hT2
              go_wp2_with (first
                | (go_at_call 26; refine (job_any _ _ _ HT2.out).mono ?_; rintro e wj ⟨rfl, rfl⟩)
                | (go_at_call 27; refine (state_any _ _ _ HT2.out.drew).mono ?_; rintro e wj ⟨rfl, rfl⟩)
                | (go_at_call 24; refine (waits_any _ _ _ HT2.out.drew).mono ?_; rintro e wj ⟨rfl, rfl⟩)
                | (go_at_call 28; refine (done_any _ _ _ HT2.out.drew).mono ?_; rintro e wj ⟨rfl, rfl⟩)
                | (go_at_call 29; refine (lost_any _ _ _ HT2.out.drew).mono ?_; rintro e wj ⟨rfl, rfl⟩))
              all_goals first | (exfalso; rename_i hh; exact hh hsb) | skip
              go_roundw
              case rel => exact ⟨k + 1, bz, _, by omega, by go_num, PInv.told (s2 := _) KA.out KB.out hm hab0 hne hk2 HT2.out ⟨rfl, rfl, hst, ⟨hnu0, by simp only []; omega⟩, ⟨hdn0, by simp only []; omega⟩, ⟨hls0, by simp only []; omega⟩, fun _ => ⟨rfl, rfl, hak⟩⟩, rfl, rfl, rfl, rfl, rfl, rfl, rfl, rfl⟩
              case measure => simp [intOf]; omega
          · have hkn' : (xn != an) = false := by simp [bne, hkn]
            have hag0 : againB xe = ((((xe == 17) || (xe == 18)) || (xe == 19)) || (xe == 6)) := rfl
            cases hag' : againB xe
            · have hag1 : ((((xe == 17) || (xe == 18)) || (xe == 19)) || (xe == 6)) = false := hag0 ▸ hag'
              clear hag0
              simp only [Bool.or_eq_false_iff] at hag1
              obtain ⟨⟨⟨g17, g18⟩, g19⟩, g6⟩ := hag1
              cases hx0 : (xe == 0)
              · rcases hst with ⟨rfl, rfl, rfl, rfl, rfl⟩ | ⟨rfl, rfl⟩
                · obtain rfl : ak = 2 := by omega
                  clear hak
                  as_aux_lemma =>
                    have hx' : (xe != 0) = true := by simp [bne, hx0]
                    have hxi : ¬ xe = 0 := by simpa using hx0
                    have hta : Calls Try.prog 23 #[.pointer (some ⟨m, 0, none⟩), .int .u64 xn, (Ans.mk xe xm xt xv).v] (wr.alloc (.cells #[.int .i64 xk, .int .u64 xd, .int .u64 xn, .int .i64 xe, .string xm, .int .u64 xt, .int .i64 xv] 62)) (RetW (.int .i64 0) m (Wk.mk nm ac an 0 ⟨#[]⟩ 0 0 ac an 2 anm awk atk av false dn ls) (wr.alloc (.cells #[.int .i64 xk, .int .u64 xd, .int .u64 xn, .int .i64 xe, .string xm, .int .u64 xt, .int .i64 xv] 62))) := by
                      have e : (Wk.mk nm ac an 0 ⟨#[]⟩ 0 0 ac an 2 anm awk atk av false dn ls) = takeF _ ⟨xe, xm, xt, xv⟩ := (by simp [takeF, Wk.freed, hxi] : (Wk.mk nm ac an 0 ⟨#[]⟩ 0 0 ac an 2 anm awk atk av false dn ls) = takeF ⟨nm, ac, an, 0, ⟨#[]⟩, 0, 0, ac, an, 2, anm, awk, atk, av, true, dn, ls⟩ ⟨xe, xm, xt, xv⟩)
                      rw [e]
                      exact take_any _ m _ KT.out xn ⟨xe, xm, xt, xv⟩ (by simpa using hkn) rfl hag' ⟨hdn0, by simp only []; omega⟩ ⟨hls0, by simp only []; omega⟩
                    clear hag'
                    go_wp2_with fail
                    refine hta.mono ?_
                    rintro e w2 ⟨rfl, hT2, hk2⟩
                    have hA2 := hk2.heap hne KA.out
                    have hX2 := hk2.heap (Nat.ne_of_gt hms) KX.out
                    have a0 : w2.cell? ⟨ab, 0, none⟩ = some (.int .i64 2) := blk_cell hA2 0 rfl
                    have z4 : w2.cell? ⟨wr.heap.size, 4, none⟩ = some (.string xm) := blk_cell hX2 4 rfl
                    have z5 : w2.cell? ⟨wr.heap.size, 5, none⟩ = some (.int .u64 xt) := blk_cell hX2 5 rfl
                    have z6 : w2.cell? ⟨wr.heap.size, 6, none⟩ = some (.int .i64 xv) := blk_cell hX2 6 rfl
                    have q2 := heap_lt hA2
                    have q3 := heap_lt hX2
                    clear hA2 hX2
                    clear hta hxi
                    have HT2 := Lib.hid hT2
                    go_wp2_with (first
                      | (go_at_call 26; refine (job_any _ _ _ HT2.out).mono ?_; rintro e wj ⟨rfl, rfl⟩)
                      | (go_at_call 27; refine (state_any _ _ _ HT2.out.drew).mono ?_; rintro e wj ⟨rfl, rfl⟩)
                      | (go_at_call 24; refine (waits_any _ _ _ HT2.out.drew).mono ?_; rintro e wj ⟨rfl, rfl⟩)
                      | (go_at_call 28; refine (done_any _ _ _ HT2.out.drew).mono ?_; rintro e wj ⟨rfl, rfl⟩)
                      | (go_at_call 29; refine (lost_any _ _ _ HT2.out.drew).mono ?_; rintro e wj ⟨rfl, rfl⟩))
                    go_roundw
                    case rel => exact ⟨k + 1, _, (Wk.mk nm ac an 0 ⟨#[]⟩ 0 0 ac an 2 anm awk atk av false dn ls), by omega, by go_num, PInv.told (s2 := (Wk.mk nm ac an 0 ⟨#[]⟩ 0 0 ac an 2 anm awk atk av false dn ls)) KA.out KB.out hm hab0 hne hk2 HT2.out ⟨rfl, rfl, .inl ⟨rfl, rfl, rfl, rfl, rfl⟩, ⟨hnu0, by simp only []; omega⟩, ⟨hdn0, by simp only []; omega⟩, ⟨hls0, by simp only []; omega⟩, by simp⟩, rfl, rfl, rfl, rfl, rfl, rfl, rfl, rfl⟩
                    case measure => simp [intOf]; omega
                · have hk3 : ak = 3 ∨ ak = 4 ∨ ak = 5 := by omega
                  clear hak
                  rcases hk3 with rfl | rfl | rfl
                  · as_aux_lemma =>
                      have hx' : (xe != 0) = true := by simp [bne, hx0]
                      have hxi : ¬ xe = 0 := by simpa using hx0
                      have hta : Calls Try.prog 23 #[.pointer (some ⟨m, 0, none⟩), .int .u64 xn, (Ans.mk xe xm xt xv).v] (wr.alloc (.cells #[.int .i64 xk, .int .u64 xd, .int .u64 xn, .int .i64 xe, .string xm, .int .u64 xt, .int .i64 xv] 62)) (RetW (.int .i64 0) m (Wk.mk nm ac an 0 ⟨#[]⟩ 0 0 ac an 3 anm awk atk av false dn (ls + 1)) (wr.alloc (.cells #[.int .i64 xk, .int .u64 xd, .int .u64 xn, .int .i64 xe, .string xm, .int .u64 xt, .int .i64 xv] 62))) := by
                        have e : (Wk.mk nm ac an 0 ⟨#[]⟩ 0 0 ac an 3 anm awk atk av false dn (ls + 1)) = takeF _ ⟨xe, xm, xt, xv⟩ := (by simp [takeF, toldF, Wk.freed, hxi] : (Wk.mk nm ac an 0 ⟨#[]⟩ 0 0 ac an 3 anm awk atk av false dn (ls + 1)) = takeF ⟨nm, ac, an, 1, hn, ht, hu, ac, an, 3, anm, awk, atk, av, true, dn, ls⟩ ⟨xe, xm, xt, xv⟩)
                        rw [e]
                        exact take_any _ m _ KT.out xn ⟨xe, xm, xt, xv⟩ (by simpa using hkn) rfl hag' ⟨hdn0, by simp only []; omega⟩ ⟨hls0, by simp only []; omega⟩
                      clear hag'
                      go_wp2_with fail
                      refine hta.mono ?_
                      rintro e w2 ⟨rfl, hT2, hk2⟩
                      have hA2 := hk2.heap hne KA.out
                      have hX2 := hk2.heap (Nat.ne_of_gt hms) KX.out
                      have a0 : w2.cell? ⟨ab, 0, none⟩ = some (.int .i64 3) := blk_cell hA2 0 rfl
                      have z4 : w2.cell? ⟨wr.heap.size, 4, none⟩ = some (.string xm) := blk_cell hX2 4 rfl
                      have z5 : w2.cell? ⟨wr.heap.size, 5, none⟩ = some (.int .u64 xt) := blk_cell hX2 5 rfl
                      have z6 : w2.cell? ⟨wr.heap.size, 6, none⟩ = some (.int .i64 xv) := blk_cell hX2 6 rfl
                      have q2 := heap_lt hA2
                      have q3 := heap_lt hX2
                      clear hA2 hX2
                      clear hta hxi
                      have HT2 := Lib.hid hT2
                      go_wp2_with (first
                        | (go_at_call 26; refine (job_any _ _ _ HT2.out).mono ?_; rintro e wj ⟨rfl, rfl⟩)
                        | (go_at_call 27; refine (state_any _ _ _ HT2.out.drew).mono ?_; rintro e wj ⟨rfl, rfl⟩)
                        | (go_at_call 24; refine (waits_any _ _ _ HT2.out.drew).mono ?_; rintro e wj ⟨rfl, rfl⟩)
                        | (go_at_call 28; refine (done_any _ _ _ HT2.out.drew).mono ?_; rintro e wj ⟨rfl, rfl⟩)
                        | (go_at_call 29; refine (lost_any _ _ _ HT2.out.drew).mono ?_; rintro e wj ⟨rfl, rfl⟩))
                      go_roundw
                      case rel => exact ⟨k + 1, _, (Wk.mk nm ac an 0 ⟨#[]⟩ 0 0 ac an 3 anm awk atk av false dn (ls + 1)), by omega, by go_num, PInv.told (s2 := (Wk.mk nm ac an 0 ⟨#[]⟩ 0 0 ac an 3 anm awk atk av false dn (ls + 1))) KA.out KB.out hm hab0 hne hk2 HT2.out ⟨rfl, rfl, .inl ⟨rfl, rfl, rfl, rfl, rfl⟩, ⟨hnu0, by simp only []; omega⟩, ⟨hdn0, by simp only []; omega⟩, ⟨by simp only []; omega, by simp only []; omega⟩, by simp⟩, rfl, rfl, rfl, rfl, rfl, rfl, rfl, rfl⟩
                      case measure => simp [intOf]; omega
                  · cases hx13 : (xe == 13)
                    · as_aux_lemma =>
                        have hx' : (xe != 0) = true := by simp [bne, hx0]
                        have hxi : ¬ xe = 0 := by simpa using hx0
                        have hxj : ¬ xe = 13 := by simpa using hx13
                        have hta : Calls Try.prog 23 #[.pointer (some ⟨m, 0, none⟩), .int .u64 xn, (Ans.mk xe xm xt xv).v] (wr.alloc (.cells #[.int .i64 xk, .int .u64 xd, .int .u64 xn, .int .i64 xe, .string xm, .int .u64 xt, .int .i64 xv] 62)) (RetW (.int .i64 0) m (Wk.mk nm ac an 0 ⟨#[]⟩ 0 0 ac an 4 anm awk atk av false dn (ls + 1)) (wr.alloc (.cells #[.int .i64 xk, .int .u64 xd, .int .u64 xn, .int .i64 xe, .string xm, .int .u64 xt, .int .i64 xv] 62))) := by
                          have e : (Wk.mk nm ac an 0 ⟨#[]⟩ 0 0 ac an 4 anm awk atk av false dn (ls + 1)) = takeF _ ⟨xe, xm, xt, xv⟩ := (by simp [takeF, toldF, Wk.freed, hxi, hxj] : (Wk.mk nm ac an 0 ⟨#[]⟩ 0 0 ac an 4 anm awk atk av false dn (ls + 1)) = takeF ⟨nm, ac, an, 1, hn, ht, hu, ac, an, 4, anm, awk, atk, av, true, dn, ls⟩ ⟨xe, xm, xt, xv⟩)
                          rw [e]
                          exact take_any _ m _ KT.out xn ⟨xe, xm, xt, xv⟩ (by simpa using hkn) rfl hag' ⟨hdn0, by simp only []; omega⟩ ⟨hls0, by simp only []; omega⟩
                        clear hag'
                        go_wp2_with fail
                        refine hta.mono ?_
                        rintro e w2 ⟨rfl, hT2, hk2⟩
                        have hA2 := hk2.heap hne KA.out
                        have hX2 := hk2.heap (Nat.ne_of_gt hms) KX.out
                        have a0 : w2.cell? ⟨ab, 0, none⟩ = some (.int .i64 4) := blk_cell hA2 0 rfl
                        have z4 : w2.cell? ⟨wr.heap.size, 4, none⟩ = some (.string xm) := blk_cell hX2 4 rfl
                        have z5 : w2.cell? ⟨wr.heap.size, 5, none⟩ = some (.int .u64 xt) := blk_cell hX2 5 rfl
                        have z6 : w2.cell? ⟨wr.heap.size, 6, none⟩ = some (.int .i64 xv) := blk_cell hX2 6 rfl
                        have q2 := heap_lt hA2
                        have q3 := heap_lt hX2
                        clear hA2 hX2
                        clear hta hxi hxj
                        have HT2 := Lib.hid hT2
                        go_wp2_with (first
                          | (go_at_call 26; refine (job_any _ _ _ HT2.out).mono ?_; rintro e wj ⟨rfl, rfl⟩)
                          | (go_at_call 27; refine (state_any _ _ _ HT2.out.drew).mono ?_; rintro e wj ⟨rfl, rfl⟩)
                          | (go_at_call 24; refine (waits_any _ _ _ HT2.out.drew).mono ?_; rintro e wj ⟨rfl, rfl⟩)
                          | (go_at_call 28; refine (done_any _ _ _ HT2.out.drew).mono ?_; rintro e wj ⟨rfl, rfl⟩)
                          | (go_at_call 29; refine (lost_any _ _ _ HT2.out.drew).mono ?_; rintro e wj ⟨rfl, rfl⟩))
                        go_roundw
                        case rel => exact ⟨k + 1, _, (Wk.mk nm ac an 0 ⟨#[]⟩ 0 0 ac an 4 anm awk atk av false dn (ls + 1)), by omega, by go_num, PInv.told (s2 := (Wk.mk nm ac an 0 ⟨#[]⟩ 0 0 ac an 4 anm awk atk av false dn (ls + 1))) KA.out KB.out hm hab0 hne hk2 HT2.out ⟨rfl, rfl, .inl ⟨rfl, rfl, rfl, rfl, rfl⟩, ⟨hnu0, by simp only []; omega⟩, ⟨hdn0, by simp only []; omega⟩, ⟨by simp only []; omega, by simp only []; omega⟩, by simp⟩, rfl, rfl, rfl, rfl, rfl, rfl, rfl, rfl⟩
                        case measure => simp [intOf]; omega
                    · as_aux_lemma =>
                        obtain rfl : xe = 13 := by simpa using hx13
                        clear hx0 hx13 g17 g18 g19 g6
                        have hta : Calls Try.prog 23 #[.pointer (some ⟨m, 0, none⟩), .int .u64 xn, (Ans.mk 13 xm xt xv).v] (wr.alloc (.cells #[.int .i64 xk, .int .u64 xd, .int .u64 xn, .int .i64 13, .string xm, .int .u64 xt, .int .i64 xv] 62)) (RetW (.int .i64 0) m (Wk.mk nm ac an 0 ⟨#[]⟩ 0 0 ac an 4 anm awk atk av false (dn + 1) ls) (wr.alloc (.cells #[.int .i64 xk, .int .u64 xd, .int .u64 xn, .int .i64 13, .string xm, .int .u64 xt, .int .i64 xv] 62))) := by
                          have e : (Wk.mk nm ac an 0 ⟨#[]⟩ 0 0 ac an 4 anm awk atk av false (dn + 1) ls) = takeF _ ⟨13, xm, xt, xv⟩ := (by simp [takeF, toldF, Wk.freed] : (Wk.mk nm ac an 0 ⟨#[]⟩ 0 0 ac an 4 anm awk atk av false (dn + 1) ls) = takeF ⟨nm, ac, an, 1, hn, ht, hu, ac, an, 4, anm, awk, atk, av, true, dn, ls⟩ ⟨13, xm, xt, xv⟩)
                          rw [e]
                          exact take_any _ m _ KT.out xn ⟨13, xm, xt, xv⟩ (by simpa using hkn) rfl hag' ⟨hdn0, by simp only []; omega⟩ ⟨hls0, by simp only []; omega⟩
                        clear hag'
                        go_wp2_with fail
                        refine hta.mono ?_
                        rintro e w2 ⟨rfl, hT2, hk2⟩
                        have hA2 := hk2.heap hne KA.out
                        have hX2 := hk2.heap (Nat.ne_of_gt hms) KX.out
                        have a0 : w2.cell? ⟨ab, 0, none⟩ = some (.int .i64 4) := blk_cell hA2 0 rfl
                        have z4 : w2.cell? ⟨wr.heap.size, 4, none⟩ = some (.string xm) := blk_cell hX2 4 rfl
                        have z5 : w2.cell? ⟨wr.heap.size, 5, none⟩ = some (.int .u64 xt) := blk_cell hX2 5 rfl
                        have z6 : w2.cell? ⟨wr.heap.size, 6, none⟩ = some (.int .i64 xv) := blk_cell hX2 6 rfl
                        have q2 := heap_lt hA2
                        have q3 := heap_lt hX2
                        clear hA2 hX2
                        clear hta
                        have HT2 := Lib.hid hT2
                        go_wp2_with (first
                          | (go_at_call 26; refine (job_any _ _ _ HT2.out).mono ?_; rintro e wj ⟨rfl, rfl⟩)
                          | (go_at_call 27; refine (state_any _ _ _ HT2.out.drew).mono ?_; rintro e wj ⟨rfl, rfl⟩)
                          | (go_at_call 24; refine (waits_any _ _ _ HT2.out.drew).mono ?_; rintro e wj ⟨rfl, rfl⟩)
                          | (go_at_call 28; refine (done_any _ _ _ HT2.out.drew).mono ?_; rintro e wj ⟨rfl, rfl⟩)
                          | (go_at_call 29; refine (lost_any _ _ _ HT2.out.drew).mono ?_; rintro e wj ⟨rfl, rfl⟩))
                        go_roundw
                        case rel => exact ⟨k + 1, _, (Wk.mk nm ac an 0 ⟨#[]⟩ 0 0 ac an 4 anm awk atk av false (dn + 1) ls), by omega, by go_num, PInv.told (s2 := (Wk.mk nm ac an 0 ⟨#[]⟩ 0 0 ac an 4 anm awk atk av false (dn + 1) ls)) KA.out KB.out hm hab0 hne hk2 HT2.out ⟨rfl, rfl, .inl ⟨rfl, rfl, rfl, rfl, rfl⟩, ⟨hnu0, by simp only []; omega⟩, ⟨by simp only []; omega, by simp only []; omega⟩, ⟨hls0, by simp only []; omega⟩, by simp⟩, rfl, rfl, rfl, rfl, rfl, rfl, rfl, rfl⟩
                        case measure => simp [intOf]; omega

                  · as_aux_lemma =>
                      have hx' : (xe != 0) = true := by simp [bne, hx0]
                      have hxi : ¬ xe = 0 := by simpa using hx0
                      have hta : Calls Try.prog 23 #[.pointer (some ⟨m, 0, none⟩), .int .u64 xn, (Ans.mk xe xm xt xv).v] (wr.alloc (.cells #[.int .i64 xk, .int .u64 xd, .int .u64 xn, .int .i64 xe, .string xm, .int .u64 xt, .int .i64 xv] 62)) (RetW (.int .i64 0) m (Wk.mk nm ac an 0 ⟨#[]⟩ 0 0 ac an 5 anm awk atk av false dn (ls + 1)) (wr.alloc (.cells #[.int .i64 xk, .int .u64 xd, .int .u64 xn, .int .i64 xe, .string xm, .int .u64 xt, .int .i64 xv] 62))) := by
                        have e : (Wk.mk nm ac an 0 ⟨#[]⟩ 0 0 ac an 5 anm awk atk av false dn (ls + 1)) = takeF _ ⟨xe, xm, xt, xv⟩ := (by simp [takeF, toldF, Wk.freed, hxi] : (Wk.mk nm ac an 0 ⟨#[]⟩ 0 0 ac an 5 anm awk atk av false dn (ls + 1)) = takeF ⟨nm, ac, an, 1, hn, ht, hu, ac, an, 5, anm, awk, atk, av, true, dn, ls⟩ ⟨xe, xm, xt, xv⟩)
                        rw [e]
                        exact take_any _ m _ KT.out xn ⟨xe, xm, xt, xv⟩ (by simpa using hkn) rfl hag' ⟨hdn0, by simp only []; omega⟩ ⟨hls0, by simp only []; omega⟩
                      clear hag'
                      go_wp2_with fail
                      refine hta.mono ?_
                      rintro e w2 ⟨rfl, hT2, hk2⟩
                      have hA2 := hk2.heap hne KA.out
                      have hX2 := hk2.heap (Nat.ne_of_gt hms) KX.out
                      have a0 : w2.cell? ⟨ab, 0, none⟩ = some (.int .i64 5) := blk_cell hA2 0 rfl
                      have z4 : w2.cell? ⟨wr.heap.size, 4, none⟩ = some (.string xm) := blk_cell hX2 4 rfl
                      have z5 : w2.cell? ⟨wr.heap.size, 5, none⟩ = some (.int .u64 xt) := blk_cell hX2 5 rfl
                      have z6 : w2.cell? ⟨wr.heap.size, 6, none⟩ = some (.int .i64 xv) := blk_cell hX2 6 rfl
                      have q2 := heap_lt hA2
                      have q3 := heap_lt hX2
                      clear hA2 hX2
                      clear hta hxi
                      have HT2 := Lib.hid hT2
                      go_wp2_with (first
                        | (go_at_call 26; refine (job_any _ _ _ HT2.out).mono ?_; rintro e wj ⟨rfl, rfl⟩)
                        | (go_at_call 27; refine (state_any _ _ _ HT2.out.drew).mono ?_; rintro e wj ⟨rfl, rfl⟩)
                        | (go_at_call 24; refine (waits_any _ _ _ HT2.out.drew).mono ?_; rintro e wj ⟨rfl, rfl⟩)
                        | (go_at_call 28; refine (done_any _ _ _ HT2.out.drew).mono ?_; rintro e wj ⟨rfl, rfl⟩)
                        | (go_at_call 29; refine (lost_any _ _ _ HT2.out.drew).mono ?_; rintro e wj ⟨rfl, rfl⟩))
                      go_roundw
                      case rel => exact ⟨k + 1, _, (Wk.mk nm ac an 0 ⟨#[]⟩ 0 0 ac an 5 anm awk atk av false dn (ls + 1)), by omega, by go_num, PInv.told (s2 := (Wk.mk nm ac an 0 ⟨#[]⟩ 0 0 ac an 5 anm awk atk av false dn (ls + 1))) KA.out KB.out hm hab0 hne hk2 HT2.out ⟨rfl, rfl, .inl ⟨rfl, rfl, rfl, rfl, rfl⟩, ⟨hnu0, by simp only []; omega⟩, ⟨hdn0, by simp only []; omega⟩, ⟨by simp only []; omega, by simp only []; omega⟩, by simp⟩, rfl, rfl, rfl, rfl, rfl, rfl, rfl, rfl⟩
                      case measure => simp [intOf]; omega

              · rcases hst with ⟨rfl, rfl, rfl, rfl, rfl⟩ | ⟨rfl, rfl⟩
                · obtain rfl : ak = 2 := by omega
                  clear hak
                  as_aux_lemma =>
                    obtain rfl : xe = 0 := by simpa using hx0
                    clear hx0 g17 g18 g19 g6
                    have hta : Calls Try.prog 23 #[.pointer (some ⟨m, 0, none⟩), .int .u64 xn, (Ans.mk 0 xm xt xv).v] (wr.alloc (.cells #[.int .i64 xk, .int .u64 xd, .int .u64 xn, .int .i64 0, .string xm, .int .u64 xt, .int .i64 xv] 62)) (RetW (.int .i64 0) m (Wk.mk nm ac an 1 xm xt xv ac an 2 anm awk atk av false dn ls) (wr.alloc (.cells #[.int .i64 xk, .int .u64 xd, .int .u64 xn, .int .i64 0, .string xm, .int .u64 xt, .int .i64 xv] 62))) := by
                      have e : (Wk.mk nm ac an 1 xm xt xv ac an 2 anm awk atk av false dn ls) = takeF _ ⟨0, xm, xt, xv⟩ := (by simp [takeF] : (Wk.mk nm ac an 1 xm xt xv ac an 2 anm awk atk av false dn ls) = takeF ⟨nm, ac, an, 0, ⟨#[]⟩, 0, 0, ac, an, 2, anm, awk, atk, av, true, dn, ls⟩ ⟨0, xm, xt, xv⟩)
                      rw [e]
                      exact take_any _ m _ KT.out xn ⟨0, xm, xt, xv⟩ (by simpa using hkn) rfl hag' ⟨hdn0, by simp only []; omega⟩ ⟨hls0, by simp only []; omega⟩
                    clear hag'
                    go_wp2_with fail
                    refine hta.mono ?_
                    rintro e w2 ⟨rfl, hT2, hk2⟩
                    have hA2 := hk2.heap hne KA.out
                    have hX2 := hk2.heap (Nat.ne_of_gt hms) KX.out
                    have a0 : w2.cell? ⟨ab, 0, none⟩ = some (.int .i64 2) := blk_cell hA2 0 rfl
                    have z4 : w2.cell? ⟨wr.heap.size, 4, none⟩ = some (.string xm) := blk_cell hX2 4 rfl
                    have z5 : w2.cell? ⟨wr.heap.size, 5, none⟩ = some (.int .u64 xt) := blk_cell hX2 5 rfl
                    have z6 : w2.cell? ⟨wr.heap.size, 6, none⟩ = some (.int .i64 xv) := blk_cell hX2 6 rfl
                    have q2 := heap_lt hA2
                    have q3 := heap_lt hX2
                    clear hA2 hX2
                    go_wp2_with fail
                    go_region
                    have hT2 := hT2.drew
                    have hk2 := hk2.drew
                    clear hta
                    have HT2 := Lib.hid hT2
                    go_wp2_with (first
                      | (go_at_call 26; refine (job_any _ _ _ HT2.out).mono ?_; rintro e wj ⟨rfl, rfl⟩)
                      | (go_at_call 27; refine (state_any _ _ _ HT2.out.drew).mono ?_; rintro e wj ⟨rfl, rfl⟩)
                      | (go_at_call 24; refine (waits_any _ _ _ HT2.out.drew).mono ?_; rintro e wj ⟨rfl, rfl⟩)
                      | (go_at_call 28; refine (done_any _ _ _ HT2.out.drew).mono ?_; rintro e wj ⟨rfl, rfl⟩)
                      | (go_at_call 29; refine (lost_any _ _ _ HT2.out.drew).mono ?_; rintro e wj ⟨rfl, rfl⟩))
                    go_roundw
                    case rel => exact ⟨k + 1, _, (Wk.mk nm ac an 1 xm xt xv ac an 2 anm awk atk av false dn ls), by omega, by go_num, PInv.told (s2 := (Wk.mk nm ac an 1 xm xt xv ac an 2 anm awk atk av false dn ls)) KA.out KB.out hm hab0 hne hk2 HT2.out ⟨rfl, rfl, .inr ⟨rfl, rfl⟩, ⟨hnu0, by simp only []; omega⟩, ⟨hdn0, by simp only []; omega⟩, ⟨hls0, by simp only []; omega⟩, by simp⟩, rfl, rfl, rfl, rfl, rfl, rfl, rfl, rfl⟩
                    case measure => simp [intOf]; omega
                · have hk3 : ak = 3 ∨ ak = 4 ∨ ak = 5 := by omega
                  clear hak
                  rcases hk3 with rfl | rfl | rfl
                  · as_aux_lemma =>
                      obtain rfl : xe = 0 := by simpa using hx0
                      clear hx0 g17 g18 g19 g6
                      have hta : Calls Try.prog 23 #[.pointer (some ⟨m, 0, none⟩), .int .u64 xn, (Ans.mk 0 xm xt xv).v] (wr.alloc (.cells #[.int .i64 xk, .int .u64 xd, .int .u64 xn, .int .i64 0, .string xm, .int .u64 xt, .int .i64 xv] 62)) (RetW (.int .i64 0) m (Wk.mk nm ac an 1 hn ht xv ac an 3 anm awk atk av false dn ls) (wr.alloc (.cells #[.int .i64 xk, .int .u64 xd, .int .u64 xn, .int .i64 0, .string xm, .int .u64 xt, .int .i64 xv] 62))) := by
                        have e : (Wk.mk nm ac an 1 hn ht xv ac an 3 anm awk atk av false dn ls) = takeF _ ⟨0, xm, xt, xv⟩ := (by simp [takeF, toldF] : (Wk.mk nm ac an 1 hn ht xv ac an 3 anm awk atk av false dn ls) = takeF ⟨nm, ac, an, 1, hn, ht, hu, ac, an, 3, anm, awk, atk, av, true, dn, ls⟩ ⟨0, xm, xt, xv⟩)
                        rw [e]
                        exact take_any _ m _ KT.out xn ⟨0, xm, xt, xv⟩ (by simpa using hkn) rfl hag' ⟨hdn0, by simp only []; omega⟩ ⟨hls0, by simp only []; omega⟩
                      clear hag'
                      go_wp2_with fail
                      refine hta.mono ?_
                      rintro e w2 ⟨rfl, hT2, hk2⟩
                      have hA2 := hk2.heap hne KA.out
                      have hX2 := hk2.heap (Nat.ne_of_gt hms) KX.out
                      have a0 : w2.cell? ⟨ab, 0, none⟩ = some (.int .i64 3) := blk_cell hA2 0 rfl
                      have z4 : w2.cell? ⟨wr.heap.size, 4, none⟩ = some (.string xm) := blk_cell hX2 4 rfl
                      have z5 : w2.cell? ⟨wr.heap.size, 5, none⟩ = some (.int .u64 xt) := blk_cell hX2 5 rfl
                      have z6 : w2.cell? ⟨wr.heap.size, 6, none⟩ = some (.int .i64 xv) := blk_cell hX2 6 rfl
                      have q2 := heap_lt hA2
                      have q3 := heap_lt hX2
                      clear hA2 hX2
                      clear hta
                      have HT2 := Lib.hid hT2
                      go_wp2_with (first
                        | (go_at_call 26; refine (job_any _ _ _ HT2.out).mono ?_; rintro e wj ⟨rfl, rfl⟩)
                        | (go_at_call 27; refine (state_any _ _ _ HT2.out.drew).mono ?_; rintro e wj ⟨rfl, rfl⟩)
                        | (go_at_call 24; refine (waits_any _ _ _ HT2.out.drew).mono ?_; rintro e wj ⟨rfl, rfl⟩)
                        | (go_at_call 28; refine (done_any _ _ _ HT2.out.drew).mono ?_; rintro e wj ⟨rfl, rfl⟩)
                        | (go_at_call 29; refine (lost_any _ _ _ HT2.out.drew).mono ?_; rintro e wj ⟨rfl, rfl⟩))
                      go_roundw
                      case rel => exact ⟨k + 1, _, (Wk.mk nm ac an 1 hn ht xv ac an 3 anm awk atk av false dn ls), by omega, by go_num, PInv.told (s2 := (Wk.mk nm ac an 1 hn ht xv ac an 3 anm awk atk av false dn ls)) KA.out KB.out hm hab0 hne hk2 HT2.out ⟨rfl, rfl, .inr ⟨rfl, rfl⟩, ⟨hnu0, by simp only []; omega⟩, ⟨hdn0, by simp only []; omega⟩, ⟨hls0, by simp only []; omega⟩, by simp⟩, rfl, rfl, rfl, rfl, rfl, rfl, rfl, rfl⟩
                      case measure => simp [intOf]; omega
                  · as_aux_lemma =>
                      obtain rfl : xe = 0 := by simpa using hx0
                      clear hx0 g17 g18 g19 g6
                      have hta : Calls Try.prog 23 #[.pointer (some ⟨m, 0, none⟩), .int .u64 xn, (Ans.mk 0 xm xt xv).v] (wr.alloc (.cells #[.int .i64 xk, .int .u64 xd, .int .u64 xn, .int .i64 0, .string xm, .int .u64 xt, .int .i64 xv] 62)) (RetW (.int .i64 0) m (Wk.mk nm ac an 0 ⟨#[]⟩ 0 0 ac an 4 anm awk atk av false (dn + 1) ls) (wr.alloc (.cells #[.int .i64 xk, .int .u64 xd, .int .u64 xn, .int .i64 0, .string xm, .int .u64 xt, .int .i64 xv] 62))) := by
                        have e : (Wk.mk nm ac an 0 ⟨#[]⟩ 0 0 ac an 4 anm awk atk av false (dn + 1) ls) = takeF _ ⟨0, xm, xt, xv⟩ := (by simp [takeF, toldF, Wk.freed] : (Wk.mk nm ac an 0 ⟨#[]⟩ 0 0 ac an 4 anm awk atk av false (dn + 1) ls) = takeF ⟨nm, ac, an, 1, hn, ht, hu, ac, an, 4, anm, awk, atk, av, true, dn, ls⟩ ⟨0, xm, xt, xv⟩)
                        rw [e]
                        exact take_any _ m _ KT.out xn ⟨0, xm, xt, xv⟩ (by simpa using hkn) rfl hag' ⟨hdn0, by simp only []; omega⟩ ⟨hls0, by simp only []; omega⟩
                      clear hag'
                      go_wp2_with fail
                      refine hta.mono ?_
                      rintro e w2 ⟨rfl, hT2, hk2⟩
                      have hA2 := hk2.heap hne KA.out
                      have hX2 := hk2.heap (Nat.ne_of_gt hms) KX.out
                      have a0 : w2.cell? ⟨ab, 0, none⟩ = some (.int .i64 4) := blk_cell hA2 0 rfl
                      have z4 : w2.cell? ⟨wr.heap.size, 4, none⟩ = some (.string xm) := blk_cell hX2 4 rfl
                      have z5 : w2.cell? ⟨wr.heap.size, 5, none⟩ = some (.int .u64 xt) := blk_cell hX2 5 rfl
                      have z6 : w2.cell? ⟨wr.heap.size, 6, none⟩ = some (.int .i64 xv) := blk_cell hX2 6 rfl
                      have q2 := heap_lt hA2
                      have q3 := heap_lt hX2
                      clear hA2 hX2
                      clear hta
                      have HT2 := Lib.hid hT2
                      go_wp2_with (first
                        | (go_at_call 26; refine (job_any _ _ _ HT2.out).mono ?_; rintro e wj ⟨rfl, rfl⟩)
                        | (go_at_call 27; refine (state_any _ _ _ HT2.out.drew).mono ?_; rintro e wj ⟨rfl, rfl⟩)
                        | (go_at_call 24; refine (waits_any _ _ _ HT2.out.drew).mono ?_; rintro e wj ⟨rfl, rfl⟩)
                        | (go_at_call 28; refine (done_any _ _ _ HT2.out.drew).mono ?_; rintro e wj ⟨rfl, rfl⟩)
                        | (go_at_call 29; refine (lost_any _ _ _ HT2.out.drew).mono ?_; rintro e wj ⟨rfl, rfl⟩))
                      go_roundw
                      case rel => exact ⟨k + 1, _, (Wk.mk nm ac an 0 ⟨#[]⟩ 0 0 ac an 4 anm awk atk av false (dn + 1) ls), by omega, by go_num, PInv.told (s2 := (Wk.mk nm ac an 0 ⟨#[]⟩ 0 0 ac an 4 anm awk atk av false (dn + 1) ls)) KA.out KB.out hm hab0 hne hk2 HT2.out ⟨rfl, rfl, .inl ⟨rfl, rfl, rfl, rfl, rfl⟩, ⟨hnu0, by simp only []; omega⟩, ⟨by simp only []; omega, by simp only []; omega⟩, ⟨hls0, by simp only []; omega⟩, by simp⟩, rfl, rfl, rfl, rfl, rfl, rfl, rfl, rfl⟩
                      case measure => simp [intOf]; omega
                  · as_aux_lemma =>
                      obtain rfl : xe = 0 := by simpa using hx0
                      clear hx0 g17 g18 g19 g6
                      have hta : Calls Try.prog 23 #[.pointer (some ⟨m, 0, none⟩), .int .u64 xn, (Ans.mk 0 xm xt xv).v] (wr.alloc (.cells #[.int .i64 xk, .int .u64 xd, .int .u64 xn, .int .i64 0, .string xm, .int .u64 xt, .int .i64 xv] 62)) (RetW (.int .i64 0) m (Wk.mk nm ac an 0 ⟨#[]⟩ 0 0 ac an 5 anm awk atk av false dn ls) (wr.alloc (.cells #[.int .i64 xk, .int .u64 xd, .int .u64 xn, .int .i64 0, .string xm, .int .u64 xt, .int .i64 xv] 62))) := by
                        have e : (Wk.mk nm ac an 0 ⟨#[]⟩ 0 0 ac an 5 anm awk atk av false dn ls) = takeF _ ⟨0, xm, xt, xv⟩ := (by simp [takeF, toldF, Wk.freed] : (Wk.mk nm ac an 0 ⟨#[]⟩ 0 0 ac an 5 anm awk atk av false dn ls) = takeF ⟨nm, ac, an, 1, hn, ht, hu, ac, an, 5, anm, awk, atk, av, true, dn, ls⟩ ⟨0, xm, xt, xv⟩)
                        rw [e]
                        exact take_any _ m _ KT.out xn ⟨0, xm, xt, xv⟩ (by simpa using hkn) rfl hag' ⟨hdn0, by simp only []; omega⟩ ⟨hls0, by simp only []; omega⟩
                      clear hag'
                      go_wp2_with fail
                      refine hta.mono ?_
                      rintro e w2 ⟨rfl, hT2, hk2⟩
                      have hA2 := hk2.heap hne KA.out
                      have hX2 := hk2.heap (Nat.ne_of_gt hms) KX.out
                      have a0 : w2.cell? ⟨ab, 0, none⟩ = some (.int .i64 5) := blk_cell hA2 0 rfl
                      have z4 : w2.cell? ⟨wr.heap.size, 4, none⟩ = some (.string xm) := blk_cell hX2 4 rfl
                      have z5 : w2.cell? ⟨wr.heap.size, 5, none⟩ = some (.int .u64 xt) := blk_cell hX2 5 rfl
                      have z6 : w2.cell? ⟨wr.heap.size, 6, none⟩ = some (.int .i64 xv) := blk_cell hX2 6 rfl
                      have q2 := heap_lt hA2
                      have q3 := heap_lt hX2
                      clear hA2 hX2
                      clear hta
                      have HT2 := Lib.hid hT2
                      go_wp2_with (first
                        | (go_at_call 26; refine (job_any _ _ _ HT2.out).mono ?_; rintro e wj ⟨rfl, rfl⟩)
                        | (go_at_call 27; refine (state_any _ _ _ HT2.out.drew).mono ?_; rintro e wj ⟨rfl, rfl⟩)
                        | (go_at_call 24; refine (waits_any _ _ _ HT2.out.drew).mono ?_; rintro e wj ⟨rfl, rfl⟩)
                        | (go_at_call 28; refine (done_any _ _ _ HT2.out.drew).mono ?_; rintro e wj ⟨rfl, rfl⟩)
                        | (go_at_call 29; refine (lost_any _ _ _ HT2.out.drew).mono ?_; rintro e wj ⟨rfl, rfl⟩))
                      go_roundw
                      case rel => exact ⟨k + 1, _, (Wk.mk nm ac an 0 ⟨#[]⟩ 0 0 ac an 5 anm awk atk av false dn ls), by omega, by go_num, PInv.told (s2 := (Wk.mk nm ac an 0 ⟨#[]⟩ 0 0 ac an 5 anm awk atk av false dn ls)) KA.out KB.out hm hab0 hne hk2 HT2.out ⟨rfl, rfl, .inl ⟨rfl, rfl, rfl, rfl, rfl⟩, ⟨hnu0, by simp only []; omega⟩, ⟨hdn0, by simp only []; omega⟩, ⟨hls0, by simp only []; omega⟩, by simp⟩, rfl, rfl, rfl, rfl, rfl, rfl, rfl, rfl⟩
                      case measure => simp [intOf]; omega


            · have hx0 : (xe == 0) = false := by simp; rintro rfl; simp [againB] at hag'
              have hsb : (st == 1) = bz := by rcases hst with ⟨rfl, rfl, _⟩ | ⟨rfl, rfl⟩ <;> rfl
              have hta : Calls Try.prog 23 #[.pointer (some ⟨m, 0, none⟩), .int .u64 xn, (Ans.mk xe xm xt xv).v] (wr.alloc (.cells #[.int .i64 xk, .int .u64 xd, .int .u64 xn, .int .i64 xe, .string xm, .int .u64 xt, .int .i64 xv] 62)) (RetW (.int .i64 xe) m ⟨nm, ac, an, st, hn, ht, hu, ac, an, ak, anm, awk, atk, av, true, dn, ls⟩ (wr.alloc (.cells #[.int .i64 xk, .int .u64 xd, .int .u64 xn, .int .i64 xe, .string xm, .int .u64 xt, .int .i64 xv] 62))) := by
                exact take_again_any _ m _ KT.out ⟨xe, xm, xt, xv⟩ rfl hag' (by simpa using hkn)
              have hag1 : ((((xe == 17) || (xe == 18)) || (xe == 19)) || (xe == 6)) = true := hag0 ▸ hag'
              clear hag' hag0
              cases g17 : (xe == 17)
              · cases g18 : (xe == 18)
                · cases g19 : (xe == 19)
                  · have g6 : (xe == 6) = true := by simpa [g17, g18, g19] using hag1
                    clear hag1
                    as_aux_lemma =>
                      go_wp2_with fail
                      refine hta.mono ?_
                      rintro e w2 ⟨rfl, hT2, hk2⟩
                      have HT2 := Lib.hid hT2
                      go_wp2_with (first
                        | (go_at_call 26; refine (job_any _ _ _ HT2.out).mono ?_; rintro e wj ⟨rfl, rfl⟩)
                        | (go_at_call 27; refine (state_any _ _ _ HT2.out.drew).mono ?_; rintro e wj ⟨rfl, rfl⟩)
                        | (go_at_call 24; refine (waits_any _ _ _ HT2.out.drew).mono ?_; rintro e wj ⟨rfl, rfl⟩)
                        | (go_at_call 28; refine (done_any _ _ _ HT2.out.drew).mono ?_; rintro e wj ⟨rfl, rfl⟩)
                        | (go_at_call 29; refine (lost_any _ _ _ HT2.out.drew).mono ?_; rintro e wj ⟨rfl, rfl⟩))
                      all_goals first | (exfalso; rename_i hh; exact hh hsb) | skip
                      go_roundw
                      case rel => exact ⟨k + 1, bz, _, by omega, by go_num, PInv.told (s2 := _) KA.out KB.out hm hab0 hne hk2 HT2.out ⟨rfl, rfl, hst, ⟨hnu0, by simp only []; omega⟩, ⟨hdn0, by simp only []; omega⟩, ⟨hls0, by simp only []; omega⟩, fun _ => ⟨rfl, rfl, hak⟩⟩, rfl, rfl, rfl, rfl, rfl, rfl, rfl, rfl⟩
                      case measure => simp [intOf]; omega
                  · clear hag1
                    as_aux_lemma =>
                      go_wp2_with fail
                      refine hta.mono ?_
                      rintro e w2 ⟨rfl, hT2, hk2⟩
                      have HT2 := Lib.hid hT2
                      go_wp2_with (first
                        | (go_at_call 26; refine (job_any _ _ _ HT2.out).mono ?_; rintro e wj ⟨rfl, rfl⟩)
                        | (go_at_call 27; refine (state_any _ _ _ HT2.out.drew).mono ?_; rintro e wj ⟨rfl, rfl⟩)
                        | (go_at_call 24; refine (waits_any _ _ _ HT2.out.drew).mono ?_; rintro e wj ⟨rfl, rfl⟩)
                        | (go_at_call 28; refine (done_any _ _ _ HT2.out.drew).mono ?_; rintro e wj ⟨rfl, rfl⟩)
                        | (go_at_call 29; refine (lost_any _ _ _ HT2.out.drew).mono ?_; rintro e wj ⟨rfl, rfl⟩))
                      all_goals first | (exfalso; rename_i hh; exact hh hsb) | skip
                      go_roundw
                      case rel => exact ⟨k + 1, bz, _, by omega, by go_num, PInv.told (s2 := _) KA.out KB.out hm hab0 hne hk2 HT2.out ⟨rfl, rfl, hst, ⟨hnu0, by simp only []; omega⟩, ⟨hdn0, by simp only []; omega⟩, ⟨hls0, by simp only []; omega⟩, fun _ => ⟨rfl, rfl, hak⟩⟩, rfl, rfl, rfl, rfl, rfl, rfl, rfl, rfl⟩
                      case measure => simp [intOf]; omega

                · clear hag1
                  as_aux_lemma =>
                    go_wp2_with fail
                    refine hta.mono ?_
                    rintro e w2 ⟨rfl, hT2, hk2⟩
                    have HT2 := Lib.hid hT2
                    go_wp2_with (first
                      | (go_at_call 26; refine (job_any _ _ _ HT2.out).mono ?_; rintro e wj ⟨rfl, rfl⟩)
                      | (go_at_call 27; refine (state_any _ _ _ HT2.out.drew).mono ?_; rintro e wj ⟨rfl, rfl⟩)
                      | (go_at_call 24; refine (waits_any _ _ _ HT2.out.drew).mono ?_; rintro e wj ⟨rfl, rfl⟩)
                      | (go_at_call 28; refine (done_any _ _ _ HT2.out.drew).mono ?_; rintro e wj ⟨rfl, rfl⟩)
                      | (go_at_call 29; refine (lost_any _ _ _ HT2.out.drew).mono ?_; rintro e wj ⟨rfl, rfl⟩))
                    all_goals first | (exfalso; rename_i hh; exact hh hsb) | skip
                    go_roundw
                    case rel => exact ⟨k + 1, bz, _, by omega, by go_num, PInv.told (s2 := _) KA.out KB.out hm hab0 hne hk2 HT2.out ⟨rfl, rfl, hst, ⟨hnu0, by simp only []; omega⟩, ⟨hdn0, by simp only []; omega⟩, ⟨hls0, by simp only []; omega⟩, fun _ => ⟨rfl, rfl, hak⟩⟩, rfl, rfl, rfl, rfl, rfl, rfl, rfl, rfl⟩
                    case measure => simp [intOf]; omega

              · clear hag1
                as_aux_lemma =>
                  go_wp2_with fail
                  refine hta.mono ?_
                  rintro e w2 ⟨rfl, hT2, hk2⟩
                  have HT2 := Lib.hid hT2
                  go_wp2_with (first
                    | (go_at_call 26; refine (job_any _ _ _ HT2.out).mono ?_; rintro e wj ⟨rfl, rfl⟩)
                    | (go_at_call 27; refine (state_any _ _ _ HT2.out.drew).mono ?_; rintro e wj ⟨rfl, rfl⟩)
                    | (go_at_call 24; refine (waits_any _ _ _ HT2.out.drew).mono ?_; rintro e wj ⟨rfl, rfl⟩)
                    | (go_at_call 28; refine (done_any _ _ _ HT2.out.drew).mono ?_; rintro e wj ⟨rfl, rfl⟩)
                    | (go_at_call 29; refine (lost_any _ _ _ HT2.out.drew).mono ?_; rintro e wj ⟨rfl, rfl⟩))
                  all_goals first | (exfalso; rename_i hh; exact hh hsb) | skip
                  go_roundw
                  case rel => exact ⟨k + 1, bz, _, by omega, by go_num, PInv.told (s2 := _) KA.out KB.out hm hab0 hne hk2 HT2.out ⟨rfl, rfl, hst, ⟨hnu0, by simp only []; omega⟩, ⟨hdn0, by simp only []; omega⟩, ⟨hls0, by simp only []; omega⟩, fun _ => ⟨rfl, rfl, hak⟩⟩, rfl, rfl, rfl, rfl, rfl, rfl, rfl, rfl⟩
                  case measure => simp [intOf]; omega



      · cases wt
        · rcases hst with ⟨rfl, rfl, rfl, rfl, rfl⟩ | ⟨rfl, rfl⟩
          · as_aux_lemma =>
              have e1 : nextF ⟨nm, cl, nu, 0, ⟨#[]⟩, 0, 0, ac, an, ak, anm, awk, atk, av, false, dn, ls⟩ xd = (Wk.mk nm cl (nu + 1) 0 ⟨#[]⟩ 0 0 cl (nu + 1) 2 ⟨#[]⟩ nm 0 0 true dn ls) := by simp [nextF, wishF]
              have hnx := next_new _ m _ KT.out xd ⟨hd0, hd1⟩ rfl ⟨hnu0, by simp only []; omega⟩
              rw [e1] at hnx
              go_wp2_with fail
              refine hnx.mono ?_
              rintro e w3 ⟨rfl, hT3, hk3⟩
              have hA3 := hk3.heap hne KA.out
              have hX3 := hk3.heap (Nat.ne_of_gt hms) KX.out
              have hB3 := KB.out.trans (hk3.below KB.out.size (fun _ h => by omega))
              have q1 := heap_lt hA3
              have q2 := heap_lt hX3
              have q3 := hT3.lt
              have hq := heap_new w3 (.cells (Wk.req (Wk.mk nm cl (nu + 1) 0 ⟨#[]⟩ 0 0 cl (nu + 1) 2 ⟨#[]⟩ nm 0 0 true dn ls)) 54)
              have hA3 := aheap hA3 (.cells (Wk.req (Wk.mk nm cl (nu + 1) 0 ⟨#[]⟩ 0 0 cl (nu + 1) 2 ⟨#[]⟩ nm 0 0 true dn ls)) 54)
              have hX3 := aheap hX3 (.cells (Wk.req (Wk.mk nm cl (nu + 1) 0 ⟨#[]⟩ 0 0 cl (nu + 1) 2 ⟨#[]⟩ nm 0 0 true dn ls)) 54)
              have hT3 := hT3.alloc (.cells (Wk.req (Wk.mk nm cl (nu + 1) 0 ⟨#[]⟩ 0 0 cl (nu + 1) 2 ⟨#[]⟩ nm 0 0 true dn ls)) 54)
              have hB3 := hB3.alloc hB3.size (.cells (Wk.req (Wk.mk nm cl (nu + 1) 0 ⟨#[]⟩ 0 0 cl (nu + 1) 2 ⟨#[]⟩ nm 0 0 true dn ls)) 54)
              have HA3 := Lib.hid hA3
              have HX3 := Lib.hid hX3
              have HT3 := Lib.hid hT3
              have HB3 := Lib.hid hB3
              have HQ := Lib.hid hq
              clear hA3 hX3 hT3 hB3 hq hnx e1 hk3
              go_wp2_with (first
                | (refine wpList_store_fresh _ rfl _ _ _ rfl _ rfl _ rfl _ _ _ rfl ?_ ?_ rfl info_req ?_ ?_; (focus (simp; done)); (focus (simp [Wk.req]; done)); (focus (simp [Wk.req, OneCells, Value.oneCell']; done)))
                | (refine wpList_store_all _ rfl _ _ _ rfl _ rfl _ rfl _ _ (HA3.out) ?_ ?_ info_cmd ?_ ?_; (focus (simp; done)); (focus (first | (simp; done) | (simp [Cmd.cells]; done))); (focus (simp [OneCells, Value.oneCell']; done))))
              intro W4 gA hk4 hz4
              have hX4 := hk4.heap (Nat.ne_of_gt has) HX3.out
              have hT4 : WAt W4 m _ := hk4.heap (Ne.symm hne) HT3.out
              have hQ4 := hk4.heap (Nat.ne_of_gt q1) HQ.out
              have hB4 := HB3.out.trans (hk4.below HB3.out.size (fun _ h => by omega))
              have q4 := heap_lt hQ4
              have q5 := heap_lt gA
              clear HA3 HX3 HT3 HB3 HQ hk4
              have c0 : World.cell? W4 ⟨w3.heap.size, 0, none⟩ = some (.int .u64 cl) := blk_cell hQ4 0 rfl
              have c1 : World.cell? W4 ⟨w3.heap.size, 1, none⟩ = some (.int .u64 (nu + 1)) := blk_cell hQ4 1 rfl
              have c2 : World.cell? W4 ⟨w3.heap.size, 2, none⟩ = some (.int .i64 2) := blk_cell hQ4 2 rfl
              have c3 : World.cell? W4 ⟨w3.heap.size, 3, none⟩ = some (.string ⟨#[]⟩) := blk_cell hQ4 3 rfl
              have c4 : World.cell? W4 ⟨w3.heap.size, 4, none⟩ = some (.string nm) := blk_cell hQ4 4 rfl
              have c5 : World.cell? W4 ⟨w3.heap.size, 5, none⟩ = some (.int .u64 0) := blk_cell hQ4 5 rfl
              have c6 : World.cell? W4 ⟨w3.heap.size, 6, none⟩ = some (.int .i64 0) := blk_cell hQ4 6 rfl
              have d0 : World.cell? W4 ⟨ab, 0, none⟩ = some (.int .i64 2) := blk_cell gA 0 rfl
              have d1 : World.cell? W4 ⟨ab, 1, none⟩ = some (.string ⟨#[]⟩) := blk_cell gA 1 rfl
              have d2 : World.cell? W4 ⟨ab, 2, none⟩ = some (.string nm) := blk_cell gA 2 rfl
              have d3 : World.cell? W4 ⟨ab, 3, none⟩ = some (.int .u64 0) := blk_cell gA 3 rfl
              have d4 : World.cell? W4 ⟨ab, 4, none⟩ = some (.int .i64 0) := blk_cell gA 4 rfl
              have GA := Lib.hid gA
              have GT := Lib.hid hT4
              have GB := Lib.hid hB4
              clear gA hT4 hB4 hQ4
              go_wp2_with fail
              go_roundw
              case rel => exact ⟨k + 1, _, (Wk.mk nm cl (nu + 1) 0 ⟨#[]⟩ 0 0 cl (nu + 1) 2 ⟨#[]⟩ nm 0 0 true dn ls), by omega, by go_num, ⟨GT.out, GA.out, hm, hab0, hne, GB.out, ⟨rfl, rfl, .inl ⟨rfl, rfl, rfl, rfl, rfl⟩, ⟨by simp only []; omega, by simp only []; omega⟩, ⟨hdn0, by simp only []; omega⟩, ⟨hls0, by simp only []; omega⟩, fun _ => ⟨rfl, rfl, .inl ⟨rfl, rfl⟩⟩⟩⟩, rfl, rfl, rfl, rfl, rfl, rfl, rfl, rfl⟩
              case measure => simp [intOf]; omega
          · have hd4 : xd % 4 = 0 ∨ xd % 4 = 1 ∨ xd % 4 = 2 ∨ xd % 4 = 3 := by omega
            rcases hd4 with hd4 | hd4 | hd4 | hd4
            · as_aux_lemma =>
                have e1 : nextF ⟨nm, cl, nu, 1, hn, ht, hu, ac, an, ak, anm, awk, atk, av, false, dn, ls⟩ xd = (Wk.mk nm cl (nu + 1) 1 hn ht hu cl (nu + 1) 4 hn ⟨#[]⟩ ht (xd % 1000) true dn ls) := by simp [nextF, wishF, hd4]
                have hnx := next_new _ m _ KT.out xd ⟨hd0, hd1⟩ rfl ⟨hnu0, by simp only []; omega⟩
                rw [e1] at hnx
                go_wp2_with fail
                refine hnx.mono ?_
                rintro e w3 ⟨rfl, hT3, hk3⟩
                have hA3 := hk3.heap hne KA.out
                have hX3 := hk3.heap (Nat.ne_of_gt hms) KX.out
                have hB3 := KB.out.trans (hk3.below KB.out.size (fun _ h => by omega))
                have q1 := heap_lt hA3
                have q2 := heap_lt hX3
                have q3 := hT3.lt
                have hq := heap_new w3 (.cells (Wk.req (Wk.mk nm cl (nu + 1) 1 hn ht hu cl (nu + 1) 4 hn ⟨#[]⟩ ht (xd % 1000) true dn ls)) 54)
                have hA3 := aheap hA3 (.cells (Wk.req (Wk.mk nm cl (nu + 1) 1 hn ht hu cl (nu + 1) 4 hn ⟨#[]⟩ ht (xd % 1000) true dn ls)) 54)
                have hX3 := aheap hX3 (.cells (Wk.req (Wk.mk nm cl (nu + 1) 1 hn ht hu cl (nu + 1) 4 hn ⟨#[]⟩ ht (xd % 1000) true dn ls)) 54)
                have hT3 := hT3.alloc (.cells (Wk.req (Wk.mk nm cl (nu + 1) 1 hn ht hu cl (nu + 1) 4 hn ⟨#[]⟩ ht (xd % 1000) true dn ls)) 54)
                have hB3 := hB3.alloc hB3.size (.cells (Wk.req (Wk.mk nm cl (nu + 1) 1 hn ht hu cl (nu + 1) 4 hn ⟨#[]⟩ ht (xd % 1000) true dn ls)) 54)
                have HA3 := Lib.hid hA3
                have HX3 := Lib.hid hX3
                have HT3 := Lib.hid hT3
                have HB3 := Lib.hid hB3
                have HQ := Lib.hid hq
                clear hA3 hX3 hT3 hB3 hq hnx e1 hk3
                go_wp2_with (first
                  | (refine wpList_store_fresh _ rfl _ _ _ rfl _ rfl _ rfl _ _ _ rfl ?_ ?_ rfl info_req ?_ ?_; (focus (simp; done)); (focus (simp [Wk.req]; done)); (focus (simp [Wk.req, OneCells, Value.oneCell']; done)))
                  | (refine wpList_store_all _ rfl _ _ _ rfl _ rfl _ rfl _ _ (HA3.out) ?_ ?_ info_cmd ?_ ?_; (focus (simp; done)); (focus (first | (simp; done) | (simp [Cmd.cells]; done))); (focus (simp [OneCells, Value.oneCell']; done))))
                intro W4 gA hk4 hz4
                have hX4 := hk4.heap (Nat.ne_of_gt has) HX3.out
                have hT4 : WAt W4 m _ := hk4.heap (Ne.symm hne) HT3.out
                have hQ4 := hk4.heap (Nat.ne_of_gt q1) HQ.out
                have hB4 := HB3.out.trans (hk4.below HB3.out.size (fun _ h => by omega))
                have q4 := heap_lt hQ4
                have q5 := heap_lt gA
                clear HA3 HX3 HT3 HB3 HQ hk4
                have z1 : W4.cell? ⟨wr.heap.size, 1, none⟩ = some (.int .u64 xd) := blk_cell hX4 1 rfl
                have hm0 : 0 ≤ xd % 1000 := by omega
                have hm1 : xd % 1000 < 1000 := by omega
                have HA4 := Lib.hid gA
                have HX4 := Lib.hid hX4
                have HT4 := Lib.hid hT4
                have HB4 := Lib.hid hB4
                have HQ4 := Lib.hid hQ4
                clear gA hX4 hT4 hB4 hQ4
                go_wp2_with (first
                  | (refine wpList_store_all _ rfl _ _ _ rfl _ rfl _ rfl _ _ (aheap HA4.out _) ?_ ?_ info_cmd ?_ ?_; (focus (simp; done)); (focus (first | (simp; done) | (simp [Cmd.cells]; done))); (focus (simp [OneCells, Value.oneCell']; done))))
                intro W5 gA hk5 hz5
                have hX5 := hk5.heap (Nat.ne_of_gt has) (aheap HX4.out _)
                have hT5 : WAt W5 m _ := hk5.heap (Ne.symm hne) (HT4.out.alloc _)
                have hQ5 := hk5.heap (Nat.ne_of_gt q1) (aheap HQ4.out _)
                have hB5 := (HB4.out.alloc HB4.out.size _).trans (hk5.below (HB4.out.alloc HB4.out.size _).size (fun _ h => by omega))
                have q6 := heap_lt hQ5
                have q7 := heap_lt gA
                have y1 : W5.cell? ⟨wr.heap.size, 1, none⟩ = some (.int .u64 xd) := blk_cell hX5 1 rfl
                clear HA4 HX4 HT4 HB4 HQ4 hk5 hX5 z1
                have c0 : World.cell? W5 ⟨w3.heap.size, 0, none⟩ = some (.int .u64 cl) := blk_cell hQ5 0 rfl
                have c1 : World.cell? W5 ⟨w3.heap.size, 1, none⟩ = some (.int .u64 (nu + 1)) := blk_cell hQ5 1 rfl
                have c2 : World.cell? W5 ⟨w3.heap.size, 2, none⟩ = some (.int .i64 4) := blk_cell hQ5 2 rfl
                have c3 : World.cell? W5 ⟨w3.heap.size, 3, none⟩ = some (.string hn) := blk_cell hQ5 3 rfl
                have c4 : World.cell? W5 ⟨w3.heap.size, 4, none⟩ = some (.string ⟨#[]⟩) := blk_cell hQ5 4 rfl
                have c5 : World.cell? W5 ⟨w3.heap.size, 5, none⟩ = some (.int .u64 ht) := blk_cell hQ5 5 rfl
                have c6 : World.cell? W5 ⟨w3.heap.size, 6, none⟩ = some (.int .i64 (xd % 1000)) := blk_cell hQ5 6 rfl
                have d0 : World.cell? W5 ⟨ab, 0, none⟩ = some (.int .i64 4) := blk_cell gA 0 rfl
                have d1 : World.cell? W5 ⟨ab, 1, none⟩ = some (.string hn) := blk_cell gA 1 rfl
                have d2 : World.cell? W5 ⟨ab, 2, none⟩ = some (.string ⟨#[]⟩) := blk_cell gA 2 rfl
                have d3 : World.cell? W5 ⟨ab, 3, none⟩ = some (.int .u64 ht) := blk_cell gA 3 rfl
                have d4 : World.cell? W5 ⟨ab, 4, none⟩ = some (.int .i64 0) := blk_cell gA 4 rfl
                have hf := blk_free gA
                have GA := Lib.hid gA
                have GT := Lib.hid hT5
                have GB := Lib.hid hB5
                clear gA hT5 hB5 hQ5
                go_wp2_with fail
                go_roundw
                case rel => exact ⟨k + 1, _, (Wk.mk nm cl (nu + 1) 1 hn ht hu cl (nu + 1) 4 hn ⟨#[]⟩ ht (xd % 1000) true dn ls), by omega, by go_num, ⟨blk_set_other GT.out (Ne.symm hne) _, blk_set GA.out 4 _, hm, hab0, hne, GB.out.setCell (p := ⟨ab, 4, none⟩) (by simp only []; omega) _, ⟨rfl, rfl, .inr ⟨rfl, rfl⟩, ⟨by simp only []; omega, by simp only []; omega⟩, ⟨hdn0, by simp only []; omega⟩, ⟨hls0, by simp only []; omega⟩, fun _ => ⟨rfl, rfl, .inr ⟨by simp, rfl⟩⟩⟩⟩, rfl, rfl, rfl, rfl, rfl, rfl, rfl, rfl⟩
                case measure => simp [intOf]; omega
            · as_aux_lemma =>
                have e1 : nextF ⟨nm, cl, nu, 1, hn, ht, hu, ac, an, ak, anm, awk, atk, av, false, dn, ls⟩ xd = (Wk.mk nm cl (nu + 1) 1 hn ht hu cl (nu + 1) 4 hn ⟨#[]⟩ ht (xd % 1000) true dn ls) := by simp [nextF, wishF, hd4]
                have hnx := next_new _ m _ KT.out xd ⟨hd0, hd1⟩ rfl ⟨hnu0, by simp only []; omega⟩
                rw [e1] at hnx
                go_wp2_with fail
                refine hnx.mono ?_
                rintro e w3 ⟨rfl, hT3, hk3⟩
                have hA3 := hk3.heap hne KA.out
                have hX3 := hk3.heap (Nat.ne_of_gt hms) KX.out
                have hB3 := KB.out.trans (hk3.below KB.out.size (fun _ h => by omega))
                have q1 := heap_lt hA3
                have q2 := heap_lt hX3
                have q3 := hT3.lt
                have hq := heap_new w3 (.cells (Wk.req (Wk.mk nm cl (nu + 1) 1 hn ht hu cl (nu + 1) 4 hn ⟨#[]⟩ ht (xd % 1000) true dn ls)) 54)
                have hA3 := aheap hA3 (.cells (Wk.req (Wk.mk nm cl (nu + 1) 1 hn ht hu cl (nu + 1) 4 hn ⟨#[]⟩ ht (xd % 1000) true dn ls)) 54)
                have hX3 := aheap hX3 (.cells (Wk.req (Wk.mk nm cl (nu + 1) 1 hn ht hu cl (nu + 1) 4 hn ⟨#[]⟩ ht (xd % 1000) true dn ls)) 54)
                have hT3 := hT3.alloc (.cells (Wk.req (Wk.mk nm cl (nu + 1) 1 hn ht hu cl (nu + 1) 4 hn ⟨#[]⟩ ht (xd % 1000) true dn ls)) 54)
                have hB3 := hB3.alloc hB3.size (.cells (Wk.req (Wk.mk nm cl (nu + 1) 1 hn ht hu cl (nu + 1) 4 hn ⟨#[]⟩ ht (xd % 1000) true dn ls)) 54)
                have HA3 := Lib.hid hA3
                have HX3 := Lib.hid hX3
                have HT3 := Lib.hid hT3
                have HB3 := Lib.hid hB3
                have HQ := Lib.hid hq
                clear hA3 hX3 hT3 hB3 hq hnx e1 hk3
                go_wp2_with (first
                  | (refine wpList_store_fresh _ rfl _ _ _ rfl _ rfl _ rfl _ _ _ rfl ?_ ?_ rfl info_req ?_ ?_; (focus (simp; done)); (focus (simp [Wk.req]; done)); (focus (simp [Wk.req, OneCells, Value.oneCell']; done)))
                  | (refine wpList_store_all _ rfl _ _ _ rfl _ rfl _ rfl _ _ (HA3.out) ?_ ?_ info_cmd ?_ ?_; (focus (simp; done)); (focus (first | (simp; done) | (simp [Cmd.cells]; done))); (focus (simp [OneCells, Value.oneCell']; done))))
                intro W4 gA hk4 hz4
                have hX4 := hk4.heap (Nat.ne_of_gt has) HX3.out
                have hT4 : WAt W4 m _ := hk4.heap (Ne.symm hne) HT3.out
                have hQ4 := hk4.heap (Nat.ne_of_gt q1) HQ.out
                have hB4 := HB3.out.trans (hk4.below HB3.out.size (fun _ h => by omega))
                have q4 := heap_lt hQ4
                have q5 := heap_lt gA
                clear HA3 HX3 HT3 HB3 HQ hk4
                have z1 : W4.cell? ⟨wr.heap.size, 1, none⟩ = some (.int .u64 xd) := blk_cell hX4 1 rfl
                have hm0 : 0 ≤ xd % 1000 := by omega
                have hm1 : xd % 1000 < 1000 := by omega
                have HA4 := Lib.hid gA
                have HX4 := Lib.hid hX4
                have HT4 := Lib.hid hT4
                have HB4 := Lib.hid hB4
                have HQ4 := Lib.hid hQ4
                clear gA hX4 hT4 hB4 hQ4
                go_wp2_with (first
                  | (refine wpList_store_all _ rfl _ _ _ rfl _ rfl _ rfl _ _ (aheap HA4.out _) ?_ ?_ info_cmd ?_ ?_; (focus (simp; done)); (focus (first | (simp; done) | (simp [Cmd.cells]; done))); (focus (simp [OneCells, Value.oneCell']; done))))
                intro W5 gA hk5 hz5
                have hX5 := hk5.heap (Nat.ne_of_gt has) (aheap HX4.out _)
                have hT5 : WAt W5 m _ := hk5.heap (Ne.symm hne) (HT4.out.alloc _)
                have hQ5 := hk5.heap (Nat.ne_of_gt q1) (aheap HQ4.out _)
                have hB5 := (HB4.out.alloc HB4.out.size _).trans (hk5.below (HB4.out.alloc HB4.out.size _).size (fun _ h => by omega))
                have q6 := heap_lt hQ5
                have q7 := heap_lt gA
                have y1 : W5.cell? ⟨wr.heap.size, 1, none⟩ = some (.int .u64 xd) := blk_cell hX5 1 rfl
                clear HA4 HX4 HT4 HB4 HQ4 hk5 hX5 z1
                have c0 : World.cell? W5 ⟨w3.heap.size, 0, none⟩ = some (.int .u64 cl) := blk_cell hQ5 0 rfl
                have c1 : World.cell? W5 ⟨w3.heap.size, 1, none⟩ = some (.int .u64 (nu + 1)) := blk_cell hQ5 1 rfl
                have c2 : World.cell? W5 ⟨w3.heap.size, 2, none⟩ = some (.int .i64 4) := blk_cell hQ5 2 rfl
                have c3 : World.cell? W5 ⟨w3.heap.size, 3, none⟩ = some (.string hn) := blk_cell hQ5 3 rfl
                have c4 : World.cell? W5 ⟨w3.heap.size, 4, none⟩ = some (.string ⟨#[]⟩) := blk_cell hQ5 4 rfl
                have c5 : World.cell? W5 ⟨w3.heap.size, 5, none⟩ = some (.int .u64 ht) := blk_cell hQ5 5 rfl
                have c6 : World.cell? W5 ⟨w3.heap.size, 6, none⟩ = some (.int .i64 (xd % 1000)) := blk_cell hQ5 6 rfl
                have d0 : World.cell? W5 ⟨ab, 0, none⟩ = some (.int .i64 4) := blk_cell gA 0 rfl
                have d1 : World.cell? W5 ⟨ab, 1, none⟩ = some (.string hn) := blk_cell gA 1 rfl
                have d2 : World.cell? W5 ⟨ab, 2, none⟩ = some (.string ⟨#[]⟩) := blk_cell gA 2 rfl
                have d3 : World.cell? W5 ⟨ab, 3, none⟩ = some (.int .u64 ht) := blk_cell gA 3 rfl
                have d4 : World.cell? W5 ⟨ab, 4, none⟩ = some (.int .i64 0) := blk_cell gA 4 rfl
                have hf := blk_free gA
                have GA := Lib.hid gA
                have GT := Lib.hid hT5
                have GB := Lib.hid hB5
                clear gA hT5 hB5 hQ5
                go_wp2_with fail
                go_roundw
                case rel => exact ⟨k + 1, _, (Wk.mk nm cl (nu + 1) 1 hn ht hu cl (nu + 1) 4 hn ⟨#[]⟩ ht (xd % 1000) true dn ls), by omega, by go_num, ⟨blk_set_other GT.out (Ne.symm hne) _, blk_set GA.out 4 _, hm, hab0, hne, GB.out.setCell (p := ⟨ab, 4, none⟩) (by simp only []; omega) _, ⟨rfl, rfl, .inr ⟨rfl, rfl⟩, ⟨by simp only []; omega, by simp only []; omega⟩, ⟨hdn0, by simp only []; omega⟩, ⟨hls0, by simp only []; omega⟩, fun _ => ⟨rfl, rfl, .inr ⟨by simp, rfl⟩⟩⟩⟩, rfl, rfl, rfl, rfl, rfl, rfl, rfl, rfl⟩
                case measure => simp [intOf]; omega
            · as_aux_lemma =>
                have e1 : nextF ⟨nm, cl, nu, 1, hn, ht, hu, ac, an, ak, anm, awk, atk, av, false, dn, ls⟩ xd = (Wk.mk nm cl (nu + 1) 1 hn ht hu cl (nu + 1) 3 hn ⟨#[]⟩ ht 0 true dn ls) := by simp [nextF, wishF, hd4]
                have hnx := next_new _ m _ KT.out xd ⟨hd0, hd1⟩ rfl ⟨hnu0, by simp only []; omega⟩
                rw [e1] at hnx
                go_wp2_with fail
                refine hnx.mono ?_
                rintro e w3 ⟨rfl, hT3, hk3⟩
                have hA3 := hk3.heap hne KA.out
                have hX3 := hk3.heap (Nat.ne_of_gt hms) KX.out
                have hB3 := KB.out.trans (hk3.below KB.out.size (fun _ h => by omega))
                have q1 := heap_lt hA3
                have q2 := heap_lt hX3
                have q3 := hT3.lt
                have hq := heap_new w3 (.cells (Wk.req (Wk.mk nm cl (nu + 1) 1 hn ht hu cl (nu + 1) 3 hn ⟨#[]⟩ ht 0 true dn ls)) 54)
                have hA3 := aheap hA3 (.cells (Wk.req (Wk.mk nm cl (nu + 1) 1 hn ht hu cl (nu + 1) 3 hn ⟨#[]⟩ ht 0 true dn ls)) 54)
                have hX3 := aheap hX3 (.cells (Wk.req (Wk.mk nm cl (nu + 1) 1 hn ht hu cl (nu + 1) 3 hn ⟨#[]⟩ ht 0 true dn ls)) 54)
                have hT3 := hT3.alloc (.cells (Wk.req (Wk.mk nm cl (nu + 1) 1 hn ht hu cl (nu + 1) 3 hn ⟨#[]⟩ ht 0 true dn ls)) 54)
                have hB3 := hB3.alloc hB3.size (.cells (Wk.req (Wk.mk nm cl (nu + 1) 1 hn ht hu cl (nu + 1) 3 hn ⟨#[]⟩ ht 0 true dn ls)) 54)
                have HA3 := Lib.hid hA3
                have HX3 := Lib.hid hX3
                have HT3 := Lib.hid hT3
                have HB3 := Lib.hid hB3
                have HQ := Lib.hid hq
                clear hA3 hX3 hT3 hB3 hq hnx e1 hk3
                go_wp2_with (first
                  | (refine wpList_store_fresh _ rfl _ _ _ rfl _ rfl _ rfl _ _ _ rfl ?_ ?_ rfl info_req ?_ ?_; (focus (simp; done)); (focus (simp [Wk.req]; done)); (focus (simp [Wk.req, OneCells, Value.oneCell']; done)))
                  | (refine wpList_store_all _ rfl _ _ _ rfl _ rfl _ rfl _ _ (HA3.out) ?_ ?_ info_cmd ?_ ?_; (focus (simp; done)); (focus (first | (simp; done) | (simp [Cmd.cells]; done))); (focus (simp [OneCells, Value.oneCell']; done))))
                intro W4 gA hk4 hz4
                have hX4 := hk4.heap (Nat.ne_of_gt has) HX3.out
                have hT4 : WAt W4 m _ := hk4.heap (Ne.symm hne) HT3.out
                have hQ4 := hk4.heap (Nat.ne_of_gt q1) HQ.out
                have hB4 := HB3.out.trans (hk4.below HB3.out.size (fun _ h => by omega))
                have q4 := heap_lt hQ4
                have q5 := heap_lt gA
                clear HA3 HX3 HT3 HB3 HQ hk4
                have z1 : W4.cell? ⟨wr.heap.size, 1, none⟩ = some (.int .u64 xd) := blk_cell hX4 1 rfl
                have hm0 : 0 ≤ xd % 1000 := by omega
                have hm1 : xd % 1000 < 1000 := by omega
                have HA4 := Lib.hid gA
                have HX4 := Lib.hid hX4
                have HT4 := Lib.hid hT4
                have HB4 := Lib.hid hB4
                have HQ4 := Lib.hid hQ4
                clear gA hX4 hT4 hB4 hQ4
                go_wp2_with (first
                  | (refine wpList_store_all _ rfl _ _ _ rfl _ rfl _ rfl _ _ (aheap HA4.out _) ?_ ?_ info_cmd ?_ ?_; (focus (simp; done)); (focus (first | (simp; done) | (simp [Cmd.cells]; done))); (focus (simp [OneCells, Value.oneCell']; done))))
                intro W5 gA hk5 hz5
                have hX5 := hk5.heap (Nat.ne_of_gt has) (aheap HX4.out _)
                have hT5 : WAt W5 m _ := hk5.heap (Ne.symm hne) (HT4.out.alloc _)
                have hQ5 := hk5.heap (Nat.ne_of_gt q1) (aheap HQ4.out _)
                have hB5 := (HB4.out.alloc HB4.out.size _).trans (hk5.below (HB4.out.alloc HB4.out.size _).size (fun _ h => by omega))
                have q6 := heap_lt hQ5
                have q7 := heap_lt gA
                have y1 : W5.cell? ⟨wr.heap.size, 1, none⟩ = some (.int .u64 xd) := blk_cell hX5 1 rfl
                clear HA4 HX4 HT4 HB4 HQ4 hk5 hX5 z1
                have c0 : World.cell? W5 ⟨w3.heap.size, 0, none⟩ = some (.int .u64 cl) := blk_cell hQ5 0 rfl
                have c1 : World.cell? W5 ⟨w3.heap.size, 1, none⟩ = some (.int .u64 (nu + 1)) := blk_cell hQ5 1 rfl
                have c2 : World.cell? W5 ⟨w3.heap.size, 2, none⟩ = some (.int .i64 3) := blk_cell hQ5 2 rfl
                have c3 : World.cell? W5 ⟨w3.heap.size, 3, none⟩ = some (.string hn) := blk_cell hQ5 3 rfl
                have c4 : World.cell? W5 ⟨w3.heap.size, 4, none⟩ = some (.string ⟨#[]⟩) := blk_cell hQ5 4 rfl
                have c5 : World.cell? W5 ⟨w3.heap.size, 5, none⟩ = some (.int .u64 ht) := blk_cell hQ5 5 rfl
                have c6 : World.cell? W5 ⟨w3.heap.size, 6, none⟩ = some (.int .i64 0) := blk_cell hQ5 6 rfl
                have d0 : World.cell? W5 ⟨ab, 0, none⟩ = some (.int .i64 3) := blk_cell gA 0 rfl
                have d1 : World.cell? W5 ⟨ab, 1, none⟩ = some (.string hn) := blk_cell gA 1 rfl
                have d2 : World.cell? W5 ⟨ab, 2, none⟩ = some (.string ⟨#[]⟩) := blk_cell gA 2 rfl
                have d3 : World.cell? W5 ⟨ab, 3, none⟩ = some (.int .u64 ht) := blk_cell gA 3 rfl
                have d4 : World.cell? W5 ⟨ab, 4, none⟩ = some (.int .i64 0) := blk_cell gA 4 rfl
                have GA := Lib.hid gA
                have GT := Lib.hid hT5
                have GB := Lib.hid hB5
                clear gA hT5 hB5 hQ5
                go_wp2_with fail
                go_roundw
                case rel => exact ⟨k + 1, _, (Wk.mk nm cl (nu + 1) 1 hn ht hu cl (nu + 1) 3 hn ⟨#[]⟩ ht 0 true dn ls), by omega, by go_num, ⟨GT.out, GA.out, hm, hab0, hne, GB.out, ⟨rfl, rfl, .inr ⟨rfl, rfl⟩, ⟨by simp only []; omega, by simp only []; omega⟩, ⟨hdn0, by simp only []; omega⟩, ⟨hls0, by simp only []; omega⟩, fun _ => ⟨rfl, rfl, .inr ⟨by simp, rfl⟩⟩⟩⟩, rfl, rfl, rfl, rfl, rfl, rfl, rfl, rfl⟩
                case measure => simp [intOf]; omega
            · as_aux_lemma =>
                have e1 : nextF ⟨nm, cl, nu, 1, hn, ht, hu, ac, an, ak, anm, awk, atk, av, false, dn, ls⟩ xd = (Wk.mk nm cl (nu + 1) 1 hn ht hu cl (nu + 1) 5 hn ⟨#[]⟩ ht 0 true dn ls) := by simp [nextF, wishF, hd4]
                have hnx := next_new _ m _ KT.out xd ⟨hd0, hd1⟩ rfl ⟨hnu0, by simp only []; omega⟩
                rw [e1] at hnx
                go_wp2_with fail
                refine hnx.mono ?_
                rintro e w3 ⟨rfl, hT3, hk3⟩
                have hA3 := hk3.heap hne KA.out
                have hX3 := hk3.heap (Nat.ne_of_gt hms) KX.out
                have hB3 := KB.out.trans (hk3.below KB.out.size (fun _ h => by omega))
                have q1 := heap_lt hA3
                have q2 := heap_lt hX3
                have q3 := hT3.lt
                have hq := heap_new w3 (.cells (Wk.req (Wk.mk nm cl (nu + 1) 1 hn ht hu cl (nu + 1) 5 hn ⟨#[]⟩ ht 0 true dn ls)) 54)
                have hA3 := aheap hA3 (.cells (Wk.req (Wk.mk nm cl (nu + 1) 1 hn ht hu cl (nu + 1) 5 hn ⟨#[]⟩ ht 0 true dn ls)) 54)
                have hX3 := aheap hX3 (.cells (Wk.req (Wk.mk nm cl (nu + 1) 1 hn ht hu cl (nu + 1) 5 hn ⟨#[]⟩ ht 0 true dn ls)) 54)
                have hT3 := hT3.alloc (.cells (Wk.req (Wk.mk nm cl (nu + 1) 1 hn ht hu cl (nu + 1) 5 hn ⟨#[]⟩ ht 0 true dn ls)) 54)
                have hB3 := hB3.alloc hB3.size (.cells (Wk.req (Wk.mk nm cl (nu + 1) 1 hn ht hu cl (nu + 1) 5 hn ⟨#[]⟩ ht 0 true dn ls)) 54)
                have HA3 := Lib.hid hA3
                have HX3 := Lib.hid hX3
                have HT3 := Lib.hid hT3
                have HB3 := Lib.hid hB3
                have HQ := Lib.hid hq
                clear hA3 hX3 hT3 hB3 hq hnx e1 hk3
                go_wp2_with (first
                  | (refine wpList_store_fresh _ rfl _ _ _ rfl _ rfl _ rfl _ _ _ rfl ?_ ?_ rfl info_req ?_ ?_; (focus (simp; done)); (focus (simp [Wk.req]; done)); (focus (simp [Wk.req, OneCells, Value.oneCell']; done)))
                  | (refine wpList_store_all _ rfl _ _ _ rfl _ rfl _ rfl _ _ (HA3.out) ?_ ?_ info_cmd ?_ ?_; (focus (simp; done)); (focus (first | (simp; done) | (simp [Cmd.cells]; done))); (focus (simp [OneCells, Value.oneCell']; done))))
                intro W4 gA hk4 hz4
                have hX4 := hk4.heap (Nat.ne_of_gt has) HX3.out
                have hT4 : WAt W4 m _ := hk4.heap (Ne.symm hne) HT3.out
                have hQ4 := hk4.heap (Nat.ne_of_gt q1) HQ.out
                have hB4 := HB3.out.trans (hk4.below HB3.out.size (fun _ h => by omega))
                have q4 := heap_lt hQ4
                have q5 := heap_lt gA
                clear HA3 HX3 HT3 HB3 HQ hk4
                have z1 : W4.cell? ⟨wr.heap.size, 1, none⟩ = some (.int .u64 xd) := blk_cell hX4 1 rfl
                have hm0 : 0 ≤ xd % 1000 := by omega
                have hm1 : xd % 1000 < 1000 := by omega
                have HA4 := Lib.hid gA
                have HX4 := Lib.hid hX4
                have HT4 := Lib.hid hT4
                have HB4 := Lib.hid hB4
                have HQ4 := Lib.hid hQ4
                clear gA hX4 hT4 hB4 hQ4
                go_wp2_with (first
                  | (refine wpList_store_all _ rfl _ _ _ rfl _ rfl _ rfl _ _ (aheap HA4.out _) ?_ ?_ info_cmd ?_ ?_; (focus (simp; done)); (focus (first | (simp; done) | (simp [Cmd.cells]; done))); (focus (simp [OneCells, Value.oneCell']; done))))
                intro W5 gA hk5 hz5
                have hX5 := hk5.heap (Nat.ne_of_gt has) (aheap HX4.out _)
                have hT5 : WAt W5 m _ := hk5.heap (Ne.symm hne) (HT4.out.alloc _)
                have hQ5 := hk5.heap (Nat.ne_of_gt q1) (aheap HQ4.out _)
                have hB5 := (HB4.out.alloc HB4.out.size _).trans (hk5.below (HB4.out.alloc HB4.out.size _).size (fun _ h => by omega))
                have q6 := heap_lt hQ5
                have q7 := heap_lt gA
                have y1 : W5.cell? ⟨wr.heap.size, 1, none⟩ = some (.int .u64 xd) := blk_cell hX5 1 rfl
                clear HA4 HX4 HT4 HB4 HQ4 hk5 hX5 z1
                have c0 : World.cell? W5 ⟨w3.heap.size, 0, none⟩ = some (.int .u64 cl) := blk_cell hQ5 0 rfl
                have c1 : World.cell? W5 ⟨w3.heap.size, 1, none⟩ = some (.int .u64 (nu + 1)) := blk_cell hQ5 1 rfl
                have c2 : World.cell? W5 ⟨w3.heap.size, 2, none⟩ = some (.int .i64 5) := blk_cell hQ5 2 rfl
                have c3 : World.cell? W5 ⟨w3.heap.size, 3, none⟩ = some (.string hn) := blk_cell hQ5 3 rfl
                have c4 : World.cell? W5 ⟨w3.heap.size, 4, none⟩ = some (.string ⟨#[]⟩) := blk_cell hQ5 4 rfl
                have c5 : World.cell? W5 ⟨w3.heap.size, 5, none⟩ = some (.int .u64 ht) := blk_cell hQ5 5 rfl
                have c6 : World.cell? W5 ⟨w3.heap.size, 6, none⟩ = some (.int .i64 0) := blk_cell hQ5 6 rfl
                have d0 : World.cell? W5 ⟨ab, 0, none⟩ = some (.int .i64 5) := blk_cell gA 0 rfl
                have d1 : World.cell? W5 ⟨ab, 1, none⟩ = some (.string hn) := blk_cell gA 1 rfl
                have d2 : World.cell? W5 ⟨ab, 2, none⟩ = some (.string ⟨#[]⟩) := blk_cell gA 2 rfl
                have d3 : World.cell? W5 ⟨ab, 3, none⟩ = some (.int .u64 ht) := blk_cell gA 3 rfl
                have d4 : World.cell? W5 ⟨ab, 4, none⟩ = some (.int .i64 0) := blk_cell gA 4 rfl
                have GA := Lib.hid gA
                have GT := Lib.hid hT5
                have GB := Lib.hid hB5
                clear gA hT5 hB5 hQ5
                go_wp2_with fail
                go_roundw
                case rel => exact ⟨k + 1, _, (Wk.mk nm cl (nu + 1) 1 hn ht hu cl (nu + 1) 5 hn ⟨#[]⟩ ht 0 true dn ls), by omega, by go_num, ⟨GT.out, GA.out, hm, hab0, hne, GB.out, ⟨rfl, rfl, .inr ⟨rfl, rfl⟩, ⟨by simp only []; omega, by simp only []; omega⟩, ⟨hdn0, by simp only []; omega⟩, ⟨hls0, by simp only []; omega⟩, fun _ => ⟨rfl, rfl, .inr ⟨by simp, rfl⟩⟩⟩⟩, rfl, rfl, rfl, rfl, rfl, rfl, rfl, rfl⟩
                case measure => simp [intOf]; omega

        · obtain ⟨rfl, rfl, hak⟩ := hwt rfl
          have hnx := next_waits _ m _ KT.out xd rfl
          as_aux_lemma =>
            go_wp2_with fail
            refine hnx.mono ?_
            rintro e w3 ⟨rfl, hT3, hb3⟩
            have hA3 := bheap hb3 KA.out (heap_lt KA.out)
            have hB3 := (KB.out.trans (hb3.mono KB.out.size)).alloc (KB.out.trans (hb3.mono KB.out.size)).size (.cells (Wk.req ⟨nm, ac, an, st, hn, ht, hu, ac, an, ak, anm, awk, atk, av, true, dn, ls⟩) 54)
            have hq := heap_new w3 (.cells (Wk.req ⟨nm, ac, an, st, hn, ht, hu, ac, an, ak, anm, awk, atk, av, true, dn, ls⟩) 54)
            have c0 : World.cell? _ ⟨w3.heap.size, 0, none⟩ = some (.int .u64 ac) := blk_cell hq 0 rfl
            have c1 : World.cell? _ ⟨w3.heap.size, 1, none⟩ = some (.int .u64 an) := blk_cell hq 1 rfl
            have c2 : World.cell? _ ⟨w3.heap.size, 2, none⟩ = some (.int .i64 ak) := blk_cell hq 2 rfl
            have c3 : World.cell? _ ⟨w3.heap.size, 3, none⟩ = some (.string anm) := blk_cell hq 3 rfl
            have c4 : World.cell? _ ⟨w3.heap.size, 4, none⟩ = some (.string awk) := blk_cell hq 4 rfl
            have c5 : World.cell? _ ⟨w3.heap.size, 5, none⟩ = some (.int .u64 atk) := blk_cell hq 5 rfl
            have c6 : World.cell? _ ⟨w3.heap.size, 6, none⟩ = some (.int .i64 av) := blk_cell hq 6 rfl
            have hA4 := aheap hA3 (.cells (Wk.req ⟨nm, ac, an, st, hn, ht, hu, ac, an, ak, anm, awk, atk, av, true, dn, ls⟩) 54)
            have d0 : World.cell? _ ⟨ab, 0, none⟩ = some (.int .i64 ak) := blk_cell hA4 0 rfl
            have d1 : World.cell? _ ⟨ab, 1, none⟩ = some (.string anm) := blk_cell hA4 1 rfl
            have d2 : World.cell? _ ⟨ab, 2, none⟩ = some (.string awk) := blk_cell hA4 2 rfl
            have d3 : World.cell? _ ⟨ab, 3, none⟩ = some (.int .u64 atk) := blk_cell hA4 3 rfl
            have d4 : World.cell? _ ⟨ab, 4, none⟩ = some (.int .i64 av) := blk_cell hA4 4 rfl
            have q1 := heap_lt hA3
            have HA4 := Lib.hid hA4
            have HT3 := Lib.hid (hT3.alloc (.cells (Wk.req ⟨nm, ac, an, st, hn, ht, hu, ac, an, ak, anm, awk, atk, av, true, dn, ls⟩) 54))
            have HB3 := Lib.hid hB3
            clear hA3 hA4 hq hT3 hB3 hb3 hnx
            go_wp2_with (first
              | (refine wpList_store_fresh _ rfl _ _ _ rfl _ rfl _ rfl _ _ _ rfl ?_ ?_ rfl info_req ?_ ?_; (focus (simp; done)); (focus (simp [Wk.req]; done)); (focus (simp [Wk.req, OneCells, Value.oneCell']; done))))
            go_roundw
            case rel => exact ⟨k + 1, bz, _, by omega, by go_num, ⟨HT3.out, HA4.out, hm, hab0, hne, HB3.out, ⟨rfl, rfl, hst, ⟨hnu0, by simp only []; omega⟩, ⟨hdn0, by simp only []; omega⟩, ⟨hls0, by simp only []; omega⟩, fun _ => ⟨rfl, rfl, hak⟩⟩⟩, rfl, rfl, rfl, rfl, rfl, rfl, rfl, rfl⟩
            case measure => simp [intOf]; omega

    · go_wp2
      go_ret
      exact RetB.mk rfl hP.below

end Go.Proofs.Ytebkdkoamiefjaa

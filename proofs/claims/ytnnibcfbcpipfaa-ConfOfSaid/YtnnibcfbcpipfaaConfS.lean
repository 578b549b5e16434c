/- conf.Has and conf.Step; sets of nodes as bits. -/
import Derived.Test.YtnnibcfbcpipfaaConfP
namespace Go.Proofs.Ytnnibcfbcpipfaa
open Go.RowKit

section
variable (w : World) (a : Option Addr) (n cap : Nat) (l : List Int) (h : Sl intv w (.slice a n cap) l) (x : Int)
include h

theorem index_any : Calls Try.prog 95 #[.slice a n cap, .int .i64 x] w fun e w' => ∃ r : Int, (decide (0 ≤ r) = decide (x ∈ l)) ∧ e = .returned (.int .i64 r) ∧ w = w' := by
  have H := Lib.hid h
  obtain ⟨a', cap', he, h1, h2, h3⟩ := h
  cases he
  unfold maxLen at h2
  have HLC := Lib.hid h1
  have hlm : l.length ≤ 9223372036854775807 := by omega
  clear h1
  go_enter Try.func95, Try.ntmps95
  go_wp2
  go_loop [8] (fun i => ∃ k : Nat, k ≤ l.length ∧ i = .int .i64 k ∧ x ∉ l.take k) (fun i => l.length - (intOf i).toNat)
  case atStart => exact ⟨0, by omega, rfl, by simp⟩
  case round =>
    obtain ⟨k, hk, rfl, hm⟩ := hrel
    have HM := Lib.hid hm
    clear hm
    by_cases hlt : k < l.length
    · rcases h3 with ⟨rfl, rfl⟩ | ⟨b, o, rfl, hb, hc⟩
      · have := HLC.out; omega
      · have hk0 : l[k]? = some l[k] := List.getElem?_eq_getElem hlt
        have hcell : w.cell? ⟨b, o + k, none⟩ = some (.int .i64 l[k]) := hc k _ hk0
        have HTK := Lib.hid (show l.take (k + 1) = l.take k ++ [l[k]] by rw [List.take_succ_eq_append_getElem hlt])
        have HIN := Lib.hid (List.getElem_mem hlt)
        generalize l[k] = y at *
        clear hc hk0
        cases he : (x == y)
        · go_wp2
          go_round
          case rel => exact ⟨k + 1, by omega, by go_num, by rw [HTK.out, List.mem_append, not_or]; exact ⟨HM.out, by simpa using he⟩⟩
          case measure => simp [intOf]; omega
        · obtain rfl : x = y := by simpa using he
          clear he
          go_wp2
          go_ret
          exact ⟨_, by simp [HIN.out], rfl, rfl⟩
    · obtain rfl : k = l.length := by omega
      clear h3
      go_wp2
      go_ret
      have := HM.out
      rw [List.take_length] at this
      exact ⟨-1, by simp [this], rfl, rfl⟩

theorem contains_any : Calls Try.prog 50 #[.slice a n cap, .int .i64 x] w (Ret (.bool (decide (x ∈ l))) w) := by
  have hi := index_any w a n cap l h x
  clear h
  go_enter Try.func50, Try.ntmps50
  go_wp2_with fail
  refine hi.mono ?_
  rintro e w' ⟨r, hr, rfl, rfl⟩
  have HR := Lib.hid hr
  clear hr
  go_wp2_with fail
  go_ret
  exact Ret.mk (bool_eq HR.out)

theorem has_any : Calls Try.prog 20 #[.slice a n cap, .int .i64 x] w (Ret (.bool (decide (x ∈ l))) w) := by
  have hi := contains_any w a n cap l h x
  clear h
  go_enter Try.func20, Try.ntmps20
  go_wp2_with (go_at_call 50; refine hi.mono ?_; rintro e w' ⟨rfl, rfl⟩)
  go_ret
  exact Ret.mk rfl

theorem lawHas_any : Calls Try.prog 21 #[.slice a n cap, .int .i64 x] w (Ret (.bool (decide (x ∈ l))) w) := by
  have H := Lib.hid h
  obtain ⟨a', cap', he, h1, h2, h3⟩ := h
  cases he
  unfold maxLen at h2
  have HLC := Lib.hid h1
  have hlm : l.length ≤ 9223372036854775807 := by omega
  clear h1
  go_enter Try.func21, Try.ntmps21
  go_wp2
  go_loop [9] (fun i => ∃ k : Nat, k ≤ l.length ∧ i = .int .i64 k ∧ x ∉ l.take k) (fun i => l.length - (intOf i).toNat)
  case atStart => exact ⟨0, by omega, rfl, by simp⟩
  case round =>
    obtain ⟨k, hk, rfl, hm⟩ := hrel
    have HM := Lib.hid hm
    clear hm
    by_cases hlt : k < l.length
    · rcases h3 with ⟨rfl, rfl⟩ | ⟨b, o, rfl, hb, hc⟩
      · have := HLC.out; omega
      · have hk0 : l[k]? = some l[k] := List.getElem?_eq_getElem hlt
        have hcell : w.cell? ⟨b, o + k, none⟩ = some (.int .i64 l[k]) := hc k _ hk0
        have HTK := Lib.hid (show l.take (k + 1) = l.take k ++ [l[k]] by rw [List.take_succ_eq_append_getElem hlt])
        have HIN := Lib.hid (List.getElem_mem hlt)
        generalize l[k] = y at *
        clear hc hk0
        cases he : (y == x)
        · go_wp2
          go_round
          case rel =>
            refine ⟨k + 1, by omega, by go_num, ?_⟩
            rw [HTK.out, List.mem_append, not_or]
            refine ⟨HM.out, ?_⟩
            have : ¬ y = x := by simpa using he
            simp
            exact fun e => this e.symm
          case measure => simp [intOf]; omega
        · obtain rfl : y = x := by simpa using he
          clear he
          go_wp2
          go_ret
          exact Ret.mk (bool_eq (by simp [HIN.out]))
    · obtain rfl : k = l.length := by omega
      clear h3
      go_wp2
      go_ret
      have := HM.out
      rw [List.take_length] at this
      exact Ret.mk (bool_eq (by simp [this]))
end

/-- In how many nodes, up to one, the two are unlike. -/
def stepCnt (a b : List Int) (k : Nat) : Nat := ((List.range k).filter fun n : Nat => decide ((n : Int) ∈ a) != decide ((n : Int) ∈ b)).length
def stepB (a b : List Int) : Bool := membersB a && membersB b && decide (stepCnt a b 8 = 1)

theorem stepCnt_succ (a b : List Int) (k : Nat) : stepCnt a b (k + 1) = stepCnt a b k + if (decide ((k : Int) ∈ a) != decide ((k : Int) ∈ b)) = true then 1 else 0 := by
  unfold stepCnt
  rw [List.range_succ, List.filter_append, List.length_append]
  congr 1
  by_cases h : (decide ((k : Int) ∈ a) != decide ((k : Int) ∈ b)) = true
  · rw [if_pos h, List.filter_cons, if_pos h]; rfl
  · rw [if_neg h, List.filter_cons, if_neg h]; rfl
theorem stepCnt_le (a b : List Int) (k : Nat) : stepCnt a b k ≤ k := by
  have := List.length_filter_le (fun n : Nat => decide ((n : Int) ∈ a) != decide ((n : Int) ∈ b)) (List.range k)
  rw [List.length_range] at this
  exact this

section
variable (w : World) (a : Option Addr) (n cap : Nat) (l : List Int) (h : Sl intv w (.slice a n cap) l) (b : Option Addr) (m dap : Nat) (r : List Int) (g : Sl intv w (.slice b m dap) r)
include h g

theorem step_any : Calls Try.prog 17 #[.slice a n cap, .slice b m dap] w (RetB (.bool (stepB l r)) w) := by
  have hlt := h.row_lt
  have glt := g.row_lt
  have H := Lib.hid (fun (W : World) (hW : Below w.heap.size w W) => h.below hW hlt)
  have G := Lib.hid (fun (W : World) (hW : Below w.heap.size w W) => g.below hW glt)
  have hr := right_any w a n cap l h
  unfold stepB
  clear h g hlt glt
  cases hm : membersB l
  · rw [hm] at hr
    clear hm
    go_enter Try.func17, Try.ntmps17
    go_wp2_with fail
    refine hr.mono ?_
    rintro e w1 ⟨rfl, hb1⟩
    go_wp2_with fail
    go_ret
    exact RetB.mk rfl hb1
  · rw [hm] at hr
    clear hm
    cases hm2 : membersB r
    · go_enter Try.func17, Try.ntmps17
      go_wp2_with fail
      refine hr.mono ?_
      rintro e w1 ⟨rfl, hb1⟩
      have hr2 := right_any w1 b m dap r (G.out _ hb1)
      rw [hm2] at hr2
      clear hr hm2
      go_wp2_with fail
      refine hr2.mono ?_
      rintro e w2 ⟨rfl, hb2⟩
      go_wp2_with fail
      go_ret
      exact RetB.mk rfl (hb1.trans (hb2.mono hb1.size))
    · go_enter Try.func17, Try.ntmps17
      go_wp2_with fail
      refine hr.mono ?_
      rintro e w1 ⟨rfl, hb1⟩
      have hr2 := right_any w1 b m dap r (G.out _ hb1)
      rw [hm2] at hr2
      clear hr hm2
      go_wp2_with fail
      refine hr2.mono ?_
      rintro e w2 ⟨rfl, hb2⟩
      have hb := hb1.trans (hb2.mono hb1.size)
      clear hb1 hb2 hr2
      have hha := fun x => has_any w2 a n cap l (H.out _ hb) x
      have hhb := fun x => has_any w2 b m dap r (G.out _ hb) x
      have HB := Lib.hid hb
      clear hb
      go_wp2_with fail
      go_loop [5, 15] (fun u i => ∃ k : Nat, k ≤ 8 ∧ i = .int .i64 k ∧ u = .int .i64 (stepCnt l r k)) (fun _ i => 8 - (intOf i).toNat)
      case atStart => exact ⟨0, by omega, rfl, rfl⟩
      case round =>
        obtain ⟨k, hk, rfl, rfl⟩ := hrel
        have hle := stepCnt_le l r k
        have HSU := Lib.hid (stepCnt_succ l r k)
        by_cases hlk : k < 8
        · have hpa := hha k
          have hpb := hhb k
          generalize stepCnt l r k = c at *
          generalize decide ((k : Int) ∈ l) = p at *
          generalize decide ((k : Int) ∈ r) = q at *
          cases p <;> cases q
          all_goals
            clear hha hhb
            go_wp2_with fail
            refine hpa.mono ?_
            rintro e w' ⟨rfl, rfl⟩
            go_wp2_with fail
            refine hpb.mono ?_
            rintro e w' ⟨rfl, rfl⟩
            go_wp2_with fail
            go_round
            case rel => exact ⟨k + 1, by omega, by go_num, by rw [HSU.out]; simp⟩
            case measure => simp [intOf]; omega
        · obtain rfl : k = 8 := by omega
          clear hha hhb
          go_wp2_with fail
          go_ret
          refine RetB.mk (bool_eq ?_) HB.out
          rw [Bool.eq_iff_iff, beq_iff_eq]
          simp only [decide_eq_true_eq]
          omega
end

/-- The nodes up to one whose bits are set. -/
def ofK (b : Nat) (k : Nat) : List Int := ((List.range k).filter fun i => b.testBit (i + 1)).map fun i => ((i + 1 : Nat) : Int)
def ofB (b : Nat) : List Int := ofK b 7

theorem ofK_succ (b k : Nat) : ofK b (k + 1) = ofK b k ++ if b.testBit (k + 1) then [((k + 1 : Nat) : Int)] else [] := by
  unfold ofK
  rw [List.range_succ, List.filter_append, List.map_append]
  congr 1
  by_cases h : b.testBit (k + 1) = true
  · rw [if_pos h, List.filter_cons, if_pos h]; rfl
  · rw [if_neg h, List.filter_cons, if_neg h]; rfl
theorem ofK_len (b k : Nat) : (ofK b k).length ≤ k := by
  unfold ofK
  rw [List.length_map]
  have := List.length_filter_le (fun i : Nat => b.testBit (i + 1)) (List.range k)
  rw [List.length_range] at this
  exact this

theorem info_i64 : (Try.prog.info? 3).map (fun i => (i.zero, i.size, i.bytes)) = some (some (.int .i64 0), 1, 8) := by kernel_rfl

/-- What a slice of nodes is that is made anew. -/
def MadeI (w : World) (l : List Int) (e : Ending) (w' : World) : Prop :=
  ∃ a cap, e = .returned (.slice a l.length cap) ∧ Below w.heap.size w w' ∧ Sl intv w' (.slice a l.length cap) l ∧ w'.ownsRow 0 3 1 (.slice a l.length cap) l.length (l.map intv) ∧ ∀ k, (Value.slice a l.length cap).ownBlock = some k → w.heap.size ≤ k

theorem bit_test (b k : Nat) (d : Int) (hd : d = ((2 ^ k : Nat) : Int)) (hb : b < 256) : (bits .and .u8 ((b : Int) / d) 1 == 1) = b.testBit k := by
  subst hd
  have e1 : ((b : Int) / (2 ^ k : Nat)) = ((b / 2 ^ k : Nat) : Int) := by simp
  have h2 : b / 2 ^ k < 2 ^ 8 := Nat.lt_of_le_of_lt (Nat.div_le_self _ _) (by omega)
  have h := (bits_nat .u8 8 (by decide) wraps_u8 (b / 2 ^ k) 1 h2 (by omega)).1
  rw [e1, show ((1 : Int)) = ((1 : Nat) : Int) from rfl, h, Nat.and_one_is_mod, Nat.testBit_eq_decide_div_mod_eq]
  generalize b / 2 ^ k % 2 = z
  rw [Bool.eq_iff_iff, beq_iff_eq, decide_eq_true_iff]
  omega

theorem made_step {w wr w3 : World} {b k : Nat} {x : Int} {v v' : Value} {T : TypeId} (hs : ofK b (k + 1) = ofK b k ++ [x]) (ho : w3.ownsRow 0 T 1 v' ((ofK b k).length + 1) ((ofK b k).map intv ++ [.int .i64 x]))
    (hn : ∀ j, v.ownBlock = some j → w.heap.size ≤ j) (hb : Below w.heap.size w wr) {ob : Obj} (hg : (wr.alloc ob).grownBy w3 v.ownBlock) (hr : v'.ownBlock = v.ownBlock ∨ ∃ k, v'.ownBlock = some k ∧ (wr.alloc ob).heap.size ≤ k ∧ k < w3.heap.size) {y : Int} (hy : y = (((k + 1 : Nat) : Int) + 1)) (hk : k + 1 ≤ 7) :
    ∃ q : Nat, q ≤ 7 ∧ Value.int .i64 y = .int .i64 ((q : Int) + 1) ∧ w3.ownsRow 0 T 1 v' (ofK b q).length ((ofK b q).map intv) ∧ (∀ j, v'.ownBlock = some j → w.heap.size ≤ j) ∧ Below w.heap.size w w3 := by
  have hsz := hb.size
  refine ⟨k + 1, hk, by rw [hy], ?_, ?_, ?_⟩
  · rw [hs, List.length_append, List.map_append]
    exact ho
  · intro j hj
    rcases hr with h1 | ⟨i, h1, h2, _⟩
    · exact hn j (h1 ▸ hj)
    · rw [h1] at hj; cases hj; simp at h2; omega
  · exact (((Keeps.of_below hb).alloc _).trans (grown_keeps hg fun k hk => hn k hk.symm)).below (Nat.le_refl _) (fun k hk => hk)

set_option maxRecDepth 100000 in
set_option maxHeartbeats 4000000 in
theorem meets1_any (w : World) (b : Nat) (hb : b < 256) : Calls Try.prog 16 #[.int .u8 b] w (MadeI w (ofB b)) := by
  obtain ⟨i0, hi, hz0, hz1, hz2⟩ := info_parts info_i64
  go_enter Try.func16, Try.ntmps16
  go_wp2
  go_loopw [3, 4] (fun v i wr => ∃ k : Nat, k ≤ 7 ∧ i = .int .i64 ((k : Int) + 1) ∧ wr.ownsRow 0 3 1 v (ofK b k).length ((ofK b k).map intv) ∧ (∀ j, v.ownBlock = some j → w.heap.size ≤ j) ∧ Below w.heap.size w wr) (fun _ i _ => 8 - (intOf i).toNat)
  case atStart => exact ⟨0, by omega, rfl, World.ownsRow_nil _ _ _ _, by simp [Value.ownBlock], Below.refl _ _⟩
  case round =>
    obtain ⟨k, hk, rfl, hown, hnew, hbw⟩ := hrel
    have HO := Lib.hid hown
    have HN := Lib.hid hnew
    have HB := Lib.hid hbw
    clear hnew hbw hown
    rcases k with _ | _ | _ | _ | _ | _ | _ | _ | k
    · have hbt := bit_test b 1 2 rfl hb
      cases ht : b.testBit 1
      · have HS := Lib.hid (show ofK b 1 = ofK b 0 by rw [ofK_succ, ht]; simp)
        rw [ht] at hbt
        clear ht
        go_wp2
        go_roundw
        case rel => exact ⟨1, by omega, rfl, by rw [HS.out]; exact HO.out, HN.out, HB.out⟩
        case measure => simp [intOf]
      · have HS := Lib.hid (show ofK b 1 = ofK b 0 ++ [1] by rw [ofK_succ, ht]; simp)
        rw [ht] at hbt
        clear ht
        have HM0 := Lib.hid (show (ofK b 0).length + 1 ≤ maxLen by have := ofK_len b 0; unfold maxLen; omega)
        have HM1 := Lib.hid (show ((ofK b 0).length + 1) * 8 ≤ 140737488355328 by have := ofK_len b 0; omega)
        go_wp2_with (at_builtin; refine wpList_append_one wr rfl _ _ _ rfl 3 i0 (.int .i64 0) 8 Try.underlying22 hi hz0 hz1 hz2 rfl u3 (ofK b 0).length ((ofK b 0).map intv) rfl HO.out (.int .i64 1) _ rfl rfl HM0.out HM1.out ?_; intro v' w3 hown3 hg3 hrow3; have HO3 := Lib.hid hown3; have HG3 := Lib.hid hg3; have HR3 := Lib.hid hrow3; clear hown3 hg3 hrow3)
        go_roundw
        case rel => exact made_step HS.out HO3.out HN.out HB.out HG3.out HR3.out rfl (by omega)
        case measure => simp [intOf]
    · have hbt := bit_test b 2 4 rfl hb
      cases ht : b.testBit 2
      · have HS := Lib.hid (show ofK b 2 = ofK b 1 by rw [ofK_succ, ht]; simp)
        rw [ht] at hbt
        clear ht
        go_wp2
        go_roundw
        case rel => exact ⟨2, by omega, rfl, by rw [HS.out]; exact HO.out, HN.out, HB.out⟩
        case measure => simp [intOf]
      · have HS := Lib.hid (show ofK b 2 = ofK b 1 ++ [2] by rw [ofK_succ, ht]; simp)
        rw [ht] at hbt
        clear ht
        have HM0 := Lib.hid (show (ofK b 1).length + 1 ≤ maxLen by have := ofK_len b 1; unfold maxLen; omega)
        have HM1 := Lib.hid (show ((ofK b 1).length + 1) * 8 ≤ 140737488355328 by have := ofK_len b 1; omega)
        go_wp2_with (at_builtin; refine wpList_append_one wr rfl _ _ _ rfl 3 i0 (.int .i64 0) 8 Try.underlying22 hi hz0 hz1 hz2 rfl u3 (ofK b 1).length ((ofK b 1).map intv) rfl HO.out (.int .i64 2) _ rfl rfl HM0.out HM1.out ?_; intro v' w3 hown3 hg3 hrow3; have HO3 := Lib.hid hown3; have HG3 := Lib.hid hg3; have HR3 := Lib.hid hrow3; clear hown3 hg3 hrow3)
        go_roundw
        case rel => exact made_step HS.out HO3.out HN.out HB.out HG3.out HR3.out rfl (by omega)
        case measure => simp [intOf]
    · have hbt := bit_test b 3 8 rfl hb
      cases ht : b.testBit 3
      · have HS := Lib.hid (show ofK b 3 = ofK b 2 by rw [ofK_succ, ht]; simp)
        rw [ht] at hbt
        clear ht
        go_wp2
        go_roundw
        case rel => exact ⟨3, by omega, rfl, by rw [HS.out]; exact HO.out, HN.out, HB.out⟩
        case measure => simp [intOf]
      · have HS := Lib.hid (show ofK b 3 = ofK b 2 ++ [3] by rw [ofK_succ, ht]; simp)
        rw [ht] at hbt
        clear ht
        have HM0 := Lib.hid (show (ofK b 2).length + 1 ≤ maxLen by have := ofK_len b 2; unfold maxLen; omega)
        have HM1 := Lib.hid (show ((ofK b 2).length + 1) * 8 ≤ 140737488355328 by have := ofK_len b 2; omega)
        go_wp2_with (at_builtin; refine wpList_append_one wr rfl _ _ _ rfl 3 i0 (.int .i64 0) 8 Try.underlying22 hi hz0 hz1 hz2 rfl u3 (ofK b 2).length ((ofK b 2).map intv) rfl HO.out (.int .i64 3) _ rfl rfl HM0.out HM1.out ?_; intro v' w3 hown3 hg3 hrow3; have HO3 := Lib.hid hown3; have HG3 := Lib.hid hg3; have HR3 := Lib.hid hrow3; clear hown3 hg3 hrow3)
        go_roundw
        case rel => exact made_step HS.out HO3.out HN.out HB.out HG3.out HR3.out rfl (by omega)
        case measure => simp [intOf]
    · have hbt := bit_test b 4 16 rfl hb
      cases ht : b.testBit 4
      · have HS := Lib.hid (show ofK b 4 = ofK b 3 by rw [ofK_succ, ht]; simp)
        rw [ht] at hbt
        clear ht
        go_wp2
        go_roundw
        case rel => exact ⟨4, by omega, rfl, by rw [HS.out]; exact HO.out, HN.out, HB.out⟩
        case measure => simp [intOf]
      · have HS := Lib.hid (show ofK b 4 = ofK b 3 ++ [4] by rw [ofK_succ, ht]; simp)
        rw [ht] at hbt
        clear ht
        have HM0 := Lib.hid (show (ofK b 3).length + 1 ≤ maxLen by have := ofK_len b 3; unfold maxLen; omega)
        have HM1 := Lib.hid (show ((ofK b 3).length + 1) * 8 ≤ 140737488355328 by have := ofK_len b 3; omega)
        go_wp2_with (at_builtin; refine wpList_append_one wr rfl _ _ _ rfl 3 i0 (.int .i64 0) 8 Try.underlying22 hi hz0 hz1 hz2 rfl u3 (ofK b 3).length ((ofK b 3).map intv) rfl HO.out (.int .i64 4) _ rfl rfl HM0.out HM1.out ?_; intro v' w3 hown3 hg3 hrow3; have HO3 := Lib.hid hown3; have HG3 := Lib.hid hg3; have HR3 := Lib.hid hrow3; clear hown3 hg3 hrow3)
        go_roundw
        case rel => exact made_step HS.out HO3.out HN.out HB.out HG3.out HR3.out rfl (by omega)
        case measure => simp [intOf]
    · have hbt := bit_test b 5 32 rfl hb
      cases ht : b.testBit 5
      · have HS := Lib.hid (show ofK b 5 = ofK b 4 by rw [ofK_succ, ht]; simp)
        rw [ht] at hbt
        clear ht
        go_wp2
        go_roundw
        case rel => exact ⟨5, by omega, rfl, by rw [HS.out]; exact HO.out, HN.out, HB.out⟩
        case measure => simp [intOf]
      · have HS := Lib.hid (show ofK b 5 = ofK b 4 ++ [5] by rw [ofK_succ, ht]; simp)
        rw [ht] at hbt
        clear ht
        have HM0 := Lib.hid (show (ofK b 4).length + 1 ≤ maxLen by have := ofK_len b 4; unfold maxLen; omega)
        have HM1 := Lib.hid (show ((ofK b 4).length + 1) * 8 ≤ 140737488355328 by have := ofK_len b 4; omega)
        go_wp2_with (at_builtin; refine wpList_append_one wr rfl _ _ _ rfl 3 i0 (.int .i64 0) 8 Try.underlying22 hi hz0 hz1 hz2 rfl u3 (ofK b 4).length ((ofK b 4).map intv) rfl HO.out (.int .i64 5) _ rfl rfl HM0.out HM1.out ?_; intro v' w3 hown3 hg3 hrow3; have HO3 := Lib.hid hown3; have HG3 := Lib.hid hg3; have HR3 := Lib.hid hrow3; clear hown3 hg3 hrow3)
        go_roundw
        case rel => exact made_step HS.out HO3.out HN.out HB.out HG3.out HR3.out rfl (by omega)
        case measure => simp [intOf]
    · have hbt := bit_test b 6 64 rfl hb
      cases ht : b.testBit 6
      · have HS := Lib.hid (show ofK b 6 = ofK b 5 by rw [ofK_succ, ht]; simp)
        rw [ht] at hbt
        clear ht
        go_wp2
        go_roundw
        case rel => exact ⟨6, by omega, rfl, by rw [HS.out]; exact HO.out, HN.out, HB.out⟩
        case measure => simp [intOf]
      · have HS := Lib.hid (show ofK b 6 = ofK b 5 ++ [6] by rw [ofK_succ, ht]; simp)
        rw [ht] at hbt
        clear ht
        have HM0 := Lib.hid (show (ofK b 5).length + 1 ≤ maxLen by have := ofK_len b 5; unfold maxLen; omega)
        have HM1 := Lib.hid (show ((ofK b 5).length + 1) * 8 ≤ 140737488355328 by have := ofK_len b 5; omega)
        go_wp2_with (at_builtin; refine wpList_append_one wr rfl _ _ _ rfl 3 i0 (.int .i64 0) 8 Try.underlying22 hi hz0 hz1 hz2 rfl u3 (ofK b 5).length ((ofK b 5).map intv) rfl HO.out (.int .i64 6) _ rfl rfl HM0.out HM1.out ?_; intro v' w3 hown3 hg3 hrow3; have HO3 := Lib.hid hown3; have HG3 := Lib.hid hg3; have HR3 := Lib.hid hrow3; clear hown3 hg3 hrow3)
        go_roundw
        case rel => exact made_step HS.out HO3.out HN.out HB.out HG3.out HR3.out rfl (by omega)
        case measure => simp [intOf]
    · have hbt := bit_test b 7 128 rfl hb
      cases ht : b.testBit 7
      · have HS := Lib.hid (show ofK b 7 = ofK b 6 by rw [ofK_succ, ht]; simp)
        rw [ht] at hbt
        clear ht
        go_wp2
        go_roundw
        case rel => exact ⟨7, by omega, rfl, by rw [HS.out]; exact HO.out, HN.out, HB.out⟩
        case measure => simp [intOf]
      · have HS := Lib.hid (show ofK b 7 = ofK b 6 ++ [7] by rw [ofK_succ, ht]; simp)
        rw [ht] at hbt
        clear ht
        have HM0 := Lib.hid (show (ofK b 6).length + 1 ≤ maxLen by have := ofK_len b 6; unfold maxLen; omega)
        have HM1 := Lib.hid (show ((ofK b 6).length + 1) * 8 ≤ 140737488355328 by have := ofK_len b 6; omega)
        go_wp2_with (at_builtin; refine wpList_append_one wr rfl _ _ _ rfl 3 i0 (.int .i64 0) 8 Try.underlying22 hi hz0 hz1 hz2 rfl u3 (ofK b 6).length ((ofK b 6).map intv) rfl HO.out (.int .i64 7) _ rfl rfl HM0.out HM1.out ?_; intro v' w3 hown3 hg3 hrow3; have HO3 := Lib.hid hown3; have HG3 := Lib.hid hg3; have HR3 := Lib.hid hrow3; clear hown3 hg3 hrow3)
        go_roundw
        case rel => exact made_step HS.out HO3.out HN.out HB.out HG3.out HR3.out rfl (by omega)
        case measure => simp [intOf]
    · go_wp2
      obtain ⟨ad, cp, rfl, _⟩ := owns_sl HO.out
      go_ret
      exact ⟨ad, cp, rfl, HB.out, owns_sl HO.out, HO.out, HN.out⟩
    · omega

set_option maxRecDepth 100000 in
set_option maxHeartbeats 4000000 in
theorem paths1_any (w : World) (b : Nat) (hb : b < 256) : Calls Try.prog 25 #[.int .u8 b] w (MadeI w (ofB b)) := by
  obtain ⟨i0, hi, hz0, hz1, hz2⟩ := info_parts info_i64
  go_enter Try.func25, Try.ntmps25
  go_wp2
  go_loopw [3, 4] (fun v i wr => ∃ k : Nat, k ≤ 7 ∧ i = .int .i64 ((k : Int) + 1) ∧ wr.ownsRow 0 3 1 v (ofK b k).length ((ofK b k).map intv) ∧ (∀ j, v.ownBlock = some j → w.heap.size ≤ j) ∧ Below w.heap.size w wr) (fun _ i _ => 8 - (intOf i).toNat)
  case atStart => exact ⟨0, by omega, rfl, World.ownsRow_nil _ _ _ _, by simp [Value.ownBlock], Below.refl _ _⟩
  case round =>
    obtain ⟨k, hk, rfl, hown, hnew, hbw⟩ := hrel
    have HO := Lib.hid hown
    have HN := Lib.hid hnew
    have HB := Lib.hid hbw
    clear hnew hbw hown
    rcases k with _ | _ | _ | _ | _ | _ | _ | _ | k
    · have hbt := bit_test b 1 2 rfl hb
      cases ht : b.testBit 1
      · have HS := Lib.hid (show ofK b 1 = ofK b 0 by rw [ofK_succ, ht]; simp)
        rw [ht] at hbt
        clear ht
        go_wp2
        go_roundw
        case rel => exact ⟨1, by omega, rfl, by rw [HS.out]; exact HO.out, HN.out, HB.out⟩
        case measure => simp [intOf]
      · have HS := Lib.hid (show ofK b 1 = ofK b 0 ++ [1] by rw [ofK_succ, ht]; simp)
        rw [ht] at hbt
        clear ht
        have HM0 := Lib.hid (show (ofK b 0).length + 1 ≤ maxLen by have := ofK_len b 0; unfold maxLen; omega)
        have HM1 := Lib.hid (show ((ofK b 0).length + 1) * 8 ≤ 140737488355328 by have := ofK_len b 0; omega)
        go_wp2_with (at_builtin; refine wpList_append_one wr rfl _ _ _ rfl 3 i0 (.int .i64 0) 8 Try.underlying22 hi hz0 hz1 hz2 rfl u3 (ofK b 0).length ((ofK b 0).map intv) rfl HO.out (.int .i64 1) _ rfl rfl HM0.out HM1.out ?_; intro v' w3 hown3 hg3 hrow3; have HO3 := Lib.hid hown3; have HG3 := Lib.hid hg3; have HR3 := Lib.hid hrow3; clear hown3 hg3 hrow3)
        go_roundw
        case rel => exact made_step HS.out HO3.out HN.out HB.out HG3.out HR3.out rfl (by omega)
        case measure => simp [intOf]
    · have hbt := bit_test b 2 4 rfl hb
      cases ht : b.testBit 2
      · have HS := Lib.hid (show ofK b 2 = ofK b 1 by rw [ofK_succ, ht]; simp)
        rw [ht] at hbt
        clear ht
        go_wp2
        go_roundw
        case rel => exact ⟨2, by omega, rfl, by rw [HS.out]; exact HO.out, HN.out, HB.out⟩
        case measure => simp [intOf]
      · have HS := Lib.hid (show ofK b 2 = ofK b 1 ++ [2] by rw [ofK_succ, ht]; simp)
        rw [ht] at hbt
        clear ht
        have HM0 := Lib.hid (show (ofK b 1).length + 1 ≤ maxLen by have := ofK_len b 1; unfold maxLen; omega)
        have HM1 := Lib.hid (show ((ofK b 1).length + 1) * 8 ≤ 140737488355328 by have := ofK_len b 1; omega)
        go_wp2_with (at_builtin; refine wpList_append_one wr rfl _ _ _ rfl 3 i0 (.int .i64 0) 8 Try.underlying22 hi hz0 hz1 hz2 rfl u3 (ofK b 1).length ((ofK b 1).map intv) rfl HO.out (.int .i64 2) _ rfl rfl HM0.out HM1.out ?_; intro v' w3 hown3 hg3 hrow3; have HO3 := Lib.hid hown3; have HG3 := Lib.hid hg3; have HR3 := Lib.hid hrow3; clear hown3 hg3 hrow3)
        go_roundw
        case rel => exact made_step HS.out HO3.out HN.out HB.out HG3.out HR3.out rfl (by omega)
        case measure => simp [intOf]
    · have hbt := bit_test b 3 8 rfl hb
      cases ht : b.testBit 3
      · have HS := Lib.hid (show ofK b 3 = ofK b 2 by rw [ofK_succ, ht]; simp)
        rw [ht] at hbt
        clear ht
        go_wp2
        go_roundw
        case rel => exact ⟨3, by omega, rfl, by rw [HS.out]; exact HO.out, HN.out, HB.out⟩
        case measure => simp [intOf]
      · have HS := Lib.hid (show ofK b 3 = ofK b 2 ++ [3] by rw [ofK_succ, ht]; simp)
        rw [ht] at hbt
        clear ht
        have HM0 := Lib.hid (show (ofK b 2).length + 1 ≤ maxLen by have := ofK_len b 2; unfold maxLen; omega)
        have HM1 := Lib.hid (show ((ofK b 2).length + 1) * 8 ≤ 140737488355328 by have := ofK_len b 2; omega)
        go_wp2_with (at_builtin; refine wpList_append_one wr rfl _ _ _ rfl 3 i0 (.int .i64 0) 8 Try.underlying22 hi hz0 hz1 hz2 rfl u3 (ofK b 2).length ((ofK b 2).map intv) rfl HO.out (.int .i64 3) _ rfl rfl HM0.out HM1.out ?_; intro v' w3 hown3 hg3 hrow3; have HO3 := Lib.hid hown3; have HG3 := Lib.hid hg3; have HR3 := Lib.hid hrow3; clear hown3 hg3 hrow3)
        go_roundw
        case rel => exact made_step HS.out HO3.out HN.out HB.out HG3.out HR3.out rfl (by omega)
        case measure => simp [intOf]
    · have hbt := bit_test b 4 16 rfl hb
      cases ht : b.testBit 4
      · have HS := Lib.hid (show ofK b 4 = ofK b 3 by rw [ofK_succ, ht]; simp)
        rw [ht] at hbt
        clear ht
        go_wp2
        go_roundw
        case rel => exact ⟨4, by omega, rfl, by rw [HS.out]; exact HO.out, HN.out, HB.out⟩
        case measure => simp [intOf]
      · have HS := Lib.hid (show ofK b 4 = ofK b 3 ++ [4] by rw [ofK_succ, ht]; simp)
        rw [ht] at hbt
        clear ht
        have HM0 := Lib.hid (show (ofK b 3).length + 1 ≤ maxLen by have := ofK_len b 3; unfold maxLen; omega)
        have HM1 := Lib.hid (show ((ofK b 3).length + 1) * 8 ≤ 140737488355328 by have := ofK_len b 3; omega)
        go_wp2_with (at_builtin; refine wpList_append_one wr rfl _ _ _ rfl 3 i0 (.int .i64 0) 8 Try.underlying22 hi hz0 hz1 hz2 rfl u3 (ofK b 3).length ((ofK b 3).map intv) rfl HO.out (.int .i64 4) _ rfl rfl HM0.out HM1.out ?_; intro v' w3 hown3 hg3 hrow3; have HO3 := Lib.hid hown3; have HG3 := Lib.hid hg3; have HR3 := Lib.hid hrow3; clear hown3 hg3 hrow3)
        go_roundw
        case rel => exact made_step HS.out HO3.out HN.out HB.out HG3.out HR3.out rfl (by omega)
        case measure => simp [intOf]
    · have hbt := bit_test b 5 32 rfl hb
      cases ht : b.testBit 5
      · have HS := Lib.hid (show ofK b 5 = ofK b 4 by rw [ofK_succ, ht]; simp)
        rw [ht] at hbt
        clear ht
        go_wp2
        go_roundw
        case rel => exact ⟨5, by omega, rfl, by rw [HS.out]; exact HO.out, HN.out, HB.out⟩
        case measure => simp [intOf]
      · have HS := Lib.hid (show ofK b 5 = ofK b 4 ++ [5] by rw [ofK_succ, ht]; simp)
        rw [ht] at hbt
        clear ht
        have HM0 := Lib.hid (show (ofK b 4).length + 1 ≤ maxLen by have := ofK_len b 4; unfold maxLen; omega)
        have HM1 := Lib.hid (show ((ofK b 4).length + 1) * 8 ≤ 140737488355328 by have := ofK_len b 4; omega)
        go_wp2_with (at_builtin; refine wpList_append_one wr rfl _ _ _ rfl 3 i0 (.int .i64 0) 8 Try.underlying22 hi hz0 hz1 hz2 rfl u3 (ofK b 4).length ((ofK b 4).map intv) rfl HO.out (.int .i64 5) _ rfl rfl HM0.out HM1.out ?_; intro v' w3 hown3 hg3 hrow3; have HO3 := Lib.hid hown3; have HG3 := Lib.hid hg3; have HR3 := Lib.hid hrow3; clear hown3 hg3 hrow3)
        go_roundw
        case rel => exact made_step HS.out HO3.out HN.out HB.out HG3.out HR3.out rfl (by omega)
        case measure => simp [intOf]
    · have hbt := bit_test b 6 64 rfl hb
      cases ht : b.testBit 6
      · have HS := Lib.hid (show ofK b 6 = ofK b 5 by rw [ofK_succ, ht]; simp)
        rw [ht] at hbt
        clear ht
        go_wp2
        go_roundw
        case rel => exact ⟨6, by omega, rfl, by rw [HS.out]; exact HO.out, HN.out, HB.out⟩
        case measure => simp [intOf]
      · have HS := Lib.hid (show ofK b 6 = ofK b 5 ++ [6] by rw [ofK_succ, ht]; simp)
        rw [ht] at hbt
        clear ht
        have HM0 := Lib.hid (show (ofK b 5).length + 1 ≤ maxLen by have := ofK_len b 5; unfold maxLen; omega)
        have HM1 := Lib.hid (show ((ofK b 5).length + 1) * 8 ≤ 140737488355328 by have := ofK_len b 5; omega)
        go_wp2_with (at_builtin; refine wpList_append_one wr rfl _ _ _ rfl 3 i0 (.int .i64 0) 8 Try.underlying22 hi hz0 hz1 hz2 rfl u3 (ofK b 5).length ((ofK b 5).map intv) rfl HO.out (.int .i64 6) _ rfl rfl HM0.out HM1.out ?_; intro v' w3 hown3 hg3 hrow3; have HO3 := Lib.hid hown3; have HG3 := Lib.hid hg3; have HR3 := Lib.hid hrow3; clear hown3 hg3 hrow3)
        go_roundw
        case rel => exact made_step HS.out HO3.out HN.out HB.out HG3.out HR3.out rfl (by omega)
        case measure => simp [intOf]
    · have hbt := bit_test b 7 128 rfl hb
      cases ht : b.testBit 7
      · have HS := Lib.hid (show ofK b 7 = ofK b 6 by rw [ofK_succ, ht]; simp)
        rw [ht] at hbt
        clear ht
        go_wp2
        go_roundw
        case rel => exact ⟨7, by omega, rfl, by rw [HS.out]; exact HO.out, HN.out, HB.out⟩
        case measure => simp [intOf]
      · have HS := Lib.hid (show ofK b 7 = ofK b 6 ++ [7] by rw [ofK_succ, ht]; simp)
        rw [ht] at hbt
        clear ht
        have HM0 := Lib.hid (show (ofK b 6).length + 1 ≤ maxLen by have := ofK_len b 6; unfold maxLen; omega)
        have HM1 := Lib.hid (show ((ofK b 6).length + 1) * 8 ≤ 140737488355328 by have := ofK_len b 6; omega)
        go_wp2_with (at_builtin; refine wpList_append_one wr rfl _ _ _ rfl 3 i0 (.int .i64 0) 8 Try.underlying22 hi hz0 hz1 hz2 rfl u3 (ofK b 6).length ((ofK b 6).map intv) rfl HO.out (.int .i64 7) _ rfl rfl HM0.out HM1.out ?_; intro v' w3 hown3 hg3 hrow3; have HO3 := Lib.hid hown3; have HG3 := Lib.hid hg3; have HR3 := Lib.hid hrow3; clear hown3 hg3 hrow3)
        go_roundw
        case rel => exact made_step HS.out HO3.out HN.out HB.out HG3.out HR3.out rfl (by omega)
        case measure => simp [intOf]
    · go_wp2
      obtain ⟨ad, cp, rfl, _⟩ := owns_sl HO.out
      go_ret
      exact ⟨ad, cp, rfl, HB.out, owns_sl HO.out, HO.out, HN.out⟩
    · omega

end Go.Proofs.Ytnnibcfbcpipfaa

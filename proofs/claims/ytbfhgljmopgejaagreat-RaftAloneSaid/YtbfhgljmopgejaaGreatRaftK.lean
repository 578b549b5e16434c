/- Package raft, a node alone: Propose, Entries, and what it tells. -/
import Derived.Test.YtbfhgljmopgejaaGreatRaftJ
namespace Go.Proofs.YtbfhgljmopgejaaGreat
open Go.RowKit Go.Sort

section
variable {w0 w : World} {p tb tm : Nat} {x : LoneS}

/-- A node that leads, with an entry more. -/
def Added (w0 : World) (p tb tm : Nat) (x : LoneS) (n : Nat) (d : List UInt8) (e : Ending) (w' : World) : Prop :=
  e = .returned (.tuple #[.int .u64 ((n : Int) + 1), .int .i64 0]) ∧ ∃ r v, Led w0 w' p { x with r := r, es := x.es ++ [⟨(n : Int) + 1, x.term, false, v, d⟩], commit := (n : Int) + 1, since := 0 } tb tm

set_option maxRecDepth 100000 in
set_option maxHeartbeats 1600000 in
theorem add_lone (h : Led w0 w p x tb tm) (n : Nat) (hn : x.es.length = n) (hn1 : n < 900) (ht : 0 ≤ x.term) (ht2 : x.term ≤ 9223372036854775807) (hl : lastTm 0 x.es ≤ x.term) (hc0 : 0 ≤ x.commit) (hc : x.commit ≤ n)
    (v : Value) (d : List UInt8) (hs : SlW u8v w v d) (hd : d.length ≤ 900) : Calls Tryz.prog 26 #[.pointer (some ⟨p, 0, none⟩), .bool false, v] w (Added w0 p tb tm x n d) := by
  have hlt := h.lone.lt
  have d9 : w.cell? ⟨p, 9, none⟩ = some (.pointer (some ⟨x.lg, 0, none⟩)) := h.lone.cell 9 rfl
  have d4 : w.cell? ⟨p, 4, none⟩ = some (.int .u64 x.term) := h.lone.cell 4 rfl
  have HADD := Lib.hid (add_any w.drew x.lg x.r 0 0 x.es h.lone.drew.log h.lone.ok x.term false v d (show SlW u8v w.drew v d from hs.below (belowD (Below.refl _ _))) hl (by omega) hd)
  have H := Lib.hid h
  have HN := Lib.hid hn
  have HTB := Lib.hid (⟨heap_lt h.trk.box, h.trk.map.lt⟩ : tb < w.heap.size ∧ tm < w.heap.size)
  obtain ⟨va, vc, rfl⟩ := hs.form
  clear h hn hs hl
  go_enter Tryz.func26, Tryz.ntmps26
  go_wp2_with fail
  go_region_held3 (fun w' => w'.cell? ⟨p, 9, none⟩ = some (.pointer (some ⟨x.lg, 0, none⟩)) ∧ w'.cell? ⟨p, 4, none⟩ = some (.int .u64 x.term)) (first | exact ⟨d9, d4⟩ | exact ⟨g9, g4⟩)
    (first
      | (go_at_call 42; refine HADD.out.mono ?_; rintro en w7 ⟨v, r', rfl, hl7, hk7, hv7, hr7⟩; have H7 := Lib.hid (H.out.lone.drew.added hl7 hk7 hv7 hr7 (by have := HN.out; omega) ht (by omega) hd); have HK7 := Lib.hid hk7; have HR7 := Lib.hid hr7; have g9 : w7.cell? ⟨p, 9, none⟩ = some (.pointer (some ⟨x.lg, 0, none⟩)) := H7.out.cell 9 rfl; have g4 : w7.cell? ⟨p, 4, none⟩ = some (.int .u64 x.term) := H7.out.cell 4 rfl; clear hl7 hk7 hv7 hr7))
  have hes : (⟨0 + x.es.length + 1, x.term, false, v, d⟩ : Ent) = ⟨(n : Int) + 1, x.term, false, v, d⟩ := by rw [HN.out]; simp
  have h7 := H7.out
  rw [hes] at h7
  rw [HN.out]
  have htt := HTB.out
  have HL7 : Hid (Led w0 w7 p { x with r := r', es := x.es ++ [⟨(n : Int) + 1, x.term, false, v, d⟩] } tb tm) := Lib.hid (by
    have hl := H.out
    refine ⟨h7, (hl.trk.below (belowD (Below.refl _ _))).kept HK7.out (fun hh => ?_) (fun hh => ?_), hl.xt, hl.s1, hl.s2, hl.s3, hl.s4, fun hh => ?_, fun hh => ?_⟩
    · rcases hh with hh | hh
      · exact hl.s3 hh
      · exact hl.s5 hh
    · rcases hh with hh | hh
      · exact hl.s4 hh
      · exact hl.s6 hh
    · have hh' : r' = some tb := hh
      rcases HR7.out with e1 | ⟨j, e1, hj⟩
      · exact hl.s5 (by rw [← e1]; exact hh')
      · rw [e1] at hh'; cases hh'; have hj' : w.heap.size ≤ tb := hj; omega
    · have hh' : r' = some tm := hh
      rcases HR7.out with e1 | ⟨j, e1, hj⟩
      · exact hl.s6 (by rw [← e1]; exact hh')
      · rw [e1] at hh'; cases hh'; have hj' : w.heap.size ≤ tm := hj; omega)
  have hls := last_any w7 x.lg r' 0 0 _ HL7.out.lone.log HL7.out.lone.ok
  rw [show (0 : Int) + ((x.es ++ [(⟨(n : Int) + 1, x.term, false, v, d⟩ : Ent)]).length : Int) = (n : Int) + 1 by rw [List.length_append, HN.out]; simp, lastTm_snoc] at hls
  have HLS := Lib.hid hls
  clear h7 hes htt hls d9 d4 HADD H7 HK7 HR7 HTB H
  go_wp2_with fail
  refine HLS.out.mono ?_
  rintro en w8 ⟨rfl, hb8⟩
  have HL8 := Lib.hid (HL7.out.below hb8)
  have e16 : w8.cell? ⟨p, 16, none⟩ = some (.pointer (some ⟨tb, 0, none⟩)) := HL8.out.lone.cell 16 (congrArg some HL8.out.xt)
  clear hb8 g9 g4
  go_wp2_with fail
  go_region_held3 (fun w' => w'.cell? ⟨p, 16, none⟩ = some (.pointer (some ⟨tb, 0, none⟩))) (first | exact e16 | exact f16 | exact g16)
    (first
      | (go_at_call 35; refine (others_lone HL8.out.lone.drew).mono ?_; rintro en w9 ⟨a9, c9, rfl, hb9⟩; have HL9 := Lib.hid ((HL8.out.below (belowD (Below.refl _ _))).below hb9); have f16 : w9.cell? ⟨p, 16, none⟩ = some (.pointer (some ⟨tb, 0, none⟩)) := (hb9.cell (show p < w8.drew.heap.size from HL8.out.lone.lt)).trans e16; clear hb9)
      | (go_at_call 43; refine (follow_any w9 tb tm HL9.out.trk a9 c9 _).mono ?_; rintro en w10 ⟨rfl, hb10⟩; have HL10 := Lib.hid (HL9.out.below hb10); have g16 : w10.cell? ⟨p, 16, none⟩ = some (.pointer (some ⟨tb, 0, none⟩)) := (hb10.cell (show p < w9.heap.size from HL9.out.lone.lt)).trans f16; clear hb10))
  clear e16 f16 g16
  go_wp2_with fail
  refine (all_lone HL10.out.lone).mono ?_
  rintro en w11 ⟨rfl, h11, hk11⟩
  have HL11 := Lib.hid (HL10.out.wrote h11 hk11 rfl rfl rfl)
  clear h11 hk11
  go_wp2_with fail
  refine (agree_lone HL11.out.lone n ⟨(n : Int) + 1, x.term, false, v, d⟩ (by show (x.es ++ [_])[n]? = _; rw [← HN.out]; simp) (n + 1) (by show (x.es ++ [_]).length = _; rw [List.length_append, HN.out]; rfl) rfl rfl hc0 (by show x.commit < ((n + 1 : Nat) : Int); omega)).mono ?_
  rintro en w12 ⟨rfl, h12, hk12⟩
  have HL12 := Lib.hid (HL11.out.wrote h12 hk12 rfl rfl rfl)
  clear h12 hk12
  go_wp2_with fail
  go_ret2
  exact ⟨rfl, r', v, HL12.out⟩

theorem propose_lone (h : Led w0 w p x tb tm) (hr : x.role = 3) (n : Nat) (hn : x.es.length = n) (hn1 : n < 900) (ht : 0 ≤ x.term) (ht2 : x.term ≤ 9223372036854775807) (hl : lastTm 0 x.es ≤ x.term) (hc0 : 0 ≤ x.commit) (hc : x.commit ≤ n)
    (v : Value) (d : List UInt8) (hs : SlW u8v w v d) (hd : d.length ≤ 900) : Calls Tryz.prog 9 #[.pointer (some ⟨p, 0, none⟩), v] w (Added w0 p tb tm x n d) := by
  have HA := Lib.hid (add_lone h n hn hn1 ht ht2 hl hc0 hc v d hs hd)
  have d6 : w.cell? ⟨p, 6, none⟩ = some (.int .i64 x.role) := h.lone.cell 6 rfl
  rw [hr] at d6
  obtain ⟨va, vc, rfl⟩ := hs.form
  clear h hr hn hl hs
  go_enter Tryz.func9, Tryz.ntmps9
  go_wp2_with fail
  refine HA.out.mono ?_
  rintro en w1 ⟨rfl, r', v', h1⟩
  have H1 := Lib.hid h1
  clear h1
  go_wp2_with fail
  go_ret2
  exact ⟨rfl, r', v', H1.out⟩

/-- The last entry, as it is told. -/
theorem entries_lone (h : Lone w0 w p x) (k : Nat) (e : Ent) (he : x.es[k]? = some e) (hn : x.es.length = k + 1) (hc : x.commit = (k : Int) + 1) : Calls Tryz.prog 11 #[.pointer (some ⟨p, 0, none⟩), .int .u64 k, .int .i64 1] w
    fun en w' => ∃ g cap, en = .returned (.tuple #[.slice (some ⟨g, 0, none⟩) 1 cap, .bool true]) ∧ OneEnt w e g cap w' := by
  have hk0 := h.n0
  have d9 : w.cell? ⟨p, 9, none⟩ = some (.pointer (some ⟨x.lg, 0, none⟩)) := h.cell 9 rfl
  have d14 : w.cell? ⟨p, 14, none⟩ = some (.int .u64 x.commit) := h.cell 14 rfl
  rw [hc] at d14
  have HBS := Lib.hid (base_any w x.lg x.r 0 0 x.es h.log)
  have HFR := Lib.hid (fun W (hW : Below w.heap.size w W) => from_last W x.lg x.r x.es (h.log.below hW) h.ok k e he hn (by omega) (h.dl e (List.mem_of_getElem? he)))
  have H := Lib.hid h
  have hk1 : k ≤ 1000 := by omega
  have q1 : decide ((k : Int) < 0) = false := by simp
  have q2 : ¬ ((k : Int) < 0) := by omega
  have q3 : decide ((k : Int) + 1 ≤ (k : Int)) = false := decide_eq_false (by omega)
  have q4 : ¬ ((k : Int) + 1 ≤ (k : Int)) := by omega
  have e1 : IntKind.u64.wrap ((k : Int) + 1) = (k : Int) + 1 := IntWalk.u64_in _ (by omega)
  clear h hc hn he
  go_enter Tryz.func11, Tryz.ntmps11
  go_wp2_with fail
  refine HBS.out.mono ?_
  rintro en w1 ⟨rfl, n1, rfl⟩
  have HB1 := Lib.hid (belowDN (Below.refl w.heap.size w) n1)
  have k9 : (w.drewN n1).cell? ⟨p, 9, none⟩ = some (.pointer (some ⟨x.lg, 0, none⟩)) := d9
  have k14 : (w.drewN n1).cell? ⟨p, 14, none⟩ = some (.int .u64 ((k : Int) + 1)) := d14
  clear d9 d14
  generalize w.drewN n1 = W1 at *
  go_wp2_with fail
  have e2 : IntKind.u64.wrap ((k : Int) + 1 - (k : Int)) = 1 := by rw [show (k : Int) + 1 - (k : Int) = 1 by omega]; exact IntWalk.u64_in _ (by omega)
  go_region_held3 (fun w' => w'.cell? ⟨p, 9, none⟩ = some (.pointer (some ⟨x.lg, 0, none⟩)) ∧ w'.cell? ⟨p, 14, none⟩ = some (.int .u64 ((k : Int) + 1))) (first | exact ⟨k9, k14⟩ | exact ⟨l9, l14⟩)
    (first
      | (go_at_call 28; refine (HFR.out _ (belowD HB1.out)).mono ?_; rintro en w2 ⟨g, cap, rfl, ho⟩; have HO := Lib.hid ho; have l9 : w2.cell? ⟨p, 9, none⟩ = some (.pointer (some ⟨x.lg, 0, none⟩)) := (ho.choose_spec.1.cell (cell_lt k9)).trans k9; have l14 : w2.cell? ⟨p, 14, none⟩ = some (.int .u64 ((k : Int) + 1)) := (ho.choose_spec.1.cell (cell_lt k14)).trans k14; clear ho))
  go_wp2_with fail
  go_ret2
  obtain ⟨v, hb, hr⟩ := HO.out
  exact ⟨g, cap, rfl, v, (belowD HB1.out).trans (hb.mono (show w.heap.size ≤ W1.heap.size from HB1.out.size)), hr⟩

theorem role_lone (h : Lone w0 w p x) : Calls Tryz.prog 6 #[.pointer (some ⟨p, 0, none⟩)] w (Ret (.int .i64 x.role) w) := by
  have d : w.cell? ⟨p, 6, none⟩ = some (.int .i64 x.role) := h.cell 6 rfl
  clear h
  go_enter Tryz.func6, Tryz.ntmps6
  go_wp2
  go_ret
  exact Ret.mk rfl
theorem term_lone (h : Lone w0 w p x) : Calls Tryz.prog 7 #[.pointer (some ⟨p, 0, none⟩)] w (Ret (.int .u64 x.term) w) := by
  have d : w.cell? ⟨p, 4, none⟩ = some (.int .u64 x.term) := h.cell 4 rfl
  clear h
  go_enter Tryz.func7, Tryz.ntmps7
  go_wp2
  go_ret
  exact Ret.mk rfl
theorem commit_lone (h : Lone w0 w p x) : Calls Tryz.prog 10 #[.pointer (some ⟨p, 0, none⟩)] w (Ret (.int .u64 x.commit) w) := by
  have d : w.cell? ⟨p, 14, none⟩ = some (.int .u64 x.commit) := h.cell 14 rfl
  clear h
  go_enter Tryz.func10, Tryz.ntmps10
  go_wp2
  go_ret
  exact Ret.mk rfl
theorem leader_lone (h : Lone w0 w p x) : Calls Tryz.prog 13 #[.pointer (some ⟨p, 0, none⟩)] w (Ret (.int .i64 x.lead) w) := by
  have d : w.cell? ⟨p, 7, none⟩ = some (.int .i64 x.lead) := h.cell 7 rfl
  clear h
  go_enter Tryz.func13, Tryz.ntmps13
  go_wp2
  go_ret
  exact Ret.mk rfl
theorem last_lone (h : Lone w0 w p x) (n : Nat) (hn : x.es.length = n) : Calls Tryz.prog 14 #[.pointer (some ⟨p, 0, none⟩)] w (RetB (.int .u64 n) w) := by
  have d : w.cell? ⟨p, 9, none⟩ = some (.pointer (some ⟨x.lg, 0, none⟩)) := h.cell 9 rfl
  have hls := last_any w x.lg x.r 0 0 x.es h.log h.ok
  rw [hn, show (0 : Int) + (n : Int) = (n : Int) by omega] at hls
  clear h hn
  go_enter Tryz.func14, Tryz.ntmps14
  go_wp2_with fail
  refine hls.mono ?_
  rintro en w1 ⟨rfl, hb1⟩
  go_wp2_with fail
  go_ret
  exact RetB.mk rfl hb1
theorem out_lone (h : Lone w0 w p x) : Calls Tryz.prog 12 #[.pointer (some ⟨p, 0, none⟩)] w (LoneP w0 w p x (.slice none 0 0)) := by
  have d : w.cell? ⟨p, 17, none⟩ = some (.slice none 0 0) := h.cell 17 rfl
  have f := h.free 17
  have H := Lib.hid (h.set x 17 (.slice none 0 0) rfl rfl rfl rfl rfl rfl)
  have HK := Lib.hid (show Keeps (fun k => k = p) w (w.setCell ⟨p, 17, none⟩ (.slice none 0 0)) from (Keeps.refl (fun k => k = p) w).setCell (p := ⟨p, 17, none⟩) (.inl rfl) _)
  clear h
  go_enter Tryz.func12, Tryz.ntmps12
  go_wp2
  go_ret
  exact ⟨rfl, H.out, HK.out⟩
end

end Go.Proofs.YtbfhgljmopgejaaGreat

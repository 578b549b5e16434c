/- Package raft, a node alone: it leads, and adds. -/
import Derived.Test.YtbfhgljmopgejaaGreatRaftG
namespace Go.Proofs.YtbfhgljmopgejaaGreat
open Go.RowKit Go.Sort

/-- A node that leads: whom it tracks lies apart. -/
structure Led (w0 w : World) (p : Nat) (x : LoneS) (tb tm : Nat) : Prop where
  lone : Lone w0 w p x
  trk : TrkAt w tb tm
  xt : x.track = .pointer (some ⟨tb, 0, none⟩)
  s1 : tb ≠ p
  s2 : tm ≠ p
  s3 : tb ≠ x.lg
  s4 : tm ≠ x.lg
  s5 : x.r ≠ some tb
  s6 : x.r ≠ some tm

section
variable {w0 w w' : World} {p tb tm : Nat} {x : LoneS}

theorem Led.below (h : Led w0 w p x tb tm) (hb : Below w.heap.size w w') : Led w0 w' p x tb tm := ⟨h.lone.below hb, h.trk.below hb, h.xt, h.s1, h.s2, h.s3, h.s4, h.s5, h.s6⟩
/-- After the node alone was written. -/
theorem Led.wrote {y : LoneS} (h : Led w0 w p x tb tm) (hl : Lone w0 w' p y) (hk : Keeps (fun k => k = p) w w') (h1 : y.track = x.track) (h2 : y.lg = x.lg) (h3 : y.r = x.r) : Led w0 w' p y tb tm :=
  ⟨hl, h.trk.kept hk h.s1 h.s2, h1.trans h.xt, h.s1, h.s2, by rw [h2]; exact h.s3, by rw [h2]; exact h.s4, by rw [h3]; exact h.s5, by rw [h3]; exact h.s6⟩

/-- One entry more. -/
theorem Lone.added {term : Int} {d : List UInt8} {v : Value} {r' : Option Nat} (h : Lone w0 w p x) (hl : LogAt w' x.lg r' 0 0 (x.es ++ [⟨0 + x.es.length + 1, term, false, v, d⟩])) (hk : Keeps (fun k => k = x.lg ∨ x.r = some k) w w')
    (hv : ∀ k, v.ownBlock = some k → w.heap.size ≤ k) (hr : r' = x.r ∨ ∃ k, r' = some k ∧ w.heap.size ≤ k) (hn : x.es.length < 1000) (ht : 0 ≤ term) (ht2 : term ≤ 18446744073709551615) (hd : d.length ≤ 900) :
    Lone w0 w' p { x with r := r', es := x.es ++ [⟨0 + x.es.length + 1, term, false, v, d⟩] } := by
  obtain ⟨a, cap, e, hs⟩ := h.img
  have hp := h.lt
  have hz := h.bel.size
  have hlg := h.log.lt
  have hrl := h.log.row_lt
  refine ⟨hk.heap (fun hh => ?_) h.box, hl, ?_, ?_, ?_, ⟨a, cap, e, hs.kept hk fun k hk2 hh => ?_⟩, h.i1, h.i7, h.bel.trans (hk.below hz fun k hh => ?_), h.pb, h.lb, fun k hk2 => ?_, h.pl, fun hh => ?_, h.pi, h.il, fun k hk2 hh => ?_, ?_, ?_⟩
  · rcases hh with hh | hh
    · exact h.pl hh
    · exact h.pr hh
  · have ok := h.ok
    refine ⟨fun k q hq => ?_, ok.lo, ?_, ok.tmlo, fun q hq => ?_, ok.tmhi⟩
    · rcases Nat.lt_or_ge k x.es.length with hlt | hge
      · rw [List.getElem?_append_left hlt] at hq; exact ok.ixs k q hq
      · rw [List.getElem?_append_right hge] at hq
        have hk0 : k = x.es.length := by
          have := (List.getElem?_eq_some_iff.1 hq).1
          simp at this; omega
        rw [hk0] at hq ⊢
        simp at hq
        rw [← hq]
        show (x.es.length : Int) + 1 = 0 + _ + 1
        omega
    · simp; omega
    · rcases List.mem_append.1 hq with hq | hq
      · exact ok.tms q hq
      · obtain rfl : q = _ := List.mem_singleton.1 hq
        exact ⟨ht, ht2⟩
  · intro q hq
    rcases List.mem_append.1 hq with hq | hq
    · exact h.dl q hq
    · obtain rfl : q = _ := List.mem_singleton.1 hq
      exact hd
  · intro q hq
    rcases List.mem_append.1 hq with hq | hq
    · exact h.cf q hq
    · obtain rfl : q = _ := List.mem_singleton.1 hq
      rfl
  · rw [← e] at hk2
    rcases hh with hh | hh
    · exact h.il (by rw [hk2, hh])
    · exact h.ir k hk2 hh
  · rcases hh with hh | hh
    · rw [hh]; exact h.lb
    · exact h.rb k hh
  · rcases hr with e1 | ⟨j, e1, hj⟩
    · exact h.rb k (by rw [← e1]; exact hk2)
    · rw [show r' = some j from e1] at hk2; cases hk2; omega
  · rcases hr with e1 | ⟨j, e1, hj⟩
    · exact h.pr (by rw [← e1]; exact hh)
    · rw [show r' = some j from e1] at hh; cases hh; omega
  · rcases hr with e1 | ⟨j, e1, hj⟩
    · exact h.ir k hk2 (by rw [← e1]; exact hh)
    · have hh' : r' = some k := hh
      rw [e1] at hh'
      cases hh'
      rw [e] at hk2
      have := hs.row_lt k hk2
      omega
  · intro q hq
    rcases List.mem_append.1 hq with hq | hq
    · exact h.pd q hq
    · obtain rfl : q = _ := List.mem_singleton.1 hq
      exact fun hh => by have := hv p hh; omega
  · show (x.es ++ [_]).length ≤ 1000
    rw [List.length_append]; simp; omega

theorem lastTm_snoc (tm : Int) (es : List Ent) (e : Ent) : lastTm tm (es ++ [e]) = e.tm := by simp [lastTm]

set_option maxRecDepth 100000 in
set_option maxHeartbeats 1600000 in
theorem leads_lone (h : Lone w0 w p x) (he : x.es = []) (hc : x.commit = 0) (ht : 0 ≤ x.term) (ht2 : x.term ≤ 18446744073709551615) : Calls Tryz.prog 60 #[.pointer (some ⟨p, 0, none⟩)] w
    fun e w' => e = .returned (.tuple #[]) ∧ ∃ tb tm r v, Led w0 w' p { x with role := 3, lead := x.id, poll := .pointer none, track := .pointer (some ⟨tb, 0, none⟩), r := r, es := [⟨1, x.term, false, v, nothB⟩], commit := 1, since := 0 } tb tm := by
  have hls := last_any w x.lg x.r 0 0 x.es h.log h.ok
  rw [he] at hls
  have HLS := Lib.hid hls
  have c9 : w.cell? ⟨p, 9, none⟩ = some (.pointer (some ⟨x.lg, 0, none⟩)) := h.cell 9 rfl
  have HE := Lib.hid he
  have HC := Lib.hid hc
  have H := Lib.hid h
  clear hls he hc h
  go_enter Tryz.func60, Tryz.ntmps60
  go_wp2_with fail
  refine HLS.out.mono ?_
  rintro en w1 ⟨rfl, hb1⟩
  have H1 := Lib.hid (H.out.below hb1)
  have d0 : w1.cell? ⟨p, 0, none⟩ = some (.int .i64 x.id) := H1.out.cell 0 rfl
  have d8 : w1.cell? ⟨p, 8, none⟩ = some (.int .i64 x.since) := H1.out.cell 8 rfl
  have d6 : w1.cell? ⟨p, 6, none⟩ = some (.int .i64 x.role) := H1.out.cell 6 rfl
  have d7 : w1.cell? ⟨p, 7, none⟩ = some (.int .i64 x.lead) := H1.out.cell 7 rfl
  have d15 : w1.cell? ⟨p, 15, none⟩ = some x.poll := H1.out.cell 15 rfl
  have f8 := H1.out.free 8
  have f6 := H1.out.free 6
  have f7 := H1.out.free 7
  have f15 := H1.out.free 15
  clear hb1 c9
  have H2 := Lib.hid ((((H1.out.set { x with since := 0 } 8 (.int .i64 0) rfl rfl rfl rfl rfl rfl).set { x with since := 0, role := 3 } 6 (.int .i64 3) rfl rfl rfl rfl rfl rfl).set { x with since := 0, role := 3, lead := x.id } 7 (.int .i64 x.id) rfl rfl rfl rfl rfl rfl).set { x with since := 0, role := 3, lead := x.id, poll := .pointer none } 15 (.pointer none) rfl rfl rfl rfl rfl rfl)
  go_wp2_with fail
  generalize (((w1.setCell ⟨p, 8, none⟩ (.int .i64 0)).setCell ⟨p, 6, none⟩ (.int .i64 3)).setCell ⟨p, 7, none⟩ (.int .i64 x.id)).setCell ⟨p, 15, none⟩ (.pointer none) = W2 at *
  clear d0 d8 d6 d7 d15 f8 f6 f7 f15
  refine (others_lone H2.out).mono ?_
  rintro en w3 ⟨a, cap, rfl, hb3⟩
  have H3 := Lib.hid (H2.out.below hb3)
  clear hb3
  go_wp2_with fail
  refine (track_new w3 a cap _).mono ?_
  rintro en w4 ⟨tb, tm, rfl, ht4, hb4, htb, htm⟩
  have H4 := Lib.hid (H3.out.below hb4)
  have q3 := H3.out.lt
  have l3 := H3.out.log.lt
  have R3 := Lib.hid H3.out.log.row_lt
  have f16 := H4.out.free 16
  have d16 : w4.cell? ⟨p, 16, none⟩ = some x.track := H4.out.cell 16 rfl
  have hkp : Keeps (fun k => k = p) w4 (w4.setCell ⟨p, 16, none⟩ (.pointer (some ⟨tb, 0, none⟩))) := (Keeps.refl (fun k => k = p) w4).setCell (p := ⟨p, 16, none⟩) (.inl rfl) _
  have H5 := Lib.hid (H4.out.set { x with since := 0, role := 3, lead := x.id, poll := .pointer none, track := .pointer (some ⟨tb, 0, none⟩) } 16 (.pointer (some ⟨tb, 0, none⟩)) rfl rfl rfl rfl rfl rfl)
  have HT5 := Lib.hid (ht4.kept hkp (show ¬ tb = p by omega) (show ¬ tm = p by omega))
  have HTM4 := Lib.hid (⟨heap_lt ht4.box, ht4.map.lt⟩ : tb < w4.heap.size ∧ tm < w4.heap.size)
  have HZ5 := Lib.hid hkp.size
  clear ht4 hb4 hkp
  go_wp2_with fail
  generalize w4.setCell ⟨p, 16, none⟩ (.pointer (some ⟨tb, 0, none⟩)) = W5 at *
  clear f16 d16
  have e9 : W5.cell? ⟨p, 9, none⟩ = some (.pointer (some ⟨x.lg, 0, none⟩)) := H5.out.cell 9 rfl
  have e4 : W5.cell? ⟨p, 4, none⟩ = some (.int .u64 x.term) := H5.out.cell 4 rfl
  have HN0 : Hid (nothB.length ≤ 900) := Lib.hid (by
    have hn0 : (numB 0).length ≤ 10 := numB_len10 (by omega)
    unfold nothB
    simp only [List.length_append]
    omega)
  go_region_held3 (fun w' => w'.cell? ⟨p, 9, none⟩ = some (.pointer (some ⟨x.lg, 0, none⟩)) ∧ w'.cell? ⟨p, 4, none⟩ = some (.int .u64 x.term)) (first | exact ⟨e9, e4⟩ | exact ⟨f9, f4⟩ | exact ⟨g9, g4⟩)
    (first
      | (go_at_call 78; refine (nothing_any _).mono ?_; rintro en w6 ⟨a6, c6, rfl, hb6, hs6⟩; have H6 := Lib.hid (H5.out.drew.below hb6); have HS6 := Lib.hid hs6; have HT6 := Lib.hid ((HT5.out.below (belowD (Below.refl _ _))).below hb6); have HZ6 := Lib.hid hb6.size; have f9 : w6.cell? ⟨p, 9, none⟩ = some (.pointer (some ⟨x.lg, 0, none⟩)) := H6.out.cell 9 rfl; have f4 : w6.cell? ⟨p, 4, none⟩ = some (.int .u64 x.term) := H6.out.cell 4 rfl; clear hb6 hs6)
      | (go_at_call 42; refine (add_any w6 x.lg x.r 0 0 x.es H6.out.log H6.out.ok x.term false _ nothB (.inl HS6.out) (by rw [HE.out]; exact ht) (by rw [HE.out]; simp) HN0.out).mono ?_; rintro en w7 ⟨v, r', rfl, hl7, hk7, hv7, hr7⟩; have H7 := Lib.hid (H6.out.added hl7 hk7 hv7 hr7 (by rw [HE.out]; simp) ht ht2 HN0.out); have HK7 := Lib.hid hk7; have HR7 := Lib.hid hr7; have g9 : w7.cell? ⟨p, 9, none⟩ = some (.pointer (some ⟨x.lg, 0, none⟩)) := H7.out.cell 9 rfl; have g4 : w7.cell? ⟨p, 4, none⟩ = some (.int .u64 x.term) := H7.out.cell 4 rfl; clear hl7 hk7 hv7 hr7))
  have hes : x.es ++ [(⟨0 + x.es.length + 1, x.term, false, v, nothB⟩ : Ent)] = [⟨1, x.term, false, v, nothB⟩] := by rw [HE.out]; rfl
  have h7 := H7.out
  rw [hes] at h7
  have hzz := HZ5.out
  have hz6 := HZ6.out
  have htt := HTM4.out
  have hz6' : W5.heap.size ≤ w6.heap.size := hz6
  have HL7 : Hid (Led w0 w7 p { x with since := 0, role := 3, lead := x.id, poll := .pointer none, track := .pointer (some ⟨tb, 0, none⟩), r := r', es := [⟨1, x.term, false, v, nothB⟩] } tb tm) := Lib.hid (by
    refine ⟨h7, HT6.out.kept HK7.out (fun hh => ?_) (fun hh => ?_), rfl, by omega, by omega, by show tb ≠ x.lg; omega, by show tm ≠ x.lg; omega, fun hh => ?_, fun hh => ?_⟩
    · rcases hh with hh | hh
      · have hh' : tb = x.lg := hh
        omega
      · have := R3.out _ hh; omega
    · rcases hh with hh | hh
      · have hh' : tm = x.lg := hh
        omega
      · have := R3.out _ hh; omega
    · have hh' : r' = some tb := hh
      rcases HR7.out with e1 | ⟨j, e1, hj⟩
      · have := R3.out tb (by rw [← hh']; exact e1.symm); omega
      · rw [e1] at hh'; cases hh'; omega
    · have hh' : r' = some tm := hh
      rcases HR7.out with e1 | ⟨j, e1, hj⟩
      · have := R3.out tm (by rw [← hh']; exact e1.symm); omega
      · rw [e1] at hh'; cases hh'; omega)
  clear h7 hes hzz hz6 hz6' htt e9 e4 f9 f4 g9 g4
  go_wp2_with fail
  refine (all_lone HL7.out.lone).mono ?_
  rintro en w8 ⟨rfl, h8, hk8⟩
  have HL8 := Lib.hid (HL7.out.wrote h8 hk8 rfl rfl rfl)
  clear h8 hk8
  go_wp2_with fail
  refine (agree_lone HL8.out.lone 0 ⟨1, x.term, false, v, nothB⟩ rfl 1 rfl rfl rfl (by show 0 ≤ x.commit; rw [HC.out]; omega) (by show x.commit < 1; rw [HC.out]; omega)).mono ?_
  rintro en w9 ⟨rfl, h9, hk9⟩
  have HL9 := Lib.hid (HL8.out.wrote h9 hk9 rfl rfl rfl)
  clear h9 hk9
  go_wp2_with fail
  refine bodyPost_end (results_none rfl _ _ _) rfl ?_
  exact ⟨rfl, tb, tm, r', v, HL9.out⟩
end

end Go.Proofs.YtbfhgljmopgejaaGreat

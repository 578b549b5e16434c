/- maps.Keys of a table's clients: the iterator tells each once. -/
import Derived.Test.YtckmenongeklpaaMapIt
import Derived.Test.YtckmenongeklpaaRangeK
import Derived.Test.YtckmenongeklpaaSession
import Derived.Test.YtckmenongeklpaaSortW
import Derived.OwnWalkIn
import Derived.TacticsInMore
import Derived.LoopNIn
import Derived.LoopIn
namespace Go.Proofs.Ytckmenongeklpaa
open Go.RowKit Go.Maps Go.ChangeMaps

/-- Where the keys' iterator finds its map. -/
def KeysR (b m : Nat) (l : List (Int × (Int × Ans))) (w : World) : Prop := w.heap[b]? = some (.cells #[.map (some m)] 59 (0, 0)) ∧ TMap w m l

abbrev TMapIt (w : World) (m r : Nat) (l : List (Int × (Int × Ans))) (p : List Int) : Prop := MIter Try.prog 34 keyU lastV w m r l p

set_option maxRecDepth 100000 in
theorem keysU_iter (n b m : Nat) (l : List (Int × (Int × Ans))) :
    IterK keyU (keys l) (KeysR b m l) n 43 #[.pointer (some ⟨b, 0, none⟩)] := by
  intro lp J W hJb hJk hJr hY h0
  have HJB := Lib.hid hJb
  have HJK := Lib.hid hJk
  have HJR := Lib.hid hJr
  have HY := Lib.hid hY
  have HJ0 := Lib.hid h0
  obtain ⟨g1, g2⟩ := hJr _ _ h0
  have c1 : W.cell? ⟨b, 0, none⟩ = some (.map (some m)) := blk_cell g1 0 rfl
  have HM := Lib.hid g2
  have hnd : Hid ((keys l).Nodup) := Lib.hid (by obtain ⟨_, _, _, _, h, _⟩ := g2; exact h)
  clear hJb hJk hJr hY h0 g1 g2
  refine callsIn_of_wp Try.func43 rfl trivial ?_ rfl
  simp only [Try.ntmps43, List.size_toArray, List.length_cons, List.length_nil, Nat.reduceAdd, Nat.reduceSub, Array.replicate_succ, Array.replicate_zero, List.push_toArray, List.append_toArray, List.nil_append, List.cons_append]
  gi_wp2_with (first | (refine wpListIn_map_range _ rfl _ _ rfl _ Try.underlying59 m l rfl HM.out ?_; intro ob hit; have HIT := Lib.hid hit; clear hit) | fail)
  generalize hw1 : W.alloc ob = W1 at *
  have HJ1 : Hid (J [] W1) := Lib.hid (HJB.out _ _ _ HJ0.out (by rw [← hw1]; exact (Below.refl _ _).alloc (Nat.le_refl _) _))
  clear hw1 c1 HJ0 HM
  go_simp
  gi_loopw [3] (fun _ wr => ∃ p : List Int, J p wr ∧ TMapIt wr m W.heap.size l p ∧ p.Nodup ∧ ∀ y ∈ p, y ∈ keys l) (fun _ wr => l.length - (wr.iterSeen W.heap.size).size)
  case atStart => exact ⟨[], HJ1.out, HIT.out, List.nodup_nil, by simp⟩
  case round =>
    clear HJ1 HIT
    obtain ⟨p, hJ, hit, hpn, hps⟩ := hrel
    have HJ := Lib.hid hJ
    have HIT := Lib.hid hit
    have HPN := Lib.hid hpn
    have HPS := Lib.hid hps
    clear hJ hit hpn hps
    gi_wp2_with (first | (refine wpListIn_map_next _ rfl _ rfl keyU_inj m W.heap.size l p rfl HIT.out (fun hd => ?_) (fun key val w' hkv hkp hit' hkw hsz hen => ?_)) | fail)
    · have HD : Hid (p.Perm (keys l)) := Lib.hid (perm_keys hnd.out HPN.out HPS.out hd)
      clear hd
      gi_wp2
      refine bodyPost_end (results_none rfl _ _ _) rfl ?_
      exact ⟨⟨_, rfl⟩, p, HD.out, HJ.out⟩
    · have HIT2 := Lib.hid hit'
      have hJ2 : J p w' := by
        obtain ⟨mm, ss, se, cc, hobj⟩ := HIT.out.iter_obj
        exact HJK.out p wr w' W.heap.size mm ss se cc HJ.out (Nat.le_refl _) hobj hkw
      have hmem : key ∈ keys l := List.mem_map.2 ⟨_, hkv, rfl⟩
      have hnd2 : (p ++ [key]).Nodup := List.nodup_append.2 ⟨HPN.out, by simp, by rintro x hx y hy rfl; simp at hy; subst hy; exact hkp hx⟩
      have HM : Hid (p.length < l.length) := Lib.hid (left_lt hnd2 HPS.out hkv)
      have HS1 := Lib.hid (HIT.out.seen)
      have HND2 := Lib.hid hnd2
      have HMEM := Lib.hid hmem
      obtain ⟨fn, tmps, assign, body, hy, hR⟩ := HY.out p key w' hmem hnd2 HPS.out hJ2
      clear hkv hkp hit' hkw hsz hJ2 hmem hnd2
      gi_wp2
      rw [hy]
      refine ⟨fun h => by simp [Fence.wide] at h, hR.mono ?_⟩
      rintro en W3 ⟨rfl, hJ3, hkw3⟩
      have HJ3 := Lib.hid hJ3
      have HIT3 := Lib.hid (HIT2.out.walks hkw3)
      have HS3 := Lib.hid HIT3.out.seen
      clear hJ3 hR hy hen hkw3
      gi_wp2
      go_roundw
      case rel => exact ⟨p ++ [key], HJ3.out, HIT3.out, HND2.out, (fun y hy => by
        rcases List.mem_append.1 hy with hy | hy
        · exact HPS.out y hy
        · simp at hy; subst hy; exact HMEM.out)⟩
      case measure => rw [HS3.out, HS1.out]; have := HM.out; simp; omega

end Go.Proofs.Ytckmenongeklpaa

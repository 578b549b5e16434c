/- Clients as they are read, one behind the other (package octet's Get). -/
import Derived.Test.YtckmenongeklpaaSessE
namespace Go.Proofs.Ytckmenongeklpaa
open Go.RowKit Go.Maps Go.ChangeMaps

/-- So many clients, one behind the other; nothing, if one is none. -/
def rdO : Nat → RS → List One → List One × RS
  | 0, s, acc => (acc, s)
  | n + 1, s, acc => if (oneF s).2.e = 0 then rdO n (oneF s).2 (acc ++ [(oneF s).1]) else ([], (oneF s).2)

def getO (s : RS) : List One × RS := rdO (countR 16 s).1 (countR 16 s).2 []

/-- Clients' cells. -/
def flatO (xs : List One) : List Value := (xs.map fun x => x.cells.toList).flatten

theorem flatO_len (xs : List One) : (flatO xs).length = xs.length * 7 := by
  induction xs with
  | nil => rfl
  | cons x xs ih =>
    have e : (flatO (x :: xs)).length = 7 + (flatO xs).length := by simp [flatO, One.cells]; omega
    rw [e, ih, List.length_cons]; omega
theorem flatO_snoc (xs : List One) (x : One) : flatO (xs ++ [x]) = flatO xs ++ x.cells.toList := by simp [flatO]

theorem info_one3 : (Try.prog.info? 56).map (fun i => (i.zero, i.size, i.bytes)) = some (some (.agg #[.int .u64 0, .int .u64 0, .int .i64 0, .string ⟨#[]⟩, .int .u64 0, .int .i64 0, .int .i64 0]), 7, 64) := by kernel_rfl

/-- What Get leaves. -/
def GotO (p : Nat) (xs : List One) (s : RS) (w : World) (e : Ending) (w' : World) : Prop :=
  ∃ v, e = .returned v ∧ RdAt w' p s ∧ w'.ownsRow 0 56 7 v xs.length (flatO xs) ∧ (∀ j, v.ownBlock = some j → w.heap.size ≤ j) ∧ Keeps (fun k => k = p) w w'

theorem cells7_new (w : World) (a b c d e f g : Value) (t : TypeId) : ∀ j u, [a, b, c, d, e, f, g][j]? = some u → (w.alloc (.cells #[a, b, c, d, e, f, g] t)).cell? ((⟨w.heap.size, 0, none⟩ : Addr).add j) = some u := by
  intro j u hj
  rw [addr_add, Nat.zero_add]
  have hz := heap_new w (.cells #[a, b, c, d, e, f, g] t)
  simp only [World.cell?, hz]
  simpa using hj

set_option maxRecDepth 100000 in
set_option maxHeartbeats 1600000 in
theorem getO_any (w : World) (p : Nat) (s : RS) (h : RdAt w p s) :
    Calls Try.prog 18 #[.pointer (some ⟨p, 0, none⟩), .int .i64 16, .func (Fn.func 19) #[] #[]] w (GotO p (getO s).1 (getO s).2 w) := by
  have hc := count_any w p s h 16 (by omega)
  have hc7 : (countR 16 s).1 ≤ 16 := by
    unfold countR
    split
    · exact Nat.zero_le _
    · omega
  have hpl := h.lt
  obtain ⟨i0, hi, hz0, hz1, hz2⟩ := info_parts info_one3
  obtain ⟨n, hn⟩ : ∃ n, n = (countR 16 s).1 := ⟨_, rfl⟩
  have hG : getO s = rdO n (countR 16 s).2 [] := by rw [hn]; rfl
  rw [← hn] at hc hc7
  have HG := Lib.hid hG
  clear h hn hG
  go_enter Try.func18, Try.ntmps18
  go_wp2_with fail
  refine hc.mono ?_
  rintro e w1 ⟨rfl, h1, k1⟩
  have HR1 := Lib.hid h1
  have HK1 := Lib.hid k1
  clear hc h1 k1
  go_wp2_with fail
  go_loopw [7, 12] (fun ov i wr => ∃ (k : Nat) (s' : RS) (acc : List One), k ≤ n ∧ i = .int .i64 k ∧ acc.length = k ∧ rdO (n - k) s' acc = getO s ∧ RdAt wr p s' ∧ wr.ownsRow 0 56 7 ov acc.length (flatO acc) ∧ (∀ j, ov.ownBlock = some j → w.heap.size ≤ j) ∧ Keeps (fun k => k = p) w wr) (fun _ i _ => n - (intOf i).toNat)
  case atStart => exact ⟨0, (countR 16 s).2, [], by omega, rfl, rfl, HG.out.symm, HR1.out, World.ownsRow_nil _ _ _ _, by simp [Value.ownBlock], HK1.out⟩
  case round =>
    obtain ⟨k, s', acc, hk, rfl, hacc, hrd, hR, hown, hnew, hkp⟩ := hrel
    have HA := Lib.hid hacc
    have HD := Lib.hid hrd
    have HR := Lib.hid hR
    have HO := Lib.hid hown
    have HN := Lib.hid hnew
    have HK := Lib.hid hkp
    clear hrd hown hnew hkp
    by_cases hlt : k < n
    · have hm1 := read1_any wr p s' hR
      have HS := Lib.hid (show rdO (n - k) s' acc = if (oneF s').2.e = 0 then rdO (n - (k + 1)) (oneF s').2 (acc ++ [(oneF s').1]) else ([], (oneF s').2) by
        rw [show n - k = (n - (k + 1)) + 1 by omega, rdO])
      obtain ⟨s2, hs2⟩ : ∃ s2, s2 = (oneF s').2 := ⟨_, rfl⟩
      obtain ⟨x, hx⟩ : ∃ x : One, x = (oneF s').1 := ⟨_, rfl⟩
      rw [← hs2, ← hx] at hm1
      have hS2 := HS.out
      rw [← hs2, ← hx] at hS2
      have HS2 := Lib.hid hS2
      clear hS2 hs2 hx hR HS hacc
      go_wp2_with fail
      refine hm1.mono ?_
      rintro e w2 ⟨rfl, h2, k2⟩
      have H2 := Lib.hid h2
      have K2 := Lib.hid k2
      clear hm1 h2 k2
      obtain ⟨xc, xn, ⟨ae, an, at_, av⟩, xe⟩ := x
      unfold One.cells
      simp only
      go_wp2_with (first | (refine wpList_store_fresh _ rfl _ _ _ rfl _ rfl _ rfl w2 _ _ rfl rfl ?_ ?_ info_one ?_ ?_; (focus (simp; done)); (focus (simp; done)); (focus (simp [OneCells, Value.oneCell']; done))) | fail)
      obtain ⟨W3, hW3⟩ : ∃ W3, W3 = w2.alloc (.cells #[.int .u64 xc, .int .u64 xn, .int .i64 ae, .string an, .int .u64 at_, .int .i64 av, .int .i64 xe] 56) := ⟨_, rfl⟩
      rw [← hW3]
      have HX3 : Hid (W3.heap[w2.heap.size]? = some (.cells #[.int .u64 xc, .int .u64 xn, .int .i64 ae, .string an, .int .u64 at_, .int .i64 av, .int .i64 xe] 56 (0, 0))) := Lib.hid (by rw [hW3]; exact heap_new _ _)
      have H3 : Hid (RdAt W3 p s2) := Lib.hid (by rw [hW3]; exact H2.out.alloc _)
      have K3 : Hid (Keeps (fun k => k = p) wr W3) := Lib.hid (by rw [hW3]; exact K2.out.alloc _)
      have hsz3 : w2.heap.size + 1 = W3.heap.size := by rw [hW3]; simp
      have HSZ := Lib.hid hsz3
      clear hW3 hsz3
      have he2 := err_any W3 p s2 H3.out
      cases h0 : (s2.e == 0)
      · have h0' : (s2.e != 0) = true := by rw [bne, h0]; rfl
        have H0 := Lib.hid h0
        clear h0
        refine he2.mono ?_
        rintro e w' ⟨rfl, rfl⟩
        go_wp2_with fail
        go_ret
        have hS := HS2.out
        rw [HD.out, if_neg (by simpa using H0.out)] at hS
        rw [hS]
        exact ⟨_, rfl, H3.out, World.ownsRow_nil _ _ _ _, by simp [Value.ownBlock], HK.out.trans K3.out⟩
      · have h0' : (s2.e != 0) = false := by rw [bne, h0]; rfl
        have H0 := Lib.hid h0
        have HM0 := Lib.hid (show acc.length + 1 ≤ maxLen by have := HA.out; unfold maxLen; omega)
        have HM1 := Lib.hid (show (acc.length + 1) * 64 ≤ 140737488355328 by have := HA.out; omega)
        have HO2 := Lib.hid (owns_kept HO.out K3.out fun j hj e => by have := HN.out j hj; have e' : j = p := e; omega)
        clear h0
        refine he2.mono ?_
        rintro e w' ⟨rfl, rfl⟩
        go_wp2_with (first | (refine wpList_load_all _ rfl _ _ rfl _ rfl _ _ _ _ HX3.out rfl _ Try.underlying56 rfl info_one ?_) | (at_builtin; refine wpList_append_more _ rfl _ _ _ rfl 56 i0 _ 7 64 Try.underlying51 hi hz0 hz1 hz2 rfl (by decide) u7 acc.length (flatO acc) rfl (HO2.out.alloc _) ⟨W3.heap.size, 0, none⟩ 1 1 [.int .u64 xc, .int .u64 xn, .int .i64 ae, .string an, .int .u64 at_, .int .i64 av, .int .i64 xe] rfl rfl (cells7_new _ _ _ _ _ _ _ _ _) (by simp [Value.oneCell']) HM0.out HM1.out ?_; intro v' w3 hown3 hg3 hrow3; have HO3 := Lib.hid hown3; have HG3 := Lib.hid hg3; have HR3 := Lib.hid hrow3; clear hown3 hg3 hrow3))
        go_roundw
        case rel =>
          have hsz2 : w.heap.size ≤ W3.heap.size := Nat.le_trans HK.out.size K3.out.size
          have hk3 : Keeps (fun k => w.heap.size ≤ k) W3 w3 := ((Keeps.refl (fun k => w.heap.size ≤ k) W3).alloc _).trans (grown_keeps HG3.out fun j hj => HN.out j hj.symm)
          have hS := HS2.out
          rw [if_pos (by simpa using H0.out)] at hS
          refine ⟨k + 1, s2, acc ++ [⟨xc, xn, ⟨ae, an, at_, av⟩, xe⟩], by omega, by go_num, by rw [List.length_append, HA.out]; rfl, by rw [← hS]; exact HD.out, H3.out.kept hk3 fun j hj => by omega, ?_, fun j hj => ?_, ?_⟩
          · rw [List.length_append, flatO_snoc]; exact HO3.out
          · rcases HR3.out with h1 | ⟨i, h1, h2, _⟩
            · exact HN.out j (h1 ▸ hj)
            · rw [h1] at hj; cases hj; simp at h2; omega
          · exact keeps_after (HK.out.trans K3.out) hk3 (fun j hj => hj)
        case measure => simp [intOf]; omega
    · obtain rfl : k = n := by omega
      go_wp2_with fail
      go_ret
      have hD := HD.out
      rw [Nat.sub_self, rdO] at hD
      rw [← hD]
      exact ⟨_, rfl, HR.out, HO.out, HN.out, HK.out⟩

end Go.Proofs.Ytckmenongeklpaa

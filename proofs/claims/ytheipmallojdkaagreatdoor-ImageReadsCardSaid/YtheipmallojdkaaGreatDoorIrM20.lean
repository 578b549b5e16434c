/- Jobs as they are read, one behind the other (package octet's Get at jobs). Package sched: Restore: what it keeps. Package cron: number, in, step, part, values, bounds, Parse. -/
import Derived.Test.YtheipmallojdkaaGreatDoorIrM19
import Derived.Test.YtheipmallojdkaaGreatDoorIrM15
import Derived.Test.YtheipmallojdkaaGreatDoorIrM18
import Derived.Test.YtheipmallojdkaaGreatDoorIrM02
import Derived.Test.YtheipmallojdkaaGreatDoorIrM10
import Derived.Test.YtheipmallojdkaaGreatDoorShelf
import Derived.IntWalk
import Derived.Lib.AtoiErrMem
import Derived.Deep.CutRange
import Derived.Deep.QuietTactic
import Derived.BigQuiet

namespace Go.Proofs.YtheipmallojdkaaGreatDoor
open Go.RowKit Go.ChangeMaps

/-- A job, and its row of texts' slice. -/
abbrev JD := Jb × Value
/-- Jobs' cells. -/
def flatJ (xs : List JD) : List Value := (xs.map fun x => (x.1.cells x.2).toList).flatten
theorem flatJ_len (xs : List JD) : (flatJ xs).length = xs.length * 21 := by
  induction xs with
  | nil => rfl
  | cons x xs ih =>
    have e : (flatJ (x :: xs)).length = 21 + (flatJ xs).length := by simp [flatJ, Jb.cells]; omega
    rw [e, ih, List.length_cons]; omega
theorem flatJ_snoc (xs : List JD) (x : JD) : flatJ (xs ++ [x]) = flatJ xs ++ (x.1.cells x.2).toList := by simp [flatJ]

theorem info_job3 : (Tryz.prog.info? 42).map (fun i => (i.zero, i.size, i.bytes)) = some (some (.agg jobZ), 21, 216) := by kernel_rfl

/-- Each job's row of texts, in blocks from B on. -/
def DepsOk (w : World) (B : Nat) (xs : List JD) : Prop := ∀ x ∈ xs, Sl strv w x.2 x.1.sp.deps ∧ ∀ k, x.2.ownBlock = some k → B ≤ k
theorem DepsOk.kept {w w' : World} {B : Nat} {xs : List JD} {S : Nat → Prop} (h : DepsOk w B xs) (hk : Keeps S w w') (hS : ∀ k, B ≤ k → k < w.heap.size → ¬ S k) : DepsOk w' B xs := fun x hx =>
  ⟨(h x hx).1.kept hk fun k hk' => hS k ((h x hx).2 k hk') ((h x hx).1.row_lt k hk'), (h x hx).2⟩

/-- What Get leaves. -/
def GotJs (p : Nat) (js : List Jb) (s : RS) (w : World) (e : Ending) (w' : World) : Prop :=
  ∃ v xs, e = .returned v ∧ RdAt w' p s ∧ w'.ownsRow 0 42 21 v xs.length (flatJ xs) ∧ xs.map (·.1) = js ∧ DepsOk w' w.heap.size xs ∧ (∀ j, v.ownBlock = some j → w.heap.size ≤ j) ∧ Keeps (fun k => k = p) w w'

theorem cells21_new (w : World) (C : Array Value) (t : TypeId) : ∀ j u, C.toList[j]? = some u → (w.alloc (.cells C t)).cell? ((⟨w.heap.size, 0, none⟩ : Addr).add j) = some u := by
  intro j u hj
  rw [addr_add, Nat.zero_add]
  exact blk_cell (heap_new w (.cells C t)) j (by simpa using hj)

set_option maxRecDepth 100000 in
set_option maxHeartbeats 3200000 in
theorem getJs_any (w : World) (p : Nat) (s : RS) (h : RdAt w p s) :
    Calls Tryz.prog 11 #[.pointer (some ⟨p, 0, none⟩), .int .i64 128, .func (Fn.func 12) #[] #[]] w (GotJs p (jobsR s).1 (jobsR s).2 w) := by
  have hc := count_any w p s h 128 (by omega)
  have hc7 : (countR 128 s).1 ≤ 128 := countR_le _ _
  have hpl := h.lt
  obtain ⟨i0, hi, hz0, hz1, hz2⟩ := info_parts info_job3
  obtain ⟨n, hn⟩ : ∃ n, n = (countR 128 s).1 := ⟨_, rfl⟩
  have hG : jobsR s = rdG jobR n (countR 128 s).2 [] := by rw [hn]; rfl
  rw [← hn] at hc hc7
  have HG := Lib.hid hG
  clear h hn hG
  go_enter Tryz.func11, Tryz.ntmps11
  go_wp2_with fail
  refine hc.mono ?_
  rintro e w1 ⟨rfl, h1, k1⟩
  have HR1 := Lib.hid h1
  have HK1 := Lib.hid k1
  clear hc h1 k1
  go_wp2_with fail
  go_loopw [7, 12] (fun ov i wr => ∃ (k : Nat) (s' : RS) (acc : List JD), k ≤ n ∧ i = .int .i64 k ∧ acc.length = k ∧ rdG jobR (n - k) s' (acc.map (·.1)) = jobsR s ∧ RdAt wr p s' ∧ wr.ownsRow 0 42 21 ov acc.length (flatJ acc) ∧ (∀ j, ov.ownBlock = some j → w.heap.size ≤ j) ∧ DepsOk wr w.heap.size acc ∧ (∀ x ∈ acc, ∀ j, x.2.ownBlock = some j → ov.ownBlock ≠ some j) ∧ Keeps (fun k => k = p) w wr) (fun _ i _ => n - (intOf i).toNat)
  case atStart => exact ⟨0, (countR 128 s).2, [], by omega, rfl, rfl, HG.out.symm, HR1.out, World.ownsRow_nil _ _ _ _, by simp [Value.ownBlock], (fun x hx => by cases hx), (fun x hx => by cases hx), HK1.out⟩
  case round =>
    obtain ⟨k, s', acc, hk, rfl, hacc, hrd, hR, hown, hnew, hdep, hap, hkp⟩ := hrel
    have HA := Lib.hid hacc
    have HD := Lib.hid hrd
    have HR := Lib.hid hR
    have HO := Lib.hid hown
    have HN := Lib.hid hnew
    have HP := Lib.hid hdep
    have HAP := Lib.hid hap
    have HK := Lib.hid hkp
    clear hrd hown hnew hkp hdep hap
    by_cases hlt : k < n
    · have hm1 := getJ_any wr p s' hR
      have HS := Lib.hid (show rdG jobR (n - k) s' (acc.map (·.1)) = if (jobR s').2.e = 0 then rdG jobR (n - (k + 1)) (jobR s').2 (acc.map (·.1) ++ [(jobR s').1]) else ([], (jobR s').2) by
        rw [show n - k = (n - (k + 1)) + 1 by omega, rdG])
      obtain ⟨s2, hs2⟩ : ∃ s2, s2 = (jobR s').2 := ⟨_, rfl⟩
      obtain ⟨x, hx⟩ : ∃ x : Jb, x = (jobR s').1 := ⟨_, rfl⟩
      rw [← hs2, ← hx] at hm1
      have hS2 := HS.out
      rw [← hs2, ← hx] at hS2
      have HS2 := Lib.hid hS2
      clear hS2 hs2 hx hR HS hacc
      go_wp2_with fail
      refine hm1.mono ?_
      rintro e w2 ⟨y, dv, rfl, h2, k2, hsl, hdn, hxy⟩
      have H2 := Lib.hid h2
      have K2 := Lib.hid k2
      have HSL := Lib.hid hsl
      have HDN := Lib.hid hdn
      have HXY := Lib.hid hxy
      obtain ⟨ad, cp, rfl, _⟩ := id hsl
      clear hm1 h2 k2 hsl hdn hxy
      obtain ⟨⟨ya, yb, yc, yd, ye, yf, yg, yh, yi, yj, yk⟩, b1, b2, b3, b4, b5, b6, b7, b8, b9, b10⟩ := y
      obtain ⟨dn, hdn⟩ : ∃ dn, dn = ye.length := ⟨_, rfl⟩
      have HDL := Lib.hid hdn
      unfold Jb.v Jb.cells
      simp only
      simp only at HSL
      rw [← hdn] at HSL HDN ⊢
      clear hdn
      go_wp2_with (first | (refine wpList_store_fresh _ rfl _ _ _ rfl _ rfl _ rfl w2 _ _ rfl rfl ?_ ?_ info_jobG ?_ ?_; (focus (simp; done)); (focus (simp; done)); (focus (simp [OneCells, Value.oneCell']; done))) | fail)
      obtain ⟨W3, hW3⟩ : ∃ W3, W3 = w2.alloc (.cells #[.string ya, .string yb, .int .i64 yc, .int .i64 yd, .slice ad dn cp, .int .i64 yf, .int .i64 yg, .int .i64 yh, .int .i64 yi, .string yj, .int .i64 yk, .int .i64 b1, .int .i64 b2, .int .u64 b3, .int .i64 b4, .int .i64 b5, .string b6, .int .u64 b7, .int .i64 b8, .int .i64 b9, .int .i64 b10] 42) := ⟨_, rfl⟩
      rw [← hW3]
      have HX3 : Hid (W3.heap[w2.heap.size]? = some (.cells #[.string ya, .string yb, .int .i64 yc, .int .i64 yd, .slice ad dn cp, .int .i64 yf, .int .i64 yg, .int .i64 yh, .int .i64 yi, .string yj, .int .i64 yk, .int .i64 b1, .int .i64 b2, .int .u64 b3, .int .i64 b4, .int .i64 b5, .string b6, .int .u64 b7, .int .i64 b8, .int .i64 b9, .int .i64 b10] 42 (0, 0))) := Lib.hid (by rw [hW3]; exact heap_new _ _)
      have H3 : Hid (RdAt W3 p s2) := Lib.hid (by rw [hW3]; exact H2.out.alloc _)
      have K3 : Hid (Keeps (fun k => k = p) wr W3) := Lib.hid (by rw [hW3]; exact K2.out.alloc _)
      have HSL3 : Hid (Sl strv W3 (.slice ad dn cp) ye) := Lib.hid (by rw [hW3]; exact HSL.out.alloc _)
      have hsz3 : w2.heap.size + 1 = W3.heap.size := by rw [hW3]; simp
      have HSZ := Lib.hid hsz3
      clear hW3 hsz3
      have he2 := err_any W3 p s2 H3.out
      cases h0 : (s2.e == 0)
      · have h0' : (s2.e != 0) = true := by rw [bne, h0]; rfl
        have H0 := Lib.hid h0
        clear h0
        refine he2.mono ?_
        rintro e w' ⟨rfl, rfl⟩
        go_wp2_with fail
        go_ret
        have hS := HS2.out
        rw [HD.out, if_neg (by simpa using H0.out)] at hS
        rw [hS]
        exact ⟨_, [], rfl, H3.out, World.ownsRow_nil _ _ _ _, rfl, (fun x hx => by cases hx), by simp [Value.ownBlock], HK.out.trans K3.out⟩
      · have h0' : (s2.e != 0) = false := by rw [bne, h0]; rfl
        have H0 := Lib.hid h0
        have HM0 := Lib.hid (show acc.length + 1 ≤ maxLen by have := HA.out; unfold maxLen; omega)
        have HM1 := Lib.hid (show (acc.length + 1) * 216 ≤ 140737488355328 by have := HA.out; omega)
        have HO2 := Lib.hid (owns_kept HO.out K3.out fun j hj e => by have := HN.out j hj; have e' : j = p := e; omega)
        clear h0
        refine he2.mono ?_
        rintro e w' ⟨rfl, rfl⟩
        go_wp2_with (first | (refine wpList_load_all _ rfl _ _ rfl _ rfl _ _ _ _ HX3.out rfl _ Tryz.underlying42 rfl info_jobG ?_) | (at_builtin; go_loud (refine wpList_append_more _ rfl _ _ _ rfl 42 i0 _ 21 216 Tryz.underlying36 hi hz0 hz1 hz2 rfl (by decide) u7 acc.length (flatJ acc) rfl (HO2.out.alloc _) ⟨W3.heap.size, 0, none⟩ 1 1 [.string ya, .string yb, .int .i64 yc, .int .i64 yd, .slice ad dn cp, .int .i64 yf, .int .i64 yg, .int .i64 yh, .int .i64 yi, .string yj, .int .i64 yk, .int .i64 b1, .int .i64 b2, .int .u64 b3, .int .i64 b4, .int .i64 b5, .string b6, .int .u64 b7, .int .i64 b8, .int .i64 b9, .int .i64 b10] rfl rfl (cells21_new _ #[.string ya, .string yb, .int .i64 yc, .int .i64 yd, .slice ad dn cp, .int .i64 yf, .int .i64 yg, .int .i64 yh, .int .i64 yi, .string yj, .int .i64 yk, .int .i64 b1, .int .i64 b2, .int .u64 b3, .int .i64 b4, .int .i64 b5, .string b6, .int .u64 b7, .int .i64 b8, .int .i64 b9, .int .i64 b10] _) (by simp [Value.oneCell']) HM0.out HM1.out ?_; intro v' w3 hown3 hg3 hrow3; have HO3 := Lib.hid hown3; have HG3 := Lib.hid hg3; have HR3 := Lib.hid hrow3; clear hown3 hg3 hrow3)))
        go_roundw
        case rel =>
          have hsz2 : w.heap.size ≤ W3.heap.size := Nat.le_trans HK.out.size K3.out.size
          have hk3 : Keeps (fun k => u7.ownBlock = some k) W3 w3 := ((Keeps.refl (fun k => u7.ownBlock = some k) W3).alloc _).trans (grown_keeps HG3.out fun j hj => hj.symm)
          have hk3' : Keeps (fun k => w.heap.size ≤ k) W3 w3 := hk3.mono fun k _ e => HN.out k e
          have hS := HS2.out
          rw [if_pos (by simpa using H0.out)] at hS
          have hzw := HK.out.size
          have hlt7 : ∀ j, u7.ownBlock = some j → j < wr.heap.size := fun j hj => (HO.out.lt j hj).2
          refine ⟨k + 1, s2, acc ++ [(⟨⟨ya, yb, yc, yd, ye, yf, yg, yh, yi, yj, yk⟩, b1, b2, b3, b4, b5, b6, b7, b8, b9, b10⟩, .slice ad dn cp)], by omega, by go_num, by rw [List.length_append, HA.out]; rfl, ?_, H3.out.kept hk3' fun j hj => by omega, ?_, fun j hj => ?_, fun x hx => ?_, fun x hx j hj => ?_, ?_⟩
          · rw [List.map_append, List.map_singleton, HXY.out (by simpa using H0.out), ← hS]; exact HD.out
          · rw [List.length_append, flatJ_snoc]; exact HO3.out
          · rcases HR3.out with h1 | ⟨i, h1, h2, _⟩
            · exact HN.out j (h1 ▸ hj)
            · rw [h1] at hj; cases hj; simp at h2; omega
          · rcases List.mem_append.1 hx with hx | hx
            · have := HP.out x hx
              refine ⟨(this.1.kept K3.out fun k hk e => by have := (HP.out x hx).2 k hk; have e' : k = p := e; omega).kept hk3 fun k hk e => ?_, this.2⟩
              exact HAP.out x hx k hk e
            · simp at hx
              subst hx
              refine ⟨HSL3.out.kept hk3 fun k hk e => ?_, fun k hk => by have := HDN.out k hk; omega⟩
              have h1 := HDN.out k hk
              have h2 := hlt7 k e
              omega
          · have hvj : ∀ j, v'.ownBlock = some j → u7.ownBlock = some j ∨ W3.heap.size < j := fun j hj => by
              rcases HR3.out with h1 | ⟨i, h1, h2, _⟩
              · exact .inl (h1 ▸ hj)
              · rw [h1] at hj; cases hj; right; simp at h2; omega
            intro hv
            have hzk := K3.out.size
            rcases hvj j hv with h1 | h1
            · rcases List.mem_append.1 hx with hx | hx
              · exact HAP.out x hx j hj h1
              · simp at hx
                subst hx
                have h2 := HDN.out j hj
                have h3 := hlt7 j h1
                omega
            · rcases List.mem_append.1 hx with hx | hx
              · have := (HP.out x hx).1.row_lt j hj
                omega
              · simp at hx
                subst hx
                have := HSL3.out.row_lt j hj
                omega
          · exact keeps_after (HK.out.trans K3.out) hk3' (fun j hj => hj)
        case measure => simp [intOf]; omega
    · obtain rfl : k = n := by omega
      go_wp2_with fail
      go_ret
      have hD := HD.out
      rw [Nat.sub_self, rdG] at hD
      rw [← hD]
      exact ⟨_, acc, rfl, HR.out, HO.out, rfl, HP.out, HN.out, HK.out⟩

end Go.Proofs.YtheipmallojdkaaGreatDoor

namespace Go.Proofs.YtheipmallojdkaaGreatDoor
open Go.RowKit Go.Maps Go.ChangeMaps

section
variable {α β : Type} [DecidableEq α]
theorem aset_new (a : α) (b : β) : ∀ l : List (α × β), aget a l = none → aset a b l = l ++ [(a, b)]
  | [], _ => rfl
  | (x, c) :: r, h => by
    by_cases e : x = a
    · simp [aget, e] at h
    · rw [aget, if_neg e] at h
      rw [aset, if_neg e, aset_new a b r h, List.cons_append]
end

section
variable {w : World} {B s mj g r u q : Nat} {F : Nat → Prop} {now each order : Int} {js : List JE} {n : Nat}

/-- The order is set. -/
theorem SAt.order_ (h : SAt w B s mj g r u q F now each order js n) (o : Int) : SAt (w.setCell ⟨s, 2, none⟩ (.int .u64 o)) B s mj g r u q F now each o js n := by
  have hk : Keeps (fun k => k = s) w (w.setCell ⟨s, 2, none⟩ (.int .u64 o)) := (Keeps.refl (fun k => k = s) w).setCell (.inl rfl) _
  have hne : mj ≠ s := fun e => by
    obtain ⟨es, cl, hm, _⟩ := h.map
    have := h.box
    rw [← e, hm] at this
    cases this
  refine ⟨blk_set h.box 2 _, h.map.kept hk hne, fun x hx => ?_, h.eng.kept hk fun k hk' e => h.fs (e ▸ hk'), h.bs, h.bm, h.fs, h.fm, h.ff⟩
  obtain ⟨a, b, c, d, e, f⟩ := h.jobs x hx
  exact ⟨hk.heap f a, b.kept hk fun k hk' => (c k hk').2.2.1, c, d, e, f⟩

/-- A job more. -/
theorem SAt.push (h : SAt w B s mj g r u q F now each order js n) {j : Jb} {b : Nat} {dv : Value} (hb : w.heap[b]? = some (.cells (j.cells dv) 42 (0, 0))) (hd : Sl strv w dv j.sp.deps) (hf : ∀ k, dv.ownBlock = some k → B ≤ k ∧ ¬ F k ∧ k ≠ s ∧ k ≠ mj) (hB : B ≤ b) (hF : ¬ F b) (hs : b ≠ s)
    (hnew : aget j.sp.name (js.map fun x => (x.j.sp.name, x.b)) = none) (ob : Obj) (hM : SMap ptrV (setBlock w mj ob) mj (aset j.sp.name b (js.map fun x => (x.j.sp.name, x.b)))) : SAt (setBlock w mj ob) B s mj g r u q F now each order (js ++ [⟨j, b, dv⟩]) n := by
  have hk : Keeps (fun k => k = mj) w (setBlock w mj ob) := (Keeps.refl (fun k => k = mj) w).setBlock (.inl rfl) ob
  have hne : ∀ {k : Nat} {C : Array Value} {T : TypeId}, w.heap[k]? = some (.cells C T (0, 0)) → k ≠ mj := fun hc e => by
    obtain ⟨es, cl, hm, _⟩ := h.map
    rw [e, hm] at hc
    cases hc
  refine ⟨hk.heap (hne h.box) h.box, ?_, fun x hx => ?_, h.eng.kept hk fun k hk' e => h.fm (e ▸ hk'), h.bs, h.bm, h.fs, h.fm, h.ff⟩
  · rw [aset_new _ _ _ hnew] at hM
    simpa using hM
  · rcases List.mem_append.1 hx with hx | hx
    · obtain ⟨a, b, c, d, e, f⟩ := h.jobs x hx
      exact ⟨hk.heap (hne a) a, b.kept hk fun k hk' => (c k hk').2.2.2, c, d, e, f⟩
    · simp at hx
      subst hx
      exact ⟨hk.heap (hne hb) hb, hd.kept hk fun k hk' => (hf k hk').2.2.2, hf, hB, hF, hs⟩
end

/-- A scheduler under way: so many jobs. -/
def Mid (w0 : World) (s mj g r u q : Nat) (now each order : Int) (js : List Jb) (m : Nat) (w : World) : Prop :=
  Below w0.heap.size w0 w ∧ ∃ F jes n, SAt w w0.heap.size s mj g r u q F now each order jes n ∧ jes.map (·.j) = js ∧ n ≤ m

def RestP (w : World) (now each order : Int) (js : List Jb) (e : Ending) (w' : World) : Prop :=
  (Below w.heap.size w w' ∧ ∃ er : Int, er ≠ 0 ∧ e = .returned (.tuple #[.pointer none, .int .i64 er])) ∨
    ∃ s mj g r u q, e = .returned (.tuple #[.pointer (some ⟨s, 0, none⟩), .int .i64 0]) ∧ Mid w s mj g r u q now each order js 1000 w' ∧ js.length ≤ 128 ∧ beginB now each

theorem info_job4 : (Tryz.prog.info? 42).map (·.size) = some 21 := by kernel_rfl
theorem info_spec4 : (Tryz.prog.info? 40).map (·.size) = some 11 := by kernel_rfl

end Go.Proofs.YtheipmallojdkaaGreatDoor

namespace Go.Proofs.YtheipmallojdkaaGreatDoor
open Go.RowKit

/-- The library's variable MaxLen holds some int. -/
def MaxL (w : World) : Prop := ∃ m, w.cell? ⟨0, 0, none⟩ = some (.int .i64 m)
theorem MaxL.below {w w' : World} {B : Nat} (h : MaxL w) (hb : Below B w w') (hB : 0 < B) : MaxL w' := by
  obtain ⟨m, hm⟩ := h
  exact ⟨m, (bcell hb _ _ hB).trans hm⟩
theorem MaxL.lt {w : World} (h : MaxL w) : 0 < w.heap.size := by
  obtain ⟨m, hm⟩ := h
  exact cell_lt hm
theorem MaxL.step {w w' : World} (h : MaxL w) (hb : Below w.heap.size w w') : MaxL w' := h.below hb h.lt
theorem MaxL.alloc {w : World} (h : MaxL w) (o : Obj) : MaxL (w.alloc o) := h.step ((Below.refl _ _).alloc (Nat.le_refl _) _)
theorem MaxL.drewN {w : World} (h : MaxL w) (n : Nat) : MaxL (w.drewN n) := h
theorem MaxL.drew {w : World} (h : MaxL w) : MaxL w.drew := h


theorem bel_drewN {B : Nat} {a w : World} (h : Below B a w) (n : Nat) : Below B a (w.drewN n) := ⟨h.os, h.tape, h.output, h.size, h.block⟩
theorem bel_drew {B : Nat} {a w : World} (h : Below B a w) : Below B a w.drew := ⟨h.os, h.tape, h.output, h.size, h.block⟩

theorem strCut_any (w : World) (c : UInt8) (s : Bs) (hm : MaxL w) (hs : s.length < 4294967281) :
    Calls Tryz.prog 119 #[.string ⟨s.toArray⟩, .string ⟨#[c]⟩] w fun e w' => e = .returned (.tuple #[.string ⟨(cutL c s).1.toArray⟩, .string ⟨(cutL c s).2.1.toArray⟩, .bool (cutL c s).2.2]) ∧ ∃ n, w' = w.drewN n := by
  obtain ⟨m, hm⟩ := hm
  have h := Any.strings_Cut Tryz.lays145 ⟨s.toArray⟩ ⟨#[c]⟩ m w hs hm
  have e : Lib.cut (⟨s.toArray⟩ : ByteArray).data.toList (⟨#[c]⟩ : ByteArray).data.toList = cutL c s := cut_eq c s
  rw [e] at h
  exact h
theorem strSplit_any (w : World) (c : UInt8) (s : Bs) (hm : MaxL w) (hs : s.length < 4294967281) :
    Calls Tryz.prog 87 #[.string ⟨s.toArray⟩, .string ⟨#[c]⟩] w fun e w' => e = .returned (.slice (some ⟨w.heap.size, 0, none⟩) (splitL c s).length (splitL c s).length) ∧ w' = w.alloc (.cells ((splitL c s).map fun p => Value.string ⟨p.toArray⟩).toArray 9) := by
  obtain ⟨m, hm⟩ := hm
  have h := Any.strings_Split Tryz.lays146 (by kernel_rfl) ⟨s.toArray⟩ ⟨#[c]⟩ m w hs hm (Nat.le_refl 1)
  rw [split_eq, split_len, List.map_map] at h
  exact h
theorem strIndex_any (w : World) (t s : Bs) (hm : MaxL w) (hs : t.length < 4294967281) :
    Calls Tryz.prog 118 #[.string ⟨t.toArray⟩, .string ⟨s.toArray⟩] w (Ret (.int .i64 (Lib.index t s)) w) := by
  obtain ⟨m, hm⟩ := hm
  exact (Any.strings_Index Tryz.lays143 ⟨t.toArray⟩ ⟨s.toArray⟩ m w hs hm).mono fun e w' h => ⟨h.1, h.2.symm⟩
theorem strTrim_any (w : World) (s : Bs) (hs : s.length ≤ 9223372036854775807) :
    Calls Tryz.prog 132 #[.string ⟨s.toArray⟩, .string ⟨#[48, 49, 50, 51, 52, 53, 54, 55, 56, 57]⟩] w (RetB (.string ⟨(Lib.trimS s digits10).toArray⟩) w) :=
  Any.strings_Trim_laid Tryz.lays160 (by kernel_rfl) ⟨s.toArray⟩ ⟨#[48, 49, 50, 51, 52, 53, 54, 55, 56, 57]⟩ w hs (by decide) (ascii_of_all (by decide))
theorem strAtoi_any (w : World) (s : Bs) (h : s.all digB = true) (h1 : 1 ≤ s.length) (h2 : s.length ≤ 2) :
    Calls Tryz.prog 133 #[.string ⟨s.toArray⟩] w (RetB (.tuple #[.int .i64 (decV s), .nilIface]) w) :=
  (Any.strconv_Atoi Tryz.lays172 ⟨s.toArray⟩ (decV s) (by show s.length ≤ 18; omega) (atoi_digits s h h1 h2) w).mono fun e w' ⟨he, t, ht⟩ => ⟨he, by
    rw [ht]
    exact Lib.bytesWorld_below w _ t⟩

def Fld.v (f : Fld) : Value := .agg #[.int .i64 f.low, .int .i64 f.high, .string ⟨f.names.toArray⟩]


def numV (f : Fld) (s : Bs) : Value := .tuple #[.int .i64 (numF f s).1, .bool (numF f s).2]

set_option maxHeartbeats 1000000 in
theorem number_name (w : World) (f : Fld) (s : Bs) (hm : MaxL w) (h3 : s.length = 3) (hn : f.names ≠ []) (hnl : f.names.length ≤ 36) (hl : 0 ≤ f.low ∧ f.low ≤ 1) :
    Calls Tryz.prog 120 #[f.v, .string ⟨s.toArray⟩] w (RetB (numV f s) w) := by
  have hi := fun W (hW : MaxL W) => strIndex_any W f.names s hW (by omega)
  have hm1 := hm.alloc (.cells #[.int .i64 f.low, .int .i64 f.high, .string ⟨f.names.toArray⟩] 161)
  have hr := Lib.index_ge f.names s
  have hr2 := index_le f.names s
  have hne : (f.names == []) = false := by simpa using hn
  have hne2 : (f.names != []) = true := by simpa using hn
  have EN : Hid (numF f s = if 0 ≤ Lib.index f.names s ∧ Lib.index f.names s % 3 = 0 then (f.low + Lib.index f.names s / 3, true) else (0, false)) := Lib.hid (by unfold numF; rw [if_pos ⟨h3, hn⟩])
  have hl1 := hl.1
  have hl2 := hl.2
  unfold Fld.v numV
  rw [EN.out]
  clear hn hl hm
  generalize Lib.index f.names s = i at *
  by_cases h0 : 0 ≤ i
  · by_cases hz : i % 3 = 0
    · rw [if_pos ⟨h0, hz⟩]
      go_enter Tryz.func120, Tryz.ntmps120
      go_wp2_with fail
      refine (hi _ hm1).mono ?_
      rintro e w' ⟨rfl, rfl⟩
      go_wp2
      go_ret2
      exact RetB.mk rfl ((Below.refl _ _).alloc (Nat.le_refl _) _)
    · have hzb : (i % 3 == 0) = false := by simpa using hz
      rw [if_neg (by rintro ⟨_, h⟩; exact hz h)]
      clear hz
      go_enter Tryz.func120, Tryz.ntmps120
      go_wp2_with fail
      refine (hi _ hm1).mono ?_
      rintro e w' ⟨rfl, rfl⟩
      go_wp2
      go_ret2
      exact RetB.mk rfl ((Below.refl _ _).alloc (Nat.le_refl _) _)
  · rw [if_neg (by rintro ⟨h, _⟩; exact h0 h)]
    go_enter Tryz.func120, Tryz.ntmps120
    go_wp2_with fail
    refine (hi _ hm1).mono ?_
    rintro e w' ⟨rfl, rfl⟩
    go_wp2
    go_ret2
    exact RetB.mk rfl ((Below.refl _ _).alloc (Nat.le_refl _) _)

set_option maxHeartbeats 1000000 in
theorem number_len (w : World) (f : Fld) (s : Bs) (h3 : s.length = 3 → f.names = []) (h : s.length < 1 ∨ 2 < s.length) (hs : s.length ≤ 9223372036854775807) :
    Calls Tryz.prog 120 #[f.v, .string ⟨s.toArray⟩] w (RetB (numV f s) w) := by
  have EN : Hid (numF f s = (0, false)) := Lib.hid (by
    unfold numF
    rw [if_neg (by rintro ⟨a, b⟩; exact b (h3 a)), if_pos (by omega)])
  unfold Fld.v numV
  rw [EN.out]
  by_cases hl3 : s.length = 3
  · have hn := h3 hl3
    rw [hn]
    clear h h3 hn EN
    go_enter Tryz.func120, Tryz.ntmps120
    go_wp2_with fail
    go_ret2
    exact RetB.mk rfl ((Below.refl _ _).alloc (Nat.le_refl _) _)
  · rcases h with h | h
    all_goals
      have hb3 : ((s.length : Int) == 3) = false := by simp; omega
      clear h3 EN hl3
      go_enter Tryz.func120, Tryz.ntmps120
      go_wp2_with fail
      go_ret2
      exact RetB.mk rfl ((Below.refl _ _).alloc (Nat.le_refl _) _)

set_option maxHeartbeats 1000000 in
theorem number_dig (w : World) (f : Fld) (s : Bs) (h1 : 1 ≤ s.length) (h2 : s.length ≤ 2) :
    Calls Tryz.prog 120 #[f.v, .string ⟨s.toArray⟩] w (RetB (numV f s) w) := by
  have ht := fun W => strTrim_any W s (by omega)
  have hb3 : ((s.length : Int) == 3) = false := by simp; omega
  cases hd : s.all digB with
  | false =>
    have EN : Hid (numF f s = (0, false)) := Lib.hid (by
      unfold numF
      rw [if_neg (by omega), if_pos (.inr (.inr hd))])
    have hne : (Lib.trimS s digits10 != []) = true := by
      have : ¬ Lib.trimS s digits10 = [] := fun e => by have := (trim_digits s).1 e; rw [hd] at this; cases this
      simpa using this
    have hne3 : (Lib.trimS s digits10 == []) = false := by
      have : ¬ Lib.trimS s digits10 = [] := fun e => by have := (trim_digits s).1 e; rw [hd] at this; cases this
      simpa using this
    unfold Fld.v numV
    rw [EN.out]
    generalize Lib.trimS s digits10 = r at *
    clear hd EN
    go_enter Tryz.func120, Tryz.ntmps120
    go_wp2_with fail
    refine (ht _).mono ?_
    rintro e w' ⟨rfl, hb⟩
    go_wp2_with fail
    go_ret2
    exact RetB.mk rfl (((Below.refl _ _).alloc (Nat.le_refl _) _).trans (hb.mono (by simp)))
  | true =>
    have EN : Hid (numF f s = (decV s, true)) := Lib.hid (by
      unfold numF
      rw [if_neg (by omega), if_neg (by rintro (h | h | h); omega; omega; rw [hd] at h; cases h)])
    have ha := fun W => strAtoi_any W s hd h1 h2
    have he : Lib.trimS s digits10 = [] := (trim_digits s).2 hd
    rw [he] at ht
    unfold Fld.v numV
    rw [EN.out]
    generalize decV s = d at *
    clear hd EN he
    go_enter Tryz.func120, Tryz.ntmps120
    go_wp2_with fail
    refine (ht _).mono ?_
    rintro e w' ⟨rfl, hb⟩
    go_wp2_with fail
    refine (ha _).mono ?_
    rintro e w'' ⟨rfl, hb2⟩
    go_wp2_with fail
    go_ret2
    have hb1 := (((Below.refl _ w).alloc (Nat.le_refl _) (.cells #[.int .i64 f.low, .int .i64 f.high, .string ⟨f.names.toArray⟩] 161))).trans (hb.mono (by simp))
    exact RetB.mk rfl (hb1.trans (hb2.mono hb1.size))

theorem cronNumber_any (w : World) (f : Fld) (s : Bs) (hm : MaxL w) (hnl : f.names.length ≤ 36) (hl : 0 ≤ f.low ∧ f.low ≤ 1) (hs : s.length ≤ 9223372036854775807) :
    Calls Tryz.prog 120 #[f.v, .string ⟨s.toArray⟩] w (RetB (numV f s) w) := by
  by_cases h : s.length = 3 ∧ f.names ≠ []
  · exact number_name w f s hm h.1 h.2 hnl hl
  · by_cases h2 : s.length < 1 ∨ 2 < s.length
    · exact number_len w f s (fun a => Classical.byContradiction fun b => h ⟨a, b⟩) h2 hs
    · exact number_dig w f s (by omega) (by omega)

theorem cronIn_any (w : World) (f : Fld) (n : Int) : Calls Tryz.prog 121 #[f.v, .int .i64 n] w (RetB (.bool (inF f n)) w) := by
  unfold Fld.v
  have EI := Lib.hid (show inF f n = (decide (f.low ≤ n) && decide (n ≤ f.high)) from rfl)
  by_cases h1 : f.low ≤ n
  · by_cases h2 : n ≤ f.high
    all_goals
      go_enter Tryz.func121, Tryz.ntmps121
      go_wp2
      go_ret
      exact RetB.mk (bool_eq (by rw [EI.out]; first | (simp [*]; done) | (simp [*]; omega))) ((Below.refl _ _).alloc (Nat.le_refl _) _)
  · go_enter Tryz.func121, Tryz.ntmps121
    go_wp2
    go_ret
    exact RetB.mk (bool_eq (by rw [EI.out]; first | (simp [*]; done) | (simp [*]; omega))) ((Below.refl _ _).alloc (Nat.le_refl _) _)

def stepV (s : Bs) (is : Bool) : Value := .tuple #[.int .i64 (stepF s is).1, .int .i64 (stepF s is).2]

set_option maxHeartbeats 1000000 in
theorem cronStep_any (w : World) (s : Bs) (is : Bool) (hm : MaxL w) (hs : s.length ≤ 9223372036854775807) : Calls Tryz.prog 122 #[.string ⟨s.toArray⟩, .bool is] w (RetB (stepV s is) w) := by
  have hn := cronNumber_any w Fld.none s hm (by decide) (by decide) hs
  have hr := numF_range Fld.none s (by decide) (by decide)
  have ES := Lib.hid (show stepF s is = if is = false then (1, 0) else if (numF Fld.none s).2 = false then (0, 2) else if (numF Fld.none s).1 < 1 ∨ 60 < (numF Fld.none s).1 then (0, 3) else ((numF Fld.none s).1, 0) from rfl)
  unfold numV at hn
  unfold stepV
  rw [ES.out]
  clear ES hm
  generalize numF Fld.none s = r at *
  obtain ⟨n, ok⟩ := r
  simp only at *
  obtain ⟨r0, r1⟩ := hr
  change Calls Tryz.prog 120 #[.agg #[.int .i64 0, .int .i64 0, .string ⟨#[]⟩], .string ⟨s.toArray⟩] w _ at hn
  cases is
  · go_enter Tryz.func122, Tryz.ntmps122
    go_wp2
    go_ret2
    exact RetB.mk rfl (Below.refl _ _)
  · cases ok
    · go_enter Tryz.func122, Tryz.ntmps122
      go_wp2_with fail
      refine hn.mono ?_
      rintro e w' ⟨rfl, hb⟩
      go_wp2
      go_ret2
      exact RetB.mk rfl hb
    · by_cases hlo : n < 1
      · rw [if_neg (by simp), if_neg (by simp), if_pos (.inl hlo)]
        go_enter Tryz.func122, Tryz.ntmps122
        go_wp2_with fail
        refine hn.mono ?_
        rintro e w' ⟨rfl, hb⟩
        go_wp2
        go_ret2
        exact RetB.mk rfl hb
      · by_cases hhi : 60 < n
        · rw [if_neg (by simp), if_neg (by simp), if_pos (.inr hhi)]
          go_enter Tryz.func122, Tryz.ntmps122
          go_wp2_with fail
          refine hn.mono ?_
          rintro e w' ⟨rfl, hb⟩
          go_wp2
          go_ret2
          exact RetB.mk rfl hb
        · rw [if_neg (by simp), if_neg (by simp), if_neg (by omega)]
          go_enter Tryz.func122, Tryz.ntmps122
          go_wp2_with fail
          refine hn.mono ?_
          rintro e w' ⟨rfl, hb⟩
          go_wp2
          go_ret2
          exact RetB.mk rfl hb

end Go.Proofs.YtheipmallojdkaaGreatDoor

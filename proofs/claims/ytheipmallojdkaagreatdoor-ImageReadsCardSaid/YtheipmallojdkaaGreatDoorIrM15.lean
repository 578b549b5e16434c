/- A job as a value; its bytes; what is read of bytes is written back as these bytes (plain). Package sched: a scheduler's blocks; New. Package sched: place, link: what they leave of the parts. -/
import Derived.Test.YtheipmallojdkaaGreatDoorIrM14
import Derived.Test.YtheipmallojdkaaGreatDoorIrM10
import Derived.Test.YtheipmallojdkaaGreatDoorIrM05

namespace Go.Proofs.YtheipmallojdkaaGreatDoor
open Go.RowKit

/-- A job. -/
structure Jb where
  sp : Sp
  state : Int
  due : Int
  tok : Int
  failed : Int
  res : Int
  worker : ByteArray
  order : Int
  created : Int
  runs : Int
  missed : Int

def Jb.cells (j : Jb) (dv : Value) : Array Value := #[.string j.sp.name, .string j.sp.ten, .int .i64 j.sp.pri, .int .i64 j.sp.delay, dv, .int .i64 j.sp.base, .int .i64 j.sp.cap, .int .i64 j.sp.att, .int .i64 j.sp.lease, .string j.sp.cron, .int .i64 j.sp.catch_, .int .i64 j.state, .int .i64 j.due, .int .u64 j.tok, .int .i64 j.failed, .int .i64 j.res, .string j.worker, .int .u64 j.order, .int .i64 j.created, .int .i64 j.runs, .int .i64 j.missed]
def Jb.v (j : Jb) (dv : Value) : Value := .agg (j.cells dv)

def Sp.zero : Sp := ⟨⟨#[]⟩, ⟨#[]⟩, 0, 0, [], 0, 0, 0, 0, ⟨#[]⟩, 0⟩
def Jb.zero : Jb := ⟨Sp.zero, 0, 0, 0, 0, 0, ⟨#[]⟩, 0, 0, 0, 0⟩

def strB (s : ByteArray) : List UInt8 := textB s.data.toList
def nuB (x : Int) : List UInt8 := numB x.toNat
def depsB (l : List ByteArray) : List UInt8 := numB l.length ++ (l.map strB).flatten
/-- A spec's bytes, a job's. -/
def specB (s : Sp) : List UInt8 := strB s.name ++ (strB s.ten ++ (intB s.pri ++ (intB s.delay ++ (depsB s.deps ++ (intB s.base ++ (intB s.cap ++ (intB s.att ++ (intB s.lease ++ (strB s.cron ++ intB s.catch_)))))))))
def jobB (j : Jb) : List UInt8 := specB j.sp ++ (intB j.state ++ (intB j.due ++ (nuB j.tok ++ (intB j.failed ++ (intB j.res ++ (strB j.worker ++ (nuB j.order ++ (intB j.created ++ (intB j.runs ++ intB j.missed)))))))))
def jobsB (l : List Jb) : List UInt8 := numB l.length ++ (l.map jobB).flatten

/-! ### readers, one behind the other -/
section
variable {α β : Type}
def seqR (f : RS → α × RS) (g : RS → β × RS) (s : RS) : (α × β) × RS := (((f s).1, (g (f s).2).1), (g (f s).2).2)

/-- What is read without a fault is what it is written as. -/
def BackR (p : α → Prop) (f : RS → α × RS) (enc : α → List UInt8) : Prop := ∀ s, (f s).2.e = 0 → s = ⟨enc (f s).1 ++ (f s).2.b, 0⟩ ∧ p (f s).1

theorem BackR.seq {p : α → Prop} {q : β → Prop} {f : RS → α × RS} {g : RS → β × RS} {ef : α → List UInt8} {eg : β → List UInt8} (hf : BackR p f ef) (hg : BackR q g eg) : BackR (fun x => p x.1 ∧ q x.2) (seqR f g) (fun x => ef x.1 ++ eg x.2) := by
  intro s h
  obtain ⟨h1, h2⟩ := hg (f s).2 h
  obtain ⟨h3, h4⟩ := hf s (by rw [h1])
  refine ⟨?_, h4, h2⟩
  have e : (f s).2.b = eg (g (f s).2).1 ++ (g (f s).2).2.b := congrArg RS.b h1
  refine h3.trans ?_
  rw [e]
  simp [seqR, List.append_assoc]

/-- So many, one behind the other; nothing, if one is none. -/
def rdG (f : RS → α × RS) : Nat → RS → List α → List α × RS
  | 0, s, acc => (acc, s)
  | n + 1, s, acc => if (f s).2.e = 0 then rdG f n (f s).2 (acc ++ [(f s).1]) else ([], (f s).2)
def getG (m : Nat) (f : RS → α × RS) (s : RS) : List α × RS := rdG f (countR m s).1 (countR m s).2 []

theorem rdG_back {p : α → Prop} {f : RS → α × RS} {enc : α → List UInt8} (hf : BackR p f enc) : ∀ (n : Nat) (s : RS) (acc : List α), (rdG f n s acc).2.e = 0 → ∃ ys, ys.length = n ∧ (rdG f n s acc).1 = acc ++ ys ∧ s = ⟨(ys.map enc).flatten ++ (rdG f n s acc).2.b, 0⟩ ∧ ∀ y ∈ ys, p y
  | 0, s, acc, h => ⟨[], rfl, by simp [rdG], by simp [rdG] at h ⊢; cases s; simp_all, by simp⟩
  | n + 1, s, acc, h => by
    by_cases h0 : (f s).2.e = 0
    · have e : rdG f (n + 1) s acc = rdG f n (f s).2 (acc ++ [(f s).1]) := by rw [rdG, if_pos h0]
      rw [e] at h ⊢
      obtain ⟨ys, h1, h2, h3, h4⟩ := rdG_back hf n _ _ h
      obtain ⟨g1, g2⟩ := hf s h0
      refine ⟨(f s).1 :: ys, by simp [h1], by rw [h2]; simp, ?_, fun y hy => ?_⟩
      · have hb := congrArg RS.b h3
        simp only at hb
        refine g1.trans ?_
        rw [hb]
        simp
      · rcases List.mem_cons.1 hy with rfl | hy
        · exact g2
        · exact h4 y hy
    · have e : rdG f (n + 1) s acc = ([], (f s).2) := by rw [rdG, if_neg h0]
      rw [e] at h
      exact absurd h h0

theorem getG_back {p : α → Prop} {f : RS → α × RS} {enc : α → List UInt8} (m : Nat) (hf : BackR p f enc) : BackR (fun l : List α => l.length ≤ m ∧ ∀ x ∈ l, p x) (getG m f) (fun l => numB l.length ++ (l.map enc).flatten) := by
  intro s h
  obtain ⟨ys, g1, g2, g3, g4⟩ := rdG_back hf _ _ _ (show (rdG f (countR m s).1 (countR m s).2 []).2.e = 0 from h)
  rw [List.nil_append] at g2
  have e : (getG m f s).1 = ys := g2
  have hc := countR_back (m := m) (s := s) (by rw [g3])
  rw [e]
  refine ⟨?_, by rw [g1]; exact hc.2, g4⟩
  have hb : (countR m s).2.b = _ := congrArg RS.b g3
  refine hc.1.trans ?_
  rw [hb]
  simp only [g1]
  simp [getG]

theorem rdG_len (f : RS → α × RS) : ∀ (n : Nat) (s : RS) (acc : List α), (rdG f n s acc).1.length ≤ n + acc.length
  | 0, s, acc => by simp [rdG]
  | n + 1, s, acc => by
    unfold rdG
    split
    · have := rdG_len f n (f s).2 (acc ++ [(f s).1])
      simp at this
      omega
    · simp
theorem countR_le (m : Nat) (s : RS) : (countR m s).1 ≤ m := by
  unfold countR
  split
  · exact Nat.zero_le _
  · omega
theorem getG_len (m : Nat) (f : RS → α × RS) (s : RS) : (getG m f s).1.length ≤ m := by
  have h := rdG_len f (countR m s).1 (countR m s).2 []
  have h2 := countR_le m s
  simp at h
  unfold getG
  omega
end

def texR (s : RS) : ByteArray × RS := (⟨(textR 255 s).1.toArray⟩, (textR 255 s).2)
def nuR (s : RS) : Int × RS := (((numR s).1 : Nat), (numR s).2)
def depsR : RS → List ByteArray × RS := getG 255 texR

theorem zag_i64 {n : Nat} (h : n < 18446744073709551616) : i64B (zag n) := by
  unfold i64B zag
  split <;> omega
theorem texR_back : BackR (fun t => t.size ≤ 255) texR strB := by
  intro s h
  obtain ⟨h1, h2⟩ := textR_back (m := 255) (s := s) h
  exact ⟨by simpa [strB, texR] using h1, by simpa [texR, ByteArray.size] using h2⟩
theorem int_backR : BackR i64B intR intB := fun s h => ⟨intR_back h, zag_i64 (numR_lt s)⟩
theorem nuR_back : BackR (fun x => 0 ≤ x ∧ x ≤ 18446744073709551615) nuR nuB := by
  intro s h
  have := numR_lt s
  refine ⟨by simpa [nuB, nuR] using numR_back h, ?_⟩
  simp only [nuR]
  omega
theorem depsR_back : BackR (fun l : List ByteArray => l.length ≤ 255 ∧ ∀ x ∈ l, x.size ≤ 255) depsR depsB := getG_back 255 texR_back

abbrev SpT := ByteArray × ByteArray × Int × Int × List ByteArray × Int × Int × Int × Int × ByteArray × Int
def specT : RS → SpT × RS := seqR texR (seqR texR (seqR intR (seqR intR (seqR depsR (seqR intR (seqR intR (seqR intR (seqR intR (seqR texR intR)))))))))
def toSp : SpT → Sp := fun ⟨a, b, c, d, e, f, g, h, i, j, k⟩ => ⟨a, b, c, d, e, f, g, h, i, j, k⟩
def specR (s : RS) : Sp × RS := (toSp (specT s).1, (specT s).2)

/-- The bounds of what is read. -/
structure Sp.small (s : Sp) : Prop where
  name : s.name.size ≤ 255
  ten : s.ten.size ≤ 255
  cron : s.cron.size ≤ 255
  dlen : s.deps.length ≤ 255
  deps : ∀ d ∈ s.deps, d.size ≤ 255
  pri : i64B s.pri
  delay : i64B s.delay
  base : i64B s.base
  cap : i64B s.cap
  att : i64B s.att
  lease : i64B s.lease
  catch_ : i64B s.catch_
theorem Sp.small.wf {s : Sp} (h : s.small) : s.Wf :=
  ⟨by have := h.name; unfold maxLen; omega, by have := h.ten; unfold maxLen; omega, by have := h.cron; unfold maxLen; omega, fun d hd => by have := h.deps d hd; unfold maxLen; omega, h.pri, h.delay, h.base, h.cap, h.att, h.lease, h.catch_⟩

theorem specR_back : BackR Sp.small specR specB := by
  intro s h
  obtain ⟨h1, h2⟩ := texR_back.seq (texR_back.seq (int_backR.seq (int_backR.seq (depsR_back.seq (int_backR.seq (int_backR.seq (int_backR.seq (int_backR.seq (texR_back.seq int_backR))))))))) s h
  refine ⟨h1, ?_⟩
  obtain ⟨a1, a2, a3, a4, a5, a6, a7, a8, a9, a10, a11⟩ := h2
  exact ⟨a1, a2, a10, a5.1, a5.2, a3, a4, a6, a7, a8, a9, a11⟩

abbrev JbT := Sp × Int × Int × Int × Int × Int × ByteArray × Int × Int × Int × Int
def jobT : RS → JbT × RS := seqR specR (seqR intR (seqR intR (seqR nuR (seqR intR (seqR intR (seqR texR (seqR nuR (seqR intR (seqR intR intR)))))))))
def toJb : JbT → Jb := fun ⟨a, b, c, d, e, f, g, h, i, j, k⟩ => ⟨a, b, c, d, e, f, g, h, i, j, k⟩
def jobR (s : RS) : Jb × RS := (toJb (jobT s).1, (jobT s).2)

structure Jb.small (j : Jb) : Prop where
  sp : j.sp.small
  state : i64B j.state
  due : i64B j.due
  tok0 : 0 ≤ j.tok
  tok1 : j.tok ≤ 18446744073709551615
  failed : i64B j.failed
  res : i64B j.res
  worker : j.worker.size ≤ 255
  ord0 : 0 ≤ j.order
  ord1 : j.order ≤ 18446744073709551615
  created : i64B j.created
  runs : i64B j.runs
  missed : i64B j.missed

theorem jobR_back : BackR Jb.small jobR jobB := by
  intro s h
  obtain ⟨h1, h2⟩ := specR_back.seq (int_backR.seq (int_backR.seq (nuR_back.seq (int_backR.seq (int_backR.seq (texR_back.seq (nuR_back.seq (int_backR.seq (int_backR.seq int_backR))))))))) s h
  refine ⟨h1, ?_⟩
  obtain ⟨a1, a2, a3, a4, a5, a6, a7, a8, a9, a10, a11⟩ := h2
  exact ⟨a1, a2, a3, a4.1, a4.2, a5, a6, a7, a8.1, a8.2, a9, a10, a11⟩

def jobsR : RS → List Jb × RS := getG 128 jobR
theorem jobsR_back : BackR (fun l : List Jb => l.length ≤ 128 ∧ ∀ x ∈ l, x.small) jobsR jobsB := getG_back 128 jobR_back

/-- An image's head and jobs. -/
def imgT : RS → (Int × Int × Int × List Jb) × RS := seqR intR (seqR nuR (seqR nuR jobsR))

/-- Bytes that are read as an image, to the end, without a fault, are this image's. -/
theorem imgT_back {b : List UInt8} (h : endR (imgT ⟨b, 0⟩).2 = 0) :
    b = intB (imgT ⟨b, 0⟩).1.1 ++ (nuB (imgT ⟨b, 0⟩).1.2.1 ++ (nuB (imgT ⟨b, 0⟩).1.2.2.1 ++ jobsB (imgT ⟨b, 0⟩).1.2.2.2)) ∧ (∀ x ∈ (imgT ⟨b, 0⟩).1.2.2.2, x.small) ∧ (imgT ⟨b, 0⟩).1.2.2.2.length ≤ 128 := by
  have h0 : (imgT ⟨b, 0⟩).2.e = 0 ∧ (imgT ⟨b, 0⟩).2.b = [] := by
    unfold endR at h
    split at h
    · rename_i h1
      split at h
      · rename_i h2; exact ⟨h1, List.eq_nil_of_length_eq_zero h2⟩
      · omega
    · rename_i h1; exact absurd h h1
  obtain ⟨h1, h2⟩ := int_backR.seq (nuR_back.seq (nuR_back.seq jobsR_back)) ⟨b, 0⟩ h0.1
  have hb := congrArg RS.b h1
  obtain ⟨a1, a2, a3, a4⟩ := h2
  refine ⟨?_, a4.2, a4.1⟩
  have e : (seqR intR (seqR nuR (seqR nuR jobsR)) ⟨b, 0⟩).2.b = [] := h0.2
  simp only [e, List.append_nil] at hb
  exact hb

end Go.Proofs.YtheipmallojdkaaGreatDoor

namespace Go.Proofs.YtheipmallojdkaaGreatDoor
open Go.RowKit Go.Maps Go.ChangeMaps

/-- A job in the map: its block, its row of texts' slice. -/
structure JE where
  j : Jb
  b : Nat
  dv : Value

/-- Block s is a scheduler: its numbers, its jobs (in the order in which they came), and what it keeps beside them, all in blocks from B on. -/
structure SAt (w : World) (B s mj g r u q : Nat) (F : Nat → Prop) (now each order : Int) (js : List JE) (n : Nat) : Prop where
  box : w.heap[s]? = some (.cells #[.int .i64 now, .int .i64 each, .int .u64 order, .map (some mj), .pointer (some ⟨g, 0, none⟩), .pointer (some ⟨r, 0, none⟩), .pointer (some ⟨u, 0, none⟩), .pointer (some ⟨q, 0, none⟩)] 72 (0, 0))
  map : SMap ptrV w mj (js.map fun x => (x.j.sp.name, x.b))
  jobs : ∀ x ∈ js, w.heap[x.b]? = some (.cells (x.j.cells x.dv) 42 (0, 0)) ∧ Sl strv w x.dv x.j.sp.deps ∧ (∀ k, x.dv.ownBlock = some k → B ≤ k ∧ ¬ F k ∧ k ≠ s ∧ k ≠ mj) ∧ B ≤ x.b ∧ ¬ F x.b ∧ x.b ≠ s
  eng : Eng w g r u q F n
  bs : B ≤ s
  bm : B ≤ mj
  fs : ¬ F s
  fm : ¬ F mj
  ff : ∀ k, F k → B ≤ k

theorem Eng.ltF {w : World} {g r u q n : Nat} {F : Nat → Prop} (h : Eng w g r u q F n) : ∀ k, F k → k < w.heap.size := by
  obtain ⟨_, _, _, h⟩ := h
  exact h

section
variable {w w' : World} {B s mj g r u q : Nat} {F : Nat → Prop} {now each order : Int} {js : List JE} {n n' : Nat} (h : SAt w B s mj g r u q F now each order js n)
include h

/-- Behind a call on the engine. -/
theorem SAt.step (he : Eng w' g r u q (gr F w w') n') (hk : Keeps F w w') (hB : B ≤ w.heap.size) : SAt w' B s mj g r u q (gr F w w') now each order js n' := by
  have hs := heap_lt h.box
  have hm := h.map.lt
  refine ⟨hk.heap h.fs h.box, h.map.kept hk h.fm, fun x hx => ?_, he, h.bs, h.bm, fun e => e.elim h.fs fun e => by omega, fun e => e.elim h.fm fun e => by omega, fun k hk' => hk'.elim (h.ff k) fun e => by omega⟩
  obtain ⟨a, b, c, d, e, f⟩ := h.jobs x hx
  have hxb := heap_lt a
  exact ⟨hk.heap e a, b.kept hk fun k hk' => (c k hk').2.1, fun k hk' => ⟨(c k hk').1, fun e => e.elim (c k hk').2.1 fun e => by have := b.row_lt k hk'; omega, (c k hk').2.2⟩, d, fun e' => e'.elim e fun e' => by omega, f⟩

/-- Behind what wrote new blocks alone. -/
theorem SAt.below (hb : Below w.heap.size w w') : SAt w' B s mj g r u q F now each order js n := by
  have hk : Keeps (fun _ => False) w w' := Keeps.of_belowS hb
  refine ⟨hk.heap (fun h => h) h.box, h.map.kept hk fun h => h, fun x hx => ?_, h.eng.kept hk fun _ _ h => h, h.bs, h.bm, h.fs, h.fm, h.ff⟩
  obtain ⟨a, b, c, d, e, f⟩ := h.jobs x hx
  exact ⟨hk.heap (fun h => h) a, b.kept hk fun _ _ h => h, c, d, e, f⟩
end

/-- May a scheduler begin so? -/
def beginB (now each : Int) : Prop := (0 ≤ now ∧ now ≤ 1099511627776) ∧ (0 ≤ each ∧ each ≤ 128)

/-- What New leaves. -/
def SNewP (w : World) (now each : Int) (e : Ending) (w' : World) : Prop :=
  Below w.heap.size w w' ∧ ((¬ beginB now each ∧ ∃ er : Int, er ≠ 0 ∧ e = .returned (.tuple #[.pointer none, .int .i64 er])) ∨
    (beginB now each ∧ ∃ s mj g r u q F, e = .returned (.tuple #[.pointer (some ⟨s, 0, none⟩), .int .i64 0]) ∧ SAt w' w.heap.size s mj g r u q F now each 0 [] 0))

def parts4 (a b c d : Nat → Prop) : Nat → Nat → Prop
  | 0 => a
  | 1 => b
  | 2 => c
  | _ => d

/-- The parts, made one behind the other, are an engine. -/
theorem snew_end {w w1 w2 w3 w4 : World} {now each : Int} {q u g r : Nat} (h1 : Below w.heap.size w w1) (h2 : Below w1.heap.size w1 w2) (h3 : Below (w2.alloc (.map #[] 0)).heap.size (w2.alloc (.map #[] 0)) w3) (h4 : Below w3.heap.size w3 w4) (hy : beginB now each)
    (hq : Ledger w1 q (fun k => w.heap.size ≤ k ∧ k < w1.heap.size)) (hu : Wheel w2 u (fun k => w1.heap.size ≤ k ∧ k < w2.heap.size)) (hg : Graph w3 g (fun k => (w2.alloc (.map #[] 0)).heap.size ≤ k ∧ k < w3.heap.size) 0) (hr : Row w4 r (fun k => w3.heap.size ≤ k ∧ k < w4.heap.size) 0) :
    SNewP w now each (.returned (.tuple #[.pointer (some ⟨w4.heap.size, 0, none⟩), .int .i64 0])) (w4.alloc (.cells #[.int .i64 now, .int .i64 each, .int .u64 0, .map (some w2.heap.size), .pointer (some ⟨g, 0, none⟩), .pointer (some ⟨r, 0, none⟩), .pointer (some ⟨u, 0, none⟩), .pointer (some ⟨q, 0, none⟩)] 72)) := by
  have s1 := h1.size
  have s2 := h2.size
  have s3 := h3.size
  have s4 := h4.size
  rw [World.size_alloc] at s3
  have b2a : Below w2.heap.size w2 (w2.alloc (.map #[] 0)) := (Below.refl _ _).alloc (Nat.le_refl _) _
  have b4a := fun o => (Below.refl w4.heap.size w4).alloc (Nat.le_refl _) o
  have k1 : Below w.heap.size w w4 := (((h1.trans (h2.mono s1)).trans (b2a.mono (by omega))).trans (h3.mono (by rw [World.size_alloc]; omega))).trans (h4.mono (by omega))
  have k2 : Below w1.heap.size w1 w4 := ((h2.trans (b2a.mono s2)).trans (h3.mono (by rw [World.size_alloc]; omega))).trans (h4.mono (by omega))
  have k3 : Below (w2.alloc (.map #[] 0)).heap.size (w2.alloc (.map #[] 0)) w4 := h3.trans (h4.mono (by rw [World.size_alloc]; omega))
  have k2' : Below w2.heap.size w2 w4 := b2a.trans (k3.mono (by rw [World.size_alloc]; omega))
  refine ⟨k1.trans ((b4a _).mono (by omega)), .inr ⟨hy, _, w2.heap.size, g, r, u, q, fun k => (w.heap.size ≤ k ∧ k < w4.heap.size) ∧ k ≠ w2.heap.size, rfl, ?_⟩⟩
  refine ⟨heap_new _ _, ?_, fun x hx => by simp at hx, ?_, by omega, by omega, fun e => by omega, fun e => e.2 rfl, fun k hk => hk.1.1⟩
  · exact ((MapOf.made Tryz.prog 9 keyS ptrV w2).kept (Keeps.of_belowS (S := fun _ => False) k3) (fun h => h)).alloc _
  · have kf : ∀ {a : World}, Below a.heap.size a w4 → ∀ o, Keeps (fun _ => False) a (w4.alloc o) := fun hb o => Keeps.of_belowS (hb.trans ((b4a o).mono hb.size))
    refine ⟨parts4 (fun k => w2.heap.size + 1 ≤ k ∧ k < w3.heap.size) (fun k => w3.heap.size ≤ k ∧ k < w4.heap.size) (fun k => w1.heap.size ≤ k ∧ k < w2.heap.size) (fun k => w.heap.size ≤ k ∧ k < w1.heap.size), ⟨?_, ?_, ?_, ?_, ?_⟩, ?_, ?_⟩
    · have h := hg.kept (kf h4 (.cells #[.int .i64 now, .int .i64 each, .int .u64 0, .map (some w2.heap.size), .pointer (some ⟨g, 0, none⟩), .pointer (some ⟨r, 0, none⟩), .pointer (some ⟨u, 0, none⟩), .pointer (some ⟨q, 0, none⟩)] 72)) (fun _ _ h => h)
      rw [World.size_alloc] at h
      exact h
    · have h := hr.kept (kf (Below.refl _ _) (.cells #[.int .i64 now, .int .i64 each, .int .u64 0, .map (some w2.heap.size), .pointer (some ⟨g, 0, none⟩), .pointer (some ⟨r, 0, none⟩), .pointer (some ⟨u, 0, none⟩), .pointer (some ⟨q, 0, none⟩)] 72)) (fun _ _ h => h)
      exact h
    · have h := hu.kept (kf k2' (.cells #[.int .i64 now, .int .i64 each, .int .u64 0, .map (some w2.heap.size), .pointer (some ⟨g, 0, none⟩), .pointer (some ⟨r, 0, none⟩), .pointer (some ⟨u, 0, none⟩), .pointer (some ⟨q, 0, none⟩)] 72)) (fun _ _ h => h)
      exact h
    · have h := hq.kept (kf k2 (.cells #[.int .i64 now, .int .i64 each, .int .u64 0, .map (some w2.heap.size), .pointer (some ⟨g, 0, none⟩), .pointer (some ⟨r, 0, none⟩), .pointer (some ⟨u, 0, none⟩), .pointer (some ⟨q, 0, none⟩)] 72)) (fun _ _ h => h)
      exact h
    · intro i j k hi hj ha hb
      have hc : i = 0 ∨ i = 1 ∨ i = 2 ∨ i = 3 := by omega
      have hd : j = 0 ∨ j = 1 ∨ j = 2 ∨ j = 3 := by omega
      rcases hc with rfl | rfl | rfl | rfl <;> rcases hd with rfl | rfl | rfl | rfl <;> simp only [parts4] at ha hb <;> omega
    · intro i k hi h
      show (w.heap.size ≤ k ∧ k < w4.heap.size) ∧ k ≠ w2.heap.size
      have hc : i = 0 ∨ i = 1 ∨ i = 2 ∨ i = 3 := by omega
      rcases hc with rfl | rfl | rfl | rfl <;> simp only [parts4] at h <;> omega
    · intro k hk
      rw [World.size_alloc]
      exact Nat.lt_succ_of_lt hk.1.2

set_option maxRecDepth 100000 in
set_option maxHeartbeats 1600000 in
theorem snew_any (w : World) (now each : Int) : Calls Tryz.prog 7 #[.int .i64 now, .int .i64 each] w (SNewP w now each) := by
  have hq := qnew_any w each
  have HWN := Lib.hid fun W => wnew_sure W now
  have HGN := Lib.hid gnew_any
  have HRN := Lib.hid rnew_any
  have hmm := @run_makeMap Tryz.prog
  go_enter Tryz.func7, Tryz.ntmps7
  go_wp2_with fail
  refine hq.mono ?_
  rintro e w1 ⟨hb1, ⟨hno, rfl⟩ | ⟨hyes, q, rfl, hql⟩⟩
  · have HB1 := Lib.hid hb1
    have HNO := Lib.hid hno
    clear hb1 hno
    go_wp2_with fail
    go_ret2
    exact ⟨HB1.out, .inl ⟨fun h => HNO.out h.2, 1, by decide, rfl⟩⟩
  have HB1 := Lib.hid hb1
  have HY := Lib.hid hyes
  have HQ := Lib.hid hql
  clear hb1 hyes hql hq
  go_wp2_with fail
  refine (HWN.out w1).mono ?_
  rintro e w2 ⟨hb2, ⟨hno, rfl⟩ | ⟨htk, u, rfl, hwl⟩⟩
  · have HB2 := Lib.hid (HB1.out.trans (hb2.mono HB1.out.size))
    have HNO := Lib.hid hno
    clear hb2 hno
    go_wp2_with fail
    go_ret2
    exact ⟨HB2.out, .inl ⟨fun h => HNO.out h.1, 1, by decide, rfl⟩⟩
  have HB2 := Lib.hid hb2
  have HT := Lib.hid htk
  have HU := Lib.hid hwl
  clear hb2 htk hwl HWN
  go_wp2_with fail
  refine (HGN.out (w2.alloc (.map #[] 0))).mono ?_
  rintro e w3 ⟨g, rfl, hgl, hb3⟩
  have HB3 := Lib.hid hb3
  have HG := Lib.hid hgl
  clear hb3 hgl
  go_wp2_with fail
  refine (HRN.out w3).mono ?_
  rintro e w4 ⟨r, rfl, hrl, hb4⟩
  have HB4 := Lib.hid hb4
  have HR := Lib.hid hrl
  clear hb4 hrl
  go_wp2_with fail
  go_ret2
  exact snew_end HB1.out HB2.out HB3.out HB4.out ⟨HT.out, HY.out⟩ HQ.out HU.out HG.out HR.out

end Go.Proofs.YtheipmallojdkaaGreatDoor

namespace Go.Proofs.YtheipmallojdkaaGreatDoor
open Go.RowKit Go.Maps Go.ChangeMaps

theorem gr_eq {S : Nat → Prop} {a b c : World} (h1 : a.heap.size ≤ b.heap.size) (h2 : b.heap.size ≤ c.heap.size) : gr (gr S a b) b c = gr S a c := by
  funext k
  exact propext (gr_trans h1 h2 k)
theorem gr_refl (S : Nat → Prop) (w : World) : gr S w w = S := by
  funext k
  exact propext (gr_self S w k)

/-- The parts behind one call more. -/
theorem Eng.go {w a b : World} {g r u q n m : Nat} {F : Nat → Prop} (h : Keeps F w a) (k : Keeps (gr F w a) a b) (e : Eng b g r u q (gr (gr F w a) a b) m) (hm : m ≤ n) : Eng b g r u q (gr F w b) n ∧ Keeps F w b := by
  rw [gr_eq h.size k.size] at e
  exact ⟨e.mono hm, h.gr k⟩

/-- Place left the parts so. -/
def PlaceP (w : World) (g r u q : Nat) (F : Nat → Prop) (n : Nat) (e : Ending) (w' : World) : Prop := e = .returned (.tuple #[]) ∧ Eng w' g r u q (gr F w w') n ∧ Keeps F w w'

section
variable (w : World) (s mj : Nat) (now each order : Int) (g r u q : Nat) (hb : w.heap[s]? = some (.cells #[.int .i64 now, .int .i64 each, .int .u64 order, .map (some mj), .pointer (some ⟨g, 0, none⟩), .pointer (some ⟨r, 0, none⟩), .pointer (some ⟨u, 0, none⟩), .pointer (some ⟨q, 0, none⟩)] 72 (0, 0)))
  (F : Nat → Prop) (n : Nat) (he : Eng w g r u q F n) (j : Jb) (b : Nat) (dv : Value) (hj : w.heap[b]? = some (.cells (j.cells dv) 42 (0, 0))) (hname : j.sp.name.size ≤ maxLen)
include hb he hj hname

set_option maxRecDepth 100000 in
set_option maxHeartbeats 1600000 in
theorem place_any (hn : n + 1 ≤ 1000000) : Calls Tryz.prog 46 #[.pointer (some ⟨s, 0, none⟩), .pointer (some ⟨b, 0, none⟩)] w (PlaceP w g r u q F (n + 1)) := by
  have HE := Lib.hid he
  have HB := Lib.hid hb
  have HJ := Lib.hid hj
  have HN := Lib.hid hname
  have c0 : w.cell? ⟨b, 0, none⟩ = some (.string j.sp.name) := blk_cell hj 0 rfl
  have c1 : w.cell? ⟨b, 11, none⟩ = some (.int .i64 j.state) := blk_cell hj 11 rfl
  have lb := heap_lt hj
  have ls := heap_lt hb
  have hend := Lib.hid (⟨rfl, (he.mono (Nat.le_succ n)), Keeps.refl F w⟩ : (Ending.returned (.tuple #[])) = .returned (.tuple #[]) ∧ Eng w g r u q F (n + 1) ∧ Keeps F w w)
  clear he hb hj hname
  by_cases h2 : j.state = 2
  · go_enter Tryz.func46, Tryz.ntmps46
    go_wp2_with fail
    refine still_tail 14 (by kernel_rfl) (by kernel_rfl) ?_
    intro W hW
    have hK : Keeps F w W := by rw [hW]; exact (Keeps.refl F w).drew
    have hE : Eng W g r u q F n := by rw [hW]; exact HE.out.kept (T := fun _ => False) (Keeps.refl _ _).drew fun _ _ h => h
    have d0 : W.cell? ⟨s, 5, none⟩ = some (.pointer (some ⟨r, 0, none⟩)) := by rw [hW]; exact blk_cell HB.out 5 rfl
    have d1 : W.cell? ⟨b, 2, none⟩ = some (.int .i64 j.sp.pri) := by rw [hW]; exact blk_cell HJ.out 2 rfl
    have d2 : W.cell? ⟨b, 17, none⟩ = some (.int .u64 j.order) := by rw [hW]; exact blk_cell HJ.out 17 rfl
    have l1 : s < W.heap.size := by rw [hW]; exact ls
    have l2 : b < W.heap.size := by rw [hW]; exact lb
    have hsz : W.heap.size = w.heap.size := by rw [hW]; rfl
    have hc := eng_put hE hn j.sp.name HN.out j.sp.pri j.order
    have HK := Lib.hid hK
    clear hW hE hK c0 c1 lb ls h2
    simp only [List.take_succ_cons, List.take_zero, List.drop_succ_cons, List.drop_zero]
    repeat still_step
    refine wpStill_nil ?_
    go_wp2_with fail
    refine hc.mono ?_
    rintro e w1 ⟨⟨x, rfl⟩, he1, hk1⟩
    have hG := Lib.hid (show Eng w1 g r u q (gr F w w1) (n + 1) ∧ Keeps F w w1 by
      have e : gr F W w1 = gr F w w1 := by funext k; simp only [gr, hsz]
      rw [e] at he1
      exact ⟨he1, HK.out.andThen hk1 fun k h => .inr h⟩)
    clear hc he1 hk1
    go_wp2_with fail
    go_end0
    exact ⟨rfl, hG.out⟩
  have hd2 : decide (j.state = 2) = false := by simpa using h2
  by_cases h3 : j.state = 1 ∨ j.state = 3
  · go_enter Tryz.func46, Tryz.ntmps46
    rcases h3 with dd | dd
    all_goals
      rw [dd] at c1
      go_wp2_with fail
      refine still_tail 9 (by kernel_rfl) (by kernel_rfl) ?_
      intro W hW
      have hK : Keeps F w W := by rw [hW]; exact (Keeps.refl F w).drew
      have hE : Eng W g r u q F n := by rw [hW]; exact HE.out.kept (T := fun _ => False) (Keeps.refl _ _).drew fun _ _ h => h
      have d0 : W.cell? ⟨s, 6, none⟩ = some (.pointer (some ⟨u, 0, none⟩)) := by rw [hW]; exact blk_cell HB.out 6 rfl
      have d2 : W.cell? ⟨b, 12, none⟩ = some (.int .i64 j.due) := by rw [hW]; exact blk_cell HJ.out 12 rfl
      have l1 : s < W.heap.size := by rw [hW]; exact ls
      have l2 : b < W.heap.size := by rw [hW]; exact lb
      have hsz : W.heap.size = w.heap.size := by rw [hW]; rfl
      have hc := eng_due hE j.sp.name HN.out j.due
      have HK := Lib.hid hK
      clear hW hE hK c0 c1 lb ls h2 dd
      simp only [List.take_succ_cons, List.take_zero, List.drop_succ_cons, List.drop_zero]
      repeat still_step
      refine wpStill_nil ?_
      go_wp2_with fail
      refine hc.mono ?_
      rintro e w1 ⟨⟨x, rfl⟩, he1, hk1⟩
      have hG := Lib.hid (show Eng w1 g r u q (gr F w w1) (n + 1) ∧ Keeps F w w1 by
        have e : gr F W w1 = gr F w w1 := by funext k; simp only [gr, hsz]
        rw [e] at he1
        exact ⟨he1.mono (by omega), HK.out.andThen hk1 fun k h => .inr h⟩)
      clear hc he1 hk1
      go_wp2_with fail
      go_end0
      exact ⟨rfl, hG.out⟩
  · have d1 : ¬ j.state = 1 := fun e => h3 (.inl e)
    have d3 : ¬ j.state = 3 := fun e => h3 (.inr e)
    clear h3
    go_enter Tryz.func46, Tryz.ntmps46
    go_wp2
    go_end0
    exact ⟨rfl, by rw [gr_refl]; exact hend.out.2⟩

omit hname in
set_option maxRecDepth 100000 in
set_option maxHeartbeats 1600000 in
theorem slink_any (hn : n ≤ 100000) (hname : j.sp.name.size ≤ maxLen) (hd : Sl strv w dv j.sp.deps) (hdz : ∀ x ∈ j.sp.deps, x.size ≤ maxLen) (hF : ¬ F s ∧ ¬ F b ∧ ∀ k, dv.ownBlock = some k → ¬ F k) : Calls Tryz.prog 45 #[.pointer (some ⟨s, 0, none⟩), .pointer (some ⟨b, 0, none⟩)] w (EngP w g r u q F n) := by
  have HE := Lib.hid he
  have HB := Lib.hid hb
  have HJ := Lib.hid hj
  have HN := Lib.hid hname
  have HD := Lib.hid hd
  have HDZ := Lib.hid hdz
  have HF := Lib.hid hF
  have hr0 := Lib.hid (show Eng w g r u q (gr F w w) n ∧ Keeps F w w from ⟨by rw [gr_refl]; exact he, Keeps.refl F w⟩)
  have c4 : w.cell? ⟨b, 4, none⟩ = some dv := blk_cell hj 4 rfl
  have lb := heap_lt hj
  obtain ⟨ad, cp, rfl, hl1, hl2, hl3⟩ := hd
  have HL := Lib.hid hl3
  clear he hb hj hname hdz hF hl3
  unfold maxLen at hl2
  go_enter Tryz.func45, Tryz.ntmps45
  go_wp2
  go_loopw [14] (fun iv wr => ∃ i : Nat, iv = .int .i64 i ∧ i ≤ j.sp.deps.length ∧ Hid (Eng wr g r u q (gr F w wr) n ∧ Keeps F w wr)) (fun iv _ => j.sp.deps.length - (intOf iv).toNat)
  case atStart => exact ⟨0, rfl, by omega, hr0⟩
  case round =>
    obtain ⟨i, rfl, hi, HR⟩ := hrel
    clear hr0 c4 lb
    by_cases hlt : i < j.sp.deps.length
    · have hk0 : j.sp.deps[i]? = some j.sp.deps[i] := List.getElem?_eq_getElem hlt
      have HZ : Hid (j.sp.deps[i].size ≤ maxLen) := Lib.hid (HDZ.out _ (List.getElem_mem hlt))
      obtain ⟨lb, lo, rfl, hbl, hcell⟩ : ∃ b' o', ad = some ⟨b', o', none⟩ ∧ b' < wr.heap.size ∧ wr.cell? ⟨b', o' + i, none⟩ = some (.string j.sp.deps[i]) := by
        rcases HL.out with ⟨_, h0⟩ | ⟨b', o', rfl, h1, h2⟩
        · omega
        · have := HR.out.2.size
          exact ⟨b', o', rfl, by omega, by
            rw [World.cell?_of_block (HR.out.2.block b' h1 (HF.out.2.2 b' rfl))]
            exact h2 i _ hk0⟩
      generalize j.sp.deps[i] = y at *
      clear hk0
      go_wp2_with fail
      refine still_tail 10 (by kernel_rfl) (by kernel_rfl) ?_
      intro W hW
      have hK : Keeps F w W := by rw [hW]; exact HR.out.2.drew
      have hE : Eng W g r u q (gr F w W) n := by rw [hW]; exact HR.out.1.kept (T := fun _ => False) (Keeps.refl _ _).drew fun _ _ h => h
      have hB := hK.heap HF.out.1 HB.out
      have hJ := hK.heap HF.out.2.1 HJ.out
      have d0 : W.cell? ⟨s, 4, none⟩ = some (.pointer (some ⟨g, 0, none⟩)) := blk_cell hB 4 rfl
      have d2 : W.cell? ⟨b, 0, none⟩ = some (.string j.sp.name) := blk_cell hJ 0 rfl
      have l1 : s < W.heap.size := heap_lt hB
      have l2 : b < W.heap.size := heap_lt hJ
      have hc := eng_link hE hn j.sp.name y HN.out HZ.out
      have HK := Lib.hid hK
      clear hW hE hK hB hJ hcell hbl
      simp only [List.take_succ_cons, List.take_zero, List.drop_succ_cons, List.drop_zero]
      repeat still_step
      refine wpStill_nil ?_
      go_wp2_with fail
      refine hc.mono ?_
      rintro e w1 ⟨⟨x, rfl⟩, he1, hk1⟩
      have hG := Lib.hid (Eng.go HK.out hk1 he1 (Nat.le_refl n))
      clear hc he1 hk1
      by_cases hx : x = 0
      · subst hx
        go_wp2_with fail
        go_roundw
        case rel => exact ⟨i + 1, by go_num, by omega, hG⟩
        case measure => simp [intOf]; omega
      · go_wp2_with fail
        go_ret
        exact ⟨⟨_, rfl⟩, hG.out⟩
    · go_wp2_with fail
      go_ret
      exact ⟨⟨_, rfl⟩, HR.out⟩
end

end Go.Proofs.YtheipmallojdkaaGreatDoor

/- slices.Sort at []uint64: rows of at most sixteen numbers, no two alike. -/
import Derived.Test.YtckmenongeklpaaSortT
namespace Go.Proofs.Ytckmenongeklpaa
open Go.RowKit Go.Sort

/-- A part is sorted. -/
def Srt (a b blk : Nat) (d : Array Int) (W : World) (e : Ending) (w' : World) : Prop :=
  ∃ d' : Array Int, e = .returned (.tuple #[]) ∧ PermIn a b d d' ∧ SortedIn ltInt a b d' ∧ RowW W blk d' w'

theorem Sorted.srt {W w' : World} {a b blk : Nat} {d : Array Int} {e : Ending} (hab : a ≤ b) (hb : b ≤ d.size) (hH : Holds u64v W blk 0 d) (h : Sorted W blk (insertionSort ltInt d a b) e w') : Srt a b blk d W e w' := by
  obtain ⟨rfl, n, rfl⟩ := h
  obtain ⟨h1, h2⟩ := insertionSort_holds (lt := ltInt) swo_ltInt d a b hab hb
  refine ⟨_, rfl, h1, h2, rfl, rfl, rfl, rfl, ?_, fun k hk hn => ?_⟩
  · show W.heap.size ≤ (putRow u64v W blk 0 _).heap.size
    unfold putRow mapBlock
    simp
  · exact heap_putRow_other u64v W blk 0 _ k hn

theorem ins_srt (W : World) (blk L cap a b : Nat) (d : Array Int) (hL : L = d.size) (hH : Holds u64v W blk 0 d) (hab : a ≤ b) (hb : b ≤ L) (hd : L ≤ 1000) :
    Calls Try.prog 54 #[.slice (some ⟨blk, 0, none⟩) L cap, .int .i64 a, .int .i64 b] W (Srt a b blk d W) := by
  subst hL
  exact (ins_any W blk cap d a b hH hab hb hd).mono fun e w' h => h.srt hab hb hH

theorem pdq_small (W : World) (blk L cap a b lim : Nat) (d : Array Int) (hL : L = d.size) (hH : Holds u64v W blk 0 d) (hab : a ≤ b) (hb : b ≤ L) (hd : L ≤ 49) (h12 : b ≤ a + 12) :
    Calls Try.prog 51 #[.slice (some ⟨blk, 0, none⟩) L cap, .int .i64 a, .int .i64 b, .int .i64 lim] W (Srt a b blk d W) := by
  have hins := Lib.hid (ins_srt W blk L cap a b d hL hH hab hb (by omega))
  clear hH hL
  have h12' : (b : Int) - a ≤ 12 := by omega
  go_enter Try.func51, Try.ntmps51
  go_wp2
  go_loopw [1, 2, 3, 8, 9] (fun x1 x2 l x y wr => x1 = .int .i64 a ∧ x2 = .int .i64 b ∧ l = .int .i64 lim ∧ x = .bool true ∧ y = .bool true ∧ wr = W) (fun _ _ _ _ _ _ => 0)
  case atStart => exact ⟨rfl, rfl, rfl, rfl, rfl, rfl⟩
  case round =>
    obtain ⟨rfl, rfl, rfl, rfl, rfl, rfl⟩ := hrel
    go_wp2_with fail
    refine hins.out.mono ?_
    rintro e w' ⟨d', rfl, hs⟩
    go_wp2_with fail
    go_end0
    exact ⟨d', rfl, hs⟩

/-- The state of pdqsort's loop. -/
structure Pq (W : World) (blk L a b lim : Nat) (d dk : Array Int) (wr : World) : Prop where
  row : RowW W blk dk wr
  perm : PermIn 0 d.size d dk
  ord : InO (Both a b) dk
  ab : a ≤ b
  bL : b ≤ L
  lim : b < a + lim + 12
  len : b ≤ a + 16

theorem Pq.size {W : World} {blk L a b lim : Nat} {d dk : Array Int} {wr : World} (h : Pq W blk L a b lim d dk wr) : dk.size = d.size := h.perm.1

theorem Pq.fin {W wr w' : World} {blk L a b lim : Nat} {d dk d' : Array Int} (h : Pq W blk L a b lim d dk wr) (hL : L = d.size) (hp : PermIn a b dk d') (hs : SortedIn ltInt a b d') (hR : RowW wr blk d' w') :
    Srt 0 d.size blk d W (.returned (.tuple #[])) w' := by
  have hsz := h.size
  have hb := h.bL
  refine ⟨d', rfl, permIn_trans d dk d' 0 d.size h.perm (permIn_mono dk d' a b 0 d.size (Nat.zero_le _) (by omega) (by omega) hp), ?_, h.row.put hR (by rw [hp.1])⟩
  have ho := h.ord.perm (by omega) hp (fun _ _ h => h) (fun s t t' hs ht ht' hh => absurd ⟨hh.1, hh.2.1⟩ hs) (fun s s' t ht hs hs' hh => absurd ⟨hh.2.2.1, hh.2.2.2⟩ ht)
  have := ho.all hs
  rwa [hp.1, hsz] at this

theorem Pq.nd {W : World} {blk L a b lim : Nat} {d dk : Array Int} {wr : World} (h : Pq W blk L a b lim d dk wr) (hn : Nd d) : Nd dk := hn.perm h.perm

theorem Pq.next {W wr w1 w2 w3 : World} {blk L a b lim mid x y a' b' lim' : Nat} {d dk d1 d2 d3 : Array Int} (h : Pq W blk L a b lim d dk wr) (hL : L = d.size)
    (hp1 : PermIn a b dk d1) (hR1 : RowW wr blk d1 w1) (hp2 : Parted a b mid d1 d2) (hR2 : RowW w1 blk d2 w2) (hp3 : PermIn x y d2 d3) (hs3 : SortedIn ltInt x y d3) (hR3 : RowW w2 blk d3 w3)
    (hxy : (x = a ∧ y = mid ∧ a' = mid + 1 ∧ b' = b) ∨ (x = mid + 1 ∧ y = b ∧ a' = a ∧ b' = mid)) (hlim : lim ≤ lim' + 1) : Pq W blk L a' b' lim' d d3 w3 := by
  have hsz := h.size
  have hb := h.bL
  have hlm := h.lim
  have hln := h.len
  have hlo := hp2.lo
  have hhi := hp2.hi
  have z1 := hp1.1
  have z2 := hp2.perm.1
  have z3 := hp3.1
  have o1 := h.ord.perm (by omega) hp1 (fun _ _ h => h) (fun s t t' hs ht ht' hh => absurd ⟨hh.1, hh.2.1⟩ hs) (fun s s' t ht hs hs' hh => absurd ⟨hh.2.2.1, hh.2.2.2⟩ ht)
  have o2 := o1.part (by omega) hp2.perm hlo hhi hp2.left hp2.right
  have hsub : a ≤ x ∧ y ≤ b := by omega
  have o3 := o2.perm (x := x) (y := y) (by omega) hp3 (fun s t hh => by unfold Both at *; omega) (fun s t t' hs ht ht' hh => by unfold Both at *; omega) (fun s s' t ht hs hs' hh => by unfold Both at *; omega)
  refine ⟨((h.row.put hR1 z1).put hR2 z2).put hR3 z3, ?_, o3.fill hs3 (fun s t hh => by unfold Both at *; omega), by omega, by omega, by omega, by omega⟩
  have m : ∀ {u v : Array Int} {s t : Nat}, u.size = d.size → t ≤ d.size → PermIn s t u v → PermIn 0 d.size u v := fun hu ht hp => permIn_mono _ _ _ _ 0 d.size (Nat.zero_le _) ht (by omega) hp
  exact permIn_trans _ _ _ 0 d.size (permIn_trans _ _ _ 0 d.size (permIn_trans _ _ _ 0 d.size h.perm (m hsz (by omega) hp1)) (m (by omega) (by omega) hp2.perm)) (m (by omega) (by omega) hp3)

/-- What lies ahead of a part is less than whatever lies in it. -/
theorem Pq.ahead {W wr : World} {blk L a b lim p : Nat} {d dk d1 : Array Int} (h : Pq W blk L a b lim d dk wr) (hL : L = d.size) (hn : Nd d) (hp1 : PermIn a b dk d1) (ha : 0 < a) (h1 : a ≤ p) (h2 : p < b) : d1[a - 1]! < d1[p]! := by
  have hsz := h.size
  have hb := h.bL
  have z1 := hp1.1
  have o1 := h.ord.perm (by omega) hp1 (fun _ _ h => h) (fun s t t' hs ht ht' hh => absurd ⟨hh.1, hh.2.1⟩ hs) (fun s s' t ht hs hs' hh => absurd ⟨hh.2.2.1, hh.2.2.2⟩ ht)
  have hd1 : Nd d1 := (h.nd hn).perm (permIn_mono dk d1 a b 0 dk.size (Nat.zero_le _) (by omega) (by omega) hp1)
  have hne := hd1.ne (i := a - 1) (j := p) (by omega) (by omega) (by omega)
  rcases o1 (a - 1) p (by omega) (by omega) with hh | hh
  · unfold Both at hh; omega
  · omega

end Go.Proofs.Ytckmenongeklpaa

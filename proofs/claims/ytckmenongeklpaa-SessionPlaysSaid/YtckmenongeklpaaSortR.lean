/- slices.Sort at []uint64: the partition. -/
import Derived.Test.YtckmenongeklpaaSortP
namespace Go.Proofs.Ytckmenongeklpaa
open Go.RowKit Go.Sort

/-- What stands so far: what lies ahead of i is less than the first one, what lies behind j is not. -/
structure Pt (a b i j : Nat) (d dk : Array Int) : Prop where
  perm : PermIn a b d dk
  lo : a < i
  hi : i ≤ j + 1
  up : j < b
  left : ∀ t, a < t → t < i → dk[t]! < dk[a]!
  right : ∀ t, j < t → t < b → dk[a]! ≤ dk[t]!

theorem Pt.size {a b i j : Nat} {d dk : Array Int} (h : Pt a b i j d dk) : dk.size = d.size := h.perm.1

theorem Pt.start {a b p : Nat} {d : Array Int} (h1 : a ≤ p) (h2 : p < b) (hb : b ≤ d.size) : Pt a b (a + 1) (b - 1) d (swp d a p) :=
  ⟨swp_permIn d a b a p (Nat.le_refl _) (by omega) h1 h2 hb, by omega, by omega, by omega, fun t h3 h4 => by omega, fun t h3 h4 => by omega⟩

theorem Pt.go_up {a b i j : Nat} {d dk : Array Int} (h : Pt a b i j d dk) (hij : i ≤ j) (hl : dk[i]! < dk[a]!) : Pt a b (i + 1) j d dk :=
  ⟨h.perm, by have := h.lo; omega, by omega, h.up, fun t h1 h2 => by
    rcases Nat.lt_or_ge t i with h3 | h3
    · exact h.left t h1 h3
    · obtain rfl : t = i := by omega
      exact hl, h.right⟩

theorem Pt.go_down {a b i j : Nat} {d dk : Array Int} (h : Pt a b i j d dk) (hij : i ≤ j) (hl : dk[a]! ≤ dk[j]!) : Pt a b i (j - 1) d dk :=
  ⟨h.perm, h.lo, by have := h.lo; omega, by have := h.up; omega, h.left, fun t h1 h2 => by
    rcases Nat.lt_or_ge j t with h3 | h3
    · exact h.right t h3 h2
    · obtain rfl : t = j := by have := h.lo; omega
      exact hl⟩

theorem get_swp {dk : Array Int} {i j : Nat} (hi : i < dk.size) (hj : j < dk.size) (k : Nat) : (swp dk i j)[k]! = if k = j then dk[i]! else if k = i then dk[j]! else dk[k]! := swp_get dk hi hj k

theorem Pt.swap {a b i j : Nat} {d dk : Array Int} (h : Pt a b i j d dk) (hb : b ≤ d.size) (hij : i ≤ j) (h1 : dk[a]! ≤ dk[i]!) (h2 : dk[j]! < dk[a]!) : Pt a b (i + 1) (j - 1) d (swp dk i j) ∧ i < j := by
  have hlt : i < j := by
    rcases Nat.lt_or_ge i j with h' | h'
    · exact h'
    · obtain rfl : i = j := by omega
      omega
  have hs := h.size
  have hlo := h.lo
  have hup := h.up
  have g := fun k => get_swp (dk := dk) (i := i) (j := j) (by omega) (by omega) k
  refine ⟨⟨permIn_trans d dk _ a b h.perm (swp_permIn dk a b i j (by omega) (by omega) (by omega) (by omega) (by omega)), by omega, by omega, by omega, ?_, ?_⟩, hlt⟩
  · intro t h3 h4
    rw [g a, if_neg (by omega : ¬ a = j), if_neg (by omega : ¬ a = i), g t, if_neg (by omega : ¬ t = j)]
    rcases Nat.lt_or_ge t i with h5 | h5
    · rw [if_neg (by omega)]; exact h.left t h3 h5
    · rw [if_pos (by omega)]; exact h2
  · intro t h3 h4
    rw [g a, if_neg (by omega : ¬ a = j), if_neg (by omega : ¬ a = i), g t]
    rcases Nat.lt_or_ge j t with h5 | h5
    · rw [if_neg (by omega : ¬ t = j), if_neg (by omega : ¬ t = i)]; exact h.right t h5 h4
    · rw [if_pos (by omega)]; exact h1

/-- What a partition leaves. -/
structure Parted (a b mid : Nat) (d d' : Array Int) : Prop where
  perm : PermIn a b d d'
  lo : a ≤ mid
  hi : mid < b
  left : ∀ i, a ≤ i → i < mid → d'[i]! < d'[mid]!
  right : ∀ i, mid < i → i < b → d'[mid]! ≤ d'[i]!

theorem Pt.fin {a b i j : Nat} {d dk : Array Int} (h : Pt a b i j d dk) (hb : b ≤ d.size) (hij : j < i) : Parted a b j d (swp dk j a) := by
  have hs := h.size
  have hlo := h.lo
  have hup := h.up
  have hhi := h.hi
  have g := fun k => get_swp (dk := dk) (i := j) (j := a) (by omega) (by omega) k
  have gm : (swp dk j a)[j]! = dk[a]! := by
    rw [g j]
    by_cases h3 : j = a
    · rw [if_pos h3, h3]
    · rw [if_neg h3, if_pos rfl]
  refine ⟨permIn_trans d dk _ a b h.perm (swp_permIn dk a b j a (by omega) (by omega) (by omega) (by omega) (by omega)), by omega, hup, ?_, ?_⟩
  · intro t h1 h2
    rw [gm, g t]
    by_cases h3 : t = a
    · rw [if_pos h3]; exact h.left j (by omega) (by omega)
    · rw [if_neg h3, if_neg (by omega : ¬ t = j)]; exact h.left t (by omega) (by omega)
  · intro t h1 h2
    rw [gm, g t, if_neg (by omega : ¬ t = a), if_neg (by omega : ¬ t = j)]
    exact h.right t h1 h2

/-- What partitionOrdered leaves. -/
def PartO (a b blk : Nat) (d : Array Int) (W : World) (e : Ending) (w' : World) : Prop :=
  ∃ (mid : Nat) (fl : Bool) (d' : Array Int), e = .returned (.tuple #[.int .i64 mid, .bool fl]) ∧ Parted a b mid d d' ∧ RowW W blk d' w'

end Go.Proofs.Ytckmenongeklpaa

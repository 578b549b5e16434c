/- The statement SessionNone: a table that isn't there. -/
import Derived.Test.YtnnibcfbcpipfaaSessL
namespace Go.Proofs.Ytnnibcfbcpipfaa
open Go.RowKit Go.Maps Go.ChangeMaps

theorem look_nil (w : World) (c n : Int) : Calls Try.prog 27 #[.pointer none, .int .u64 c, .int .u64 n] w (RetB (.tuple #[.agg #[.int .i64 0, .string ⟨#[]⟩, .int .u64 0, .int .i64 0], .bool false]) w) := by
  go_enter Try.func27, Try.ntmps27
  go_wp2
  exact bodyPost_ret (v := .tuple #[.agg #[.int .i64 0, .string ⟨#[]⟩, .int .u64 0, .int .i64 0], .bool false]) (by simp [results, Try.results27, go_sem]) rfl (RetB.mk rfl ((Below.refl _ _).alloc (Nat.le_refl _) _))

theorem keep_nil (w : World) (c n : Int) : Calls Try.prog 28 #[.pointer none, .int .u64 c, .int .u64 n, .agg #[.int .i64 0, .string ⟨#[]⟩, .int .u64 0, .int .i64 0]] w (RetB (.int .i64 1) w) := by
  go_enter Try.func28, Try.ntmps28
  go_wp2
  go_ret
  exact RetB.mk rfl ((Below.refl _ _).alloc (Nat.le_refl _) _)

theorem last_nil (w : World) (c : Int) : Calls Try.prog 29 #[.pointer none, .int .u64 c] w (Ret (.int .u64 0) w) := by
  go_enter Try.func29, Try.ntmps29
  go_wp2
  go_ret
  exact Ret.mk rfl

theorem len_nil (w : World) : Calls Try.prog 30 #[.pointer none] w (Ret (.int .i64 0) w) := by
  go_enter Try.func30, Try.ntmps30
  go_wp2
  go_ret
  exact Ret.mk rfl

theorem bytes_nil (w : World) : Calls Try.prog 31 #[.pointer none] w (RetB (.slice none 0 0) w) := by
  go_enter Try.func31, Try.ntmps31
  go_wp2
  go_ret
  exact RetB.mk rfl ((Below.refl _ _).alloc (Nat.le_refl _) _)

theorem copy_nil (w : World) : Calls Try.prog 32 #[.pointer none] w (Ret (.pointer none) w) := by
  go_enter Try.func32, Try.ntmps32
  go_wp2
  go_ret
  exact Ret.mk rfl

theorem none_any (w : World) (c n : Int) (_ : (Lit.int .u64 c).wf = true) (_ : (Lit.int .u64 n).wf = true) :
    Calls Try.prog 7 #[.int .u64 c, .int .u64 n] w (RetB (.bool true) w) := by
  go_enter Try.func7, Try.ntmps7
  go_wp2_with fail
  refine (lives20 _).mono ?_
  rintro e w1 ⟨rfl, hb1⟩
  go_wp2_with fail
  refine (look_nil _ _ _).mono ?_
  rintro e w2 ⟨rfl, hb2⟩
  have hs1 := hb1.size
  have hs2 := hb2.size
  have hb12 := hb1.trans (hb2.mono hs1)
  have hb3' : Below w.heap.size w (w2.alloc (.cells #[.int .i64 0, .string ⟨#[]⟩, .int .u64 0, .int .i64 0] 42)) := hb12.alloc (by omega) _
  go_wp2_with fail
  refine (keep_nil _ _ _).mono ?_
  rintro e w3 ⟨rfl, hb3⟩
  have hb4 := hb3'.trans (hb3.mono (by simp; omega))
  have hs3 := hb3.size
  clear hb1 hb2 hb3 hb12 hb3'
  go_wp2_with fail
  refine (last_nil _ _).mono ?_
  rintro e w' ⟨rfl, rfl⟩
  go_wp2_with fail
  refine (len_nil _).mono ?_
  rintro e w' ⟨rfl, rfl⟩
  go_wp2_with fail
  refine (bytes_nil _).mono ?_
  rintro e w4 ⟨rfl, hb5⟩
  go_wp2_with fail
  refine (copy_nil _).mono ?_
  rintro e w' ⟨rfl, rfl⟩
  go_wp2_with fail
  go_ret
  exact RetB.mk rfl (hb4.trans (hb5.mono (by simp at hs3; omega)))

end Go.Proofs.Ytnnibcfbcpipfaa

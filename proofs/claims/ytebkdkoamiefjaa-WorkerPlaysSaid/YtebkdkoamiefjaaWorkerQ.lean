/- The statement WorkerPlays: its walk, where there is nothing to play. -/
import Derived.Test.YtebkdkoamiefjaaWorkerN
import Derived.Test.YtebkdkoamiefjaaRefName
import Derived.Test.YtebkdkoamiefjaaActs
namespace Go.Proofs.Ytebkdkoamiefjaa
open Go.RowKit

set_option maxRecDepth 100000 in
theorem plays_long (name : ByteArray) (client : Int) (a : Option Addr) (len cap : Nat) (w : World) (h : 60 < name.size ∨ name.size ≤ 60 ∧ 80 < len) (h0 : name.size ≤ 9223372036854775807) (h1 : len ≤ 9223372036854775807) :
    Calls Try.prog 8 #[.string name, .int .u64 client, .slice a len cap] w (RetB (.bool true) w) := by
  rcases h with h | ⟨h, h'⟩
  all_goals
    go_enter Try.func8, Try.ntmps8
    go_wp2_with fail
    refine (lives31 _).mono ?_
    rintro e w1 ⟨rfl, hb1⟩
    go_wp2_with fail
    refine (lives31 _).mono ?_
    rintro e w2 ⟨rfl, hb2⟩
    go_wp2_with fail
    go_ret
    exact RetB.mk rfl (hb1.trans (hb2.mono hb1.size))

set_option maxRecDepth 100000 in
theorem plays_name (name : ByteArray) (client : Int) (a : Option Addr) (len cap : Nat) (w : World) (h0 : name.size ≤ 60) (h1 : len ≤ 80) (hn : nameB name = false) :
    Calls Try.prog 8 #[.string name, .int .u64 client, .slice a len cap] w (RetB (.bool true) w) := by
  have hr := fun w => refName_any name w h0
  rw [hn] at hr
  have hnw := fun w => newW_name w name client (by unfold maxLen; omega) hn
  clear hn
  go_enter Try.func8, Try.ntmps8
  go_wp2_with fail
  refine (lives31 _).mono ?_
  rintro e w1 ⟨rfl, hb1⟩
  go_wp2_with fail
  refine (hnw _).mono ?_
  rintro e w2 ⟨rfl, hb2⟩
  go_wp2_with fail
  refine (hr _).mono ?_
  rintro e w' ⟨rfl, rfl⟩
  go_wp2_with fail
  go_ret
  exact RetB.mk rfl (hb1.trans (hb2.mono hb1.size))

set_option maxRecDepth 100000 in
theorem plays_client (name : ByteArray) (client : Int) (a : Option Addr) (len cap : Nat) (w : World) (h0 : name.size ≤ 60) (h1 : len ≤ 80) (hn : nameB name = true) (hc : (client == 0) = true) :
    Calls Try.prog 8 #[.string name, .int .u64 client, .slice a len cap] w (RetB (.bool true) w) := by
  have hr := fun w => refName_any name w h0
  rw [hn] at hr
  have hnw := fun w => newW_arg w name client (by unfold maxLen; omega) hn hc
  clear hn
  go_enter Try.func8, Try.ntmps8
  go_wp2_with fail
  refine (lives31 _).mono ?_
  rintro e w1 ⟨rfl, hb1⟩
  go_wp2_with fail
  refine (hnw _).mono ?_
  rintro e w2 ⟨rfl, hb2⟩
  go_wp2_with fail
  refine (hr _).mono ?_
  rintro e w' ⟨rfl, rfl⟩
  go_wp2_with fail
  go_ret
  exact RetB.mk rfl (hb1.trans (hb2.mono hb1.size))


end Go.Proofs.Ytebkdkoamiefjaa

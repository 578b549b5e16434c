/-
  No cell of these rows narrows 'for every input' (looked for: loops, veiled, ifaces, maps, wideKeys, modest, calm, conditions, laid).
  DERIVED. THE GIVEN ROWS OF THIS SEAT. 4 by the template 'for every input the law returns true; each argument reads behind the call as it read before'; 0 by the template 'total and deterministic' (their statements: YtdjooojpcepleaaGreatTotals.lean).
  GIVEN WITH THE SEED: the statements are not yours to turn. If you find one false, say at which input.
  Laid BY PROGRAM, IN A SANDBOX (cutbox-rows.mjs): the forced cells as the released guide's own fill.sh prints them over the translation 28ec36dd2b1825e8… (all of the seat's roots in one cut). By AI agents, Wed Nov 11 2026. No macro, syntax, notation, axiom, sorry.
-/
import Derived.Test.YtdjooojpcepleaaGreatChecked
import GoSem.Claim
import GoSem.ClaimJoined
import GoSem.ClaimMapViews
import Derived.JoinedTies
import Derived.KernelRfl
namespace Go.Proofs.YtdjooojpcepleaaGreat
/- THE CELL 'sum', in the pinned program and in every row, IS THE sha256 OF THE DUMP (.gsa) THAT YtdjooojpcepleaaGreatProg.lean LOADS. Nothing in Lean hashes anything: it is a label: what it is worth is what the hold of that sum in a sandbox is worth. -/
noncomputable def Tryz.pinned : Pinned := { name := "ytdjooojpcepleaagreat", sum := "28ec36dd2b1825e89bc115dd318533459ccbf3de0aa385cafcc6a9869830287f", checked := Tryz.checked }
namespace Rows
def none {H : Type} : Left H := { results := [], args := [] }

/-- 'complinelaw26.RaftMatches': WHATEVER THE INPUT: true; the input reads as it did. -/
def raftMatchesSpec : ChangeSpec := { name := "raftMatches", fn := fun _ => fun
  | [d1, d2] => { results := [.lit (.bool true)], args := [d1, d2] }
  | _ => none }
def raftMatchesRow : OpenClaim := { program := "ytdjooojpcepleaagreat", sum := "28ec36dd2b1825e89bc115dd318533459ccbf3de0aa385cafcc6a9869830287f", func := "compline/complinelaw26.RaftMatches", spec := "raftMatches", unfollowed := true, recurses := true, apart := false }
def RaftMatchesSaid : Prop := raftMatchesRow.holds Tryz.pinned (OpenSpec.ofChange raftMatchesSpec)

/-- ITS FALSE NEIGHBOUR: 'it returns false'. Refute it at one input. -/
def raftMatchesWrong : ChangeSpec := { name := "raftMatches", fn := fun _ => fun
  | [d1, d2] => { results := [.lit (.bool false)], args := [d1, d2] }
  | _ => none }
def RaftMatchesWrongFalsely : Prop := raftMatchesRow.holds Tryz.pinned (OpenSpec.ofChange raftMatchesWrong)

/-- 'complinelaw26.RaftSafe': WHATEVER THE INPUT: true; the input reads as it did. -/
def raftSafeSpec : ChangeSpec := { name := "raftSafe", fn := fun _ => fun
  | [d1, d2] => { results := [.lit (.bool true)], args := [d1, d2] }
  | _ => none }
def raftSafeRow : OpenClaim := { program := "ytdjooojpcepleaagreat", sum := "28ec36dd2b1825e89bc115dd318533459ccbf3de0aa385cafcc6a9869830287f", func := "compline/complinelaw26.RaftSafe", spec := "raftSafe", unfollowed := true, recurses := true, apart := false }
def RaftSafeSaid : Prop := raftSafeRow.holds Tryz.pinned (OpenSpec.ofChange raftSafeSpec)

/-- ITS FALSE NEIGHBOUR: 'it returns false'. Refute it at one input. -/
def raftSafeWrong : ChangeSpec := { name := "raftSafe", fn := fun _ => fun
  | [d1, d2] => { results := [.lit (.bool false)], args := [d1, d2] }
  | _ => none }
def RaftSafeWrongFalsely : Prop := raftSafeRow.holds Tryz.pinned (OpenSpec.ofChange raftSafeWrong)

/-- 'complinelaw26.RaftGoes': WHATEVER THE INPUT: true; the input reads as it did. -/
def raftGoesSpec : ChangeSpec := { name := "raftGoes", fn := fun _ => fun
  | [d1, d2] => { results := [.lit (.bool true)], args := [d1, d2] }
  | _ => none }
def raftGoesRow : OpenClaim := { program := "ytdjooojpcepleaagreat", sum := "28ec36dd2b1825e89bc115dd318533459ccbf3de0aa385cafcc6a9869830287f", func := "compline/complinelaw26.RaftGoes", spec := "raftGoes", unfollowed := true, recurses := true, apart := false }
def RaftGoesSaid : Prop := raftGoesRow.holds Tryz.pinned (OpenSpec.ofChange raftGoesSpec)

/-- ITS FALSE NEIGHBOUR: 'it returns false'. Refute it at one input. -/
def raftGoesWrong : ChangeSpec := { name := "raftGoes", fn := fun _ => fun
  | [d1, d2] => { results := [.lit (.bool false)], args := [d1, d2] }
  | _ => none }
def RaftGoesWrongFalsely : Prop := raftGoesRow.holds Tryz.pinned (OpenSpec.ofChange raftGoesWrong)

/-- 'complinelaw26.RaftKeeps': WHATEVER THE INPUT: true; the input reads as it did. -/
def raftKeepsSpec : ChangeSpec := { name := "raftKeeps", fn := fun _ => fun
  | [d1, d2] => { results := [.lit (.bool true)], args := [d1, d2] }
  | _ => none }
def raftKeepsRow : OpenClaim := { program := "ytdjooojpcepleaagreat", sum := "28ec36dd2b1825e89bc115dd318533459ccbf3de0aa385cafcc6a9869830287f", func := "compline/complinelaw26.RaftKeeps", spec := "raftKeeps", unfollowed := true, recurses := true, apart := false }
def RaftKeepsSaid : Prop := raftKeepsRow.holds Tryz.pinned (OpenSpec.ofChange raftKeepsSpec)

/-- ITS FALSE NEIGHBOUR: 'it returns false'. Refute it at one input. -/
def raftKeepsWrong : ChangeSpec := { name := "raftKeeps", fn := fun _ => fun
  | [d1, d2] => { results := [.lit (.bool false)], args := [d1, d2] }
  | _ => none }
def RaftKeepsWrongFalsely : Prop := raftKeepsRow.holds Tryz.pinned (OpenSpec.ofChange raftKeepsWrong)

/- THE SECOND FORM. 'bulk': how many values and letters a reading holds, each counted each time it is reached (what is shared counts as often as it is met; a slice's spare places count too). A statement '..UptoSaid' is the law's where the arguments, and the package variables that the reading takes, are together of bulk at most 1048576: NARROWER than '..Said'. Prove '..Said' where nothing that the law and all that it calls make is longer than what came in: it says more and counts as full. Else prove '..UptoSaid'. A law counts once. -/
mutual
def uptoBulk {H : Type} : DataW H → Nat
  | .lit (.string bytes) => bytes.length + 1
  | .lit _ => 1
  | .nil => 1
  | .ptr d => uptoBulk d + 1
  | .slice elems spare => uptoBulkAll elems + uptoBulkAll spare + 1
  | .agg parts => uptoBulkAll parts + 1
  | .iface _ d => uptoBulk d + 1
  | .map entries => uptoBulkEntries entries + 1
  | .held _ => 1
def uptoBulkAll {H : Type} : List (DataW H) → Nat
  | [] => 0
  | d :: r => uptoBulk d + uptoBulkAll r
def uptoBulkEntries {H : Type} : List (Lit × DataW H) → Nat
  | [] => 0
  | x :: r => uptoBulkEntry x + uptoBulkEntries r
def uptoBulkEntry {H : Type} : Lit × DataW H → Nat
  | (.string bytes, d) => bytes.length + uptoBulk d + 1
  | (_, d) => uptoBulk d + 1
 end
def uptoSmall : (H : Type) → List (DataW H) → Bool := fun _ ds => decide (uptoBulkAll ds ≤ 1048576)
def OpenSpec.upto (s : _root_.Go.ChangeSpec) : _root_.Go.OpenSpec := { _root_.Go.OpenSpec.ofChange s with cond := some uptoSmall }

/-- 'complinelaw26.RaftMatches', WHERE WHAT IT READS IS OF BULK AT MOST 1048576: true; the input reads as it did. -/
def raftMatchesUptoRow : OpenClaim := { program := "ytdjooojpcepleaagreat", sum := "28ec36dd2b1825e89bc115dd318533459ccbf3de0aa385cafcc6a9869830287f", func := "compline/complinelaw26.RaftMatches", spec := "raftMatches", unfollowed := true, recurses := true, apart := false, narrowed := true }
def RaftMatchesUptoSaid : Prop := raftMatchesUptoRow.holds Tryz.pinned (OpenSpec.upto raftMatchesSpec)

/-- 'complinelaw26.RaftSafe', WHERE WHAT IT READS IS OF BULK AT MOST 1048576: true; the input reads as it did. -/
def raftSafeUptoRow : OpenClaim := { program := "ytdjooojpcepleaagreat", sum := "28ec36dd2b1825e89bc115dd318533459ccbf3de0aa385cafcc6a9869830287f", func := "compline/complinelaw26.RaftSafe", spec := "raftSafe", unfollowed := true, recurses := true, apart := false, narrowed := true }
def RaftSafeUptoSaid : Prop := raftSafeUptoRow.holds Tryz.pinned (OpenSpec.upto raftSafeSpec)

/-- 'complinelaw26.RaftGoes', WHERE WHAT IT READS IS OF BULK AT MOST 1048576: true; the input reads as it did. -/
def raftGoesUptoRow : OpenClaim := { program := "ytdjooojpcepleaagreat", sum := "28ec36dd2b1825e89bc115dd318533459ccbf3de0aa385cafcc6a9869830287f", func := "compline/complinelaw26.RaftGoes", spec := "raftGoes", unfollowed := true, recurses := true, apart := false, narrowed := true }
def RaftGoesUptoSaid : Prop := raftGoesUptoRow.holds Tryz.pinned (OpenSpec.upto raftGoesSpec)

/-- 'complinelaw26.RaftKeeps', WHERE WHAT IT READS IS OF BULK AT MOST 1048576: true; the input reads as it did. -/
def raftKeepsUptoRow : OpenClaim := { program := "ytdjooojpcepleaagreat", sum := "28ec36dd2b1825e89bc115dd318533459ccbf3de0aa385cafcc6a9869830287f", func := "compline/complinelaw26.RaftKeeps", spec := "raftKeeps", unfollowed := true, recurses := true, apart := false, narrowed := true }
def RaftKeepsUptoSaid : Prop := raftKeepsUptoRow.holds Tryz.pinned (OpenSpec.upto raftKeepsSpec)

end Rows
end Go.Proofs.YtdjooojpcepleaaGreat

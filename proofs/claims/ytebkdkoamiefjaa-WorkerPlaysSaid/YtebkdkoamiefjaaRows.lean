/-
  No cell of these rows narrows 'for every input' (looked for: loops, veiled, ifaces, maps, wideKeys, modest, calm, conditions, laid).
  DERIVED. THE GIVEN ROWS OF THIS SEAT. 6 by the template 'for every input the law returns true; each argument reads behind the call as it read before'; 0 by the template 'total and deterministic' (their statements: YtebkdkoamiefjaaTotals.lean).
  GIVEN WITH THE SEED: the statements are not yours to turn. If you find one false, say at which input.
  Laid BY PROGRAM, IN A SANDBOX (cutbox-rows.mjs): the forced cells as the released guide's own fill.sh prints them over the translation b85911357b40f4ee… (all of the seat's roots in one cut). By AI agents, Wed Nov 11 2026. No macro, syntax, notation, axiom, sorry.
-/
import Derived.Test.YtebkdkoamiefjaaChecked
import GoSem.Claim
import GoSem.ClaimJoined
import GoSem.ClaimMapViews
import Derived.JoinedTies
import Derived.KernelRfl
namespace Go.Proofs.Ytebkdkoamiefjaa
/- THE CELL 'sum', in the pinned program and in every row, IS THE sha256 OF THE DUMP (.gsa) THAT YtebkdkoamiefjaaProg.lean LOADS. Nothing in Lean hashes anything: it is a label: what it is worth is what the hold of that sum in a sandbox is worth. -/
noncomputable def Try.pinned : Pinned := { name := "ytebkdkoamiefjaa", sum := "b85911357b40f4eea00d138f06a9524837003c6cc0450d945dd613fde2862050", checked := Try.checked }
namespace Rows
def none {H : Type} : Left H := { results := [], args := [] }

/-- 'complinelaw12.BackoffDoubles': WHATEVER THE INPUT: true; the input reads as it did. -/
def backoffDoublesSpec : ChangeSpec := { name := "backoffDoubles", fn := fun _ => fun
  | [d1, d2, d3] => { results := [.lit (.bool true)], args := [d1, d2, d3] }
  | _ => none }
def backoffDoublesRow : OpenClaim := { program := "ytebkdkoamiefjaa", sum := "b85911357b40f4eea00d138f06a9524837003c6cc0450d945dd613fde2862050", func := "compline/complinelaw12.BackoffDoubles", spec := "backoffDoubles", apart := false }
def BackoffDoublesSaid : Prop := backoffDoublesRow.holds Try.pinned (OpenSpec.ofChange backoffDoublesSpec)

/-- ITS FALSE NEIGHBOUR: 'it returns false'. Refute it at one input. -/
def backoffDoublesWrong : ChangeSpec := { name := "backoffDoubles", fn := fun _ => fun
  | [d1, d2, d3] => { results := [.lit (.bool false)], args := [d1, d2, d3] }
  | _ => none }
def BackoffDoublesWrongFalsely : Prop := backoffDoublesRow.holds Try.pinned (OpenSpec.ofChange backoffDoublesWrong)

/-- 'complinelaw12.BackoffWaits': WHATEVER THE INPUT: true; the input reads as it did. -/
def backoffWaitsSpec : ChangeSpec := { name := "backoffWaits", fn := fun _ => fun
  | [d1, d2, d3, d4] => { results := [.lit (.bool true)], args := [d1, d2, d3, d4] }
  | _ => none }
def backoffWaitsRow : OpenClaim := { program := "ytebkdkoamiefjaa", sum := "b85911357b40f4eea00d138f06a9524837003c6cc0450d945dd613fde2862050", func := "compline/complinelaw12.BackoffWaits", spec := "backoffWaits", apart := false }
def BackoffWaitsSaid : Prop := backoffWaitsRow.holds Try.pinned (OpenSpec.ofChange backoffWaitsSpec)

/-- ITS FALSE NEIGHBOUR: 'it returns false'. Refute it at one input. -/
def backoffWaitsWrong : ChangeSpec := { name := "backoffWaits", fn := fun _ => fun
  | [d1, d2, d3, d4] => { results := [.lit (.bool false)], args := [d1, d2, d3, d4] }
  | _ => none }
def BackoffWaitsWrongFalsely : Prop := backoffWaitsRow.holds Try.pinned (OpenSpec.ofChange backoffWaitsWrong)

/-- 'complinelaw12.BackoffGrows': WHATEVER THE INPUT: true; the input reads as it did. -/
def backoffGrowsSpec : ChangeSpec := { name := "backoffGrows", fn := fun _ => fun
  | [d1, d2, d3] => { results := [.lit (.bool true)], args := [d1, d2, d3] }
  | _ => none }
def backoffGrowsRow : OpenClaim := { program := "ytebkdkoamiefjaa", sum := "b85911357b40f4eea00d138f06a9524837003c6cc0450d945dd613fde2862050", func := "compline/complinelaw12.BackoffGrows", spec := "backoffGrows", apart := false }
def BackoffGrowsSaid : Prop := backoffGrowsRow.holds Try.pinned (OpenSpec.ofChange backoffGrowsSpec)

/-- ITS FALSE NEIGHBOUR: 'it returns false'. Refute it at one input. -/
def backoffGrowsWrong : ChangeSpec := { name := "backoffGrows", fn := fun _ => fun
  | [d1, d2, d3] => { results := [.lit (.bool false)], args := [d1, d2, d3] }
  | _ => none }
def BackoffGrowsWrongFalsely : Prop := backoffGrowsRow.holds Try.pinned (OpenSpec.ofChange backoffGrowsWrong)

/-- 'complinelaw20.SessionOnce': WHATEVER THE INPUT: true; the input reads as it did. -/
def sessionOnceSpec : ChangeSpec := { name := "sessionOnce", fn := fun _ => fun
  | [d1, d2] => { results := [.lit (.bool true)], args := [d1, d2] }
  | _ => none }
def sessionOnceRow : OpenClaim := { program := "ytebkdkoamiefjaa", sum := "b85911357b40f4eea00d138f06a9524837003c6cc0450d945dd613fde2862050", func := "compline/complinelaw20.SessionOnce", spec := "sessionOnce", apart := false }
def SessionOnceSaid : Prop := sessionOnceRow.holds Try.pinned (OpenSpec.ofChange sessionOnceSpec)

/-- ITS FALSE NEIGHBOUR: 'it returns false'. Refute it at one input. -/
def sessionOnceWrong : ChangeSpec := { name := "sessionOnce", fn := fun _ => fun
  | [d1, d2] => { results := [.lit (.bool false)], args := [d1, d2] }
  | _ => none }
def SessionOnceWrongFalsely : Prop := sessionOnceRow.holds Try.pinned (OpenSpec.ofChange sessionOnceWrong)

/-- 'complinelaw31.WorkerNumbers': WHATEVER THE INPUT: true; the input reads as it did. -/
def workerNumbersSpec : ChangeSpec := { name := "workerNumbers", fn := fun _ => fun
  | [d1, d2] => { results := [.lit (.bool true)], args := [d1, d2] }
  | _ => none }
def workerNumbersRow : OpenClaim := { program := "ytebkdkoamiefjaa", sum := "b85911357b40f4eea00d138f06a9524837003c6cc0450d945dd613fde2862050", func := "compline/complinelaw31.WorkerNumbers", spec := "workerNumbers", apart := false }
def WorkerNumbersSaid : Prop := workerNumbersRow.holds Try.pinned (OpenSpec.ofChange workerNumbersSpec)

/-- ITS FALSE NEIGHBOUR: 'it returns false'. Refute it at one input. -/
def workerNumbersWrong : ChangeSpec := { name := "workerNumbers", fn := fun _ => fun
  | [d1, d2] => { results := [.lit (.bool false)], args := [d1, d2] }
  | _ => none }
def WorkerNumbersWrongFalsely : Prop := workerNumbersRow.holds Try.pinned (OpenSpec.ofChange workerNumbersWrong)

/-- 'complinelaw31.WorkerPlays': WHATEVER THE INPUT: true; the input reads as it did. -/
def workerPlaysSpec : ChangeSpec := { name := "workerPlays", fn := fun _ => fun
  | [d1, d2, d3] => { results := [.lit (.bool true)], args := [d1, d2, d3] }
  | _ => none }
def workerPlaysRow : OpenClaim := { program := "ytebkdkoamiefjaa", sum := "b85911357b40f4eea00d138f06a9524837003c6cc0450d945dd613fde2862050", func := "compline/complinelaw31.WorkerPlays", spec := "workerPlays", apart := false }
def WorkerPlaysSaid : Prop := workerPlaysRow.holds Try.pinned (OpenSpec.ofChange workerPlaysSpec)

/-- ITS FALSE NEIGHBOUR: 'it returns false'. Refute it at one input. -/
def workerPlaysWrong : ChangeSpec := { name := "workerPlays", fn := fun _ => fun
  | [d1, d2, d3] => { results := [.lit (.bool false)], args := [d1, d2, d3] }
  | _ => none }
def WorkerPlaysWrongFalsely : Prop := workerPlaysRow.holds Try.pinned (OpenSpec.ofChange workerPlaysWrong)

/- THE SECOND FORM. 'bulk': how many values and letters a reading holds, each counted each time it is reached (what is shared counts as often as it is met; a slice's spare places count too). A statement '..UptoSaid' is the law's where the arguments, and the package variables that the reading takes, are together of bulk at most 1048576: NARROWER than '..Said'. Prove '..Said' where nothing that the law and all that it calls make is longer than what came in: it says more and counts as full. Else prove '..UptoSaid'. A law counts once. -/
mutual
def uptoBulk {H : Type} : DataW H → Nat
  | .lit (.string bytes) => bytes.length + 1
  | .lit _ => 1
  | .nil => 1
  | .ptr d => uptoBulk d + 1
  | .slice elems spare => uptoBulkAll elems + uptoBulkAll spare + 1
  | .agg parts => uptoBulkAll parts + 1
  | .iface _ d => uptoBulk d + 1
  | .map entries => uptoBulkEntries entries + 1
  | .held _ => 1
def uptoBulkAll {H : Type} : List (DataW H) → Nat
  | [] => 0
  | d :: r => uptoBulk d + uptoBulkAll r
def uptoBulkEntries {H : Type} : List (Lit × DataW H) → Nat
  | [] => 0
  | x :: r => uptoBulkEntry x + uptoBulkEntries r
def uptoBulkEntry {H : Type} : Lit × DataW H → Nat
  | (.string bytes, d) => bytes.length + uptoBulk d + 1
  | (_, d) => uptoBulk d + 1
 end
def uptoSmall : (H : Type) → List (DataW H) → Bool := fun _ ds => decide (uptoBulkAll ds ≤ 1048576)
def OpenSpec.upto (s : _root_.Go.ChangeSpec) : _root_.Go.OpenSpec := { _root_.Go.OpenSpec.ofChange s with cond := some uptoSmall }

/-- 'complinelaw12.BackoffDoubles', WHERE WHAT IT READS IS OF BULK AT MOST 1048576: true; the input reads as it did. -/
def backoffDoublesUptoRow : OpenClaim := { program := "ytebkdkoamiefjaa", sum := "b85911357b40f4eea00d138f06a9524837003c6cc0450d945dd613fde2862050", func := "compline/complinelaw12.BackoffDoubles", spec := "backoffDoubles", apart := false, narrowed := true }
def BackoffDoublesUptoSaid : Prop := backoffDoublesUptoRow.holds Try.pinned (OpenSpec.upto backoffDoublesSpec)

/-- 'complinelaw12.BackoffWaits', WHERE WHAT IT READS IS OF BULK AT MOST 1048576: true; the input reads as it did. -/
def backoffWaitsUptoRow : OpenClaim := { program := "ytebkdkoamiefjaa", sum := "b85911357b40f4eea00d138f06a9524837003c6cc0450d945dd613fde2862050", func := "compline/complinelaw12.BackoffWaits", spec := "backoffWaits", apart := false, narrowed := true }
def BackoffWaitsUptoSaid : Prop := backoffWaitsUptoRow.holds Try.pinned (OpenSpec.upto backoffWaitsSpec)

/-- 'complinelaw12.BackoffGrows', WHERE WHAT IT READS IS OF BULK AT MOST 1048576: true; the input reads as it did. -/
def backoffGrowsUptoRow : OpenClaim := { program := "ytebkdkoamiefjaa", sum := "b85911357b40f4eea00d138f06a9524837003c6cc0450d945dd613fde2862050", func := "compline/complinelaw12.BackoffGrows", spec := "backoffGrows", apart := false, narrowed := true }
def BackoffGrowsUptoSaid : Prop := backoffGrowsUptoRow.holds Try.pinned (OpenSpec.upto backoffGrowsSpec)

/-- 'complinelaw20.SessionOnce', WHERE WHAT IT READS IS OF BULK AT MOST 1048576: true; the input reads as it did. -/
def sessionOnceUptoRow : OpenClaim := { program := "ytebkdkoamiefjaa", sum := "b85911357b40f4eea00d138f06a9524837003c6cc0450d945dd613fde2862050", func := "compline/complinelaw20.SessionOnce", spec := "sessionOnce", apart := false, narrowed := true }
def SessionOnceUptoSaid : Prop := sessionOnceUptoRow.holds Try.pinned (OpenSpec.upto sessionOnceSpec)

/-- 'complinelaw31.WorkerNumbers', WHERE WHAT IT READS IS OF BULK AT MOST 1048576: true; the input reads as it did. -/
def workerNumbersUptoRow : OpenClaim := { program := "ytebkdkoamiefjaa", sum := "b85911357b40f4eea00d138f06a9524837003c6cc0450d945dd613fde2862050", func := "compline/complinelaw31.WorkerNumbers", spec := "workerNumbers", apart := false, narrowed := true }
def WorkerNumbersUptoSaid : Prop := workerNumbersUptoRow.holds Try.pinned (OpenSpec.upto workerNumbersSpec)

/-- 'complinelaw31.WorkerPlays', WHERE WHAT IT READS IS OF BULK AT MOST 1048576: true; the input reads as it did. -/
def workerPlaysUptoRow : OpenClaim := { program := "ytebkdkoamiefjaa", sum := "b85911357b40f4eea00d138f06a9524837003c6cc0450d945dd613fde2862050", func := "compline/complinelaw31.WorkerPlays", spec := "workerPlays", apart := false, narrowed := true }
def WorkerPlaysUptoSaid : Prop := workerPlaysUptoRow.holds Try.pinned (OpenSpec.upto workerPlaysSpec)

end Rows
end Go.Proofs.Ytebkdkoamiefjaa

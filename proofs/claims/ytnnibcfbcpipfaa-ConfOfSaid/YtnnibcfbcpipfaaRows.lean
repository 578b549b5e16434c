/-
  No cell of these rows narrows 'for every input' (looked for: loops, veiled, ifaces, maps, wideKeys, modest, calm, conditions, laid).
  DERIVED. THE GIVEN ROWS OF THIS SEAT. 9 by the template 'for every input the law returns true; each argument reads behind the call as it read before'; 0 by the template 'total and deterministic' (their statements: YtnnibcfbcpipfaaTotals.lean).
  GIVEN WITH THE SEED: the statements are not yours to turn. If you find one false, say at which input.
  Laid BY PROGRAM, IN A SANDBOX (cutbox-rows.mjs): the forced cells as the released guide's own fill.sh prints them over the translation 1b34f4c399c896f4… (all of the seat's roots in one cut). By AI agents, Wed Nov 11 2026. No macro, syntax, notation, axiom, sorry.
-/
import Derived.Test.YtnnibcfbcpipfaaChecked
import GoSem.Claim
import GoSem.ClaimJoined
import GoSem.ClaimMapViews
import Derived.JoinedTies
import Derived.KernelRfl
namespace Go.Proofs.Ytnnibcfbcpipfaa
/- THE CELL 'sum', in the pinned program and in every row, IS THE sha256 OF THE DUMP (.gsa) THAT YtnnibcfbcpipfaaProg.lean LOADS. Nothing in Lean hashes anything: it is a label: what it is worth is what the hold of that sum in a sandbox is worth. -/
noncomputable def Try.pinned : Pinned := { name := "ytnnibcfbcpipfaa", sum := "1b34f4c399c896f4415b37da0316e1090488ac0bc8a7aba6cb8cb9138644262b", checked := Try.checked }
namespace Rows
def none {H : Type} : Left H := { results := [], args := [] }

/-- 'complinelaw23.ConfAgreed': WHATEVER THE INPUT: true; the input reads as it did. -/
def confAgreedSpec : ChangeSpec := { name := "confAgreed", fn := fun _ => fun
  | [d1, d2] => { results := [.lit (.bool true)], args := [d1, d2] }
  | _ => none }
def confAgreedRow : OpenClaim := { program := "ytnnibcfbcpipfaa", sum := "1b34f4c399c896f4415b37da0316e1090488ac0bc8a7aba6cb8cb9138644262b", func := "compline/complinelaw23.ConfAgreed", spec := "confAgreed", unfollowed := true, recurses := true, apart := false }
def ConfAgreedSaid : Prop := confAgreedRow.holds Try.pinned (OpenSpec.ofChange confAgreedSpec)

/-- ITS FALSE NEIGHBOUR: 'it returns false'. Refute it at one input. -/
def confAgreedWrong : ChangeSpec := { name := "confAgreed", fn := fun _ => fun
  | [d1, d2] => { results := [.lit (.bool false)], args := [d1, d2] }
  | _ => none }
def ConfAgreedWrongFalsely : Prop := confAgreedRow.holds Try.pinned (OpenSpec.ofChange confAgreedWrong)

/-- 'complinelaw23.ConfMeets': WHATEVER THE INPUT: true; the input reads as it did. -/
def confMeetsSpec : ChangeSpec := { name := "confMeets", fn := fun _ => fun
  | [d1, d2, d3, d4] => { results := [.lit (.bool true)], args := [d1, d2, d3, d4] }
  | _ => none }
def confMeetsRow : OpenClaim := { program := "ytnnibcfbcpipfaa", sum := "1b34f4c399c896f4415b37da0316e1090488ac0bc8a7aba6cb8cb9138644262b", func := "compline/complinelaw23.ConfMeets", spec := "confMeets", unfollowed := true, recurses := true, apart := false }
def ConfMeetsSaid : Prop := confMeetsRow.holds Try.pinned (OpenSpec.ofChange confMeetsSpec)

/-- ITS FALSE NEIGHBOUR: 'it returns false'. Refute it at one input. -/
def confMeetsWrong : ChangeSpec := { name := "confMeets", fn := fun _ => fun
  | [d1, d2, d3, d4] => { results := [.lit (.bool false)], args := [d1, d2, d3, d4] }
  | _ => none }
def ConfMeetsWrongFalsely : Prop := confMeetsRow.holds Try.pinned (OpenSpec.ofChange confMeetsWrong)

/-- 'complinelaw23.ConfSteps': WHATEVER THE INPUT: true; the input reads as it did. -/
def confStepsSpec : ChangeSpec := { name := "confSteps", fn := fun _ => fun
  | [d1, d2, d3] => { results := [.lit (.bool true)], args := [d1, d2, d3] }
  | _ => none }
def confStepsRow : OpenClaim := { program := "ytnnibcfbcpipfaa", sum := "1b34f4c399c896f4415b37da0316e1090488ac0bc8a7aba6cb8cb9138644262b", func := "compline/complinelaw23.ConfSteps", spec := "confSteps", unfollowed := true, recurses := true, apart := false }
def ConfStepsSaid : Prop := confStepsRow.holds Try.pinned (OpenSpec.ofChange confStepsSpec)

/-- ITS FALSE NEIGHBOUR: 'it returns false'. Refute it at one input. -/
def confStepsWrong : ChangeSpec := { name := "confSteps", fn := fun _ => fun
  | [d1, d2, d3] => { results := [.lit (.bool false)], args := [d1, d2, d3] }
  | _ => none }
def ConfStepsWrongFalsely : Prop := confStepsRow.holds Try.pinned (OpenSpec.ofChange confStepsWrong)

/-- 'complinelaw23.ConfPaths': WHATEVER THE INPUT: true; the input reads as it did. -/
def confPathsSpec : ChangeSpec := { name := "confPaths", fn := fun _ => fun
  | [d1, d2] => { results := [.lit (.bool true)], args := [d1, d2] }
  | _ => none }
def confPathsRow : OpenClaim := { program := "ytnnibcfbcpipfaa", sum := "1b34f4c399c896f4415b37da0316e1090488ac0bc8a7aba6cb8cb9138644262b", func := "compline/complinelaw23.ConfPaths", spec := "confPaths", unfollowed := true, recurses := true, apart := false }
def ConfPathsSaid : Prop := confPathsRow.holds Try.pinned (OpenSpec.ofChange confPathsSpec)

/-- ITS FALSE NEIGHBOUR: 'it returns false'. Refute it at one input. -/
def confPathsWrong : ChangeSpec := { name := "confPaths", fn := fun _ => fun
  | [d1, d2] => { results := [.lit (.bool false)], args := [d1, d2] }
  | _ => none }
def ConfPathsWrongFalsely : Prop := confPathsRow.holds Try.pinned (OpenSpec.ofChange confPathsWrong)

/-- 'complinelaw20.SessionNone': WHATEVER THE INPUT: true; the input reads as it did. -/
def sessionNoneSpec : ChangeSpec := { name := "sessionNone", fn := fun _ => fun
  | [d1, d2] => { results := [.lit (.bool true)], args := [d1, d2] }
  | _ => none }
def sessionNoneRow : OpenClaim := { program := "ytnnibcfbcpipfaa", sum := "1b34f4c399c896f4415b37da0316e1090488ac0bc8a7aba6cb8cb9138644262b", func := "compline/complinelaw20.SessionNone", spec := "sessionNone", inPlace := ["maps.clone"], unfollowed := true, recurses := true, apart := false }
def SessionNoneSaid : Prop := sessionNoneRow.holds Try.pinned (OpenSpec.ofChange sessionNoneSpec)

/-- ITS FALSE NEIGHBOUR: 'it returns false'. Refute it at one input. -/
def sessionNoneWrong : ChangeSpec := { name := "sessionNone", fn := fun _ => fun
  | [d1, d2] => { results := [.lit (.bool false)], args := [d1, d2] }
  | _ => none }
def SessionNoneWrongFalsely : Prop := sessionNoneRow.holds Try.pinned (OpenSpec.ofChange sessionNoneWrong)

/-- 'complinelaw23.ConfOf': WHATEVER THE INPUT: true; the input reads as it did. -/
def confOfSpec : ChangeSpec := { name := "confOf", fn := fun _ => fun
  | [d1, d2, d3] => { results := [.lit (.bool true)], args := [d1, d2, d3] }
  | _ => none }
def confOfRow : OpenClaim := { program := "ytnnibcfbcpipfaa", sum := "1b34f4c399c896f4415b37da0316e1090488ac0bc8a7aba6cb8cb9138644262b", func := "compline/complinelaw23.ConfOf", spec := "confOf", unfollowed := true, recurses := true, apart := false }
def ConfOfSaid : Prop := confOfRow.holds Try.pinned (OpenSpec.ofChange confOfSpec)

/-- ITS FALSE NEIGHBOUR: 'it returns false'. Refute it at one input. -/
def confOfWrong : ChangeSpec := { name := "confOf", fn := fun _ => fun
  | [d1, d2, d3] => { results := [.lit (.bool false)], args := [d1, d2, d3] }
  | _ => none }
def ConfOfWrongFalsely : Prop := confOfRow.holds Try.pinned (OpenSpec.ofChange confOfWrong)

/-- 'complinelaw20.SessionReads': WHATEVER THE INPUT: true; the input reads as it did. -/
def sessionReadsSpec : ChangeSpec := { name := "sessionReads", fn := fun _ => fun
  | [d] => { results := [.lit (.bool true)], args := [d] }
  | _ => none }
def sessionReadsRow : OpenClaim := { program := "ytnnibcfbcpipfaa", sum := "1b34f4c399c896f4415b37da0316e1090488ac0bc8a7aba6cb8cb9138644262b", func := "compline/complinelaw20.SessionReads", spec := "sessionReads", unfollowed := true, recurses := true, apart := false }
def SessionReadsSaid : Prop := sessionReadsRow.holds Try.pinned (OpenSpec.ofChange sessionReadsSpec)

/-- ITS FALSE NEIGHBOUR: 'it returns false'. Refute it at one input. -/
def sessionReadsWrong : ChangeSpec := { name := "sessionReads", fn := fun _ => fun
  | [d] => { results := [.lit (.bool false)], args := [d] }
  | _ => none }
def SessionReadsWrongFalsely : Prop := sessionReadsRow.holds Try.pinned (OpenSpec.ofChange sessionReadsWrong)

/-- 'complinelaw19.ImageParts': WHATEVER THE INPUT: true; the input reads as it did. -/
def imagePartsSpec : ChangeSpec := { name := "imageParts", fn := fun _ => fun
  | [d1, d2] => { results := [.lit (.bool true)], args := [d1, d2] }
  | _ => none }
def imagePartsRow : OpenClaim := { program := "ytnnibcfbcpipfaa", sum := "1b34f4c399c896f4415b37da0316e1090488ac0bc8a7aba6cb8cb9138644262b", func := "compline/complinelaw19.ImageParts", spec := "imageParts", unfollowed := true, recurses := true, apart := false }
def ImagePartsSaid : Prop := imagePartsRow.holds Try.pinned (OpenSpec.ofChange imagePartsSpec)

/-- ITS FALSE NEIGHBOUR: 'it returns false'. Refute it at one input. -/
def imagePartsWrong : ChangeSpec := { name := "imageParts", fn := fun _ => fun
  | [d1, d2] => { results := [.lit (.bool false)], args := [d1, d2] }
  | _ => none }
def ImagePartsWrongFalsely : Prop := imagePartsRow.holds Try.pinned (OpenSpec.ofChange imagePartsWrong)

/-- 'complinelaw20.SessionPlays': WHATEVER THE INPUT: true; the input reads as it did. -/
def sessionPlaysSpec : ChangeSpec := { name := "sessionPlays", fn := fun _ => fun
  | [d] => { results := [.lit (.bool true)], args := [d] }
  | _ => none }
def sessionPlaysRow : OpenClaim := { program := "ytnnibcfbcpipfaa", sum := "1b34f4c399c896f4415b37da0316e1090488ac0bc8a7aba6cb8cb9138644262b", func := "compline/complinelaw20.SessionPlays", spec := "sessionPlays", inPlace := ["maps.clone"], unfollowed := true, recurses := true, apart := false }
def SessionPlaysSaid : Prop := sessionPlaysRow.holds Try.pinned (OpenSpec.ofChange sessionPlaysSpec)

/-- ITS FALSE NEIGHBOUR: 'it returns false'. Refute it at one input. -/
def sessionPlaysWrong : ChangeSpec := { name := "sessionPlays", fn := fun _ => fun
  | [d] => { results := [.lit (.bool false)], args := [d] }
  | _ => none }
def SessionPlaysWrongFalsely : Prop := sessionPlaysRow.holds Try.pinned (OpenSpec.ofChange sessionPlaysWrong)

/- THE SECOND FORM. 'bulk': how many values and letters a reading holds, each counted each time it is reached (what is shared counts as often as it is met; a slice's spare places count too). A statement '..UptoSaid' is the law's where the arguments, and the package variables that the reading takes, are together of bulk at most 1048576: NARROWER than '..Said'. Prove '..Said' where nothing that the law and all that it calls make is longer than what came in: it says more and counts as full. Else prove '..UptoSaid'. A law counts once. -/
mutual
def uptoBulk {H : Type} : DataW H → Nat
  | .lit (.string bytes) => bytes.length + 1
  | .lit _ => 1
  | .nil => 1
  | .ptr d => uptoBulk d + 1
  | .slice elems spare => uptoBulkAll elems + uptoBulkAll spare + 1
  | .agg parts => uptoBulkAll parts + 1
  | .iface _ d => uptoBulk d + 1
  | .map entries => uptoBulkEntries entries + 1
  | .held _ => 1
def uptoBulkAll {H : Type} : List (DataW H) → Nat
  | [] => 0
  | d :: r => uptoBulk d + uptoBulkAll r
def uptoBulkEntries {H : Type} : List (Lit × DataW H) → Nat
  | [] => 0
  | x :: r => uptoBulkEntry x + uptoBulkEntries r
def uptoBulkEntry {H : Type} : Lit × DataW H → Nat
  | (.string bytes, d) => bytes.length + uptoBulk d + 1
  | (_, d) => uptoBulk d + 1
 end
def uptoSmall : (H : Type) → List (DataW H) → Bool := fun _ ds => decide (uptoBulkAll ds ≤ 1048576)
def OpenSpec.upto (s : _root_.Go.ChangeSpec) : _root_.Go.OpenSpec := { _root_.Go.OpenSpec.ofChange s with cond := some uptoSmall }

/-- 'complinelaw23.ConfAgreed', WHERE WHAT IT READS IS OF BULK AT MOST 1048576: true; the input reads as it did. -/
def confAgreedUptoRow : OpenClaim := { program := "ytnnibcfbcpipfaa", sum := "1b34f4c399c896f4415b37da0316e1090488ac0bc8a7aba6cb8cb9138644262b", func := "compline/complinelaw23.ConfAgreed", spec := "confAgreed", unfollowed := true, recurses := true, apart := false, narrowed := true }
def ConfAgreedUptoSaid : Prop := confAgreedUptoRow.holds Try.pinned (OpenSpec.upto confAgreedSpec)

/-- 'complinelaw23.ConfMeets', WHERE WHAT IT READS IS OF BULK AT MOST 1048576: true; the input reads as it did. -/
def confMeetsUptoRow : OpenClaim := { program := "ytnnibcfbcpipfaa", sum := "1b34f4c399c896f4415b37da0316e1090488ac0bc8a7aba6cb8cb9138644262b", func := "compline/complinelaw23.ConfMeets", spec := "confMeets", unfollowed := true, recurses := true, apart := false, narrowed := true }
def ConfMeetsUptoSaid : Prop := confMeetsUptoRow.holds Try.pinned (OpenSpec.upto confMeetsSpec)

/-- 'complinelaw23.ConfSteps', WHERE WHAT IT READS IS OF BULK AT MOST 1048576: true; the input reads as it did. -/
def confStepsUptoRow : OpenClaim := { program := "ytnnibcfbcpipfaa", sum := "1b34f4c399c896f4415b37da0316e1090488ac0bc8a7aba6cb8cb9138644262b", func := "compline/complinelaw23.ConfSteps", spec := "confSteps", unfollowed := true, recurses := true, apart := false, narrowed := true }
def ConfStepsUptoSaid : Prop := confStepsUptoRow.holds Try.pinned (OpenSpec.upto confStepsSpec)

/-- 'complinelaw23.ConfPaths', WHERE WHAT IT READS IS OF BULK AT MOST 1048576: true; the input reads as it did. -/
def confPathsUptoRow : OpenClaim := { program := "ytnnibcfbcpipfaa", sum := "1b34f4c399c896f4415b37da0316e1090488ac0bc8a7aba6cb8cb9138644262b", func := "compline/complinelaw23.ConfPaths", spec := "confPaths", unfollowed := true, recurses := true, apart := false, narrowed := true }
def ConfPathsUptoSaid : Prop := confPathsUptoRow.holds Try.pinned (OpenSpec.upto confPathsSpec)

/-- 'complinelaw20.SessionNone', WHERE WHAT IT READS IS OF BULK AT MOST 1048576: true; the input reads as it did. -/
def sessionNoneUptoRow : OpenClaim := { program := "ytnnibcfbcpipfaa", sum := "1b34f4c399c896f4415b37da0316e1090488ac0bc8a7aba6cb8cb9138644262b", func := "compline/complinelaw20.SessionNone", spec := "sessionNone", inPlace := ["maps.clone"], unfollowed := true, recurses := true, apart := false, narrowed := true }
def SessionNoneUptoSaid : Prop := sessionNoneUptoRow.holds Try.pinned (OpenSpec.upto sessionNoneSpec)

/-- 'complinelaw23.ConfOf', WHERE WHAT IT READS IS OF BULK AT MOST 1048576: true; the input reads as it did. -/
def confOfUptoRow : OpenClaim := { program := "ytnnibcfbcpipfaa", sum := "1b34f4c399c896f4415b37da0316e1090488ac0bc8a7aba6cb8cb9138644262b", func := "compline/complinelaw23.ConfOf", spec := "confOf", unfollowed := true, recurses := true, apart := false, narrowed := true }
def ConfOfUptoSaid : Prop := confOfUptoRow.holds Try.pinned (OpenSpec.upto confOfSpec)

/-- 'complinelaw20.SessionReads', WHERE WHAT IT READS IS OF BULK AT MOST 1048576: true; the input reads as it did. -/
def sessionReadsUptoRow : OpenClaim := { program := "ytnnibcfbcpipfaa", sum := "1b34f4c399c896f4415b37da0316e1090488ac0bc8a7aba6cb8cb9138644262b", func := "compline/complinelaw20.SessionReads", spec := "sessionReads", unfollowed := true, recurses := true, apart := false, narrowed := true }
def SessionReadsUptoSaid : Prop := sessionReadsUptoRow.holds Try.pinned (OpenSpec.upto sessionReadsSpec)

/-- 'complinelaw19.ImageParts', WHERE WHAT IT READS IS OF BULK AT MOST 1048576: true; the input reads as it did. -/
def imagePartsUptoRow : OpenClaim := { program := "ytnnibcfbcpipfaa", sum := "1b34f4c399c896f4415b37da0316e1090488ac0bc8a7aba6cb8cb9138644262b", func := "compline/complinelaw19.ImageParts", spec := "imageParts", unfollowed := true, recurses := true, apart := false, narrowed := true }
def ImagePartsUptoSaid : Prop := imagePartsUptoRow.holds Try.pinned (OpenSpec.upto imagePartsSpec)

/-- 'complinelaw20.SessionPlays', WHERE WHAT IT READS IS OF BULK AT MOST 1048576: true; the input reads as it did. -/
def sessionPlaysUptoRow : OpenClaim := { program := "ytnnibcfbcpipfaa", sum := "1b34f4c399c896f4415b37da0316e1090488ac0bc8a7aba6cb8cb9138644262b", func := "compline/complinelaw20.SessionPlays", spec := "sessionPlays", inPlace := ["maps.clone"], unfollowed := true, recurses := true, apart := false, narrowed := true }
def SessionPlaysUptoSaid : Prop := sessionPlaysUptoRow.holds Try.pinned (OpenSpec.upto sessionPlaysSpec)

end Rows
end Go.Proofs.Ytnnibcfbcpipfaa

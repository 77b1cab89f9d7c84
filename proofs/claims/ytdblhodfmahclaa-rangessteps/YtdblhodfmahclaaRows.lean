/-
  No cell of these rows narrows 'for every input' (looked for: loops, veiled, ifaces, maps, wideKeys, modest, calm, conditions, laid).
  DERIVED. THE GIVEN ROWS OF THIS SEAT. 8 by the template 'for every input the law returns true; each argument reads behind the call as it read before'; 0 by the template 'total and deterministic' (their statements: YtdblhodfmahclaaTotals.lean).
  GIVEN WITH THE SEED: the statements are not yours to turn. If you find one false, say at which input.
  Laid BY PROGRAM, IN A SANDBOX (cutbox-rows.mjs): the forced cells as the released guide's own fill.sh prints them over the translation 3772e313c4de249a… (all of the seat's roots in one cut). By AI agents, Wed Nov 11 2026. No macro, syntax, notation, axiom, sorry.
-/
import Derived.Test.YtdblhodfmahclaaChecked
import GoSem.Claim
import GoSem.ClaimJoined
import GoSem.ClaimMapViews
import Derived.JoinedTies
import Derived.KernelRfl
namespace Go.Proofs.Ytdblhodfmahclaa
/- THE CELL 'sum', in the pinned program and in every row, IS THE sha256 OF THE DUMP (.gsa) THAT YtdblhodfmahclaaProg.lean LOADS. Nothing in Lean hashes anything: it is a label: what it is worth is what the hold of that sum in a sandbox is worth. -/
noncomputable def Try.pinned : Pinned := { name := "ytdblhodfmahclaa", sum := "3772e313c4de249a7eec30da5afe1c26aa9307b20ffb2ddbf09625b5771eca71", checked := Try.checked }
namespace Rows
def none {H : Type} : Left H := { results := [], args := [] }

/-- 'scansionlaw02.RangesMakes': WHATEVER THE INPUT: true; the input reads as it did. -/
def rangesMakesSpec : ChangeSpec := { name := "rangesMakes", fn := fun _ => fun
  | [d] => { results := [.lit (.bool true)], args := [d] }
  | _ => none }
def rangesMakesRow : OpenClaim := { program := "ytdblhodfmahclaa", sum := "3772e313c4de249a7eec30da5afe1c26aa9307b20ffb2ddbf09625b5771eca71", func := "scansion/scansionlaw02.RangesMakes", spec := "rangesMakes", unfollowed := true, recurses := true, apart := false }
def RangesMakesSaid : Prop := rangesMakesRow.holds Try.pinned (OpenSpec.ofChange rangesMakesSpec)

/-- ITS FALSE NEIGHBOUR: 'it returns false'. Refute it at one input. -/
def rangesMakesWrong : ChangeSpec := { name := "rangesMakes", fn := fun _ => fun
  | [d] => { results := [.lit (.bool false)], args := [d] }
  | _ => none }
def RangesMakesWrongFalsely : Prop := rangesMakesRow.holds Try.pinned (OpenSpec.ofChange rangesMakesWrong)

/-- 'scansionlaw02.RangesLeast': WHATEVER THE INPUT: true; the input reads as it did. -/
def rangesLeastSpec : ChangeSpec := { name := "rangesLeast", fn := fun _ => fun
  | [d] => { results := [.lit (.bool true)], args := [d] }
  | _ => none }
def rangesLeastRow : OpenClaim := { program := "ytdblhodfmahclaa", sum := "3772e313c4de249a7eec30da5afe1c26aa9307b20ffb2ddbf09625b5771eca71", func := "scansion/scansionlaw02.RangesLeast", spec := "rangesLeast", unfollowed := true, recurses := true, apart := false }
def RangesLeastSaid : Prop := rangesLeastRow.holds Try.pinned (OpenSpec.ofChange rangesLeastSpec)

/-- ITS FALSE NEIGHBOUR: 'it returns false'. Refute it at one input. -/
def rangesLeastWrong : ChangeSpec := { name := "rangesLeast", fn := fun _ => fun
  | [d] => { results := [.lit (.bool false)], args := [d] }
  | _ => none }
def RangesLeastWrongFalsely : Prop := rangesLeastRow.holds Try.pinned (OpenSpec.ofChange rangesLeastWrong)

/-- 'scansionlaw02.RangesTurned': WHATEVER THE INPUT: true; the input reads as it did. -/
def rangesTurnedSpec : ChangeSpec := { name := "rangesTurned", fn := fun _ => fun
  | [d1, d2] => { results := [.lit (.bool true)], args := [d1, d2] }
  | _ => none }
def rangesTurnedRow : OpenClaim := { program := "ytdblhodfmahclaa", sum := "3772e313c4de249a7eec30da5afe1c26aa9307b20ffb2ddbf09625b5771eca71", func := "scansion/scansionlaw02.RangesTurned", spec := "rangesTurned", unfollowed := true, recurses := true, apart := false }
def RangesTurnedSaid : Prop := rangesTurnedRow.holds Try.pinned (OpenSpec.ofChange rangesTurnedSpec)

/-- ITS FALSE NEIGHBOUR: 'it returns false'. Refute it at one input. -/
def rangesTurnedWrong : ChangeSpec := { name := "rangesTurned", fn := fun _ => fun
  | [d1, d2] => { results := [.lit (.bool false)], args := [d1, d2] }
  | _ => none }
def RangesTurnedWrongFalsely : Prop := rangesTurnedRow.holds Try.pinned (OpenSpec.ofChange rangesTurnedWrong)

/-- 'scansionlaw02.RangesJoins': WHATEVER THE INPUT: true; the input reads as it did. -/
def rangesJoinsSpec : ChangeSpec := { name := "rangesJoins", fn := fun _ => fun
  | [d1, d2] => { results := [.lit (.bool true)], args := [d1, d2] }
  | _ => none }
def rangesJoinsRow : OpenClaim := { program := "ytdblhodfmahclaa", sum := "3772e313c4de249a7eec30da5afe1c26aa9307b20ffb2ddbf09625b5771eca71", func := "scansion/scansionlaw02.RangesJoins", spec := "rangesJoins", unfollowed := true, recurses := true, apart := false }
def RangesJoinsSaid : Prop := rangesJoinsRow.holds Try.pinned (OpenSpec.ofChange rangesJoinsSpec)

/-- ITS FALSE NEIGHBOUR: 'it returns false'. Refute it at one input. -/
def rangesJoinsWrong : ChangeSpec := { name := "rangesJoins", fn := fun _ => fun
  | [d1, d2] => { results := [.lit (.bool false)], args := [d1, d2] }
  | _ => none }
def RangesJoinsWrongFalsely : Prop := rangesJoinsRow.holds Try.pinned (OpenSpec.ofChange rangesJoinsWrong)

/-- 'scansionlaw02.RangesNots': WHATEVER THE INPUT: true; the input reads as it did. -/
def rangesNotsSpec : ChangeSpec := { name := "rangesNots", fn := fun _ => fun
  | [d1, d2] => { results := [.lit (.bool true)], args := [d1, d2] }
  | _ => none }
def rangesNotsRow : OpenClaim := { program := "ytdblhodfmahclaa", sum := "3772e313c4de249a7eec30da5afe1c26aa9307b20ffb2ddbf09625b5771eca71", func := "scansion/scansionlaw02.RangesNots", spec := "rangesNots", unfollowed := true, recurses := true, apart := false }
def RangesNotsSaid : Prop := rangesNotsRow.holds Try.pinned (OpenSpec.ofChange rangesNotsSpec)

/-- ITS FALSE NEIGHBOUR: 'it returns false'. Refute it at one input. -/
def rangesNotsWrong : ChangeSpec := { name := "rangesNots", fn := fun _ => fun
  | [d1, d2] => { results := [.lit (.bool false)], args := [d1, d2] }
  | _ => none }
def RangesNotsWrongFalsely : Prop := rangesNotsRow.holds Try.pinned (OpenSpec.ofChange rangesNotsWrong)

/-- 'scansionlaw02.RangesAsks': WHATEVER THE INPUT: true; the input reads as it did. -/
def rangesAsksSpec : ChangeSpec := { name := "rangesAsks", fn := fun _ => fun
  | [d1, d2, d3] => { results := [.lit (.bool true)], args := [d1, d2, d3] }
  | _ => none }
def rangesAsksRow : OpenClaim := { program := "ytdblhodfmahclaa", sum := "3772e313c4de249a7eec30da5afe1c26aa9307b20ffb2ddbf09625b5771eca71", func := "scansion/scansionlaw02.RangesAsks", spec := "rangesAsks", unfollowed := true, recurses := true, apart := false }
def RangesAsksSaid : Prop := rangesAsksRow.holds Try.pinned (OpenSpec.ofChange rangesAsksSpec)

/-- ITS FALSE NEIGHBOUR: 'it returns false'. Refute it at one input. -/
def rangesAsksWrong : ChangeSpec := { name := "rangesAsks", fn := fun _ => fun
  | [d1, d2, d3] => { results := [.lit (.bool false)], args := [d1, d2, d3] }
  | _ => none }
def RangesAsksWrongFalsely : Prop := rangesAsksRow.holds Try.pinned (OpenSpec.ofChange rangesAsksWrong)

/-- 'scansionlaw02.RangesAgain': WHATEVER THE INPUT: true; the input reads as it did. -/
def rangesAgainSpec : ChangeSpec := { name := "rangesAgain", fn := fun _ => fun
  | [d1, d2] => { results := [.lit (.bool true)], args := [d1, d2] }
  | _ => none }
def rangesAgainRow : OpenClaim := { program := "ytdblhodfmahclaa", sum := "3772e313c4de249a7eec30da5afe1c26aa9307b20ffb2ddbf09625b5771eca71", func := "scansion/scansionlaw02.RangesAgain", spec := "rangesAgain", unfollowed := true, recurses := true, apart := false }
def RangesAgainSaid : Prop := rangesAgainRow.holds Try.pinned (OpenSpec.ofChange rangesAgainSpec)

/-- ITS FALSE NEIGHBOUR: 'it returns false'. Refute it at one input. -/
def rangesAgainWrong : ChangeSpec := { name := "rangesAgain", fn := fun _ => fun
  | [d1, d2] => { results := [.lit (.bool false)], args := [d1, d2] }
  | _ => none }
def RangesAgainWrongFalsely : Prop := rangesAgainRow.holds Try.pinned (OpenSpec.ofChange rangesAgainWrong)

/-- 'scansionlaw02.RangesSteps': WHATEVER THE INPUT: true; the input reads as it did. -/
def rangesStepsSpec : ChangeSpec := { name := "rangesSteps", fn := fun _ => fun
  | [d] => { results := [.lit (.bool true)], args := [d] }
  | _ => none }
def rangesStepsRow : OpenClaim := { program := "ytdblhodfmahclaa", sum := "3772e313c4de249a7eec30da5afe1c26aa9307b20ffb2ddbf09625b5771eca71", func := "scansion/scansionlaw02.RangesSteps", spec := "rangesSteps", unfollowed := true, recurses := true, apart := false }
def RangesStepsSaid : Prop := rangesStepsRow.holds Try.pinned (OpenSpec.ofChange rangesStepsSpec)

/-- ITS FALSE NEIGHBOUR: 'it returns false'. Refute it at one input. -/
def rangesStepsWrong : ChangeSpec := { name := "rangesSteps", fn := fun _ => fun
  | [d] => { results := [.lit (.bool false)], args := [d] }
  | _ => none }
def RangesStepsWrongFalsely : Prop := rangesStepsRow.holds Try.pinned (OpenSpec.ofChange rangesStepsWrong)

/- THE SECOND FORM. 'bulk': how many values and letters a reading holds, each counted each time it is reached (what is shared counts as often as it is met; a slice's spare places count too). A statement '..UptoSaid' is the law's where the arguments, and the package variables that the reading takes, are together of bulk at most 1048576: NARROWER than '..Said'. Prove '..Said' where nothing that the law and all that it calls make is longer than what came in: it says more and counts as full. Else prove '..UptoSaid'. A law counts once. -/
mutual
def uptoBulk {H : Type} : DataW H → Nat
  | .lit (.string bytes) => bytes.length + 1
  | .lit _ => 1
  | .nil => 1
  | .ptr d => uptoBulk d + 1
  | .slice elems spare => uptoBulkAll elems + uptoBulkAll spare + 1
  | .agg parts => uptoBulkAll parts + 1
  | .iface _ d => uptoBulk d + 1
  | .map entries => uptoBulkEntries entries + 1
  | .held _ => 1
def uptoBulkAll {H : Type} : List (DataW H) → Nat
  | [] => 0
  | d :: r => uptoBulk d + uptoBulkAll r
def uptoBulkEntries {H : Type} : List (Lit × DataW H) → Nat
  | [] => 0
  | x :: r => uptoBulkEntry x + uptoBulkEntries r
def uptoBulkEntry {H : Type} : Lit × DataW H → Nat
  | (.string bytes, d) => bytes.length + uptoBulk d + 1
  | (_, d) => uptoBulk d + 1
 end
def uptoSmall : (H : Type) → List (DataW H) → Bool := fun _ ds => decide (uptoBulkAll ds ≤ 1048576)
def OpenSpec.upto (s : _root_.Go.ChangeSpec) : _root_.Go.OpenSpec := { _root_.Go.OpenSpec.ofChange s with cond := some uptoSmall }

/-- 'scansionlaw02.RangesMakes', WHERE WHAT IT READS IS OF BULK AT MOST 1048576: true; the input reads as it did. -/
def rangesMakesUptoRow : OpenClaim := { program := "ytdblhodfmahclaa", sum := "3772e313c4de249a7eec30da5afe1c26aa9307b20ffb2ddbf09625b5771eca71", func := "scansion/scansionlaw02.RangesMakes", spec := "rangesMakes", unfollowed := true, recurses := true, apart := false, narrowed := true }
def RangesMakesUptoSaid : Prop := rangesMakesUptoRow.holds Try.pinned (OpenSpec.upto rangesMakesSpec)

/-- 'scansionlaw02.RangesLeast', WHERE WHAT IT READS IS OF BULK AT MOST 1048576: true; the input reads as it did. -/
def rangesLeastUptoRow : OpenClaim := { program := "ytdblhodfmahclaa", sum := "3772e313c4de249a7eec30da5afe1c26aa9307b20ffb2ddbf09625b5771eca71", func := "scansion/scansionlaw02.RangesLeast", spec := "rangesLeast", unfollowed := true, recurses := true, apart := false, narrowed := true }
def RangesLeastUptoSaid : Prop := rangesLeastUptoRow.holds Try.pinned (OpenSpec.upto rangesLeastSpec)

/-- 'scansionlaw02.RangesTurned', WHERE WHAT IT READS IS OF BULK AT MOST 1048576: true; the input reads as it did. -/
def rangesTurnedUptoRow : OpenClaim := { program := "ytdblhodfmahclaa", sum := "3772e313c4de249a7eec30da5afe1c26aa9307b20ffb2ddbf09625b5771eca71", func := "scansion/scansionlaw02.RangesTurned", spec := "rangesTurned", unfollowed := true, recurses := true, apart := false, narrowed := true }
def RangesTurnedUptoSaid : Prop := rangesTurnedUptoRow.holds Try.pinned (OpenSpec.upto rangesTurnedSpec)

/-- 'scansionlaw02.RangesJoins', WHERE WHAT IT READS IS OF BULK AT MOST 1048576: true; the input reads as it did. -/
def rangesJoinsUptoRow : OpenClaim := { program := "ytdblhodfmahclaa", sum := "3772e313c4de249a7eec30da5afe1c26aa9307b20ffb2ddbf09625b5771eca71", func := "scansion/scansionlaw02.RangesJoins", spec := "rangesJoins", unfollowed := true, recurses := true, apart := false, narrowed := true }
def RangesJoinsUptoSaid : Prop := rangesJoinsUptoRow.holds Try.pinned (OpenSpec.upto rangesJoinsSpec)

/-- 'scansionlaw02.RangesNots', WHERE WHAT IT READS IS OF BULK AT MOST 1048576: true; the input reads as it did. -/
def rangesNotsUptoRow : OpenClaim := { program := "ytdblhodfmahclaa", sum := "3772e313c4de249a7eec30da5afe1c26aa9307b20ffb2ddbf09625b5771eca71", func := "scansion/scansionlaw02.RangesNots", spec := "rangesNots", unfollowed := true, recurses := true, apart := false, narrowed := true }
def RangesNotsUptoSaid : Prop := rangesNotsUptoRow.holds Try.pinned (OpenSpec.upto rangesNotsSpec)

/-- 'scansionlaw02.RangesAsks', WHERE WHAT IT READS IS OF BULK AT MOST 1048576: true; the input reads as it did. -/
def rangesAsksUptoRow : OpenClaim := { program := "ytdblhodfmahclaa", sum := "3772e313c4de249a7eec30da5afe1c26aa9307b20ffb2ddbf09625b5771eca71", func := "scansion/scansionlaw02.RangesAsks", spec := "rangesAsks", unfollowed := true, recurses := true, apart := false, narrowed := true }
def RangesAsksUptoSaid : Prop := rangesAsksUptoRow.holds Try.pinned (OpenSpec.upto rangesAsksSpec)

/-- 'scansionlaw02.RangesAgain', WHERE WHAT IT READS IS OF BULK AT MOST 1048576: true; the input reads as it did. -/
def rangesAgainUptoRow : OpenClaim := { program := "ytdblhodfmahclaa", sum := "3772e313c4de249a7eec30da5afe1c26aa9307b20ffb2ddbf09625b5771eca71", func := "scansion/scansionlaw02.RangesAgain", spec := "rangesAgain", unfollowed := true, recurses := true, apart := false, narrowed := true }
def RangesAgainUptoSaid : Prop := rangesAgainUptoRow.holds Try.pinned (OpenSpec.upto rangesAgainSpec)

/-- 'scansionlaw02.RangesSteps', WHERE WHAT IT READS IS OF BULK AT MOST 1048576: true; the input reads as it did. -/
def rangesStepsUptoRow : OpenClaim := { program := "ytdblhodfmahclaa", sum := "3772e313c4de249a7eec30da5afe1c26aa9307b20ffb2ddbf09625b5771eca71", func := "scansion/scansionlaw02.RangesSteps", spec := "rangesSteps", unfollowed := true, recurses := true, apart := false, narrowed := true }
def RangesStepsUptoSaid : Prop := rangesStepsUptoRow.holds Try.pinned (OpenSpec.upto rangesStepsSpec)

end Rows
end Go.Proofs.Ytdblhodfmahclaa

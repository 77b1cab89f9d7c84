/-
  No cell of these rows narrows 'for every input' (looked for: loops, veiled, ifaces, maps, wideKeys, modest, calm, conditions, laid).
  DERIVED. THE GIVEN ROWS OF THIS SEAT. 11 by the template 'for every input the law returns true; each argument reads behind the call as it read before'; 0 by the template 'total and deterministic' (their statements: YtobjdbpikecnnaaTotals.lean).
  GIVEN WITH THE SEED: the statements are not yours to turn. If you find one false, say at which input.
  Laid BY PROGRAM, IN A SANDBOX (cutbox-rows.mjs): the forced cells as the released guide's own fill.sh prints them over the translation cb0f4a642ca15808… (all of the seat's roots in one cut). By AI agents, Wed Nov 11 2026. No macro, syntax, notation, axiom, sorry.
-/
import Derived.Test.YtobjdbpikecnnaaChecked
import GoSem.Claim
import GoSem.ClaimJoined
import GoSem.ClaimMapViews
import Derived.JoinedTies
import Derived.KernelRfl
namespace Go.Proofs.Ytobjdbpikecnnaa
/- THE CELL 'sum', in the pinned program and in every row, IS THE sha256 OF THE DUMP (.gsa) THAT YtobjdbpikecnnaaProg.lean LOADS. Nothing in Lean hashes anything: it is a label: what it is worth is what the hold of that sum in a sandbox is worth. -/
noncomputable def Try.pinned : Pinned := { name := "ytobjdbpikecnnaa", sum := "cb0f4a642ca1580884e7be84df4dcca89ca9f80f2d1c73529c5440a77a16a123", checked := Try.checked }
namespace Rows
def none {H : Type} : Left H := { results := [], args := [] }

/-- 'scansionlaw17.DawgBuilds': WHATEVER THE INPUT: true; the input reads as it did. -/
def dawgBuildsSpec : ChangeSpec := { name := "dawgBuilds", fn := fun _ => fun
  | [d] => { results := [.lit (.bool true)], args := [d] }
  | _ => none }
def dawgBuildsRow : OpenClaim := { program := "ytobjdbpikecnnaa", sum := "cb0f4a642ca1580884e7be84df4dcca89ca9f80f2d1c73529c5440a77a16a123", func := "scansion/scansionlaw17.DawgBuilds", spec := "dawgBuilds", unfollowed := true, recurses := true, apart := false }
def DawgBuildsSaid : Prop := dawgBuildsRow.holds Try.pinned (OpenSpec.ofChange dawgBuildsSpec)

/-- ITS FALSE NEIGHBOUR: 'it returns false'. Refute it at one input. -/
def dawgBuildsWrong : ChangeSpec := { name := "dawgBuilds", fn := fun _ => fun
  | [d] => { results := [.lit (.bool false)], args := [d] }
  | _ => none }
def DawgBuildsWrongFalsely : Prop := dawgBuildsRow.holds Try.pinned (OpenSpec.ofChange dawgBuildsWrong)

/-- 'scansionlaw17.DawgLeast': WHATEVER THE INPUT: true; the input reads as it did. -/
def dawgLeastSpec : ChangeSpec := { name := "dawgLeast", fn := fun _ => fun
  | [d] => { results := [.lit (.bool true)], args := [d] }
  | _ => none }
def dawgLeastRow : OpenClaim := { program := "ytobjdbpikecnnaa", sum := "cb0f4a642ca1580884e7be84df4dcca89ca9f80f2d1c73529c5440a77a16a123", func := "scansion/scansionlaw17.DawgLeast", spec := "dawgLeast", unfollowed := true, recurses := true, apart := false }
def DawgLeastSaid : Prop := dawgLeastRow.holds Try.pinned (OpenSpec.ofChange dawgLeastSpec)

/-- ITS FALSE NEIGHBOUR: 'it returns false'. Refute it at one input. -/
def dawgLeastWrong : ChangeSpec := { name := "dawgLeast", fn := fun _ => fun
  | [d] => { results := [.lit (.bool false)], args := [d] }
  | _ => none }
def DawgLeastWrongFalsely : Prop := dawgLeastRow.holds Try.pinned (OpenSpec.ofChange dawgLeastWrong)

/-- 'scansionlaw17.DawgMore': WHATEVER THE INPUT: true; the input reads as it did. -/
def dawgMoreSpec : ChangeSpec := { name := "dawgMore", fn := fun _ => fun
  | [d1, d2, d3] => { results := [.lit (.bool true)], args := [d1, d2, d3] }
  | _ => none }
def dawgMoreRow : OpenClaim := { program := "ytobjdbpikecnnaa", sum := "cb0f4a642ca1580884e7be84df4dcca89ca9f80f2d1c73529c5440a77a16a123", func := "scansion/scansionlaw17.DawgMore", spec := "dawgMore", unfollowed := true, recurses := true, apart := false }
def DawgMoreSaid : Prop := dawgMoreRow.holds Try.pinned (OpenSpec.ofChange dawgMoreSpec)

/-- ITS FALSE NEIGHBOUR: 'it returns false'. Refute it at one input. -/
def dawgMoreWrong : ChangeSpec := { name := "dawgMore", fn := fun _ => fun
  | [d1, d2, d3] => { results := [.lit (.bool false)], args := [d1, d2, d3] }
  | _ => none }
def DawgMoreWrongFalsely : Prop := dawgMoreRow.holds Try.pinned (OpenSpec.ofChange dawgMoreWrong)

/-- 'scansionlaw18.DarrayTight': WHATEVER THE INPUT: true; the input reads as it did. -/
def darrayTightSpec : ChangeSpec := { name := "darrayTight", fn := fun _ => fun
  | [d] => { results := [.lit (.bool true)], args := [d] }
  | _ => none }
def darrayTightRow : OpenClaim := { program := "ytobjdbpikecnnaa", sum := "cb0f4a642ca1580884e7be84df4dcca89ca9f80f2d1c73529c5440a77a16a123", func := "scansion/scansionlaw18.DarrayTight", spec := "darrayTight", unfollowed := true, recurses := true, apart := false }
def DarrayTightSaid : Prop := darrayTightRow.holds Try.pinned (OpenSpec.ofChange darrayTightSpec)

/-- ITS FALSE NEIGHBOUR: 'it returns false'. Refute it at one input. -/
def darrayTightWrong : ChangeSpec := { name := "darrayTight", fn := fun _ => fun
  | [d] => { results := [.lit (.bool false)], args := [d] }
  | _ => none }
def DarrayTightWrongFalsely : Prop := darrayTightRow.holds Try.pinned (OpenSpec.ofChange darrayTightWrong)

/-- 'scansionlaw17.DawgSum': WHATEVER THE INPUT: true; the input reads as it did. -/
def dawgSumSpec : ChangeSpec := { name := "dawgSum", fn := fun _ => fun
  | [d] => { results := [.lit (.bool true)], args := [d] }
  | _ => none }
def dawgSumRow : OpenClaim := { program := "ytobjdbpikecnnaa", sum := "cb0f4a642ca1580884e7be84df4dcca89ca9f80f2d1c73529c5440a77a16a123", func := "scansion/scansionlaw17.DawgSum", spec := "dawgSum", unfollowed := true, recurses := true, apart := false }
def DawgSumSaid : Prop := dawgSumRow.holds Try.pinned (OpenSpec.ofChange dawgSumSpec)

/-- ITS FALSE NEIGHBOUR: 'it returns false'. Refute it at one input. -/
def dawgSumWrong : ChangeSpec := { name := "dawgSum", fn := fun _ => fun
  | [d] => { results := [.lit (.bool false)], args := [d] }
  | _ => none }
def DawgSumWrongFalsely : Prop := dawgSumRow.holds Try.pinned (OpenSpec.ofChange dawgSumWrong)

/-- 'scansionlaw18.DarraySteps': WHATEVER THE INPUT: true; the input reads as it did. -/
def darrayStepsSpec : ChangeSpec := { name := "darraySteps", fn := fun _ => fun
  | [d1, d2] => { results := [.lit (.bool true)], args := [d1, d2] }
  | _ => none }
def darrayStepsRow : OpenClaim := { program := "ytobjdbpikecnnaa", sum := "cb0f4a642ca1580884e7be84df4dcca89ca9f80f2d1c73529c5440a77a16a123", func := "scansion/scansionlaw18.DarraySteps", spec := "darraySteps", unfollowed := true, recurses := true, apart := false }
def DarrayStepsSaid : Prop := darrayStepsRow.holds Try.pinned (OpenSpec.ofChange darrayStepsSpec)

/-- ITS FALSE NEIGHBOUR: 'it returns false'. Refute it at one input. -/
def darrayStepsWrong : ChangeSpec := { name := "darraySteps", fn := fun _ => fun
  | [d1, d2] => { results := [.lit (.bool false)], args := [d1, d2] }
  | _ => none }
def DarrayStepsWrongFalsely : Prop := darrayStepsRow.holds Try.pinned (OpenSpec.ofChange darrayStepsWrong)

/-- 'scansionlaw17.DawgAsks': WHATEVER THE INPUT: true; the input reads as it did. -/
def dawgAsksSpec : ChangeSpec := { name := "dawgAsks", fn := fun _ => fun
  | [d1, d2, d3] => { results := [.lit (.bool true)], args := [d1, d2, d3] }
  | _ => none }
def dawgAsksRow : OpenClaim := { program := "ytobjdbpikecnnaa", sum := "cb0f4a642ca1580884e7be84df4dcca89ca9f80f2d1c73529c5440a77a16a123", func := "scansion/scansionlaw17.DawgAsks", spec := "dawgAsks", unfollowed := true, recurses := true, apart := false }
def DawgAsksSaid : Prop := dawgAsksRow.holds Try.pinned (OpenSpec.ofChange dawgAsksSpec)

/-- ITS FALSE NEIGHBOUR: 'it returns false'. Refute it at one input. -/
def dawgAsksWrong : ChangeSpec := { name := "dawgAsks", fn := fun _ => fun
  | [d1, d2, d3] => { results := [.lit (.bool false)], args := [d1, d2, d3] }
  | _ => none }
def DawgAsksWrongFalsely : Prop := dawgAsksRow.holds Try.pinned (OpenSpec.ofChange dawgAsksWrong)

/-- 'scansionlaw17.DawgWords': WHATEVER THE INPUT: true; the input reads as it did. -/
def dawgWordsSpec : ChangeSpec := { name := "dawgWords", fn := fun _ => fun
  | [d1, d2] => { results := [.lit (.bool true)], args := [d1, d2] }
  | _ => none }
def dawgWordsRow : OpenClaim := { program := "ytobjdbpikecnnaa", sum := "cb0f4a642ca1580884e7be84df4dcca89ca9f80f2d1c73529c5440a77a16a123", func := "scansion/scansionlaw17.DawgWords", spec := "dawgWords", unfollowed := true, recurses := true, apart := false }
def DawgWordsSaid : Prop := dawgWordsRow.holds Try.pinned (OpenSpec.ofChange dawgWordsSpec)

/-- ITS FALSE NEIGHBOUR: 'it returns false'. Refute it at one input. -/
def dawgWordsWrong : ChangeSpec := { name := "dawgWords", fn := fun _ => fun
  | [d1, d2] => { results := [.lit (.bool false)], args := [d1, d2] }
  | _ => none }
def DawgWordsWrongFalsely : Prop := dawgWordsRow.holds Try.pinned (OpenSpec.ofChange dawgWordsWrong)

/-- 'scansionlaw18.DarrayPacks': WHATEVER THE INPUT: true; the input reads as it did. -/
def darrayPacksSpec : ChangeSpec := { name := "darrayPacks", fn := fun _ => fun
  | [d1, d2, d3] => { results := [.lit (.bool true)], args := [d1, d2, d3] }
  | _ => none }
def darrayPacksRow : OpenClaim := { program := "ytobjdbpikecnnaa", sum := "cb0f4a642ca1580884e7be84df4dcca89ca9f80f2d1c73529c5440a77a16a123", func := "scansion/scansionlaw18.DarrayPacks", spec := "darrayPacks", unfollowed := true, recurses := true, apart := false }
def DarrayPacksSaid : Prop := darrayPacksRow.holds Try.pinned (OpenSpec.ofChange darrayPacksSpec)

/-- ITS FALSE NEIGHBOUR: 'it returns false'. Refute it at one input. -/
def darrayPacksWrong : ChangeSpec := { name := "darrayPacks", fn := fun _ => fun
  | [d1, d2, d3] => { results := [.lit (.bool false)], args := [d1, d2, d3] }
  | _ => none }
def DarrayPacksWrongFalsely : Prop := darrayPacksRow.holds Try.pinned (OpenSpec.ofChange darrayPacksWrong)

/-- 'scansionlaw18.DarrayWords': WHATEVER THE INPUT: true; the input reads as it did. -/
def darrayWordsSpec : ChangeSpec := { name := "darrayWords", fn := fun _ => fun
  | [d1, d2] => { results := [.lit (.bool true)], args := [d1, d2] }
  | _ => none }
def darrayWordsRow : OpenClaim := { program := "ytobjdbpikecnnaa", sum := "cb0f4a642ca1580884e7be84df4dcca89ca9f80f2d1c73529c5440a77a16a123", func := "scansion/scansionlaw18.DarrayWords", spec := "darrayWords", unfollowed := true, recurses := true, apart := false }
def DarrayWordsSaid : Prop := darrayWordsRow.holds Try.pinned (OpenSpec.ofChange darrayWordsSpec)

/-- ITS FALSE NEIGHBOUR: 'it returns false'. Refute it at one input. -/
def darrayWordsWrong : ChangeSpec := { name := "darrayWords", fn := fun _ => fun
  | [d1, d2] => { results := [.lit (.bool false)], args := [d1, d2] }
  | _ => none }
def DarrayWordsWrongFalsely : Prop := darrayWordsRow.holds Try.pinned (OpenSpec.ofChange darrayWordsWrong)

/-- 'scansionlaw18.DarrayLoads': WHATEVER THE INPUT: true; the input reads as it did. -/
def darrayLoadsSpec : ChangeSpec := { name := "darrayLoads", fn := fun _ => fun
  | [d1, d2] => { results := [.lit (.bool true)], args := [d1, d2] }
  | _ => none }
def darrayLoadsRow : OpenClaim := { program := "ytobjdbpikecnnaa", sum := "cb0f4a642ca1580884e7be84df4dcca89ca9f80f2d1c73529c5440a77a16a123", func := "scansion/scansionlaw18.DarrayLoads", spec := "darrayLoads", unfollowed := true, recurses := true, apart := false }
def DarrayLoadsSaid : Prop := darrayLoadsRow.holds Try.pinned (OpenSpec.ofChange darrayLoadsSpec)

/-- ITS FALSE NEIGHBOUR: 'it returns false'. Refute it at one input. -/
def darrayLoadsWrong : ChangeSpec := { name := "darrayLoads", fn := fun _ => fun
  | [d1, d2] => { results := [.lit (.bool false)], args := [d1, d2] }
  | _ => none }
def DarrayLoadsWrongFalsely : Prop := darrayLoadsRow.holds Try.pinned (OpenSpec.ofChange darrayLoadsWrong)

/- THE SECOND FORM. 'bulk': how many values and letters a reading holds, each counted each time it is reached (what is shared counts as often as it is met; a slice's spare places count too). A statement '..UptoSaid' is the law's where the arguments, and the package variables that the reading takes, are together of bulk at most 1048576: NARROWER than '..Said'. Prove '..Said' where nothing that the law and all that it calls make is longer than what came in: it says more and counts as full. Else prove '..UptoSaid'. A law counts once. -/
mutual
def uptoBulk {H : Type} : DataW H → Nat
  | .lit (.string bytes) => bytes.length + 1
  | .lit _ => 1
  | .nil => 1
  | .ptr d => uptoBulk d + 1
  | .slice elems spare => uptoBulkAll elems + uptoBulkAll spare + 1
  | .agg parts => uptoBulkAll parts + 1
  | .iface _ d => uptoBulk d + 1
  | .map entries => uptoBulkEntries entries + 1
  | .held _ => 1
def uptoBulkAll {H : Type} : List (DataW H) → Nat
  | [] => 0
  | d :: r => uptoBulk d + uptoBulkAll r
def uptoBulkEntries {H : Type} : List (Lit × DataW H) → Nat
  | [] => 0
  | x :: r => uptoBulkEntry x + uptoBulkEntries r
def uptoBulkEntry {H : Type} : Lit × DataW H → Nat
  | (.string bytes, d) => bytes.length + uptoBulk d + 1
  | (_, d) => uptoBulk d + 1
 end
def uptoSmall : (H : Type) → List (DataW H) → Bool := fun _ ds => decide (uptoBulkAll ds ≤ 1048576)
def OpenSpec.upto (s : _root_.Go.ChangeSpec) : _root_.Go.OpenSpec := { _root_.Go.OpenSpec.ofChange s with cond := some uptoSmall }

/-- 'scansionlaw17.DawgBuilds', WHERE WHAT IT READS IS OF BULK AT MOST 1048576: true; the input reads as it did. -/
def dawgBuildsUptoRow : OpenClaim := { program := "ytobjdbpikecnnaa", sum := "cb0f4a642ca1580884e7be84df4dcca89ca9f80f2d1c73529c5440a77a16a123", func := "scansion/scansionlaw17.DawgBuilds", spec := "dawgBuilds", unfollowed := true, recurses := true, apart := false, narrowed := true }
def DawgBuildsUptoSaid : Prop := dawgBuildsUptoRow.holds Try.pinned (OpenSpec.upto dawgBuildsSpec)

/-- 'scansionlaw17.DawgLeast', WHERE WHAT IT READS IS OF BULK AT MOST 1048576: true; the input reads as it did. -/
def dawgLeastUptoRow : OpenClaim := { program := "ytobjdbpikecnnaa", sum := "cb0f4a642ca1580884e7be84df4dcca89ca9f80f2d1c73529c5440a77a16a123", func := "scansion/scansionlaw17.DawgLeast", spec := "dawgLeast", unfollowed := true, recurses := true, apart := false, narrowed := true }
def DawgLeastUptoSaid : Prop := dawgLeastUptoRow.holds Try.pinned (OpenSpec.upto dawgLeastSpec)

/-- 'scansionlaw17.DawgMore', WHERE WHAT IT READS IS OF BULK AT MOST 1048576: true; the input reads as it did. -/
def dawgMoreUptoRow : OpenClaim := { program := "ytobjdbpikecnnaa", sum := "cb0f4a642ca1580884e7be84df4dcca89ca9f80f2d1c73529c5440a77a16a123", func := "scansion/scansionlaw17.DawgMore", spec := "dawgMore", unfollowed := true, recurses := true, apart := false, narrowed := true }
def DawgMoreUptoSaid : Prop := dawgMoreUptoRow.holds Try.pinned (OpenSpec.upto dawgMoreSpec)

/-- 'scansionlaw18.DarrayTight', WHERE WHAT IT READS IS OF BULK AT MOST 1048576: true; the input reads as it did. -/
def darrayTightUptoRow : OpenClaim := { program := "ytobjdbpikecnnaa", sum := "cb0f4a642ca1580884e7be84df4dcca89ca9f80f2d1c73529c5440a77a16a123", func := "scansion/scansionlaw18.DarrayTight", spec := "darrayTight", unfollowed := true, recurses := true, apart := false, narrowed := true }
def DarrayTightUptoSaid : Prop := darrayTightUptoRow.holds Try.pinned (OpenSpec.upto darrayTightSpec)

/-- 'scansionlaw17.DawgSum', WHERE WHAT IT READS IS OF BULK AT MOST 1048576: true; the input reads as it did. -/
def dawgSumUptoRow : OpenClaim := { program := "ytobjdbpikecnnaa", sum := "cb0f4a642ca1580884e7be84df4dcca89ca9f80f2d1c73529c5440a77a16a123", func := "scansion/scansionlaw17.DawgSum", spec := "dawgSum", unfollowed := true, recurses := true, apart := false, narrowed := true }
def DawgSumUptoSaid : Prop := dawgSumUptoRow.holds Try.pinned (OpenSpec.upto dawgSumSpec)

/-- 'scansionlaw18.DarraySteps', WHERE WHAT IT READS IS OF BULK AT MOST 1048576: true; the input reads as it did. -/
def darrayStepsUptoRow : OpenClaim := { program := "ytobjdbpikecnnaa", sum := "cb0f4a642ca1580884e7be84df4dcca89ca9f80f2d1c73529c5440a77a16a123", func := "scansion/scansionlaw18.DarraySteps", spec := "darraySteps", unfollowed := true, recurses := true, apart := false, narrowed := true }
def DarrayStepsUptoSaid : Prop := darrayStepsUptoRow.holds Try.pinned (OpenSpec.upto darrayStepsSpec)

/-- 'scansionlaw17.DawgAsks', WHERE WHAT IT READS IS OF BULK AT MOST 1048576: true; the input reads as it did. -/
def dawgAsksUptoRow : OpenClaim := { program := "ytobjdbpikecnnaa", sum := "cb0f4a642ca1580884e7be84df4dcca89ca9f80f2d1c73529c5440a77a16a123", func := "scansion/scansionlaw17.DawgAsks", spec := "dawgAsks", unfollowed := true, recurses := true, apart := false, narrowed := true }
def DawgAsksUptoSaid : Prop := dawgAsksUptoRow.holds Try.pinned (OpenSpec.upto dawgAsksSpec)

/-- 'scansionlaw17.DawgWords', WHERE WHAT IT READS IS OF BULK AT MOST 1048576: true; the input reads as it did. -/
def dawgWordsUptoRow : OpenClaim := { program := "ytobjdbpikecnnaa", sum := "cb0f4a642ca1580884e7be84df4dcca89ca9f80f2d1c73529c5440a77a16a123", func := "scansion/scansionlaw17.DawgWords", spec := "dawgWords", unfollowed := true, recurses := true, apart := false, narrowed := true }
def DawgWordsUptoSaid : Prop := dawgWordsUptoRow.holds Try.pinned (OpenSpec.upto dawgWordsSpec)

/-- 'scansionlaw18.DarrayPacks', WHERE WHAT IT READS IS OF BULK AT MOST 1048576: true; the input reads as it did. -/
def darrayPacksUptoRow : OpenClaim := { program := "ytobjdbpikecnnaa", sum := "cb0f4a642ca1580884e7be84df4dcca89ca9f80f2d1c73529c5440a77a16a123", func := "scansion/scansionlaw18.DarrayPacks", spec := "darrayPacks", unfollowed := true, recurses := true, apart := false, narrowed := true }
def DarrayPacksUptoSaid : Prop := darrayPacksUptoRow.holds Try.pinned (OpenSpec.upto darrayPacksSpec)

/-- 'scansionlaw18.DarrayWords', WHERE WHAT IT READS IS OF BULK AT MOST 1048576: true; the input reads as it did. -/
def darrayWordsUptoRow : OpenClaim := { program := "ytobjdbpikecnnaa", sum := "cb0f4a642ca1580884e7be84df4dcca89ca9f80f2d1c73529c5440a77a16a123", func := "scansion/scansionlaw18.DarrayWords", spec := "darrayWords", unfollowed := true, recurses := true, apart := false, narrowed := true }
def DarrayWordsUptoSaid : Prop := darrayWordsUptoRow.holds Try.pinned (OpenSpec.upto darrayWordsSpec)

/-- 'scansionlaw18.DarrayLoads', WHERE WHAT IT READS IS OF BULK AT MOST 1048576: true; the input reads as it did. -/
def darrayLoadsUptoRow : OpenClaim := { program := "ytobjdbpikecnnaa", sum := "cb0f4a642ca1580884e7be84df4dcca89ca9f80f2d1c73529c5440a77a16a123", func := "scansion/scansionlaw18.DarrayLoads", spec := "darrayLoads", unfollowed := true, recurses := true, apart := false, narrowed := true }
def DarrayLoadsUptoSaid : Prop := darrayLoadsUptoRow.holds Try.pinned (OpenSpec.upto darrayLoadsSpec)

end Rows
end Go.Proofs.Ytobjdbpikecnnaa

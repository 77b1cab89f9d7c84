/-
  No cell of these rows narrows 'for every input' (looked for: loops, veiled, ifaces, maps, wideKeys, modest, calm, conditions, laid).
  DERIVED. THE GIVEN ROWS OF THIS SEAT. 11 by the template 'for every input the law returns true; each argument reads behind the call as it read before'; 0 by the template 'total and deterministic' (their statements: YtgekjbingaghaaaTotals.lean).
  GIVEN WITH THE SEED: the statements are not yours to turn. If you find one false, say at which input.
  Laid BY PROGRAM, IN A SANDBOX (cutbox-rows.mjs): the forced cells as the released guide's own fill.sh prints them over the translation 27883729beed17d6… (all of the seat's roots in one cut). By AI agents, Wed Nov 11 2026. No macro, syntax, notation, axiom, sorry.
-/
import Derived.Test.YtgekjbingaghaaaChecked
import GoSem.Claim
import GoSem.ClaimJoined
import GoSem.ClaimMapViews
import Derived.JoinedTies
import Derived.KernelRfl
namespace Go.Proofs.Ytgekjbingaghaaa
/- THE CELL 'sum', in the pinned program and in every row, IS THE sha256 OF THE DUMP (.gsa) THAT YtgekjbingaghaaaProg.lean LOADS. Nothing in Lean hashes anything: it is a label: what it is worth is what the hold of that sum in a sandbox is worth. -/
noncomputable def Try.pinned : Pinned := { name := "ytgekjbingaghaaa", sum := "27883729beed17d672e7eb704edb4d0eb4be57b5d811c32be7f06bc73ce06da5", checked := Try.checked }
namespace Rows
def none {H : Type} : Left H := { results := [], args := [] }

/-- 'scansionlaw07.LexTokens': WHATEVER THE INPUT: true; the input reads as it did. -/
def lexTokensSpec : ChangeSpec := { name := "lexTokens", fn := fun _ => fun
  | [d] => { results := [.lit (.bool true)], args := [d] }
  | _ => none }
def lexTokensRow : OpenClaim := { program := "ytgekjbingaghaaa", sum := "27883729beed17d672e7eb704edb4d0eb4be57b5d811c32be7f06bc73ce06da5", func := "scansion/scansionlaw07.LexTokens", spec := "lexTokens", unfollowed := true, recurses := true, plainKeys := false, apart := false }
def LexTokensSaid : Prop := lexTokensRow.holds Try.pinned (OpenSpec.ofChange lexTokensSpec)

/-- ITS FALSE NEIGHBOUR: 'it returns false'. Refute it at one input. -/
def lexTokensWrong : ChangeSpec := { name := "lexTokens", fn := fun _ => fun
  | [d] => { results := [.lit (.bool false)], args := [d] }
  | _ => none }
def LexTokensWrongFalsely : Prop := lexTokensRow.holds Try.pinned (OpenSpec.ofChange lexTokensWrong)

/-- 'scansionlaw07.LexBlanks': WHATEVER THE INPUT: true; the input reads as it did. -/
def lexBlanksSpec : ChangeSpec := { name := "lexBlanks", fn := fun _ => fun
  | [d1, d2] => { results := [.lit (.bool true)], args := [d1, d2] }
  | _ => none }
def lexBlanksRow : OpenClaim := { program := "ytgekjbingaghaaa", sum := "27883729beed17d672e7eb704edb4d0eb4be57b5d811c32be7f06bc73ce06da5", func := "scansion/scansionlaw07.LexBlanks", spec := "lexBlanks", unfollowed := true, recurses := true, plainKeys := false, apart := false }
def LexBlanksSaid : Prop := lexBlanksRow.holds Try.pinned (OpenSpec.ofChange lexBlanksSpec)

/-- ITS FALSE NEIGHBOUR: 'it returns false'. Refute it at one input. -/
def lexBlanksWrong : ChangeSpec := { name := "lexBlanks", fn := fun _ => fun
  | [d1, d2] => { results := [.lit (.bool false)], args := [d1, d2] }
  | _ => none }
def LexBlanksWrongFalsely : Prop := lexBlanksRow.holds Try.pinned (OpenSpec.ofChange lexBlanksWrong)

/-- 'scansionlaw07.LexPlaces': WHATEVER THE INPUT: true; the input reads as it did. -/
def lexPlacesSpec : ChangeSpec := { name := "lexPlaces", fn := fun _ => fun
  | [d] => { results := [.lit (.bool true)], args := [d] }
  | _ => none }
def lexPlacesRow : OpenClaim := { program := "ytgekjbingaghaaa", sum := "27883729beed17d672e7eb704edb4d0eb4be57b5d811c32be7f06bc73ce06da5", func := "scansion/scansionlaw07.LexPlaces", spec := "lexPlaces", unfollowed := true, recurses := true, plainKeys := false, apart := false }
def LexPlacesSaid : Prop := lexPlacesRow.holds Try.pinned (OpenSpec.ofChange lexPlacesSpec)

/-- ITS FALSE NEIGHBOUR: 'it returns false'. Refute it at one input. -/
def lexPlacesWrong : ChangeSpec := { name := "lexPlaces", fn := fun _ => fun
  | [d] => { results := [.lit (.bool false)], args := [d] }
  | _ => none }
def LexPlacesWrongFalsely : Prop := lexPlacesRow.holds Try.pinned (OpenSpec.ofChange lexPlacesWrong)

/-- 'scansionlaw07.LexJoins': WHATEVER THE INPUT: true; the input reads as it did. -/
def lexJoinsSpec : ChangeSpec := { name := "lexJoins", fn := fun _ => fun
  | [d1, d2] => { results := [.lit (.bool true)], args := [d1, d2] }
  | _ => none }
def lexJoinsRow : OpenClaim := { program := "ytgekjbingaghaaa", sum := "27883729beed17d672e7eb704edb4d0eb4be57b5d811c32be7f06bc73ce06da5", func := "scansion/scansionlaw07.LexJoins", spec := "lexJoins", unfollowed := true, recurses := true, plainKeys := false, apart := false }
def LexJoinsSaid : Prop := lexJoinsRow.holds Try.pinned (OpenSpec.ofChange lexJoinsSpec)

/-- ITS FALSE NEIGHBOUR: 'it returns false'. Refute it at one input. -/
def lexJoinsWrong : ChangeSpec := { name := "lexJoins", fn := fun _ => fun
  | [d1, d2] => { results := [.lit (.bool false)], args := [d1, d2] }
  | _ => none }
def LexJoinsWrongFalsely : Prop := lexJoinsRow.holds Try.pinned (OpenSpec.ofChange lexJoinsWrong)

/-- 'scansionlaw07.LexNames': WHATEVER THE INPUT: true; the input reads as it did. -/
def lexNamesSpec : ChangeSpec := { name := "lexNames", fn := fun _ => fun
  | [d] => { results := [.lit (.bool true)], args := [d] }
  | _ => none }
def lexNamesRow : OpenClaim := { program := "ytgekjbingaghaaa", sum := "27883729beed17d672e7eb704edb4d0eb4be57b5d811c32be7f06bc73ce06da5", func := "scansion/scansionlaw07.LexNames", spec := "lexNames", unfollowed := true, recurses := true, plainKeys := false, apart := false }
def LexNamesSaid : Prop := lexNamesRow.holds Try.pinned (OpenSpec.ofChange lexNamesSpec)

/-- ITS FALSE NEIGHBOUR: 'it returns false'. Refute it at one input. -/
def lexNamesWrong : ChangeSpec := { name := "lexNames", fn := fun _ => fun
  | [d] => { results := [.lit (.bool false)], args := [d] }
  | _ => none }
def LexNamesWrongFalsely : Prop := lexNamesRow.holds Try.pinned (OpenSpec.ofChange lexNamesWrong)

/-- 'scansionlaw07.LexSets': WHATEVER THE INPUT: true; the input reads as it did. -/
def lexSetsSpec : ChangeSpec := { name := "lexSets", fn := fun _ => fun
  | [d] => { results := [.lit (.bool true)], args := [d] }
  | _ => none }
def lexSetsRow : OpenClaim := { program := "ytgekjbingaghaaa", sum := "27883729beed17d672e7eb704edb4d0eb4be57b5d811c32be7f06bc73ce06da5", func := "scansion/scansionlaw07.LexSets", spec := "lexSets", inPlace := ["internal/abi.NoEscape"], unfollowed := true, recurses := true, plainKeys := false, apart := false }
def LexSetsSaid : Prop := lexSetsRow.holds Try.pinned (OpenSpec.ofChange lexSetsSpec)

/-- ITS FALSE NEIGHBOUR: 'it returns false'. Refute it at one input. -/
def lexSetsWrong : ChangeSpec := { name := "lexSets", fn := fun _ => fun
  | [d] => { results := [.lit (.bool false)], args := [d] }
  | _ => none }
def LexSetsWrongFalsely : Prop := lexSetsRow.holds Try.pinned (OpenSpec.ofChange lexSetsWrong)

/-- 'scansionlaw09.AlphabetApart': WHATEVER THE INPUT: true; the input reads as it did. -/
def alphabetApartSpec : ChangeSpec := { name := "alphabetApart", fn := fun _ => fun
  | [d1, d2, d3] => { results := [.lit (.bool true)], args := [d1, d2, d3] }
  | _ => none }
def alphabetApartRow : OpenClaim := { program := "ytgekjbingaghaaa", sum := "27883729beed17d672e7eb704edb4d0eb4be57b5d811c32be7f06bc73ce06da5", func := "scansion/scansionlaw09.AlphabetApart", spec := "alphabetApart", unfollowed := true, recurses := true, plainKeys := false, apart := false }
def AlphabetApartSaid : Prop := alphabetApartRow.holds Try.pinned (OpenSpec.ofChange alphabetApartSpec)

/-- ITS FALSE NEIGHBOUR: 'it returns false'. Refute it at one input. -/
def alphabetApartWrong : ChangeSpec := { name := "alphabetApart", fn := fun _ => fun
  | [d1, d2, d3] => { results := [.lit (.bool false)], args := [d1, d2, d3] }
  | _ => none }
def AlphabetApartWrongFalsely : Prop := alphabetApartRow.holds Try.pinned (OpenSpec.ofChange alphabetApartWrong)

/-- 'scansionlaw09.AlphabetLeast': WHATEVER THE INPUT: true; the input reads as it did. -/
def alphabetLeastSpec : ChangeSpec := { name := "alphabetLeast", fn := fun _ => fun
  | [d1, d2] => { results := [.lit (.bool true)], args := [d1, d2] }
  | _ => none }
def alphabetLeastRow : OpenClaim := { program := "ytgekjbingaghaaa", sum := "27883729beed17d672e7eb704edb4d0eb4be57b5d811c32be7f06bc73ce06da5", func := "scansion/scansionlaw09.AlphabetLeast", spec := "alphabetLeast", unfollowed := true, recurses := true, plainKeys := false, apart := false }
def AlphabetLeastSaid : Prop := alphabetLeastRow.holds Try.pinned (OpenSpec.ofChange alphabetLeastSpec)

/-- ITS FALSE NEIGHBOUR: 'it returns false'. Refute it at one input. -/
def alphabetLeastWrong : ChangeSpec := { name := "alphabetLeast", fn := fun _ => fun
  | [d1, d2] => { results := [.lit (.bool false)], args := [d1, d2] }
  | _ => none }
def AlphabetLeastWrongFalsely : Prop := alphabetLeastRow.holds Try.pinned (OpenSpec.ofChange alphabetLeastWrong)

/-- 'scansionlaw09.AlphabetTurned': WHATEVER THE INPUT: true; the input reads as it did. -/
def alphabetTurnedSpec : ChangeSpec := { name := "alphabetTurned", fn := fun _ => fun
  | [d1, d2, d3] => { results := [.lit (.bool true)], args := [d1, d2, d3] }
  | _ => none }
def alphabetTurnedRow : OpenClaim := { program := "ytgekjbingaghaaa", sum := "27883729beed17d672e7eb704edb4d0eb4be57b5d811c32be7f06bc73ce06da5", func := "scansion/scansionlaw09.AlphabetTurned", spec := "alphabetTurned", unfollowed := true, recurses := true, plainKeys := false, apart := false }
def AlphabetTurnedSaid : Prop := alphabetTurnedRow.holds Try.pinned (OpenSpec.ofChange alphabetTurnedSpec)

/-- ITS FALSE NEIGHBOUR: 'it returns false'. Refute it at one input. -/
def alphabetTurnedWrong : ChangeSpec := { name := "alphabetTurned", fn := fun _ => fun
  | [d1, d2, d3] => { results := [.lit (.bool false)], args := [d1, d2, d3] }
  | _ => none }
def AlphabetTurnedWrongFalsely : Prop := alphabetTurnedRow.holds Try.pinned (OpenSpec.ofChange alphabetTurnedWrong)

/-- 'scansionlaw09.AlphabetNews': WHATEVER THE INPUT: true; the input reads as it did. -/
def alphabetNewsSpec : ChangeSpec := { name := "alphabetNews", fn := fun _ => fun
  | [d1, d2] => { results := [.lit (.bool true)], args := [d1, d2] }
  | _ => none }
def alphabetNewsRow : OpenClaim := { program := "ytgekjbingaghaaa", sum := "27883729beed17d672e7eb704edb4d0eb4be57b5d811c32be7f06bc73ce06da5", func := "scansion/scansionlaw09.AlphabetNews", spec := "alphabetNews", unfollowed := true, recurses := true, plainKeys := false, apart := false }
def AlphabetNewsSaid : Prop := alphabetNewsRow.holds Try.pinned (OpenSpec.ofChange alphabetNewsSpec)

/-- ITS FALSE NEIGHBOUR: 'it returns false'. Refute it at one input. -/
def alphabetNewsWrong : ChangeSpec := { name := "alphabetNews", fn := fun _ => fun
  | [d1, d2] => { results := [.lit (.bool false)], args := [d1, d2] }
  | _ => none }
def AlphabetNewsWrongFalsely : Prop := alphabetNewsRow.holds Try.pinned (OpenSpec.ofChange alphabetNewsWrong)

/-- 'scansionlaw09.AlphabetWords': WHATEVER THE INPUT: true; the input reads as it did. -/
def alphabetWordsSpec : ChangeSpec := { name := "alphabetWords", fn := fun _ => fun
  | [d1, d2] => { results := [.lit (.bool true)], args := [d1, d2] }
  | _ => none }
def alphabetWordsRow : OpenClaim := { program := "ytgekjbingaghaaa", sum := "27883729beed17d672e7eb704edb4d0eb4be57b5d811c32be7f06bc73ce06da5", func := "scansion/scansionlaw09.AlphabetWords", spec := "alphabetWords", unfollowed := true, recurses := true, plainKeys := false, apart := false }
def AlphabetWordsSaid : Prop := alphabetWordsRow.holds Try.pinned (OpenSpec.ofChange alphabetWordsSpec)

/-- ITS FALSE NEIGHBOUR: 'it returns false'. Refute it at one input. -/
def alphabetWordsWrong : ChangeSpec := { name := "alphabetWords", fn := fun _ => fun
  | [d1, d2] => { results := [.lit (.bool false)], args := [d1, d2] }
  | _ => none }
def AlphabetWordsWrongFalsely : Prop := alphabetWordsRow.holds Try.pinned (OpenSpec.ofChange alphabetWordsWrong)

/- THE SECOND FORM. 'bulk': how many values and letters a reading holds, each counted each time it is reached (what is shared counts as often as it is met; a slice's spare places count too). A statement '..UptoSaid' is the law's where the arguments, and the package variables that the reading takes, are together of bulk at most 1048576: NARROWER than '..Said'. Prove '..Said' where nothing that the law and all that it calls make is longer than what came in: it says more and counts as full. Else prove '..UptoSaid'. A law counts once. -/
mutual
def uptoBulk {H : Type} : DataW H → Nat
  | .lit (.string bytes) => bytes.length + 1
  | .lit _ => 1
  | .nil => 1
  | .ptr d => uptoBulk d + 1
  | .slice elems spare => uptoBulkAll elems + uptoBulkAll spare + 1
  | .agg parts => uptoBulkAll parts + 1
  | .iface _ d => uptoBulk d + 1
  | .map entries => uptoBulkEntries entries + 1
  | .held _ => 1
def uptoBulkAll {H : Type} : List (DataW H) → Nat
  | [] => 0
  | d :: r => uptoBulk d + uptoBulkAll r
def uptoBulkEntries {H : Type} : List (Lit × DataW H) → Nat
  | [] => 0
  | x :: r => uptoBulkEntry x + uptoBulkEntries r
def uptoBulkEntry {H : Type} : Lit × DataW H → Nat
  | (.string bytes, d) => bytes.length + uptoBulk d + 1
  | (_, d) => uptoBulk d + 1
 end
def uptoSmall : (H : Type) → List (DataW H) → Bool := fun _ ds => decide (uptoBulkAll ds ≤ 1048576)
def OpenSpec.upto (s : _root_.Go.ChangeSpec) : _root_.Go.OpenSpec := { _root_.Go.OpenSpec.ofChange s with cond := some uptoSmall }

/-- 'scansionlaw07.LexTokens', WHERE WHAT IT READS IS OF BULK AT MOST 1048576: true; the input reads as it did. -/
def lexTokensUptoRow : OpenClaim := { program := "ytgekjbingaghaaa", sum := "27883729beed17d672e7eb704edb4d0eb4be57b5d811c32be7f06bc73ce06da5", func := "scansion/scansionlaw07.LexTokens", spec := "lexTokens", unfollowed := true, recurses := true, plainKeys := false, apart := false, narrowed := true }
def LexTokensUptoSaid : Prop := lexTokensUptoRow.holds Try.pinned (OpenSpec.upto lexTokensSpec)

/-- 'scansionlaw07.LexBlanks', WHERE WHAT IT READS IS OF BULK AT MOST 1048576: true; the input reads as it did. -/
def lexBlanksUptoRow : OpenClaim := { program := "ytgekjbingaghaaa", sum := "27883729beed17d672e7eb704edb4d0eb4be57b5d811c32be7f06bc73ce06da5", func := "scansion/scansionlaw07.LexBlanks", spec := "lexBlanks", unfollowed := true, recurses := true, plainKeys := false, apart := false, narrowed := true }
def LexBlanksUptoSaid : Prop := lexBlanksUptoRow.holds Try.pinned (OpenSpec.upto lexBlanksSpec)

/-- 'scansionlaw07.LexPlaces', WHERE WHAT IT READS IS OF BULK AT MOST 1048576: true; the input reads as it did. -/
def lexPlacesUptoRow : OpenClaim := { program := "ytgekjbingaghaaa", sum := "27883729beed17d672e7eb704edb4d0eb4be57b5d811c32be7f06bc73ce06da5", func := "scansion/scansionlaw07.LexPlaces", spec := "lexPlaces", unfollowed := true, recurses := true, plainKeys := false, apart := false, narrowed := true }
def LexPlacesUptoSaid : Prop := lexPlacesUptoRow.holds Try.pinned (OpenSpec.upto lexPlacesSpec)

/-- 'scansionlaw07.LexJoins', WHERE WHAT IT READS IS OF BULK AT MOST 1048576: true; the input reads as it did. -/
def lexJoinsUptoRow : OpenClaim := { program := "ytgekjbingaghaaa", sum := "27883729beed17d672e7eb704edb4d0eb4be57b5d811c32be7f06bc73ce06da5", func := "scansion/scansionlaw07.LexJoins", spec := "lexJoins", unfollowed := true, recurses := true, plainKeys := false, apart := false, narrowed := true }
def LexJoinsUptoSaid : Prop := lexJoinsUptoRow.holds Try.pinned (OpenSpec.upto lexJoinsSpec)

/-- 'scansionlaw07.LexNames', WHERE WHAT IT READS IS OF BULK AT MOST 1048576: true; the input reads as it did. -/
def lexNamesUptoRow : OpenClaim := { program := "ytgekjbingaghaaa", sum := "27883729beed17d672e7eb704edb4d0eb4be57b5d811c32be7f06bc73ce06da5", func := "scansion/scansionlaw07.LexNames", spec := "lexNames", unfollowed := true, recurses := true, plainKeys := false, apart := false, narrowed := true }
def LexNamesUptoSaid : Prop := lexNamesUptoRow.holds Try.pinned (OpenSpec.upto lexNamesSpec)

/-- 'scansionlaw07.LexSets', WHERE WHAT IT READS IS OF BULK AT MOST 1048576: true; the input reads as it did. -/
def lexSetsUptoRow : OpenClaim := { program := "ytgekjbingaghaaa", sum := "27883729beed17d672e7eb704edb4d0eb4be57b5d811c32be7f06bc73ce06da5", func := "scansion/scansionlaw07.LexSets", spec := "lexSets", inPlace := ["internal/abi.NoEscape"], unfollowed := true, recurses := true, plainKeys := false, apart := false, narrowed := true }
def LexSetsUptoSaid : Prop := lexSetsUptoRow.holds Try.pinned (OpenSpec.upto lexSetsSpec)

/-- 'scansionlaw09.AlphabetApart', WHERE WHAT IT READS IS OF BULK AT MOST 1048576: true; the input reads as it did. -/
def alphabetApartUptoRow : OpenClaim := { program := "ytgekjbingaghaaa", sum := "27883729beed17d672e7eb704edb4d0eb4be57b5d811c32be7f06bc73ce06da5", func := "scansion/scansionlaw09.AlphabetApart", spec := "alphabetApart", unfollowed := true, recurses := true, plainKeys := false, apart := false, narrowed := true }
def AlphabetApartUptoSaid : Prop := alphabetApartUptoRow.holds Try.pinned (OpenSpec.upto alphabetApartSpec)

/-- 'scansionlaw09.AlphabetLeast', WHERE WHAT IT READS IS OF BULK AT MOST 1048576: true; the input reads as it did. -/
def alphabetLeastUptoRow : OpenClaim := { program := "ytgekjbingaghaaa", sum := "27883729beed17d672e7eb704edb4d0eb4be57b5d811c32be7f06bc73ce06da5", func := "scansion/scansionlaw09.AlphabetLeast", spec := "alphabetLeast", unfollowed := true, recurses := true, plainKeys := false, apart := false, narrowed := true }
def AlphabetLeastUptoSaid : Prop := alphabetLeastUptoRow.holds Try.pinned (OpenSpec.upto alphabetLeastSpec)

/-- 'scansionlaw09.AlphabetTurned', WHERE WHAT IT READS IS OF BULK AT MOST 1048576: true; the input reads as it did. -/
def alphabetTurnedUptoRow : OpenClaim := { program := "ytgekjbingaghaaa", sum := "27883729beed17d672e7eb704edb4d0eb4be57b5d811c32be7f06bc73ce06da5", func := "scansion/scansionlaw09.AlphabetTurned", spec := "alphabetTurned", unfollowed := true, recurses := true, plainKeys := false, apart := false, narrowed := true }
def AlphabetTurnedUptoSaid : Prop := alphabetTurnedUptoRow.holds Try.pinned (OpenSpec.upto alphabetTurnedSpec)

/-- 'scansionlaw09.AlphabetNews', WHERE WHAT IT READS IS OF BULK AT MOST 1048576: true; the input reads as it did. -/
def alphabetNewsUptoRow : OpenClaim := { program := "ytgekjbingaghaaa", sum := "27883729beed17d672e7eb704edb4d0eb4be57b5d811c32be7f06bc73ce06da5", func := "scansion/scansionlaw09.AlphabetNews", spec := "alphabetNews", unfollowed := true, recurses := true, plainKeys := false, apart := false, narrowed := true }
def AlphabetNewsUptoSaid : Prop := alphabetNewsUptoRow.holds Try.pinned (OpenSpec.upto alphabetNewsSpec)

/-- 'scansionlaw09.AlphabetWords', WHERE WHAT IT READS IS OF BULK AT MOST 1048576: true; the input reads as it did. -/
def alphabetWordsUptoRow : OpenClaim := { program := "ytgekjbingaghaaa", sum := "27883729beed17d672e7eb704edb4d0eb4be57b5d811c32be7f06bc73ce06da5", func := "scansion/scansionlaw09.AlphabetWords", spec := "alphabetWords", unfollowed := true, recurses := true, plainKeys := false, apart := false, narrowed := true }
def AlphabetWordsUptoSaid : Prop := alphabetWordsUptoRow.holds Try.pinned (OpenSpec.upto alphabetWordsSpec)

end Rows
end Go.Proofs.Ytgekjbingaghaaa

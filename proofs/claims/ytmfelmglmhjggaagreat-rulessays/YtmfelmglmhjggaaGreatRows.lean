/-
  NARROWER THAN 'FOR EVERY INPUT', by the rows' own cells (each row's printed sentence says how): RulesFirst: loops · RulesSays: loops · RulesCompiles: loops · RulesBack: loops.
  DERIVED. THE GIVEN ROWS OF THIS SEAT. 6 by the template 'for every input the law returns true; each argument reads behind the call as it read before'; 0 by the template 'total and deterministic' (their statements: YtmfelmglmhjggaaGreatTotals.lean).
  GIVEN WITH THE SEED: the statements are not yours to turn. If you find one false, say at which input.
  Laid BY PROGRAM, IN A SANDBOX (cutbox-rows.mjs): the forced cells as the released guide's own fill.sh prints them over the translation 47c8f6184e6958ff… (all of the seat's roots in one cut). By AI agents, Wed Nov 11 2026. No macro, syntax, notation, axiom, sorry.
-/
import Derived.Test.YtmfelmglmhjggaaGreatChecked
import GoSem.Claim
import GoSem.ClaimJoined
import GoSem.ClaimMapViews
import Derived.JoinedTies
import Derived.KernelRfl
namespace Go.Proofs.YtmfelmglmhjggaaGreat
/- THE CELL 'sum', in the pinned program and in every row, IS THE sha256 OF THE DUMP (.gsa) THAT YtmfelmglmhjggaaGreatProg.lean LOADS. Nothing in Lean hashes anything: it is a label: what it is worth is what the hold of that sum in a sandbox is worth. -/
noncomputable def Tryz.pinned : Pinned := { name := "ytmfelmglmhjggaagreat", sum := "47c8f6184e6958ffa08fe50ed5d8054af6fe8c15a220bddd48dda491357aedac", checked := Tryz.checked }
namespace Rows
def none {H : Type} : Left H := { results := [], args := [] }

/-- 'scansionlaw15.RulesFirst': WHATEVER THE INPUT: true; the input reads as it did. -/
def rulesFirstSpec : ChangeSpec := { name := "rulesFirst", fn := fun _ => fun
  | [d1, d2, d3] => { results := [.lit (.bool true)], args := [d1, d2, d3] }
  | _ => none }
def rulesFirstRow : OpenClaim := { program := "ytmfelmglmhjggaagreat", sum := "47c8f6184e6958ffa08fe50ed5d8054af6fe8c15a220bddd48dda491357aedac", func := "scansion/scansionlaw15.RulesFirst", spec := "rulesFirst", inPlace := ["internal/abi.NoEscape"], unfollowed := true, recurses := true, loops := true, plainKeys := false, apart := false }
def RulesFirstSaid : Prop := rulesFirstRow.holds Tryz.pinned (OpenSpec.ofChange rulesFirstSpec)

/-- ITS FALSE NEIGHBOUR: 'it returns false'. Refute it at one input. -/
def rulesFirstWrong : ChangeSpec := { name := "rulesFirst", fn := fun _ => fun
  | [d1, d2, d3] => { results := [.lit (.bool false)], args := [d1, d2, d3] }
  | _ => none }
def RulesFirstWrongFalsely : Prop := rulesFirstRow.holds Tryz.pinned (OpenSpec.ofChange rulesFirstWrong)

/-- 'scansionlaw15.RulesSays': WHATEVER THE INPUT: true; the input reads as it did. -/
def rulesSaysSpec : ChangeSpec := { name := "rulesSays", fn := fun _ => fun
  | [d1, d2] => { results := [.lit (.bool true)], args := [d1, d2] }
  | _ => none }
def rulesSaysRow : OpenClaim := { program := "ytmfelmglmhjggaagreat", sum := "47c8f6184e6958ffa08fe50ed5d8054af6fe8c15a220bddd48dda491357aedac", func := "scansion/scansionlaw15.RulesSays", spec := "rulesSays", inPlace := ["internal/abi.NoEscape"], unfollowed := true, recurses := true, loops := true, plainKeys := false, apart := false }
def RulesSaysSaid : Prop := rulesSaysRow.holds Tryz.pinned (OpenSpec.ofChange rulesSaysSpec)

/-- ITS FALSE NEIGHBOUR: 'it returns false'. Refute it at one input. -/
def rulesSaysWrong : ChangeSpec := { name := "rulesSays", fn := fun _ => fun
  | [d1, d2] => { results := [.lit (.bool false)], args := [d1, d2] }
  | _ => none }
def RulesSaysWrongFalsely : Prop := rulesSaysRow.holds Tryz.pinned (OpenSpec.ofChange rulesSaysWrong)

/-- 'scansionlaw15.RulesTurned': WHATEVER THE INPUT: true; the input reads as it did. -/
def rulesTurnedSpec : ChangeSpec := { name := "rulesTurned", fn := fun _ => fun
  | [d1, d2] => { results := [.lit (.bool true)], args := [d1, d2] }
  | _ => none }
def rulesTurnedRow : OpenClaim := { program := "ytmfelmglmhjggaagreat", sum := "47c8f6184e6958ffa08fe50ed5d8054af6fe8c15a220bddd48dda491357aedac", func := "scansion/scansionlaw15.RulesTurned", spec := "rulesTurned", inPlace := ["internal/abi.NoEscape"], unfollowed := true, recurses := true, plainKeys := false, apart := false }
def RulesTurnedSaid : Prop := rulesTurnedRow.holds Tryz.pinned (OpenSpec.ofChange rulesTurnedSpec)

/-- ITS FALSE NEIGHBOUR: 'it returns false'. Refute it at one input. -/
def rulesTurnedWrong : ChangeSpec := { name := "rulesTurned", fn := fun _ => fun
  | [d1, d2] => { results := [.lit (.bool false)], args := [d1, d2] }
  | _ => none }
def RulesTurnedWrongFalsely : Prop := rulesTurnedRow.holds Tryz.pinned (OpenSpec.ofChange rulesTurnedWrong)

/-- 'scansionlaw15.RulesCompiles': WHATEVER THE INPUT: true; the input reads as it did. -/
def rulesCompilesSpec : ChangeSpec := { name := "rulesCompiles", fn := fun _ => fun
  | [d1, d2] => { results := [.lit (.bool true)], args := [d1, d2] }
  | _ => none }
def rulesCompilesRow : OpenClaim := { program := "ytmfelmglmhjggaagreat", sum := "47c8f6184e6958ffa08fe50ed5d8054af6fe8c15a220bddd48dda491357aedac", func := "scansion/scansionlaw15.RulesCompiles", spec := "rulesCompiles", inPlace := ["internal/abi.NoEscape"], unfollowed := true, recurses := true, loops := true, plainKeys := false, apart := false }
def RulesCompilesSaid : Prop := rulesCompilesRow.holds Tryz.pinned (OpenSpec.ofChange rulesCompilesSpec)

/-- ITS FALSE NEIGHBOUR: 'it returns false'. Refute it at one input. -/
def rulesCompilesWrong : ChangeSpec := { name := "rulesCompiles", fn := fun _ => fun
  | [d1, d2] => { results := [.lit (.bool false)], args := [d1, d2] }
  | _ => none }
def RulesCompilesWrongFalsely : Prop := rulesCompilesRow.holds Tryz.pinned (OpenSpec.ofChange rulesCompilesWrong)

/-- 'scansionlaw15.RulesBack': WHATEVER THE INPUT: true; the input reads as it did. -/
def rulesBackSpec : ChangeSpec := { name := "rulesBack", fn := fun _ => fun
  | [d1, d2] => { results := [.lit (.bool true)], args := [d1, d2] }
  | _ => none }
def rulesBackRow : OpenClaim := { program := "ytmfelmglmhjggaagreat", sum := "47c8f6184e6958ffa08fe50ed5d8054af6fe8c15a220bddd48dda491357aedac", func := "scansion/scansionlaw15.RulesBack", spec := "rulesBack", inPlace := ["internal/abi.NoEscape"], unfollowed := true, recurses := true, loops := true, plainKeys := false, apart := false }
def RulesBackSaid : Prop := rulesBackRow.holds Tryz.pinned (OpenSpec.ofChange rulesBackSpec)

/-- ITS FALSE NEIGHBOUR: 'it returns false'. Refute it at one input. -/
def rulesBackWrong : ChangeSpec := { name := "rulesBack", fn := fun _ => fun
  | [d1, d2] => { results := [.lit (.bool false)], args := [d1, d2] }
  | _ => none }
def RulesBackWrongFalsely : Prop := rulesBackRow.holds Tryz.pinned (OpenSpec.ofChange rulesBackWrong)

/-- 'scansionlaw15.RulesLoads': WHATEVER THE INPUT: true; the input reads as it did. -/
def rulesLoadsSpec : ChangeSpec := { name := "rulesLoads", fn := fun _ => fun
  | [d1, d2, d3] => { results := [.lit (.bool true)], args := [d1, d2, d3] }
  | _ => none }
def rulesLoadsRow : OpenClaim := { program := "ytmfelmglmhjggaagreat", sum := "47c8f6184e6958ffa08fe50ed5d8054af6fe8c15a220bddd48dda491357aedac", func := "scansion/scansionlaw15.RulesLoads", spec := "rulesLoads", inPlace := ["internal/abi.NoEscape"], unfollowed := true, recurses := true, plainKeys := false, apart := false }
def RulesLoadsSaid : Prop := rulesLoadsRow.holds Tryz.pinned (OpenSpec.ofChange rulesLoadsSpec)

/-- ITS FALSE NEIGHBOUR: 'it returns false'. Refute it at one input. -/
def rulesLoadsWrong : ChangeSpec := { name := "rulesLoads", fn := fun _ => fun
  | [d1, d2, d3] => { results := [.lit (.bool false)], args := [d1, d2, d3] }
  | _ => none }
def RulesLoadsWrongFalsely : Prop := rulesLoadsRow.holds Tryz.pinned (OpenSpec.ofChange rulesLoadsWrong)

/- THE SECOND FORM. 'bulk': how many values and letters a reading holds, each counted each time it is reached (what is shared counts as often as it is met; a slice's spare places count too). A statement '..UptoSaid' is the law's where the arguments, and the package variables that the reading takes, are together of bulk at most 1048576: NARROWER than '..Said'. Prove '..Said' where nothing that the law and all that it calls make is longer than what came in: it says more and counts as full. Else prove '..UptoSaid'. A law counts once. -/
mutual
def uptoBulk {H : Type} : DataW H → Nat
  | .lit (.string bytes) => bytes.length + 1
  | .lit _ => 1
  | .nil => 1
  | .ptr d => uptoBulk d + 1
  | .slice elems spare => uptoBulkAll elems + uptoBulkAll spare + 1
  | .agg parts => uptoBulkAll parts + 1
  | .iface _ d => uptoBulk d + 1
  | .map entries => uptoBulkEntries entries + 1
  | .held _ => 1
def uptoBulkAll {H : Type} : List (DataW H) → Nat
  | [] => 0
  | d :: r => uptoBulk d + uptoBulkAll r
def uptoBulkEntries {H : Type} : List (Lit × DataW H) → Nat
  | [] => 0
  | x :: r => uptoBulkEntry x + uptoBulkEntries r
def uptoBulkEntry {H : Type} : Lit × DataW H → Nat
  | (.string bytes, d) => bytes.length + uptoBulk d + 1
  | (_, d) => uptoBulk d + 1
 end
def uptoSmall : (H : Type) → List (DataW H) → Bool := fun _ ds => decide (uptoBulkAll ds ≤ 1048576)
def OpenSpec.upto (s : _root_.Go.ChangeSpec) : _root_.Go.OpenSpec := { _root_.Go.OpenSpec.ofChange s with cond := some uptoSmall }

/-- 'scansionlaw15.RulesFirst', WHERE WHAT IT READS IS OF BULK AT MOST 1048576: true; the input reads as it did. -/
def rulesFirstUptoRow : OpenClaim := { program := "ytmfelmglmhjggaagreat", sum := "47c8f6184e6958ffa08fe50ed5d8054af6fe8c15a220bddd48dda491357aedac", func := "scansion/scansionlaw15.RulesFirst", spec := "rulesFirst", inPlace := ["internal/abi.NoEscape"], unfollowed := true, recurses := true, loops := true, plainKeys := false, apart := false, narrowed := true }
def RulesFirstUptoSaid : Prop := rulesFirstUptoRow.holds Tryz.pinned (OpenSpec.upto rulesFirstSpec)

/-- 'scansionlaw15.RulesSays', WHERE WHAT IT READS IS OF BULK AT MOST 1048576: true; the input reads as it did. -/
def rulesSaysUptoRow : OpenClaim := { program := "ytmfelmglmhjggaagreat", sum := "47c8f6184e6958ffa08fe50ed5d8054af6fe8c15a220bddd48dda491357aedac", func := "scansion/scansionlaw15.RulesSays", spec := "rulesSays", inPlace := ["internal/abi.NoEscape"], unfollowed := true, recurses := true, loops := true, plainKeys := false, apart := false, narrowed := true }
def RulesSaysUptoSaid : Prop := rulesSaysUptoRow.holds Tryz.pinned (OpenSpec.upto rulesSaysSpec)

/-- 'scansionlaw15.RulesTurned', WHERE WHAT IT READS IS OF BULK AT MOST 1048576: true; the input reads as it did. -/
def rulesTurnedUptoRow : OpenClaim := { program := "ytmfelmglmhjggaagreat", sum := "47c8f6184e6958ffa08fe50ed5d8054af6fe8c15a220bddd48dda491357aedac", func := "scansion/scansionlaw15.RulesTurned", spec := "rulesTurned", inPlace := ["internal/abi.NoEscape"], unfollowed := true, recurses := true, plainKeys := false, apart := false, narrowed := true }
def RulesTurnedUptoSaid : Prop := rulesTurnedUptoRow.holds Tryz.pinned (OpenSpec.upto rulesTurnedSpec)

/-- 'scansionlaw15.RulesCompiles', WHERE WHAT IT READS IS OF BULK AT MOST 1048576: true; the input reads as it did. -/
def rulesCompilesUptoRow : OpenClaim := { program := "ytmfelmglmhjggaagreat", sum := "47c8f6184e6958ffa08fe50ed5d8054af6fe8c15a220bddd48dda491357aedac", func := "scansion/scansionlaw15.RulesCompiles", spec := "rulesCompiles", inPlace := ["internal/abi.NoEscape"], unfollowed := true, recurses := true, loops := true, plainKeys := false, apart := false, narrowed := true }
def RulesCompilesUptoSaid : Prop := rulesCompilesUptoRow.holds Tryz.pinned (OpenSpec.upto rulesCompilesSpec)

/-- 'scansionlaw15.RulesBack', WHERE WHAT IT READS IS OF BULK AT MOST 1048576: true; the input reads as it did. -/
def rulesBackUptoRow : OpenClaim := { program := "ytmfelmglmhjggaagreat", sum := "47c8f6184e6958ffa08fe50ed5d8054af6fe8c15a220bddd48dda491357aedac", func := "scansion/scansionlaw15.RulesBack", spec := "rulesBack", inPlace := ["internal/abi.NoEscape"], unfollowed := true, recurses := true, loops := true, plainKeys := false, apart := false, narrowed := true }
def RulesBackUptoSaid : Prop := rulesBackUptoRow.holds Tryz.pinned (OpenSpec.upto rulesBackSpec)

/-- 'scansionlaw15.RulesLoads', WHERE WHAT IT READS IS OF BULK AT MOST 1048576: true; the input reads as it did. -/
def rulesLoadsUptoRow : OpenClaim := { program := "ytmfelmglmhjggaagreat", sum := "47c8f6184e6958ffa08fe50ed5d8054af6fe8c15a220bddd48dda491357aedac", func := "scansion/scansionlaw15.RulesLoads", spec := "rulesLoads", inPlace := ["internal/abi.NoEscape"], unfollowed := true, recurses := true, plainKeys := false, apart := false, narrowed := true }
def RulesLoadsUptoSaid : Prop := rulesLoadsUptoRow.holds Tryz.pinned (OpenSpec.upto rulesLoadsSpec)

end Rows
end Go.Proofs.YtmfelmglmhjggaaGreat

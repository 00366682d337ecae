/-
  No cell of these rows narrows 'for every input' (looked for: loops, veiled, ifaces, maps, wideKeys, modest, calm, conditions, laid).
  DERIVED. THE GIVEN ROWS OF THIS SEAT. 10 by the template 'for every input the law returns true; each argument reads behind the call as it read before'; 0 by the template 'total and deterministic' (their statements: YtbpkogknmhklbaaTotals.lean).
  GIVEN WITH THE SEED: the statements are not yours to turn. If you find one false, say at which input.
  Laid BY PROGRAM, IN A SANDBOX (cutbox-rows.mjs): the forced cells as the released guide's own fill.sh prints them over the translation d85cc7bb63840f06… (all of the seat's roots in one cut). By AI agents, Wed Nov 11 2026. No macro, syntax, notation, axiom, sorry.
-/
import Derived.Test.YtbpkogknmhklbaaChecked
import GoSem.Claim
import GoSem.ClaimJoined
import GoSem.ClaimMapViews
import Derived.JoinedTies
import Derived.KernelRfl
namespace Go.Proofs.Ytbpkogknmhklbaa
/- THE CELL 'sum', in the pinned program and in every row, IS THE sha256 OF THE DUMP (.gsa) THAT YtbpkogknmhklbaaProg.lean LOADS. Nothing in Lean hashes anything: it is a label: what it is worth is what the hold of that sum in a sandbox is worth. -/
noncomputable def Try.pinned : Pinned := { name := "ytbpkogknmhklbaa", sum := "d85cc7bb63840f065aaa59bd7c674eebecda3d96f9dcf7f292063cee9aebe5ab", checked := Try.checked }
namespace Rows
def none {H : Type} : Left H := { results := [], args := [] }

/-- 'laws.FnExactIsFormula': WHATEVER THE INPUT: true; the input reads as it did. -/
def fnExactIsFormulaSpec : ChangeSpec := { name := "fnExactIsFormula", fn := fun _ => fun
  | [d] => { results := [.lit (.bool true)], args := [d] }
  | _ => none }
def fnExactIsFormulaRow : OpenClaim := { program := "ytbpkogknmhklbaa", sum := "d85cc7bb63840f065aaa59bd7c674eebecda3d96f9dcf7f292063cee9aebe5ab", func := "loop.example/g01089/laws.FnExactIsFormula", spec := "fnExactIsFormula", unfollowed := true, recurses := true, apart := false }
def FnExactIsFormulaSaid : Prop := fnExactIsFormulaRow.holds Try.pinned (OpenSpec.ofChange fnExactIsFormulaSpec)

/-- ITS FALSE NEIGHBOUR: 'it returns false'. Refute it at one input. -/
def fnExactIsFormulaWrong : ChangeSpec := { name := "fnExactIsFormula", fn := fun _ => fun
  | [d] => { results := [.lit (.bool false)], args := [d] }
  | _ => none }
def FnExactIsFormulaWrongFalsely : Prop := fnExactIsFormulaRow.holds Try.pinned (OpenSpec.ofChange fnExactIsFormulaWrong)

/-- 'laws.FnExactIsPlain': WHATEVER THE INPUT: true; the input reads as it did. -/
def fnExactIsPlainSpec : ChangeSpec := { name := "fnExactIsPlain", fn := fun _ => fun
  | [d] => { results := [.lit (.bool true)], args := [d] }
  | _ => none }
def fnExactIsPlainRow : OpenClaim := { program := "ytbpkogknmhklbaa", sum := "d85cc7bb63840f065aaa59bd7c674eebecda3d96f9dcf7f292063cee9aebe5ab", func := "loop.example/g01089/laws.FnExactIsPlain", spec := "fnExactIsPlain", unfollowed := true, recurses := true, apart := false }
def FnExactIsPlainSaid : Prop := fnExactIsPlainRow.holds Try.pinned (OpenSpec.ofChange fnExactIsPlainSpec)

/-- ITS FALSE NEIGHBOUR: 'it returns false'. Refute it at one input. -/
def fnExactIsPlainWrong : ChangeSpec := { name := "fnExactIsPlain", fn := fun _ => fun
  | [d] => { results := [.lit (.bool false)], args := [d] }
  | _ => none }
def FnExactIsPlainWrongFalsely : Prop := fnExactIsPlainRow.holds Try.pinned (OpenSpec.ofChange fnExactIsPlainWrong)

/-- 'laws.FnExactDepthsOf': WHATEVER THE INPUT: true; the input reads as it did. -/
def fnExactDepthsOfSpec : ChangeSpec := { name := "fnExactDepthsOf", fn := fun _ => fun
  | [d] => { results := [.lit (.bool true)], args := [d] }
  | _ => none }
def fnExactDepthsOfRow : OpenClaim := { program := "ytbpkogknmhklbaa", sum := "d85cc7bb63840f065aaa59bd7c674eebecda3d96f9dcf7f292063cee9aebe5ab", func := "loop.example/g01089/laws.FnExactDepthsOf", spec := "fnExactDepthsOf", unfollowed := true, recurses := true, apart := false }
def FnExactDepthsOfSaid : Prop := fnExactDepthsOfRow.holds Try.pinned (OpenSpec.ofChange fnExactDepthsOfSpec)

/-- ITS FALSE NEIGHBOUR: 'it returns false'. Refute it at one input. -/
def fnExactDepthsOfWrong : ChangeSpec := { name := "fnExactDepthsOf", fn := fun _ => fun
  | [d] => { results := [.lit (.bool false)], args := [d] }
  | _ => none }
def FnExactDepthsOfWrongFalsely : Prop := fnExactDepthsOfRow.holds Try.pinned (OpenSpec.ofChange fnExactDepthsOfWrong)

/-- 'laws.FnExactKindCounts': WHATEVER THE INPUT: true; the input reads as it did. -/
def fnExactKindCountsSpec : ChangeSpec := { name := "fnExactKindCounts", fn := fun _ => fun
  | [d] => { results := [.lit (.bool true)], args := [d] }
  | _ => none }
def fnExactKindCountsRow : OpenClaim := { program := "ytbpkogknmhklbaa", sum := "d85cc7bb63840f065aaa59bd7c674eebecda3d96f9dcf7f292063cee9aebe5ab", func := "loop.example/g01089/laws.FnExactKindCounts", spec := "fnExactKindCounts", unfollowed := true, recurses := true, apart := false }
def FnExactKindCountsSaid : Prop := fnExactKindCountsRow.holds Try.pinned (OpenSpec.ofChange fnExactKindCountsSpec)

/-- ITS FALSE NEIGHBOUR: 'it returns false'. Refute it at one input. -/
def fnExactKindCountsWrong : ChangeSpec := { name := "fnExactKindCounts", fn := fun _ => fun
  | [d] => { results := [.lit (.bool false)], args := [d] }
  | _ => none }
def FnExactKindCountsWrongFalsely : Prop := fnExactKindCountsRow.holds Try.pinned (OpenSpec.ofChange fnExactKindCountsWrong)

/-- 'laws.FnExactIsGuarded': WHATEVER THE INPUT: true; the input reads as it did. -/
def fnExactIsGuardedSpec : ChangeSpec := { name := "fnExactIsGuarded", fn := fun _ => fun
  | [d1, d2] => { results := [.lit (.bool true)], args := [d1, d2] }
  | _ => none }
def fnExactIsGuardedRow : OpenClaim := { program := "ytbpkogknmhklbaa", sum := "d85cc7bb63840f065aaa59bd7c674eebecda3d96f9dcf7f292063cee9aebe5ab", func := "loop.example/g01089/laws.FnExactIsGuarded", spec := "fnExactIsGuarded", unfollowed := true, recurses := true, apart := false }
def FnExactIsGuardedSaid : Prop := fnExactIsGuardedRow.holds Try.pinned (OpenSpec.ofChange fnExactIsGuardedSpec)

/-- ITS FALSE NEIGHBOUR: 'it returns false'. Refute it at one input. -/
def fnExactIsGuardedWrong : ChangeSpec := { name := "fnExactIsGuarded", fn := fun _ => fun
  | [d1, d2] => { results := [.lit (.bool false)], args := [d1, d2] }
  | _ => none }
def FnExactIsGuardedWrongFalsely : Prop := fnExactIsGuardedRow.holds Try.pinned (OpenSpec.ofChange fnExactIsGuardedWrong)

/-- 'laws.FnExactPrefixFormula': WHATEVER THE INPUT: true; the input reads as it did. -/
def fnExactPrefixFormulaSpec : ChangeSpec := { name := "fnExactPrefixFormula", fn := fun _ => fun
  | [d1, d2] => { results := [.lit (.bool true)], args := [d1, d2] }
  | _ => none }
def fnExactPrefixFormulaRow : OpenClaim := { program := "ytbpkogknmhklbaa", sum := "d85cc7bb63840f065aaa59bd7c674eebecda3d96f9dcf7f292063cee9aebe5ab", func := "loop.example/g01089/laws.FnExactPrefixFormula", spec := "fnExactPrefixFormula", unfollowed := true, recurses := true, apart := false }
def FnExactPrefixFormulaSaid : Prop := fnExactPrefixFormulaRow.holds Try.pinned (OpenSpec.ofChange fnExactPrefixFormulaSpec)

/-- ITS FALSE NEIGHBOUR: 'it returns false'. Refute it at one input. -/
def fnExactPrefixFormulaWrong : ChangeSpec := { name := "fnExactPrefixFormula", fn := fun _ => fun
  | [d1, d2] => { results := [.lit (.bool false)], args := [d1, d2] }
  | _ => none }
def FnExactPrefixFormulaWrongFalsely : Prop := fnExactPrefixFormulaRow.holds Try.pinned (OpenSpec.ofChange fnExactPrefixFormulaWrong)

/-- 'laws.FnExactJoinFormulas': WHATEVER THE INPUT: true; the input reads as it did. -/
def fnExactJoinFormulasSpec : ChangeSpec := { name := "fnExactJoinFormulas", fn := fun _ => fun
  | [d1, d2, d3] => { results := [.lit (.bool true)], args := [d1, d2, d3] }
  | _ => none }
def fnExactJoinFormulasRow : OpenClaim := { program := "ytbpkogknmhklbaa", sum := "d85cc7bb63840f065aaa59bd7c674eebecda3d96f9dcf7f292063cee9aebe5ab", func := "loop.example/g01089/laws.FnExactJoinFormulas", spec := "fnExactJoinFormulas", unfollowed := true, recurses := true, apart := false }
def FnExactJoinFormulasSaid : Prop := fnExactJoinFormulasRow.holds Try.pinned (OpenSpec.ofChange fnExactJoinFormulasSpec)

/-- ITS FALSE NEIGHBOUR: 'it returns false'. Refute it at one input. -/
def fnExactJoinFormulasWrong : ChangeSpec := { name := "fnExactJoinFormulas", fn := fun _ => fun
  | [d1, d2, d3] => { results := [.lit (.bool false)], args := [d1, d2, d3] }
  | _ => none }
def FnExactJoinFormulasWrongFalsely : Prop := fnExactJoinFormulasRow.holds Try.pinned (OpenSpec.ofChange fnExactJoinFormulasWrong)

/-- 'laws.FnExactOccurrencesOf': WHATEVER THE INPUT: true; the input reads as it did. -/
def fnExactOccurrencesOfSpec : ChangeSpec := { name := "fnExactOccurrencesOf", fn := fun _ => fun
  | [d1, d2] => { results := [.lit (.bool true)], args := [d1, d2] }
  | _ => none }
def fnExactOccurrencesOfRow : OpenClaim := { program := "ytbpkogknmhklbaa", sum := "d85cc7bb63840f065aaa59bd7c674eebecda3d96f9dcf7f292063cee9aebe5ab", func := "loop.example/g01089/laws.FnExactOccurrencesOf", spec := "fnExactOccurrencesOf", unfollowed := true, recurses := true, apart := false }
def FnExactOccurrencesOfSaid : Prop := fnExactOccurrencesOfRow.holds Try.pinned (OpenSpec.ofChange fnExactOccurrencesOfSpec)

/-- ITS FALSE NEIGHBOUR: 'it returns false'. Refute it at one input. -/
def fnExactOccurrencesOfWrong : ChangeSpec := { name := "fnExactOccurrencesOf", fn := fun _ => fun
  | [d1, d2] => { results := [.lit (.bool false)], args := [d1, d2] }
  | _ => none }
def FnExactOccurrencesOfWrongFalsely : Prop := fnExactOccurrencesOfRow.holds Try.pinned (OpenSpec.ofChange fnExactOccurrencesOfWrong)

/-- 'laws.FnExactVariablesOf': WHATEVER THE INPUT: true; the input reads as it did. -/
def fnExactVariablesOfSpec : ChangeSpec := { name := "fnExactVariablesOf", fn := fun _ => fun
  | [d] => { results := [.lit (.bool true)], args := [d] }
  | _ => none }
def fnExactVariablesOfRow : OpenClaim := { program := "ytbpkogknmhklbaa", sum := "d85cc7bb63840f065aaa59bd7c674eebecda3d96f9dcf7f292063cee9aebe5ab", func := "loop.example/g01089/laws.FnExactVariablesOf", spec := "fnExactVariablesOf", unfollowed := true, recurses := true, apart := false }
def FnExactVariablesOfSaid : Prop := fnExactVariablesOfRow.holds Try.pinned (OpenSpec.ofChange fnExactVariablesOfSpec)

/-- ITS FALSE NEIGHBOUR: 'it returns false'. Refute it at one input. -/
def fnExactVariablesOfWrong : ChangeSpec := { name := "fnExactVariablesOf", fn := fun _ => fun
  | [d] => { results := [.lit (.bool false)], args := [d] }
  | _ => none }
def FnExactVariablesOfWrongFalsely : Prop := fnExactVariablesOfRow.holds Try.pinned (OpenSpec.ofChange fnExactVariablesOfWrong)

/-- 'laws.FnExactVariablePolarity': WHATEVER THE INPUT: true; the input reads as it did. -/
def fnExactVariablePolaritySpec : ChangeSpec := { name := "fnExactVariablePolarity", fn := fun _ => fun
  | [d1, d2] => { results := [.lit (.bool true)], args := [d1, d2] }
  | _ => none }
def fnExactVariablePolarityRow : OpenClaim := { program := "ytbpkogknmhklbaa", sum := "d85cc7bb63840f065aaa59bd7c674eebecda3d96f9dcf7f292063cee9aebe5ab", func := "loop.example/g01089/laws.FnExactVariablePolarity", spec := "fnExactVariablePolarity", unfollowed := true, recurses := true, apart := false }
def FnExactVariablePolaritySaid : Prop := fnExactVariablePolarityRow.holds Try.pinned (OpenSpec.ofChange fnExactVariablePolaritySpec)

/-- ITS FALSE NEIGHBOUR: 'it returns false'. Refute it at one input. -/
def fnExactVariablePolarityWrong : ChangeSpec := { name := "fnExactVariablePolarity", fn := fun _ => fun
  | [d1, d2] => { results := [.lit (.bool false)], args := [d1, d2] }
  | _ => none }
def FnExactVariablePolarityWrongFalsely : Prop := fnExactVariablePolarityRow.holds Try.pinned (OpenSpec.ofChange fnExactVariablePolarityWrong)

/- THE SECOND FORM. 'bulk': how many values and letters a reading holds, each counted each time it is reached (what is shared counts as often as it is met; a slice's spare places count too). A statement '..UptoSaid' is the law's where the arguments, and the package variables that the reading takes, are together of bulk at most 1048576: NARROWER than '..Said'. Prove '..Said' where nothing that the law and all that it calls make is longer than what came in: it says more and counts as full. Else prove '..UptoSaid'. A law counts once. -/
mutual
def uptoBulk {H : Type} : DataW H → Nat
  | .lit (.string bytes) => bytes.length + 1
  | .lit _ => 1
  | .nil => 1
  | .ptr d => uptoBulk d + 1
  | .slice elems spare => uptoBulkAll elems + uptoBulkAll spare + 1
  | .agg parts => uptoBulkAll parts + 1
  | .iface _ d => uptoBulk d + 1
  | .map entries => uptoBulkEntries entries + 1
  | .held _ => 1
def uptoBulkAll {H : Type} : List (DataW H) → Nat
  | [] => 0
  | d :: r => uptoBulk d + uptoBulkAll r
def uptoBulkEntries {H : Type} : List (Lit × DataW H) → Nat
  | [] => 0
  | x :: r => uptoBulkEntry x + uptoBulkEntries r
def uptoBulkEntry {H : Type} : Lit × DataW H → Nat
  | (.string bytes, d) => bytes.length + uptoBulk d + 1
  | (_, d) => uptoBulk d + 1
 end
def uptoSmall : (H : Type) → List (DataW H) → Bool := fun _ ds => decide (uptoBulkAll ds ≤ 1048576)
def OpenSpec.upto (s : _root_.Go.ChangeSpec) : _root_.Go.OpenSpec := { _root_.Go.OpenSpec.ofChange s with cond := some uptoSmall }

/-- 'laws.FnExactIsFormula', WHERE WHAT IT READS IS OF BULK AT MOST 1048576: true; the input reads as it did. -/
def fnExactIsFormulaUptoRow : OpenClaim := { program := "ytbpkogknmhklbaa", sum := "d85cc7bb63840f065aaa59bd7c674eebecda3d96f9dcf7f292063cee9aebe5ab", func := "loop.example/g01089/laws.FnExactIsFormula", spec := "fnExactIsFormula", unfollowed := true, recurses := true, apart := false, narrowed := true }
def FnExactIsFormulaUptoSaid : Prop := fnExactIsFormulaUptoRow.holds Try.pinned (OpenSpec.upto fnExactIsFormulaSpec)

/-- 'laws.FnExactIsPlain', WHERE WHAT IT READS IS OF BULK AT MOST 1048576: true; the input reads as it did. -/
def fnExactIsPlainUptoRow : OpenClaim := { program := "ytbpkogknmhklbaa", sum := "d85cc7bb63840f065aaa59bd7c674eebecda3d96f9dcf7f292063cee9aebe5ab", func := "loop.example/g01089/laws.FnExactIsPlain", spec := "fnExactIsPlain", unfollowed := true, recurses := true, apart := false, narrowed := true }
def FnExactIsPlainUptoSaid : Prop := fnExactIsPlainUptoRow.holds Try.pinned (OpenSpec.upto fnExactIsPlainSpec)

/-- 'laws.FnExactDepthsOf', WHERE WHAT IT READS IS OF BULK AT MOST 1048576: true; the input reads as it did. -/
def fnExactDepthsOfUptoRow : OpenClaim := { program := "ytbpkogknmhklbaa", sum := "d85cc7bb63840f065aaa59bd7c674eebecda3d96f9dcf7f292063cee9aebe5ab", func := "loop.example/g01089/laws.FnExactDepthsOf", spec := "fnExactDepthsOf", unfollowed := true, recurses := true, apart := false, narrowed := true }
def FnExactDepthsOfUptoSaid : Prop := fnExactDepthsOfUptoRow.holds Try.pinned (OpenSpec.upto fnExactDepthsOfSpec)

/-- 'laws.FnExactKindCounts', WHERE WHAT IT READS IS OF BULK AT MOST 1048576: true; the input reads as it did. -/
def fnExactKindCountsUptoRow : OpenClaim := { program := "ytbpkogknmhklbaa", sum := "d85cc7bb63840f065aaa59bd7c674eebecda3d96f9dcf7f292063cee9aebe5ab", func := "loop.example/g01089/laws.FnExactKindCounts", spec := "fnExactKindCounts", unfollowed := true, recurses := true, apart := false, narrowed := true }
def FnExactKindCountsUptoSaid : Prop := fnExactKindCountsUptoRow.holds Try.pinned (OpenSpec.upto fnExactKindCountsSpec)

/-- 'laws.FnExactIsGuarded', WHERE WHAT IT READS IS OF BULK AT MOST 1048576: true; the input reads as it did. -/
def fnExactIsGuardedUptoRow : OpenClaim := { program := "ytbpkogknmhklbaa", sum := "d85cc7bb63840f065aaa59bd7c674eebecda3d96f9dcf7f292063cee9aebe5ab", func := "loop.example/g01089/laws.FnExactIsGuarded", spec := "fnExactIsGuarded", unfollowed := true, recurses := true, apart := false, narrowed := true }
def FnExactIsGuardedUptoSaid : Prop := fnExactIsGuardedUptoRow.holds Try.pinned (OpenSpec.upto fnExactIsGuardedSpec)

/-- 'laws.FnExactPrefixFormula', WHERE WHAT IT READS IS OF BULK AT MOST 1048576: true; the input reads as it did. -/
def fnExactPrefixFormulaUptoRow : OpenClaim := { program := "ytbpkogknmhklbaa", sum := "d85cc7bb63840f065aaa59bd7c674eebecda3d96f9dcf7f292063cee9aebe5ab", func := "loop.example/g01089/laws.FnExactPrefixFormula", spec := "fnExactPrefixFormula", unfollowed := true, recurses := true, apart := false, narrowed := true }
def FnExactPrefixFormulaUptoSaid : Prop := fnExactPrefixFormulaUptoRow.holds Try.pinned (OpenSpec.upto fnExactPrefixFormulaSpec)

/-- 'laws.FnExactJoinFormulas', WHERE WHAT IT READS IS OF BULK AT MOST 1048576: true; the input reads as it did. -/
def fnExactJoinFormulasUptoRow : OpenClaim := { program := "ytbpkogknmhklbaa", sum := "d85cc7bb63840f065aaa59bd7c674eebecda3d96f9dcf7f292063cee9aebe5ab", func := "loop.example/g01089/laws.FnExactJoinFormulas", spec := "fnExactJoinFormulas", unfollowed := true, recurses := true, apart := false, narrowed := true }
def FnExactJoinFormulasUptoSaid : Prop := fnExactJoinFormulasUptoRow.holds Try.pinned (OpenSpec.upto fnExactJoinFormulasSpec)

/-- 'laws.FnExactOccurrencesOf', WHERE WHAT IT READS IS OF BULK AT MOST 1048576: true; the input reads as it did. -/
def fnExactOccurrencesOfUptoRow : OpenClaim := { program := "ytbpkogknmhklbaa", sum := "d85cc7bb63840f065aaa59bd7c674eebecda3d96f9dcf7f292063cee9aebe5ab", func := "loop.example/g01089/laws.FnExactOccurrencesOf", spec := "fnExactOccurrencesOf", unfollowed := true, recurses := true, apart := false, narrowed := true }
def FnExactOccurrencesOfUptoSaid : Prop := fnExactOccurrencesOfUptoRow.holds Try.pinned (OpenSpec.upto fnExactOccurrencesOfSpec)

/-- 'laws.FnExactVariablesOf', WHERE WHAT IT READS IS OF BULK AT MOST 1048576: true; the input reads as it did. -/
def fnExactVariablesOfUptoRow : OpenClaim := { program := "ytbpkogknmhklbaa", sum := "d85cc7bb63840f065aaa59bd7c674eebecda3d96f9dcf7f292063cee9aebe5ab", func := "loop.example/g01089/laws.FnExactVariablesOf", spec := "fnExactVariablesOf", unfollowed := true, recurses := true, apart := false, narrowed := true }
def FnExactVariablesOfUptoSaid : Prop := fnExactVariablesOfUptoRow.holds Try.pinned (OpenSpec.upto fnExactVariablesOfSpec)

/-- 'laws.FnExactVariablePolarity', WHERE WHAT IT READS IS OF BULK AT MOST 1048576: true; the input reads as it did. -/
def fnExactVariablePolarityUptoRow : OpenClaim := { program := "ytbpkogknmhklbaa", sum := "d85cc7bb63840f065aaa59bd7c674eebecda3d96f9dcf7f292063cee9aebe5ab", func := "loop.example/g01089/laws.FnExactVariablePolarity", spec := "fnExactVariablePolarity", unfollowed := true, recurses := true, apart := false, narrowed := true }
def FnExactVariablePolarityUptoSaid : Prop := fnExactVariablePolarityUptoRow.holds Try.pinned (OpenSpec.upto fnExactVariablePolaritySpec)

end Rows
end Go.Proofs.Ytbpkogknmhklbaa

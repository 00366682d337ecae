/-
  No cell of these rows narrows 'for every input' (looked for: loops, veiled, ifaces, maps, wideKeys, modest, calm, conditions, laid).
  DERIVED. THE GIVEN ROWS OF THIS SEAT. 7 by the template 'for every input the law returns true; each argument reads behind the call as it read before'; 0 by the template 'total and deterministic' (their statements: YtngaadpmmlabmaaTotals.lean).
  GIVEN WITH THE SEED: the statements are not yours to turn. If you find one false, say at which input.
  Laid BY PROGRAM, IN A SANDBOX (cutbox-rows.mjs): the forced cells as the released guide's own fill.sh prints them over the translation ba1d795542812c9e… (all of the seat's roots in one cut). By AI agents, Wed Nov 11 2026. No macro, syntax, notation, axiom, sorry.
-/
import Derived.Test.YtngaadpmmlabmaaChecked
import GoSem.Claim
import GoSem.ClaimJoined
import GoSem.ClaimMapViews
import Derived.JoinedTies
import Derived.KernelRfl
namespace Go.Proofs.Ytngaadpmmlabmaa
/- THE CELL 'sum', in the pinned program and in every row, IS THE sha256 OF THE DUMP (.gsa) THAT YtngaadpmmlabmaaProg.lean LOADS. Nothing in Lean hashes anything: it is a label: what it is worth is what the hold of that sum in a sandbox is worth. -/
noncomputable def Try.pinned : Pinned := { name := "ytngaadpmmlabmaa", sum := "ba1d795542812c9e638e628739925e54230837f29ad6c9a83efcf1959afd7735", checked := Try.checked }
namespace Rows
def none {H : Type} : Left H := { results := [], args := [] }

/-- 'laws.FnExactIsTautology': WHATEVER THE INPUT: true; the input reads as it did. -/
def fnExactIsTautologySpec : ChangeSpec := { name := "fnExactIsTautology", fn := fun _ => fun
  | [d] => { results := [.lit (.bool true)], args := [d] }
  | _ => none }
def fnExactIsTautologyRow : OpenClaim := { program := "ytngaadpmmlabmaa", sum := "ba1d795542812c9e638e628739925e54230837f29ad6c9a83efcf1959afd7735", func := "loop.example/g01089/laws.FnExactIsTautology", spec := "fnExactIsTautology", unfollowed := true, recurses := true, apart := false }
def FnExactIsTautologySaid : Prop := fnExactIsTautologyRow.holds Try.pinned (OpenSpec.ofChange fnExactIsTautologySpec)

/-- ITS FALSE NEIGHBOUR: 'it returns false'. Refute it at one input. -/
def fnExactIsTautologyWrong : ChangeSpec := { name := "fnExactIsTautology", fn := fun _ => fun
  | [d] => { results := [.lit (.bool false)], args := [d] }
  | _ => none }
def FnExactIsTautologyWrongFalsely : Prop := fnExactIsTautologyRow.holds Try.pinned (OpenSpec.ofChange fnExactIsTautologyWrong)

/-- 'laws.FnExactFormulaText': WHATEVER THE INPUT: true; the input reads as it did. -/
def fnExactFormulaTextSpec : ChangeSpec := { name := "fnExactFormulaText", fn := fun _ => fun
  | [d] => { results := [.lit (.bool true)], args := [d] }
  | _ => none }
def fnExactFormulaTextRow : OpenClaim := { program := "ytngaadpmmlabmaa", sum := "ba1d795542812c9e638e628739925e54230837f29ad6c9a83efcf1959afd7735", func := "loop.example/g01089/laws.FnExactFormulaText", spec := "fnExactFormulaText", unfollowed := true, recurses := true, apart := false }
def FnExactFormulaTextSaid : Prop := fnExactFormulaTextRow.holds Try.pinned (OpenSpec.ofChange fnExactFormulaTextSpec)

/-- ITS FALSE NEIGHBOUR: 'it returns false'. Refute it at one input. -/
def fnExactFormulaTextWrong : ChangeSpec := { name := "fnExactFormulaText", fn := fun _ => fun
  | [d] => { results := [.lit (.bool false)], args := [d] }
  | _ => none }
def FnExactFormulaTextWrongFalsely : Prop := fnExactFormulaTextRow.holds Try.pinned (OpenSpec.ofChange fnExactFormulaTextWrong)

/-- 'laws.FnExactCompareFormulas': WHATEVER THE INPUT: true; the input reads as it did. -/
def fnExactCompareFormulasSpec : ChangeSpec := { name := "fnExactCompareFormulas", fn := fun _ => fun
  | [d1, d2] => { results := [.lit (.bool true)], args := [d1, d2] }
  | _ => none }
def fnExactCompareFormulasRow : OpenClaim := { program := "ytngaadpmmlabmaa", sum := "ba1d795542812c9e638e628739925e54230837f29ad6c9a83efcf1959afd7735", func := "loop.example/g01089/laws.FnExactCompareFormulas", spec := "fnExactCompareFormulas", inPlace := ["internal/bytealg.abigen_runtime_cmpstring"], unfollowed := true, recurses := true, apart := false }
def FnExactCompareFormulasSaid : Prop := fnExactCompareFormulasRow.holds Try.pinned (OpenSpec.ofChange fnExactCompareFormulasSpec)

/-- ITS FALSE NEIGHBOUR: 'it returns false'. Refute it at one input. -/
def fnExactCompareFormulasWrong : ChangeSpec := { name := "fnExactCompareFormulas", fn := fun _ => fun
  | [d1, d2] => { results := [.lit (.bool false)], args := [d1, d2] }
  | _ => none }
def FnExactCompareFormulasWrongFalsely : Prop := fnExactCompareFormulasRow.holds Try.pinned (OpenSpec.ofChange fnExactCompareFormulasWrong)

/-- 'laws.FnExactClassicalEntails': WHATEVER THE INPUT: true; the input reads as it did. -/
def fnExactClassicalEntailsSpec : ChangeSpec := { name := "fnExactClassicalEntails", fn := fun _ => fun
  | [d1, d2] => { results := [.lit (.bool true)], args := [d1, d2] }
  | _ => none }
def fnExactClassicalEntailsRow : OpenClaim := { program := "ytngaadpmmlabmaa", sum := "ba1d795542812c9e638e628739925e54230837f29ad6c9a83efcf1959afd7735", func := "loop.example/g01089/laws.FnExactClassicalEntails", spec := "fnExactClassicalEntails", unfollowed := true, recurses := true, apart := false }
def FnExactClassicalEntailsSaid : Prop := fnExactClassicalEntailsRow.holds Try.pinned (OpenSpec.ofChange fnExactClassicalEntailsSpec)

/-- ITS FALSE NEIGHBOUR: 'it returns false'. Refute it at one input. -/
def fnExactClassicalEntailsWrong : ChangeSpec := { name := "fnExactClassicalEntails", fn := fun _ => fun
  | [d1, d2] => { results := [.lit (.bool false)], args := [d1, d2] }
  | _ => none }
def FnExactClassicalEntailsWrongFalsely : Prop := fnExactClassicalEntailsRow.holds Try.pinned (OpenSpec.ofChange fnExactClassicalEntailsWrong)

/-- 'laws.FnExactTruthTable': WHATEVER THE INPUT: true; the input reads as it did. -/
def fnExactTruthTableSpec : ChangeSpec := { name := "fnExactTruthTable", fn := fun _ => fun
  | [d] => { results := [.lit (.bool true)], args := [d] }
  | _ => none }
def fnExactTruthTableRow : OpenClaim := { program := "ytngaadpmmlabmaa", sum := "ba1d795542812c9e638e628739925e54230837f29ad6c9a83efcf1959afd7735", func := "loop.example/g01089/laws.FnExactTruthTable", spec := "fnExactTruthTable", unfollowed := true, recurses := true, apart := false }
def FnExactTruthTableSaid : Prop := fnExactTruthTableRow.holds Try.pinned (OpenSpec.ofChange fnExactTruthTableSpec)

/-- ITS FALSE NEIGHBOUR: 'it returns false'. Refute it at one input. -/
def fnExactTruthTableWrong : ChangeSpec := { name := "fnExactTruthTable", fn := fun _ => fun
  | [d] => { results := [.lit (.bool false)], args := [d] }
  | _ => none }
def FnExactTruthTableWrongFalsely : Prop := fnExactTruthTableRow.holds Try.pinned (OpenSpec.ofChange fnExactTruthTableWrong)

/-- 'laws.FnExactDependsOn': WHATEVER THE INPUT: true; the input reads as it did. -/
def fnExactDependsOnSpec : ChangeSpec := { name := "fnExactDependsOn", fn := fun _ => fun
  | [d] => { results := [.lit (.bool true)], args := [d] }
  | _ => none }
def fnExactDependsOnRow : OpenClaim := { program := "ytngaadpmmlabmaa", sum := "ba1d795542812c9e638e628739925e54230837f29ad6c9a83efcf1959afd7735", func := "loop.example/g01089/laws.FnExactDependsOn", spec := "fnExactDependsOn", unfollowed := true, recurses := true, apart := false }
def FnExactDependsOnSaid : Prop := fnExactDependsOnRow.holds Try.pinned (OpenSpec.ofChange fnExactDependsOnSpec)

/-- ITS FALSE NEIGHBOUR: 'it returns false'. Refute it at one input. -/
def fnExactDependsOnWrong : ChangeSpec := { name := "fnExactDependsOn", fn := fun _ => fun
  | [d] => { results := [.lit (.bool false)], args := [d] }
  | _ => none }
def FnExactDependsOnWrongFalsely : Prop := fnExactDependsOnRow.holds Try.pinned (OpenSpec.ofChange fnExactDependsOnWrong)

/-- 'laws.FnExactCountModels': WHATEVER THE INPUT: true; the input reads as it did. -/
def fnExactCountModelsSpec : ChangeSpec := { name := "fnExactCountModels", fn := fun _ => fun
  | [d1, d2] => { results := [.lit (.bool true)], args := [d1, d2] }
  | _ => none }
def fnExactCountModelsRow : OpenClaim := { program := "ytngaadpmmlabmaa", sum := "ba1d795542812c9e638e628739925e54230837f29ad6c9a83efcf1959afd7735", func := "loop.example/g01089/laws.FnExactCountModels", spec := "fnExactCountModels", unfollowed := true, recurses := true, apart := false }
def FnExactCountModelsSaid : Prop := fnExactCountModelsRow.holds Try.pinned (OpenSpec.ofChange fnExactCountModelsSpec)

/-- ITS FALSE NEIGHBOUR: 'it returns false'. Refute it at one input. -/
def fnExactCountModelsWrong : ChangeSpec := { name := "fnExactCountModels", fn := fun _ => fun
  | [d1, d2] => { results := [.lit (.bool false)], args := [d1, d2] }
  | _ => none }
def FnExactCountModelsWrongFalsely : Prop := fnExactCountModelsRow.holds Try.pinned (OpenSpec.ofChange fnExactCountModelsWrong)

/- THE SECOND FORM. 'bulk': how many values and letters a reading holds, each counted each time it is reached (what is shared counts as often as it is met; a slice's spare places count too). A statement '..UptoSaid' is the law's where the arguments, and the package variables that the reading takes, are together of bulk at most 1048576: NARROWER than '..Said'. Prove '..Said' where nothing that the law and all that it calls make is longer than what came in: it says more and counts as full. Else prove '..UptoSaid'. A law counts once. -/
mutual
def uptoBulk {H : Type} : DataW H → Nat
  | .lit (.string bytes) => bytes.length + 1
  | .lit _ => 1
  | .nil => 1
  | .ptr d => uptoBulk d + 1
  | .slice elems spare => uptoBulkAll elems + uptoBulkAll spare + 1
  | .agg parts => uptoBulkAll parts + 1
  | .iface _ d => uptoBulk d + 1
  | .map entries => uptoBulkEntries entries + 1
  | .held _ => 1
def uptoBulkAll {H : Type} : List (DataW H) → Nat
  | [] => 0
  | d :: r => uptoBulk d + uptoBulkAll r
def uptoBulkEntries {H : Type} : List (Lit × DataW H) → Nat
  | [] => 0
  | x :: r => uptoBulkEntry x + uptoBulkEntries r
def uptoBulkEntry {H : Type} : Lit × DataW H → Nat
  | (.string bytes, d) => bytes.length + uptoBulk d + 1
  | (_, d) => uptoBulk d + 1
 end
def uptoSmall : (H : Type) → List (DataW H) → Bool := fun _ ds => decide (uptoBulkAll ds ≤ 1048576)
def OpenSpec.upto (s : _root_.Go.ChangeSpec) : _root_.Go.OpenSpec := { _root_.Go.OpenSpec.ofChange s with cond := some uptoSmall }

/-- 'laws.FnExactIsTautology', WHERE WHAT IT READS IS OF BULK AT MOST 1048576: true; the input reads as it did. -/
def fnExactIsTautologyUptoRow : OpenClaim := { program := "ytngaadpmmlabmaa", sum := "ba1d795542812c9e638e628739925e54230837f29ad6c9a83efcf1959afd7735", func := "loop.example/g01089/laws.FnExactIsTautology", spec := "fnExactIsTautology", unfollowed := true, recurses := true, apart := false, narrowed := true }
def FnExactIsTautologyUptoSaid : Prop := fnExactIsTautologyUptoRow.holds Try.pinned (OpenSpec.upto fnExactIsTautologySpec)

/-- 'laws.FnExactFormulaText', WHERE WHAT IT READS IS OF BULK AT MOST 1048576: true; the input reads as it did. -/
def fnExactFormulaTextUptoRow : OpenClaim := { program := "ytngaadpmmlabmaa", sum := "ba1d795542812c9e638e628739925e54230837f29ad6c9a83efcf1959afd7735", func := "loop.example/g01089/laws.FnExactFormulaText", spec := "fnExactFormulaText", unfollowed := true, recurses := true, apart := false, narrowed := true }
def FnExactFormulaTextUptoSaid : Prop := fnExactFormulaTextUptoRow.holds Try.pinned (OpenSpec.upto fnExactFormulaTextSpec)

/-- 'laws.FnExactCompareFormulas', WHERE WHAT IT READS IS OF BULK AT MOST 1048576: true; the input reads as it did. -/
def fnExactCompareFormulasUptoRow : OpenClaim := { program := "ytngaadpmmlabmaa", sum := "ba1d795542812c9e638e628739925e54230837f29ad6c9a83efcf1959afd7735", func := "loop.example/g01089/laws.FnExactCompareFormulas", spec := "fnExactCompareFormulas", inPlace := ["internal/bytealg.abigen_runtime_cmpstring"], unfollowed := true, recurses := true, apart := false, narrowed := true }
def FnExactCompareFormulasUptoSaid : Prop := fnExactCompareFormulasUptoRow.holds Try.pinned (OpenSpec.upto fnExactCompareFormulasSpec)

/-- 'laws.FnExactClassicalEntails', WHERE WHAT IT READS IS OF BULK AT MOST 1048576: true; the input reads as it did. -/
def fnExactClassicalEntailsUptoRow : OpenClaim := { program := "ytngaadpmmlabmaa", sum := "ba1d795542812c9e638e628739925e54230837f29ad6c9a83efcf1959afd7735", func := "loop.example/g01089/laws.FnExactClassicalEntails", spec := "fnExactClassicalEntails", unfollowed := true, recurses := true, apart := false, narrowed := true }
def FnExactClassicalEntailsUptoSaid : Prop := fnExactClassicalEntailsUptoRow.holds Try.pinned (OpenSpec.upto fnExactClassicalEntailsSpec)

/-- 'laws.FnExactTruthTable', WHERE WHAT IT READS IS OF BULK AT MOST 1048576: true; the input reads as it did. -/
def fnExactTruthTableUptoRow : OpenClaim := { program := "ytngaadpmmlabmaa", sum := "ba1d795542812c9e638e628739925e54230837f29ad6c9a83efcf1959afd7735", func := "loop.example/g01089/laws.FnExactTruthTable", spec := "fnExactTruthTable", unfollowed := true, recurses := true, apart := false, narrowed := true }
def FnExactTruthTableUptoSaid : Prop := fnExactTruthTableUptoRow.holds Try.pinned (OpenSpec.upto fnExactTruthTableSpec)

/-- 'laws.FnExactDependsOn', WHERE WHAT IT READS IS OF BULK AT MOST 1048576: true; the input reads as it did. -/
def fnExactDependsOnUptoRow : OpenClaim := { program := "ytngaadpmmlabmaa", sum := "ba1d795542812c9e638e628739925e54230837f29ad6c9a83efcf1959afd7735", func := "loop.example/g01089/laws.FnExactDependsOn", spec := "fnExactDependsOn", unfollowed := true, recurses := true, apart := false, narrowed := true }
def FnExactDependsOnUptoSaid : Prop := fnExactDependsOnUptoRow.holds Try.pinned (OpenSpec.upto fnExactDependsOnSpec)

/-- 'laws.FnExactCountModels', WHERE WHAT IT READS IS OF BULK AT MOST 1048576: true; the input reads as it did. -/
def fnExactCountModelsUptoRow : OpenClaim := { program := "ytngaadpmmlabmaa", sum := "ba1d795542812c9e638e628739925e54230837f29ad6c9a83efcf1959afd7735", func := "loop.example/g01089/laws.FnExactCountModels", spec := "fnExactCountModels", unfollowed := true, recurses := true, apart := false, narrowed := true }
def FnExactCountModelsUptoSaid : Prop := fnExactCountModelsUptoRow.holds Try.pinned (OpenSpec.upto fnExactCountModelsSpec)

end Rows
end Go.Proofs.Ytngaadpmmlabmaa

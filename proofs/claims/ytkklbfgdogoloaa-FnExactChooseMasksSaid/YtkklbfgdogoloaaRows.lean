/-
  No cell of these rows narrows 'for every input' (looked for: loops, veiled, ifaces, maps, wideKeys, modest, calm, conditions, laid).
  DERIVED. THE GIVEN ROWS OF THIS SEAT. 11 by the template 'for every input the law returns true; each argument reads behind the call as it read before'; 0 by the template 'total and deterministic' (their statements: YtkklbfgdogoloaaTotals.lean).
  GIVEN WITH THE SEED: the statements are not yours to turn. If you find one false, say at which input.
  Laid BY PROGRAM, IN A SANDBOX (cutbox-rows.mjs): the forced cells as the released guide's own fill.sh prints them over the translation 2b424ba63bf91979… (all of the seat's roots in one cut). By AI agents, Wed Nov 11 2026. No macro, syntax, notation, axiom, sorry.
-/
import Derived.Test.YtkklbfgdogoloaaChecked
import GoSem.Claim
import GoSem.ClaimJoined
import GoSem.ClaimMapViews
import Derived.JoinedTies
import Derived.KernelRfl
namespace Go.Proofs.Ytkklbfgdogoloaa
/- THE CELL 'sum', in the pinned program and in every row, IS THE sha256 OF THE DUMP (.gsa) THAT YtkklbfgdogoloaaProg.lean LOADS. Nothing in Lean hashes anything: it is a label: what it is worth is what the hold of that sum in a sandbox is worth. -/
noncomputable def Try.pinned : Pinned := { name := "ytkklbfgdogoloaa", sum := "2b424ba63bf91979eb6142d93ba435d7f78be7908c49acec5cdf3f0181986601", checked := Try.checked }
namespace Rows
def none {H : Type} : Left H := { results := [], args := [] }

/-- 'laws.FnExactConstants': WHATEVER THE INPUT: true; the input reads as it did. -/
def fnExactConstantsSpec : ChangeSpec := { name := "fnExactConstants", fn := fun _ => fun
  | [] => { results := [.lit (.bool true)], args := [] }
  | _ => none }
def fnExactConstantsRow : OpenClaim := { program := "ytkklbfgdogoloaa", sum := "2b424ba63bf91979eb6142d93ba435d7f78be7908c49acec5cdf3f0181986601", func := "loop.example/g01089/laws.FnExactConstants", spec := "fnExactConstants", apart := false }
def FnExactConstantsSaid : Prop := fnExactConstantsRow.holds Try.pinned (OpenSpec.ofChange fnExactConstantsSpec)

/-- ITS FALSE NEIGHBOUR: 'it returns false'. Refute it at one input. -/
def fnExactConstantsWrong : ChangeSpec := { name := "fnExactConstants", fn := fun _ => fun
  | [] => { results := [.lit (.bool false)], args := [] }
  | _ => none }
def FnExactConstantsWrongFalsely : Prop := fnExactConstantsRow.holds Try.pinned (OpenSpec.ofChange fnExactConstantsWrong)

/-- 'laws.FnExactIsMask': WHATEVER THE INPUT: true; the input reads as it did. -/
def fnExactIsMaskSpec : ChangeSpec := { name := "fnExactIsMask", fn := fun _ => fun
  | [d1, d2] => { results := [.lit (.bool true)], args := [d1, d2] }
  | _ => none }
def fnExactIsMaskRow : OpenClaim := { program := "ytkklbfgdogoloaa", sum := "2b424ba63bf91979eb6142d93ba435d7f78be7908c49acec5cdf3f0181986601", func := "loop.example/g01089/laws.FnExactIsMask", spec := "fnExactIsMask", apart := false }
def FnExactIsMaskSaid : Prop := fnExactIsMaskRow.holds Try.pinned (OpenSpec.ofChange fnExactIsMaskSpec)

/-- ITS FALSE NEIGHBOUR: 'it returns false'. Refute it at one input. -/
def fnExactIsMaskWrong : ChangeSpec := { name := "fnExactIsMask", fn := fun _ => fun
  | [d1, d2] => { results := [.lit (.bool false)], args := [d1, d2] }
  | _ => none }
def FnExactIsMaskWrongFalsely : Prop := fnExactIsMaskRow.holds Try.pinned (OpenSpec.ofChange fnExactIsMaskWrong)

/-- 'laws.FnExactIsSequentLogic': WHATEVER THE INPUT: true; the input reads as it did. -/
def fnExactIsSequentLogicSpec : ChangeSpec := { name := "fnExactIsSequentLogic", fn := fun _ => fun
  | [d] => { results := [.lit (.bool true)], args := [d] }
  | _ => none }
def fnExactIsSequentLogicRow : OpenClaim := { program := "ytkklbfgdogoloaa", sum := "2b424ba63bf91979eb6142d93ba435d7f78be7908c49acec5cdf3f0181986601", func := "loop.example/g01089/laws.FnExactIsSequentLogic", spec := "fnExactIsSequentLogic", apart := false }
def FnExactIsSequentLogicSaid : Prop := fnExactIsSequentLogicRow.holds Try.pinned (OpenSpec.ofChange fnExactIsSequentLogicSpec)

/-- ITS FALSE NEIGHBOUR: 'it returns false'. Refute it at one input. -/
def fnExactIsSequentLogicWrong : ChangeSpec := { name := "fnExactIsSequentLogic", fn := fun _ => fun
  | [d] => { results := [.lit (.bool false)], args := [d] }
  | _ => none }
def FnExactIsSequentLogicWrongFalsely : Prop := fnExactIsSequentLogicRow.holds Try.pinned (OpenSpec.ofChange fnExactIsSequentLogicWrong)

/-- 'laws.FnExactIsClause': WHATEVER THE INPUT: true; the input reads as it did. -/
def fnExactIsClauseSpec : ChangeSpec := { name := "fnExactIsClause", fn := fun _ => fun
  | [d] => { results := [.lit (.bool true)], args := [d] }
  | _ => none }
def fnExactIsClauseRow : OpenClaim := { program := "ytkklbfgdogoloaa", sum := "2b424ba63bf91979eb6142d93ba435d7f78be7908c49acec5cdf3f0181986601", func := "loop.example/g01089/laws.FnExactIsClause", spec := "fnExactIsClause", apart := false }
def FnExactIsClauseSaid : Prop := fnExactIsClauseRow.holds Try.pinned (OpenSpec.ofChange fnExactIsClauseSpec)

/-- ITS FALSE NEIGHBOUR: 'it returns false'. Refute it at one input. -/
def fnExactIsClauseWrong : ChangeSpec := { name := "fnExactIsClause", fn := fun _ => fun
  | [d] => { results := [.lit (.bool false)], args := [d] }
  | _ => none }
def FnExactIsClauseWrongFalsely : Prop := fnExactIsClauseRow.holds Try.pinned (OpenSpec.ofChange fnExactIsClauseWrong)

/-- 'laws.FnExactMaskOf': WHATEVER THE INPUT: true; the input reads as it did. -/
def fnExactMaskOfSpec : ChangeSpec := { name := "fnExactMaskOf", fn := fun _ => fun
  | [d1, d2] => { results := [.lit (.bool true)], args := [d1, d2] }
  | _ => none }
def fnExactMaskOfRow : OpenClaim := { program := "ytkklbfgdogoloaa", sum := "2b424ba63bf91979eb6142d93ba435d7f78be7908c49acec5cdf3f0181986601", func := "loop.example/g01089/laws.FnExactMaskOf", spec := "fnExactMaskOf", apart := false }
def FnExactMaskOfSaid : Prop := fnExactMaskOfRow.holds Try.pinned (OpenSpec.ofChange fnExactMaskOfSpec)

/-- ITS FALSE NEIGHBOUR: 'it returns false'. Refute it at one input. -/
def fnExactMaskOfWrong : ChangeSpec := { name := "fnExactMaskOf", fn := fun _ => fun
  | [d1, d2] => { results := [.lit (.bool false)], args := [d1, d2] }
  | _ => none }
def FnExactMaskOfWrongFalsely : Prop := fnExactMaskOfRow.holds Try.pinned (OpenSpec.ofChange fnExactMaskOfWrong)

/-- 'laws.FnExactCountMembers': WHATEVER THE INPUT: true; the input reads as it did. -/
def fnExactCountMembersSpec : ChangeSpec := { name := "fnExactCountMembers", fn := fun _ => fun
  | [d1, d2] => { results := [.lit (.bool true)], args := [d1, d2] }
  | _ => none }
def fnExactCountMembersRow : OpenClaim := { program := "ytkklbfgdogoloaa", sum := "2b424ba63bf91979eb6142d93ba435d7f78be7908c49acec5cdf3f0181986601", func := "loop.example/g01089/laws.FnExactCountMembers", spec := "fnExactCountMembers", apart := false }
def FnExactCountMembersSaid : Prop := fnExactCountMembersRow.holds Try.pinned (OpenSpec.ofChange fnExactCountMembersSpec)

/-- ITS FALSE NEIGHBOUR: 'it returns false'. Refute it at one input. -/
def fnExactCountMembersWrong : ChangeSpec := { name := "fnExactCountMembers", fn := fun _ => fun
  | [d1, d2] => { results := [.lit (.bool false)], args := [d1, d2] }
  | _ => none }
def FnExactCountMembersWrongFalsely : Prop := fnExactCountMembersRow.holds Try.pinned (OpenSpec.ofChange fnExactCountMembersWrong)

/-- 'laws.FnExactMembersOf': WHATEVER THE INPUT: true; the input reads as it did. -/
def fnExactMembersOfSpec : ChangeSpec := { name := "fnExactMembersOf", fn := fun _ => fun
  | [d1, d2] => { results := [.lit (.bool true)], args := [d1, d2] }
  | _ => none }
def fnExactMembersOfRow : OpenClaim := { program := "ytkklbfgdogoloaa", sum := "2b424ba63bf91979eb6142d93ba435d7f78be7908c49acec5cdf3f0181986601", func := "loop.example/g01089/laws.FnExactMembersOf", spec := "fnExactMembersOf", apart := false }
def FnExactMembersOfSaid : Prop := fnExactMembersOfRow.holds Try.pinned (OpenSpec.ofChange fnExactMembersOfSpec)

/-- ITS FALSE NEIGHBOUR: 'it returns false'. Refute it at one input. -/
def fnExactMembersOfWrong : ChangeSpec := { name := "fnExactMembersOf", fn := fun _ => fun
  | [d1, d2] => { results := [.lit (.bool false)], args := [d1, d2] }
  | _ => none }
def FnExactMembersOfWrongFalsely : Prop := fnExactMembersOfRow.holds Try.pinned (OpenSpec.ofChange fnExactMembersOfWrong)

/-- 'laws.FnExactIsFrame': WHATEVER THE INPUT: true; the input reads as it did. -/
def fnExactIsFrameSpec : ChangeSpec := { name := "fnExactIsFrame", fn := fun _ => fun
  | [d] => { results := [.lit (.bool true)], args := [d] }
  | _ => none }
def fnExactIsFrameRow : OpenClaim := { program := "ytkklbfgdogoloaa", sum := "2b424ba63bf91979eb6142d93ba435d7f78be7908c49acec5cdf3f0181986601", func := "loop.example/g01089/laws.FnExactIsFrame", spec := "fnExactIsFrame", unfollowed := true, recurses := true, apart := false }
def FnExactIsFrameSaid : Prop := fnExactIsFrameRow.holds Try.pinned (OpenSpec.ofChange fnExactIsFrameSpec)

/-- ITS FALSE NEIGHBOUR: 'it returns false'. Refute it at one input. -/
def fnExactIsFrameWrong : ChangeSpec := { name := "fnExactIsFrame", fn := fun _ => fun
  | [d] => { results := [.lit (.bool false)], args := [d] }
  | _ => none }
def FnExactIsFrameWrongFalsely : Prop := fnExactIsFrameRow.holds Try.pinned (OpenSpec.ofChange fnExactIsFrameWrong)

/-- 'laws.FnExactChooseMasks': WHATEVER THE INPUT: true; the input reads as it did. -/
def fnExactChooseMasksSpec : ChangeSpec := { name := "fnExactChooseMasks", fn := fun _ => fun
  | [d1, d2] => { results := [.lit (.bool true)], args := [d1, d2] }
  | _ => none }
def fnExactChooseMasksRow : OpenClaim := { program := "ytkklbfgdogoloaa", sum := "2b424ba63bf91979eb6142d93ba435d7f78be7908c49acec5cdf3f0181986601", func := "loop.example/g01089/laws.FnExactChooseMasks", spec := "fnExactChooseMasks", apart := false }
def FnExactChooseMasksSaid : Prop := fnExactChooseMasksRow.holds Try.pinned (OpenSpec.ofChange fnExactChooseMasksSpec)

/-- ITS FALSE NEIGHBOUR: 'it returns false'. Refute it at one input. -/
def fnExactChooseMasksWrong : ChangeSpec := { name := "fnExactChooseMasks", fn := fun _ => fun
  | [d1, d2] => { results := [.lit (.bool false)], args := [d1, d2] }
  | _ => none }
def FnExactChooseMasksWrongFalsely : Prop := fnExactChooseMasksRow.holds Try.pinned (OpenSpec.ofChange fnExactChooseMasksWrong)

/-- 'laws.FnExactSchemesOf': WHATEVER THE INPUT: true; the input reads as it did. -/
def fnExactSchemesOfSpec : ChangeSpec := { name := "fnExactSchemesOf", fn := fun _ => fun
  | [d] => { results := [.lit (.bool true)], args := [d] }
  | _ => none }
def fnExactSchemesOfRow : OpenClaim := { program := "ytkklbfgdogoloaa", sum := "2b424ba63bf91979eb6142d93ba435d7f78be7908c49acec5cdf3f0181986601", func := "loop.example/g01089/laws.FnExactSchemesOf", spec := "fnExactSchemesOf", apart := false }
def FnExactSchemesOfSaid : Prop := fnExactSchemesOfRow.holds Try.pinned (OpenSpec.ofChange fnExactSchemesOfSpec)

/-- ITS FALSE NEIGHBOUR: 'it returns false'. Refute it at one input. -/
def fnExactSchemesOfWrong : ChangeSpec := { name := "fnExactSchemesOf", fn := fun _ => fun
  | [d] => { results := [.lit (.bool false)], args := [d] }
  | _ => none }
def FnExactSchemesOfWrongFalsely : Prop := fnExactSchemesOfRow.holds Try.pinned (OpenSpec.ofChange fnExactSchemesOfWrong)

/-- 'laws.FnExactIsModalAlgebra': WHATEVER THE INPUT: true; the input reads as it did. -/
def fnExactIsModalAlgebraSpec : ChangeSpec := { name := "fnExactIsModalAlgebra", fn := fun _ => fun
  | [d] => { results := [.lit (.bool true)], args := [d] }
  | _ => none }
def fnExactIsModalAlgebraRow : OpenClaim := { program := "ytkklbfgdogoloaa", sum := "2b424ba63bf91979eb6142d93ba435d7f78be7908c49acec5cdf3f0181986601", func := "loop.example/g01089/laws.FnExactIsModalAlgebra", spec := "fnExactIsModalAlgebra", unfollowed := true, recurses := true, apart := false }
def FnExactIsModalAlgebraSaid : Prop := fnExactIsModalAlgebraRow.holds Try.pinned (OpenSpec.ofChange fnExactIsModalAlgebraSpec)

/-- ITS FALSE NEIGHBOUR: 'it returns false'. Refute it at one input. -/
def fnExactIsModalAlgebraWrong : ChangeSpec := { name := "fnExactIsModalAlgebra", fn := fun _ => fun
  | [d] => { results := [.lit (.bool false)], args := [d] }
  | _ => none }
def FnExactIsModalAlgebraWrongFalsely : Prop := fnExactIsModalAlgebraRow.holds Try.pinned (OpenSpec.ofChange fnExactIsModalAlgebraWrong)

/- THE SECOND FORM. 'bulk': how many values and letters a reading holds, each counted each time it is reached (what is shared counts as often as it is met; a slice's spare places count too). A statement '..UptoSaid' is the law's where the arguments, and the package variables that the reading takes, are together of bulk at most 1048576: NARROWER than '..Said'. Prove '..Said' where nothing that the law and all that it calls make is longer than what came in: it says more and counts as full. Else prove '..UptoSaid'. A law counts once. -/
mutual
def uptoBulk {H : Type} : DataW H → Nat
  | .lit (.string bytes) => bytes.length + 1
  | .lit _ => 1
  | .nil => 1
  | .ptr d => uptoBulk d + 1
  | .slice elems spare => uptoBulkAll elems + uptoBulkAll spare + 1
  | .agg parts => uptoBulkAll parts + 1
  | .iface _ d => uptoBulk d + 1
  | .map entries => uptoBulkEntries entries + 1
  | .held _ => 1
def uptoBulkAll {H : Type} : List (DataW H) → Nat
  | [] => 0
  | d :: r => uptoBulk d + uptoBulkAll r
def uptoBulkEntries {H : Type} : List (Lit × DataW H) → Nat
  | [] => 0
  | x :: r => uptoBulkEntry x + uptoBulkEntries r
def uptoBulkEntry {H : Type} : Lit × DataW H → Nat
  | (.string bytes, d) => bytes.length + uptoBulk d + 1
  | (_, d) => uptoBulk d + 1
 end
def uptoSmall : (H : Type) → List (DataW H) → Bool := fun _ ds => decide (uptoBulkAll ds ≤ 1048576)
def OpenSpec.upto (s : _root_.Go.ChangeSpec) : _root_.Go.OpenSpec := { _root_.Go.OpenSpec.ofChange s with cond := some uptoSmall }

/-- 'laws.FnExactConstants', WHERE WHAT IT READS IS OF BULK AT MOST 1048576: true; the input reads as it did. -/
def fnExactConstantsUptoRow : OpenClaim := { program := "ytkklbfgdogoloaa", sum := "2b424ba63bf91979eb6142d93ba435d7f78be7908c49acec5cdf3f0181986601", func := "loop.example/g01089/laws.FnExactConstants", spec := "fnExactConstants", apart := false, narrowed := true }
def FnExactConstantsUptoSaid : Prop := fnExactConstantsUptoRow.holds Try.pinned (OpenSpec.upto fnExactConstantsSpec)

/-- 'laws.FnExactIsMask', WHERE WHAT IT READS IS OF BULK AT MOST 1048576: true; the input reads as it did. -/
def fnExactIsMaskUptoRow : OpenClaim := { program := "ytkklbfgdogoloaa", sum := "2b424ba63bf91979eb6142d93ba435d7f78be7908c49acec5cdf3f0181986601", func := "loop.example/g01089/laws.FnExactIsMask", spec := "fnExactIsMask", apart := false, narrowed := true }
def FnExactIsMaskUptoSaid : Prop := fnExactIsMaskUptoRow.holds Try.pinned (OpenSpec.upto fnExactIsMaskSpec)

/-- 'laws.FnExactIsSequentLogic', WHERE WHAT IT READS IS OF BULK AT MOST 1048576: true; the input reads as it did. -/
def fnExactIsSequentLogicUptoRow : OpenClaim := { program := "ytkklbfgdogoloaa", sum := "2b424ba63bf91979eb6142d93ba435d7f78be7908c49acec5cdf3f0181986601", func := "loop.example/g01089/laws.FnExactIsSequentLogic", spec := "fnExactIsSequentLogic", apart := false, narrowed := true }
def FnExactIsSequentLogicUptoSaid : Prop := fnExactIsSequentLogicUptoRow.holds Try.pinned (OpenSpec.upto fnExactIsSequentLogicSpec)

/-- 'laws.FnExactIsClause', WHERE WHAT IT READS IS OF BULK AT MOST 1048576: true; the input reads as it did. -/
def fnExactIsClauseUptoRow : OpenClaim := { program := "ytkklbfgdogoloaa", sum := "2b424ba63bf91979eb6142d93ba435d7f78be7908c49acec5cdf3f0181986601", func := "loop.example/g01089/laws.FnExactIsClause", spec := "fnExactIsClause", apart := false, narrowed := true }
def FnExactIsClauseUptoSaid : Prop := fnExactIsClauseUptoRow.holds Try.pinned (OpenSpec.upto fnExactIsClauseSpec)

/-- 'laws.FnExactMaskOf', WHERE WHAT IT READS IS OF BULK AT MOST 1048576: true; the input reads as it did. -/
def fnExactMaskOfUptoRow : OpenClaim := { program := "ytkklbfgdogoloaa", sum := "2b424ba63bf91979eb6142d93ba435d7f78be7908c49acec5cdf3f0181986601", func := "loop.example/g01089/laws.FnExactMaskOf", spec := "fnExactMaskOf", apart := false, narrowed := true }
def FnExactMaskOfUptoSaid : Prop := fnExactMaskOfUptoRow.holds Try.pinned (OpenSpec.upto fnExactMaskOfSpec)

/-- 'laws.FnExactCountMembers', WHERE WHAT IT READS IS OF BULK AT MOST 1048576: true; the input reads as it did. -/
def fnExactCountMembersUptoRow : OpenClaim := { program := "ytkklbfgdogoloaa", sum := "2b424ba63bf91979eb6142d93ba435d7f78be7908c49acec5cdf3f0181986601", func := "loop.example/g01089/laws.FnExactCountMembers", spec := "fnExactCountMembers", apart := false, narrowed := true }
def FnExactCountMembersUptoSaid : Prop := fnExactCountMembersUptoRow.holds Try.pinned (OpenSpec.upto fnExactCountMembersSpec)

/-- 'laws.FnExactMembersOf', WHERE WHAT IT READS IS OF BULK AT MOST 1048576: true; the input reads as it did. -/
def fnExactMembersOfUptoRow : OpenClaim := { program := "ytkklbfgdogoloaa", sum := "2b424ba63bf91979eb6142d93ba435d7f78be7908c49acec5cdf3f0181986601", func := "loop.example/g01089/laws.FnExactMembersOf", spec := "fnExactMembersOf", apart := false, narrowed := true }
def FnExactMembersOfUptoSaid : Prop := fnExactMembersOfUptoRow.holds Try.pinned (OpenSpec.upto fnExactMembersOfSpec)

/-- 'laws.FnExactIsFrame', WHERE WHAT IT READS IS OF BULK AT MOST 1048576: true; the input reads as it did. -/
def fnExactIsFrameUptoRow : OpenClaim := { program := "ytkklbfgdogoloaa", sum := "2b424ba63bf91979eb6142d93ba435d7f78be7908c49acec5cdf3f0181986601", func := "loop.example/g01089/laws.FnExactIsFrame", spec := "fnExactIsFrame", unfollowed := true, recurses := true, apart := false, narrowed := true }
def FnExactIsFrameUptoSaid : Prop := fnExactIsFrameUptoRow.holds Try.pinned (OpenSpec.upto fnExactIsFrameSpec)

/-- 'laws.FnExactChooseMasks', WHERE WHAT IT READS IS OF BULK AT MOST 1048576: true; the input reads as it did. -/
def fnExactChooseMasksUptoRow : OpenClaim := { program := "ytkklbfgdogoloaa", sum := "2b424ba63bf91979eb6142d93ba435d7f78be7908c49acec5cdf3f0181986601", func := "loop.example/g01089/laws.FnExactChooseMasks", spec := "fnExactChooseMasks", apart := false, narrowed := true }
def FnExactChooseMasksUptoSaid : Prop := fnExactChooseMasksUptoRow.holds Try.pinned (OpenSpec.upto fnExactChooseMasksSpec)

/-- 'laws.FnExactSchemesOf', WHERE WHAT IT READS IS OF BULK AT MOST 1048576: true; the input reads as it did. -/
def fnExactSchemesOfUptoRow : OpenClaim := { program := "ytkklbfgdogoloaa", sum := "2b424ba63bf91979eb6142d93ba435d7f78be7908c49acec5cdf3f0181986601", func := "loop.example/g01089/laws.FnExactSchemesOf", spec := "fnExactSchemesOf", apart := false, narrowed := true }
def FnExactSchemesOfUptoSaid : Prop := fnExactSchemesOfUptoRow.holds Try.pinned (OpenSpec.upto fnExactSchemesOfSpec)

/-- 'laws.FnExactIsModalAlgebra', WHERE WHAT IT READS IS OF BULK AT MOST 1048576: true; the input reads as it did. -/
def fnExactIsModalAlgebraUptoRow : OpenClaim := { program := "ytkklbfgdogoloaa", sum := "2b424ba63bf91979eb6142d93ba435d7f78be7908c49acec5cdf3f0181986601", func := "loop.example/g01089/laws.FnExactIsModalAlgebra", spec := "fnExactIsModalAlgebra", unfollowed := true, recurses := true, apart := false, narrowed := true }
def FnExactIsModalAlgebraUptoSaid : Prop := fnExactIsModalAlgebraUptoRow.holds Try.pinned (OpenSpec.upto fnExactIsModalAlgebraSpec)

end Rows
end Go.Proofs.Ytkklbfgdogoloaa

/-
  No cell of these rows narrows 'for every input' (looked for: loops, veiled, ifaces, maps, wideKeys, modest, calm, conditions, laid).
  DERIVED. THE GIVEN ROWS OF THIS SEAT. 5 by the template 'for every input the law returns true; each argument reads behind the call as it read before'; 0 by the template 'total and deterministic' (their statements: YtfedipeabbaccaaTotals.lean).
  GIVEN WITH THE SEED: the statements are not yours to turn. If you find one false, say at which input.
  Laid BY PROGRAM, IN A SANDBOX (cutbox-rows.mjs): the forced cells as the released guide's own fill.sh prints them over the translation 4df1b905a70ffe8b… (all of the seat's roots in one cut). By AI agents, Wed Nov 11 2026. No macro, syntax, notation, axiom, sorry.
-/
import Derived.Test.YtfedipeabbaccaaChecked
import GoSem.Claim
import GoSem.ClaimJoined
import GoSem.ClaimMapViews
import Derived.JoinedTies
import Derived.KernelRfl
namespace Go.Proofs.Ytfedipeabbaccaa
/- THE CELL 'sum', in the pinned program and in every row, IS THE sha256 OF THE DUMP (.gsa) THAT YtfedipeabbaccaaProg.lean LOADS. Nothing in Lean hashes anything: it is a label: what it is worth is what the hold of that sum in a sandbox is worth. -/
noncomputable def Try.pinned : Pinned := { name := "ytfedipeabbaccaa", sum := "4df1b905a70ffe8bf57c7a04cea8d2f87e28fa8a0a4a640c3dc99ae7668e41c7", checked := Try.checked }
namespace Rows
def none {H : Type} : Left H := { results := [], args := [] }

/-- 'laws.FnExactIsPointFormula': WHATEVER THE INPUT: true; the input reads as it did. -/
def fnExactIsPointFormulaSpec : ChangeSpec := { name := "fnExactIsPointFormula", fn := fun _ => fun
  | [d] => { results := [.lit (.bool true)], args := [d] }
  | _ => none }
def fnExactIsPointFormulaRow : OpenClaim := { program := "ytfedipeabbaccaa", sum := "4df1b905a70ffe8bf57c7a04cea8d2f87e28fa8a0a4a640c3dc99ae7668e41c7", func := "loop.example/g01089/laws.FnExactIsPointFormula", spec := "fnExactIsPointFormula", unfollowed := true, recurses := true, apart := false }
def FnExactIsPointFormulaSaid : Prop := fnExactIsPointFormulaRow.holds Try.pinned (OpenSpec.ofChange fnExactIsPointFormulaSpec)

/-- ITS FALSE NEIGHBOUR: 'it returns false'. Refute it at one input. -/
def fnExactIsPointFormulaWrong : ChangeSpec := { name := "fnExactIsPointFormula", fn := fun _ => fun
  | [d] => { results := [.lit (.bool false)], args := [d] }
  | _ => none }
def FnExactIsPointFormulaWrongFalsely : Prop := fnExactIsPointFormulaRow.holds Try.pinned (OpenSpec.ofChange fnExactIsPointFormulaWrong)

/-- 'laws.FnExactFreePoints': WHATEVER THE INPUT: true; the input reads as it did. -/
def fnExactFreePointsSpec : ChangeSpec := { name := "fnExactFreePoints", fn := fun _ => fun
  | [d] => { results := [.lit (.bool true)], args := [d] }
  | _ => none }
def fnExactFreePointsRow : OpenClaim := { program := "ytfedipeabbaccaa", sum := "4df1b905a70ffe8bf57c7a04cea8d2f87e28fa8a0a4a640c3dc99ae7668e41c7", func := "loop.example/g01089/laws.FnExactFreePoints", spec := "fnExactFreePoints", unfollowed := true, recurses := true, apart := false }
def FnExactFreePointsSaid : Prop := fnExactFreePointsRow.holds Try.pinned (OpenSpec.ofChange fnExactFreePointsSpec)

/-- ITS FALSE NEIGHBOUR: 'it returns false'. Refute it at one input. -/
def fnExactFreePointsWrong : ChangeSpec := { name := "fnExactFreePoints", fn := fun _ => fun
  | [d] => { results := [.lit (.bool false)], args := [d] }
  | _ => none }
def FnExactFreePointsWrongFalsely : Prop := fnExactFreePointsRow.holds Try.pinned (OpenSpec.ofChange fnExactFreePointsWrong)

/-- 'laws.FnExactSchemesOf': WHATEVER THE INPUT: true; the input reads as it did. -/
def fnExactSchemesOfSpec : ChangeSpec := { name := "fnExactSchemesOf", fn := fun _ => fun
  | [d] => { results := [.lit (.bool true)], args := [d] }
  | _ => none }
def fnExactSchemesOfRow : OpenClaim := { program := "ytfedipeabbaccaa", sum := "4df1b905a70ffe8bf57c7a04cea8d2f87e28fa8a0a4a640c3dc99ae7668e41c7", func := "loop.example/g01089/laws.FnExactSchemesOf", spec := "fnExactSchemesOf", apart := false }
def FnExactSchemesOfSaid : Prop := fnExactSchemesOfRow.holds Try.pinned (OpenSpec.ofChange fnExactSchemesOfSpec)

/-- ITS FALSE NEIGHBOUR: 'it returns false'. Refute it at one input. -/
def fnExactSchemesOfWrong : ChangeSpec := { name := "fnExactSchemesOf", fn := fun _ => fun
  | [d] => { results := [.lit (.bool false)], args := [d] }
  | _ => none }
def FnExactSchemesOfWrongFalsely : Prop := fnExactSchemesOfRow.holds Try.pinned (OpenSpec.ofChange fnExactSchemesOfWrong)

/-- 'laws.FnMasks': WHATEVER THE INPUT: true; the input reads as it did. -/
def fnMasksSpec : ChangeSpec := { name := "fnMasks", fn := fun _ => fun
  | [d] => { results := [.lit (.bool true)], args := [d] }
  | _ => none }
def fnMasksRow : OpenClaim := { program := "ytfedipeabbaccaa", sum := "4df1b905a70ffe8bf57c7a04cea8d2f87e28fa8a0a4a640c3dc99ae7668e41c7", func := "loop.example/g01089/laws.FnMasks", spec := "fnMasks", apart := false }
def FnMasksSaid : Prop := fnMasksRow.holds Try.pinned (OpenSpec.ofChange fnMasksSpec)

/-- ITS FALSE NEIGHBOUR: 'it returns false'. Refute it at one input. -/
def fnMasksWrong : ChangeSpec := { name := "fnMasks", fn := fun _ => fun
  | [d] => { results := [.lit (.bool false)], args := [d] }
  | _ => none }
def FnMasksWrongFalsely : Prop := fnMasksRow.holds Try.pinned (OpenSpec.ofChange fnMasksWrong)

/-- 'laws.FnExactClassicalEntails': WHATEVER THE INPUT: true; the input reads as it did. -/
def fnExactClassicalEntailsSpec : ChangeSpec := { name := "fnExactClassicalEntails", fn := fun _ => fun
  | [d1, d2] => { results := [.lit (.bool true)], args := [d1, d2] }
  | _ => none }
def fnExactClassicalEntailsRow : OpenClaim := { program := "ytfedipeabbaccaa", sum := "4df1b905a70ffe8bf57c7a04cea8d2f87e28fa8a0a4a640c3dc99ae7668e41c7", func := "loop.example/g01089/laws.FnExactClassicalEntails", spec := "fnExactClassicalEntails", unfollowed := true, recurses := true, apart := false }
def FnExactClassicalEntailsSaid : Prop := fnExactClassicalEntailsRow.holds Try.pinned (OpenSpec.ofChange fnExactClassicalEntailsSpec)

/-- ITS FALSE NEIGHBOUR: 'it returns false'. Refute it at one input. -/
def fnExactClassicalEntailsWrong : ChangeSpec := { name := "fnExactClassicalEntails", fn := fun _ => fun
  | [d1, d2] => { results := [.lit (.bool false)], args := [d1, d2] }
  | _ => none }
def FnExactClassicalEntailsWrongFalsely : Prop := fnExactClassicalEntailsRow.holds Try.pinned (OpenSpec.ofChange fnExactClassicalEntailsWrong)

/- THE SECOND FORM. 'bulk': how many values and letters a reading holds, each counted each time it is reached (what is shared counts as often as it is met; a slice's spare places count too). A statement '..UptoSaid' is the law's where the arguments, and the package variables that the reading takes, are together of bulk at most 1048576: NARROWER than '..Said'. Prove '..Said' where nothing that the law and all that it calls make is longer than what came in: it says more and counts as full. Else prove '..UptoSaid'. A law counts once. -/
mutual
def uptoBulk {H : Type} : DataW H → Nat
  | .lit (.string bytes) => bytes.length + 1
  | .lit _ => 1
  | .nil => 1
  | .ptr d => uptoBulk d + 1
  | .slice elems spare => uptoBulkAll elems + uptoBulkAll spare + 1
  | .agg parts => uptoBulkAll parts + 1
  | .iface _ d => uptoBulk d + 1
  | .map entries => uptoBulkEntries entries + 1
  | .held _ => 1
def uptoBulkAll {H : Type} : List (DataW H) → Nat
  | [] => 0
  | d :: r => uptoBulk d + uptoBulkAll r
def uptoBulkEntries {H : Type} : List (Lit × DataW H) → Nat
  | [] => 0
  | x :: r => uptoBulkEntry x + uptoBulkEntries r
def uptoBulkEntry {H : Type} : Lit × DataW H → Nat
  | (.string bytes, d) => bytes.length + uptoBulk d + 1
  | (_, d) => uptoBulk d + 1
 end
def uptoSmall : (H : Type) → List (DataW H) → Bool := fun _ ds => decide (uptoBulkAll ds ≤ 1048576)
def OpenSpec.upto (s : _root_.Go.ChangeSpec) : _root_.Go.OpenSpec := { _root_.Go.OpenSpec.ofChange s with cond := some uptoSmall }

/-- 'laws.FnExactIsPointFormula', WHERE WHAT IT READS IS OF BULK AT MOST 1048576: true; the input reads as it did. -/
def fnExactIsPointFormulaUptoRow : OpenClaim := { program := "ytfedipeabbaccaa", sum := "4df1b905a70ffe8bf57c7a04cea8d2f87e28fa8a0a4a640c3dc99ae7668e41c7", func := "loop.example/g01089/laws.FnExactIsPointFormula", spec := "fnExactIsPointFormula", unfollowed := true, recurses := true, apart := false, narrowed := true }
def FnExactIsPointFormulaUptoSaid : Prop := fnExactIsPointFormulaUptoRow.holds Try.pinned (OpenSpec.upto fnExactIsPointFormulaSpec)

/-- 'laws.FnExactFreePoints', WHERE WHAT IT READS IS OF BULK AT MOST 1048576: true; the input reads as it did. -/
def fnExactFreePointsUptoRow : OpenClaim := { program := "ytfedipeabbaccaa", sum := "4df1b905a70ffe8bf57c7a04cea8d2f87e28fa8a0a4a640c3dc99ae7668e41c7", func := "loop.example/g01089/laws.FnExactFreePoints", spec := "fnExactFreePoints", unfollowed := true, recurses := true, apart := false, narrowed := true }
def FnExactFreePointsUptoSaid : Prop := fnExactFreePointsUptoRow.holds Try.pinned (OpenSpec.upto fnExactFreePointsSpec)

/-- 'laws.FnExactSchemesOf', WHERE WHAT IT READS IS OF BULK AT MOST 1048576: true; the input reads as it did. -/
def fnExactSchemesOfUptoRow : OpenClaim := { program := "ytfedipeabbaccaa", sum := "4df1b905a70ffe8bf57c7a04cea8d2f87e28fa8a0a4a640c3dc99ae7668e41c7", func := "loop.example/g01089/laws.FnExactSchemesOf", spec := "fnExactSchemesOf", apart := false, narrowed := true }
def FnExactSchemesOfUptoSaid : Prop := fnExactSchemesOfUptoRow.holds Try.pinned (OpenSpec.upto fnExactSchemesOfSpec)

/-- 'laws.FnMasks', WHERE WHAT IT READS IS OF BULK AT MOST 1048576: true; the input reads as it did. -/
def fnMasksUptoRow : OpenClaim := { program := "ytfedipeabbaccaa", sum := "4df1b905a70ffe8bf57c7a04cea8d2f87e28fa8a0a4a640c3dc99ae7668e41c7", func := "loop.example/g01089/laws.FnMasks", spec := "fnMasks", apart := false, narrowed := true }
def FnMasksUptoSaid : Prop := fnMasksUptoRow.holds Try.pinned (OpenSpec.upto fnMasksSpec)

/-- 'laws.FnExactClassicalEntails', WHERE WHAT IT READS IS OF BULK AT MOST 1048576: true; the input reads as it did. -/
def fnExactClassicalEntailsUptoRow : OpenClaim := { program := "ytfedipeabbaccaa", sum := "4df1b905a70ffe8bf57c7a04cea8d2f87e28fa8a0a4a640c3dc99ae7668e41c7", func := "loop.example/g01089/laws.FnExactClassicalEntails", spec := "fnExactClassicalEntails", unfollowed := true, recurses := true, apart := false, narrowed := true }
def FnExactClassicalEntailsUptoSaid : Prop := fnExactClassicalEntailsUptoRow.holds Try.pinned (OpenSpec.upto fnExactClassicalEntailsSpec)

end Rows
end Go.Proofs.Ytfedipeabbaccaa

/-
  No cell of these rows narrows 'for every input' (looked for: loops, veiled, ifaces, maps, wideKeys, modest, calm, conditions, laid).
  DERIVED. THE GIVEN ROWS OF THIS SEAT. 9 by the template 'for every input the law returns true; each argument reads behind the call as it read before'; 0 by the template 'total and deterministic' (their statements: YtjjnnlfcdncefaaTotals.lean).
  GIVEN WITH THE SEED: the statements are not yours to turn. If you find one false, say at which input.
  Laid BY PROGRAM, IN A SANDBOX (cutbox-rows.mjs): the forced cells as the released guide's own fill.sh prints them over the translation 846a58eb870f366a… (all of the seat's roots in one cut). By AI agents, Wed Nov 11 2026. No macro, syntax, notation, axiom, sorry.
-/
import Derived.Test.YtjjnnlfcdncefaaChecked
import GoSem.Claim
import GoSem.ClaimJoined
import GoSem.ClaimMapViews
import Derived.JoinedTies
import Derived.KernelRfl
namespace Go.Proofs.Ytjjnnlfcdncefaa
/- THE CELL 'sum', in the pinned program and in every row, IS THE sha256 OF THE DUMP (.gsa) THAT YtjjnnlfcdncefaaProg.lean LOADS. Nothing in Lean hashes anything: it is a label: what it is worth is what the hold of that sum in a sandbox is worth. -/
noncomputable def Try.pinned : Pinned := { name := "ytjjnnlfcdncefaa", sum := "846a58eb870f366ac683ae4ee78a3233ba9fc2137624c18ce3eff51ced7fceed", checked := Try.checked }
namespace Rows
def none {H : Type} : Left H := { results := [], args := [] }

/-- 'laws.FnExactIsFrame': WHATEVER THE INPUT: true; the input reads as it did. -/
def fnExactIsFrameSpec : ChangeSpec := { name := "fnExactIsFrame", fn := fun _ => fun
  | [d] => { results := [.lit (.bool true)], args := [d] }
  | _ => none }
def fnExactIsFrameRow : OpenClaim := { program := "ytjjnnlfcdncefaa", sum := "846a58eb870f366ac683ae4ee78a3233ba9fc2137624c18ce3eff51ced7fceed", func := "loop.example/g01089/laws.FnExactIsFrame", spec := "fnExactIsFrame", unfollowed := true, recurses := true, apart := false }
def FnExactIsFrameSaid : Prop := fnExactIsFrameRow.holds Try.pinned (OpenSpec.ofChange fnExactIsFrameSpec)

/-- ITS FALSE NEIGHBOUR: 'it returns false'. Refute it at one input. -/
def fnExactIsFrameWrong : ChangeSpec := { name := "fnExactIsFrame", fn := fun _ => fun
  | [d] => { results := [.lit (.bool false)], args := [d] }
  | _ => none }
def FnExactIsFrameWrongFalsely : Prop := fnExactIsFrameRow.holds Try.pinned (OpenSpec.ofChange fnExactIsFrameWrong)

/-- 'laws.FnExactIsModalAlgebra': WHATEVER THE INPUT: true; the input reads as it did. -/
def fnExactIsModalAlgebraSpec : ChangeSpec := { name := "fnExactIsModalAlgebra", fn := fun _ => fun
  | [d] => { results := [.lit (.bool true)], args := [d] }
  | _ => none }
def fnExactIsModalAlgebraRow : OpenClaim := { program := "ytjjnnlfcdncefaa", sum := "846a58eb870f366ac683ae4ee78a3233ba9fc2137624c18ce3eff51ced7fceed", func := "loop.example/g01089/laws.FnExactIsModalAlgebra", spec := "fnExactIsModalAlgebra", unfollowed := true, recurses := true, apart := false }
def FnExactIsModalAlgebraSaid : Prop := fnExactIsModalAlgebraRow.holds Try.pinned (OpenSpec.ofChange fnExactIsModalAlgebraSpec)

/-- ITS FALSE NEIGHBOUR: 'it returns false'. Refute it at one input. -/
def fnExactIsModalAlgebraWrong : ChangeSpec := { name := "fnExactIsModalAlgebra", fn := fun _ => fun
  | [d] => { results := [.lit (.bool false)], args := [d] }
  | _ => none }
def FnExactIsModalAlgebraWrongFalsely : Prop := fnExactIsModalAlgebraRow.holds Try.pinned (OpenSpec.ofChange fnExactIsModalAlgebraWrong)

/-- 'laws.FnExactIsModel': WHATEVER THE INPUT: true; the input reads as it did. -/
def fnExactIsModelSpec : ChangeSpec := { name := "fnExactIsModel", fn := fun _ => fun
  | [d] => { results := [.lit (.bool true)], args := [d] }
  | _ => none }
def fnExactIsModelRow : OpenClaim := { program := "ytjjnnlfcdncefaa", sum := "846a58eb870f366ac683ae4ee78a3233ba9fc2137624c18ce3eff51ced7fceed", func := "loop.example/g01089/laws.FnExactIsModel", spec := "fnExactIsModel", unfollowed := true, recurses := true, apart := false }
def FnExactIsModelSaid : Prop := fnExactIsModelRow.holds Try.pinned (OpenSpec.ofChange fnExactIsModelSpec)

/-- ITS FALSE NEIGHBOUR: 'it returns false'. Refute it at one input. -/
def fnExactIsModelWrong : ChangeSpec := { name := "fnExactIsModel", fn := fun _ => fun
  | [d] => { results := [.lit (.bool false)], args := [d] }
  | _ => none }
def FnExactIsModelWrongFalsely : Prop := fnExactIsModelRow.holds Try.pinned (OpenSpec.ofChange fnExactIsModelWrong)

/-- 'laws.FnExactReflexiveClosure': WHATEVER THE INPUT: true; the input reads as it did. -/
def fnExactReflexiveClosureSpec : ChangeSpec := { name := "fnExactReflexiveClosure", fn := fun _ => fun
  | [d] => { results := [.lit (.bool true)], args := [d] }
  | _ => none }
def fnExactReflexiveClosureRow : OpenClaim := { program := "ytjjnnlfcdncefaa", sum := "846a58eb870f366ac683ae4ee78a3233ba9fc2137624c18ce3eff51ced7fceed", func := "loop.example/g01089/laws.FnExactReflexiveClosure", spec := "fnExactReflexiveClosure", unfollowed := true, recurses := true, apart := false }
def FnExactReflexiveClosureSaid : Prop := fnExactReflexiveClosureRow.holds Try.pinned (OpenSpec.ofChange fnExactReflexiveClosureSpec)

/-- ITS FALSE NEIGHBOUR: 'it returns false'. Refute it at one input. -/
def fnExactReflexiveClosureWrong : ChangeSpec := { name := "fnExactReflexiveClosure", fn := fun _ => fun
  | [d] => { results := [.lit (.bool false)], args := [d] }
  | _ => none }
def FnExactReflexiveClosureWrongFalsely : Prop := fnExactReflexiveClosureRow.holds Try.pinned (OpenSpec.ofChange fnExactReflexiveClosureWrong)

/-- 'laws.FnExactBoxMask': WHATEVER THE INPUT: true; the input reads as it did. -/
def fnExactBoxMaskSpec : ChangeSpec := { name := "fnExactBoxMask", fn := fun _ => fun
  | [d1, d2] => { results := [.lit (.bool true)], args := [d1, d2] }
  | _ => none }
def fnExactBoxMaskRow : OpenClaim := { program := "ytjjnnlfcdncefaa", sum := "846a58eb870f366ac683ae4ee78a3233ba9fc2137624c18ce3eff51ced7fceed", func := "loop.example/g01089/laws.FnExactBoxMask", spec := "fnExactBoxMask", unfollowed := true, recurses := true, apart := false }
def FnExactBoxMaskSaid : Prop := fnExactBoxMaskRow.holds Try.pinned (OpenSpec.ofChange fnExactBoxMaskSpec)

/-- ITS FALSE NEIGHBOUR: 'it returns false'. Refute it at one input. -/
def fnExactBoxMaskWrong : ChangeSpec := { name := "fnExactBoxMask", fn := fun _ => fun
  | [d1, d2] => { results := [.lit (.bool false)], args := [d1, d2] }
  | _ => none }
def FnExactBoxMaskWrongFalsely : Prop := fnExactBoxMaskRow.holds Try.pinned (OpenSpec.ofChange fnExactBoxMaskWrong)

/-- 'laws.FnExactInverseRelation': WHATEVER THE INPUT: true; the input reads as it did. -/
def fnExactInverseRelationSpec : ChangeSpec := { name := "fnExactInverseRelation", fn := fun _ => fun
  | [d] => { results := [.lit (.bool true)], args := [d] }
  | _ => none }
def fnExactInverseRelationRow : OpenClaim := { program := "ytjjnnlfcdncefaa", sum := "846a58eb870f366ac683ae4ee78a3233ba9fc2137624c18ce3eff51ced7fceed", func := "loop.example/g01089/laws.FnExactInverseRelation", spec := "fnExactInverseRelation", unfollowed := true, recurses := true, apart := false }
def FnExactInverseRelationSaid : Prop := fnExactInverseRelationRow.holds Try.pinned (OpenSpec.ofChange fnExactInverseRelationSpec)

/-- ITS FALSE NEIGHBOUR: 'it returns false'. Refute it at one input. -/
def fnExactInverseRelationWrong : ChangeSpec := { name := "fnExactInverseRelation", fn := fun _ => fun
  | [d] => { results := [.lit (.bool false)], args := [d] }
  | _ => none }
def FnExactInverseRelationWrongFalsely : Prop := fnExactInverseRelationRow.holds Try.pinned (OpenSpec.ofChange fnExactInverseRelationWrong)

/-- 'laws.FnExactImageMask': WHATEVER THE INPUT: true; the input reads as it did. -/
def fnExactImageMaskSpec : ChangeSpec := { name := "fnExactImageMask", fn := fun _ => fun
  | [d1, d2] => { results := [.lit (.bool true)], args := [d1, d2] }
  | _ => none }
def fnExactImageMaskRow : OpenClaim := { program := "ytjjnnlfcdncefaa", sum := "846a58eb870f366ac683ae4ee78a3233ba9fc2137624c18ce3eff51ced7fceed", func := "loop.example/g01089/laws.FnExactImageMask", spec := "fnExactImageMask", unfollowed := true, recurses := true, apart := false }
def FnExactImageMaskSaid : Prop := fnExactImageMaskRow.holds Try.pinned (OpenSpec.ofChange fnExactImageMaskSpec)

/-- ITS FALSE NEIGHBOUR: 'it returns false'. Refute it at one input. -/
def fnExactImageMaskWrong : ChangeSpec := { name := "fnExactImageMask", fn := fun _ => fun
  | [d1, d2] => { results := [.lit (.bool false)], args := [d1, d2] }
  | _ => none }
def FnExactImageMaskWrongFalsely : Prop := fnExactImageMaskRow.holds Try.pinned (OpenSpec.ofChange fnExactImageMaskWrong)

/-- 'laws.FnExactSubMasks': WHATEVER THE INPUT: true; the input reads as it did. -/
def fnExactSubMasksSpec : ChangeSpec := { name := "fnExactSubMasks", fn := fun _ => fun
  | [d1, d2] => { results := [.lit (.bool true)], args := [d1, d2] }
  | _ => none }
def fnExactSubMasksRow : OpenClaim := { program := "ytjjnnlfcdncefaa", sum := "846a58eb870f366ac683ae4ee78a3233ba9fc2137624c18ce3eff51ced7fceed", func := "loop.example/g01089/laws.FnExactSubMasks", spec := "fnExactSubMasks", apart := false }
def FnExactSubMasksSaid : Prop := fnExactSubMasksRow.holds Try.pinned (OpenSpec.ofChange fnExactSubMasksSpec)

/-- ITS FALSE NEIGHBOUR: 'it returns false'. Refute it at one input. -/
def fnExactSubMasksWrong : ChangeSpec := { name := "fnExactSubMasks", fn := fun _ => fun
  | [d1, d2] => { results := [.lit (.bool false)], args := [d1, d2] }
  | _ => none }
def FnExactSubMasksWrongFalsely : Prop := fnExactSubMasksRow.holds Try.pinned (OpenSpec.ofChange fnExactSubMasksWrong)

/-- 'laws.FnMasks': WHATEVER THE INPUT: true; the input reads as it did. -/
def fnMasksSpec : ChangeSpec := { name := "fnMasks", fn := fun _ => fun
  | [d] => { results := [.lit (.bool true)], args := [d] }
  | _ => none }
def fnMasksRow : OpenClaim := { program := "ytjjnnlfcdncefaa", sum := "846a58eb870f366ac683ae4ee78a3233ba9fc2137624c18ce3eff51ced7fceed", func := "loop.example/g01089/laws.FnMasks", spec := "fnMasks", apart := false }
def FnMasksSaid : Prop := fnMasksRow.holds Try.pinned (OpenSpec.ofChange fnMasksSpec)

/-- ITS FALSE NEIGHBOUR: 'it returns false'. Refute it at one input. -/
def fnMasksWrong : ChangeSpec := { name := "fnMasks", fn := fun _ => fun
  | [d] => { results := [.lit (.bool false)], args := [d] }
  | _ => none }
def FnMasksWrongFalsely : Prop := fnMasksRow.holds Try.pinned (OpenSpec.ofChange fnMasksWrong)

/- THE SECOND FORM. 'bulk': how many values and letters a reading holds, each counted each time it is reached (what is shared counts as often as it is met; a slice's spare places count too). A statement '..UptoSaid' is the law's where the arguments, and the package variables that the reading takes, are together of bulk at most 1048576: NARROWER than '..Said'. Prove '..Said' where nothing that the law and all that it calls make is longer than what came in: it says more and counts as full. Else prove '..UptoSaid'. A law counts once. -/
mutual
def uptoBulk {H : Type} : DataW H → Nat
  | .lit (.string bytes) => bytes.length + 1
  | .lit _ => 1
  | .nil => 1
  | .ptr d => uptoBulk d + 1
  | .slice elems spare => uptoBulkAll elems + uptoBulkAll spare + 1
  | .agg parts => uptoBulkAll parts + 1
  | .iface _ d => uptoBulk d + 1
  | .map entries => uptoBulkEntries entries + 1
  | .held _ => 1
def uptoBulkAll {H : Type} : List (DataW H) → Nat
  | [] => 0
  | d :: r => uptoBulk d + uptoBulkAll r
def uptoBulkEntries {H : Type} : List (Lit × DataW H) → Nat
  | [] => 0
  | x :: r => uptoBulkEntry x + uptoBulkEntries r
def uptoBulkEntry {H : Type} : Lit × DataW H → Nat
  | (.string bytes, d) => bytes.length + uptoBulk d + 1
  | (_, d) => uptoBulk d + 1
 end
def uptoSmall : (H : Type) → List (DataW H) → Bool := fun _ ds => decide (uptoBulkAll ds ≤ 1048576)
def OpenSpec.upto (s : _root_.Go.ChangeSpec) : _root_.Go.OpenSpec := { _root_.Go.OpenSpec.ofChange s with cond := some uptoSmall }

/-- 'laws.FnExactIsFrame', WHERE WHAT IT READS IS OF BULK AT MOST 1048576: true; the input reads as it did. -/
def fnExactIsFrameUptoRow : OpenClaim := { program := "ytjjnnlfcdncefaa", sum := "846a58eb870f366ac683ae4ee78a3233ba9fc2137624c18ce3eff51ced7fceed", func := "loop.example/g01089/laws.FnExactIsFrame", spec := "fnExactIsFrame", unfollowed := true, recurses := true, apart := false, narrowed := true }
def FnExactIsFrameUptoSaid : Prop := fnExactIsFrameUptoRow.holds Try.pinned (OpenSpec.upto fnExactIsFrameSpec)

/-- 'laws.FnExactIsModalAlgebra', WHERE WHAT IT READS IS OF BULK AT MOST 1048576: true; the input reads as it did. -/
def fnExactIsModalAlgebraUptoRow : OpenClaim := { program := "ytjjnnlfcdncefaa", sum := "846a58eb870f366ac683ae4ee78a3233ba9fc2137624c18ce3eff51ced7fceed", func := "loop.example/g01089/laws.FnExactIsModalAlgebra", spec := "fnExactIsModalAlgebra", unfollowed := true, recurses := true, apart := false, narrowed := true }
def FnExactIsModalAlgebraUptoSaid : Prop := fnExactIsModalAlgebraUptoRow.holds Try.pinned (OpenSpec.upto fnExactIsModalAlgebraSpec)

/-- 'laws.FnExactIsModel', WHERE WHAT IT READS IS OF BULK AT MOST 1048576: true; the input reads as it did. -/
def fnExactIsModelUptoRow : OpenClaim := { program := "ytjjnnlfcdncefaa", sum := "846a58eb870f366ac683ae4ee78a3233ba9fc2137624c18ce3eff51ced7fceed", func := "loop.example/g01089/laws.FnExactIsModel", spec := "fnExactIsModel", unfollowed := true, recurses := true, apart := false, narrowed := true }
def FnExactIsModelUptoSaid : Prop := fnExactIsModelUptoRow.holds Try.pinned (OpenSpec.upto fnExactIsModelSpec)

/-- 'laws.FnExactReflexiveClosure', WHERE WHAT IT READS IS OF BULK AT MOST 1048576: true; the input reads as it did. -/
def fnExactReflexiveClosureUptoRow : OpenClaim := { program := "ytjjnnlfcdncefaa", sum := "846a58eb870f366ac683ae4ee78a3233ba9fc2137624c18ce3eff51ced7fceed", func := "loop.example/g01089/laws.FnExactReflexiveClosure", spec := "fnExactReflexiveClosure", unfollowed := true, recurses := true, apart := false, narrowed := true }
def FnExactReflexiveClosureUptoSaid : Prop := fnExactReflexiveClosureUptoRow.holds Try.pinned (OpenSpec.upto fnExactReflexiveClosureSpec)

/-- 'laws.FnExactBoxMask', WHERE WHAT IT READS IS OF BULK AT MOST 1048576: true; the input reads as it did. -/
def fnExactBoxMaskUptoRow : OpenClaim := { program := "ytjjnnlfcdncefaa", sum := "846a58eb870f366ac683ae4ee78a3233ba9fc2137624c18ce3eff51ced7fceed", func := "loop.example/g01089/laws.FnExactBoxMask", spec := "fnExactBoxMask", unfollowed := true, recurses := true, apart := false, narrowed := true }
def FnExactBoxMaskUptoSaid : Prop := fnExactBoxMaskUptoRow.holds Try.pinned (OpenSpec.upto fnExactBoxMaskSpec)

/-- 'laws.FnExactInverseRelation', WHERE WHAT IT READS IS OF BULK AT MOST 1048576: true; the input reads as it did. -/
def fnExactInverseRelationUptoRow : OpenClaim := { program := "ytjjnnlfcdncefaa", sum := "846a58eb870f366ac683ae4ee78a3233ba9fc2137624c18ce3eff51ced7fceed", func := "loop.example/g01089/laws.FnExactInverseRelation", spec := "fnExactInverseRelation", unfollowed := true, recurses := true, apart := false, narrowed := true }
def FnExactInverseRelationUptoSaid : Prop := fnExactInverseRelationUptoRow.holds Try.pinned (OpenSpec.upto fnExactInverseRelationSpec)

/-- 'laws.FnExactImageMask', WHERE WHAT IT READS IS OF BULK AT MOST 1048576: true; the input reads as it did. -/
def fnExactImageMaskUptoRow : OpenClaim := { program := "ytjjnnlfcdncefaa", sum := "846a58eb870f366ac683ae4ee78a3233ba9fc2137624c18ce3eff51ced7fceed", func := "loop.example/g01089/laws.FnExactImageMask", spec := "fnExactImageMask", unfollowed := true, recurses := true, apart := false, narrowed := true }
def FnExactImageMaskUptoSaid : Prop := fnExactImageMaskUptoRow.holds Try.pinned (OpenSpec.upto fnExactImageMaskSpec)

/-- 'laws.FnExactSubMasks', WHERE WHAT IT READS IS OF BULK AT MOST 1048576: true; the input reads as it did. -/
def fnExactSubMasksUptoRow : OpenClaim := { program := "ytjjnnlfcdncefaa", sum := "846a58eb870f366ac683ae4ee78a3233ba9fc2137624c18ce3eff51ced7fceed", func := "loop.example/g01089/laws.FnExactSubMasks", spec := "fnExactSubMasks", apart := false, narrowed := true }
def FnExactSubMasksUptoSaid : Prop := fnExactSubMasksUptoRow.holds Try.pinned (OpenSpec.upto fnExactSubMasksSpec)

/-- 'laws.FnMasks', WHERE WHAT IT READS IS OF BULK AT MOST 1048576: true; the input reads as it did. -/
def fnMasksUptoRow : OpenClaim := { program := "ytjjnnlfcdncefaa", sum := "846a58eb870f366ac683ae4ee78a3233ba9fc2137624c18ce3eff51ced7fceed", func := "loop.example/g01089/laws.FnMasks", spec := "fnMasks", apart := false, narrowed := true }
def FnMasksUptoSaid : Prop := fnMasksUptoRow.holds Try.pinned (OpenSpec.upto fnMasksSpec)

end Rows
end Go.Proofs.Ytjjnnlfcdncefaa

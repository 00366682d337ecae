/-
  No cell of these rows narrows 'for every input' (looked for: loops, veiled, ifaces, maps, wideKeys, modest, calm, conditions, laid).
  DERIVED. THE GIVEN ROWS OF THIS SEAT. 2 by the template 'for every input the law returns true; each argument reads behind the call as it read before'; 0 by the template 'total and deterministic' (their statements: YtmhkcicjbgifnaaGreatTotals.lean).
  GIVEN WITH THE SEED: the statements are not yours to turn. If you find one false, say at which input.
  Laid BY PROGRAM, IN A SANDBOX (cutbox-rows.mjs): the forced cells as the released guide's own fill.sh prints them over the translation 94f4089459b077b4… (all of the seat's roots in one cut). By AI agents, Wed Nov 11 2026. No macro, syntax, notation, axiom, sorry.
-/
import Derived.Test.YtmhkcicjbgifnaaGreatChecked
import GoSem.Claim
import GoSem.ClaimJoined
import GoSem.ClaimMapViews
import Derived.JoinedTies
import Derived.KernelRfl
namespace Go.Proofs.YtmhkcicjbgifnaaGreat
/- THE CELL 'sum', in the pinned program and in every row, IS THE sha256 OF THE DUMP (.gsa) THAT YtmhkcicjbgifnaaGreatProg.lean LOADS. Nothing in Lean hashes anything: it is a label: what it is worth is what the hold of that sum in a sandbox is worth. -/
noncomputable def Tryz.pinned : Pinned := { name := "ytmhkcicjbgifnaagreat", sum := "94f4089459b077b415523ac6a5edde6574bc3fabc15f565a71ef406bcbfd02bc", checked := Tryz.checked }
namespace Rows
def none {H : Type} : Left H := { results := [], args := [] }

/-- 'laws.FnExactPrimeImplicates': WHATEVER THE INPUT: true; the input reads as it did. -/
def fnExactPrimeImplicatesSpec : ChangeSpec := { name := "fnExactPrimeImplicates", fn := fun _ => fun
  | [d] => { results := [.lit (.bool true)], args := [d] }
  | _ => none }
def fnExactPrimeImplicatesRow : OpenClaim := { program := "ytmhkcicjbgifnaagreat", sum := "94f4089459b077b415523ac6a5edde6574bc3fabc15f565a71ef406bcbfd02bc", func := "loop.example/g01089/laws.FnExactPrimeImplicates", spec := "fnExactPrimeImplicates", unfollowed := true, recurses := true, apart := false }
def FnExactPrimeImplicatesSaid : Prop := fnExactPrimeImplicatesRow.holds Tryz.pinned (OpenSpec.ofChange fnExactPrimeImplicatesSpec)

/-- ITS FALSE NEIGHBOUR: 'it returns false'. Refute it at one input. -/
def fnExactPrimeImplicatesWrong : ChangeSpec := { name := "fnExactPrimeImplicates", fn := fun _ => fun
  | [d] => { results := [.lit (.bool false)], args := [d] }
  | _ => none }
def FnExactPrimeImplicatesWrongFalsely : Prop := fnExactPrimeImplicatesRow.holds Tryz.pinned (OpenSpec.ofChange fnExactPrimeImplicatesWrong)

/-- 'laws.FnExactPrimeImplicants': WHATEVER THE INPUT: true; the input reads as it did. -/
def fnExactPrimeImplicantsSpec : ChangeSpec := { name := "fnExactPrimeImplicants", fn := fun _ => fun
  | [d] => { results := [.lit (.bool true)], args := [d] }
  | _ => none }
def fnExactPrimeImplicantsRow : OpenClaim := { program := "ytmhkcicjbgifnaagreat", sum := "94f4089459b077b415523ac6a5edde6574bc3fabc15f565a71ef406bcbfd02bc", func := "loop.example/g01089/laws.FnExactPrimeImplicants", spec := "fnExactPrimeImplicants", unfollowed := true, recurses := true, apart := false }
def FnExactPrimeImplicantsSaid : Prop := fnExactPrimeImplicantsRow.holds Tryz.pinned (OpenSpec.ofChange fnExactPrimeImplicantsSpec)

/-- ITS FALSE NEIGHBOUR: 'it returns false'. Refute it at one input. -/
def fnExactPrimeImplicantsWrong : ChangeSpec := { name := "fnExactPrimeImplicants", fn := fun _ => fun
  | [d] => { results := [.lit (.bool false)], args := [d] }
  | _ => none }
def FnExactPrimeImplicantsWrongFalsely : Prop := fnExactPrimeImplicantsRow.holds Tryz.pinned (OpenSpec.ofChange fnExactPrimeImplicantsWrong)

/- THE SECOND FORM. 'bulk': how many values and letters a reading holds, each counted each time it is reached (what is shared counts as often as it is met; a slice's spare places count too). A statement '..UptoSaid' is the law's where the arguments, and the package variables that the reading takes, are together of bulk at most 1048576: NARROWER than '..Said'. Prove '..Said' where nothing that the law and all that it calls make is longer than what came in: it says more and counts as full. Else prove '..UptoSaid'. A law counts once. -/
mutual
def uptoBulk {H : Type} : DataW H → Nat
  | .lit (.string bytes) => bytes.length + 1
  | .lit _ => 1
  | .nil => 1
  | .ptr d => uptoBulk d + 1
  | .slice elems spare => uptoBulkAll elems + uptoBulkAll spare + 1
  | .agg parts => uptoBulkAll parts + 1
  | .iface _ d => uptoBulk d + 1
  | .map entries => uptoBulkEntries entries + 1
  | .held _ => 1
def uptoBulkAll {H : Type} : List (DataW H) → Nat
  | [] => 0
  | d :: r => uptoBulk d + uptoBulkAll r
def uptoBulkEntries {H : Type} : List (Lit × DataW H) → Nat
  | [] => 0
  | x :: r => uptoBulkEntry x + uptoBulkEntries r
def uptoBulkEntry {H : Type} : Lit × DataW H → Nat
  | (.string bytes, d) => bytes.length + uptoBulk d + 1
  | (_, d) => uptoBulk d + 1
 end
def uptoSmall : (H : Type) → List (DataW H) → Bool := fun _ ds => decide (uptoBulkAll ds ≤ 1048576)
def OpenSpec.upto (s : _root_.Go.ChangeSpec) : _root_.Go.OpenSpec := { _root_.Go.OpenSpec.ofChange s with cond := some uptoSmall }

/-- 'laws.FnExactPrimeImplicates', WHERE WHAT IT READS IS OF BULK AT MOST 1048576: true; the input reads as it did. -/
def fnExactPrimeImplicatesUptoRow : OpenClaim := { program := "ytmhkcicjbgifnaagreat", sum := "94f4089459b077b415523ac6a5edde6574bc3fabc15f565a71ef406bcbfd02bc", func := "loop.example/g01089/laws.FnExactPrimeImplicates", spec := "fnExactPrimeImplicates", unfollowed := true, recurses := true, apart := false, narrowed := true }
def FnExactPrimeImplicatesUptoSaid : Prop := fnExactPrimeImplicatesUptoRow.holds Tryz.pinned (OpenSpec.upto fnExactPrimeImplicatesSpec)

/-- 'laws.FnExactPrimeImplicants', WHERE WHAT IT READS IS OF BULK AT MOST 1048576: true; the input reads as it did. -/
def fnExactPrimeImplicantsUptoRow : OpenClaim := { program := "ytmhkcicjbgifnaagreat", sum := "94f4089459b077b415523ac6a5edde6574bc3fabc15f565a71ef406bcbfd02bc", func := "loop.example/g01089/laws.FnExactPrimeImplicants", spec := "fnExactPrimeImplicants", unfollowed := true, recurses := true, apart := false, narrowed := true }
def FnExactPrimeImplicantsUptoSaid : Prop := fnExactPrimeImplicantsUptoRow.holds Tryz.pinned (OpenSpec.upto fnExactPrimeImplicantsSpec)

end Rows
end Go.Proofs.YtmhkcicjbgifnaaGreat

/-
  No cell of these rows narrows 'for every input' (looked for: loops, veiled, ifaces, maps, wideKeys, modest, calm, conditions, laid).
  DERIVED. THE GIVEN ROWS OF THIS SEAT. 3 by the template 'for every input the law returns true; each argument reads behind the call as it read before'; 0 by the template 'total and deterministic' (their statements: YtdpnkojchimmfaaTotals.lean).
  GIVEN WITH THE SEED: the statements are not yours to turn. If you find one false, say at which input.
  Laid BY PROGRAM, IN A SANDBOX (cutbox-rows.mjs): the forced cells as the released guide's own fill.sh prints them over the translation 649533faa41fbfaf… (all of the seat's roots in one cut). By AI agents, Wed Nov 11 2026. No macro, syntax, notation, axiom, sorry.
-/
import Derived.Test.YtdpnkojchimmfaaChecked
import GoSem.Claim
import GoSem.ClaimJoined
import GoSem.ClaimMapViews
import Derived.JoinedTies
import Derived.KernelRfl
namespace Go.Proofs.Ytdpnkojchimmfaa
/- THE CELL 'sum', in the pinned program and in every row, IS THE sha256 OF THE DUMP (.gsa) THAT YtdpnkojchimmfaaProg.lean LOADS. Nothing in Lean hashes anything: it is a label: what it is worth is what the hold of that sum in a sandbox is worth. -/
noncomputable def Try.pinned : Pinned := { name := "ytdpnkojchimmfaa", sum := "649533faa41fbfafedf7cd0b35ed895e55c04e793d07fe02d7974dc62a9c8984", checked := Try.checked }
namespace Rows
def none {H : Type} : Left H := { results := [], args := [] }

/-- 'laws.FnExactUnifyFormulas': WHATEVER THE INPUT: true; the input reads as it did. -/
def fnExactUnifyFormulasSpec : ChangeSpec := { name := "fnExactUnifyFormulas", fn := fun _ => fun
  | [d1, d2] => { results := [.lit (.bool true)], args := [d1, d2] }
  | _ => none }
def fnExactUnifyFormulasRow : OpenClaim := { program := "ytdpnkojchimmfaa", sum := "649533faa41fbfafedf7cd0b35ed895e55c04e793d07fe02d7974dc62a9c8984", func := "loop.example/g01089/laws.FnExactUnifyFormulas", spec := "fnExactUnifyFormulas", unfollowed := true, recurses := true, apart := false }
def FnExactUnifyFormulasSaid : Prop := fnExactUnifyFormulasRow.holds Try.pinned (OpenSpec.ofChange fnExactUnifyFormulasSpec)

/-- ITS FALSE NEIGHBOUR: 'it returns false'. Refute it at one input. -/
def fnExactUnifyFormulasWrong : ChangeSpec := { name := "fnExactUnifyFormulas", fn := fun _ => fun
  | [d1, d2] => { results := [.lit (.bool false)], args := [d1, d2] }
  | _ => none }
def FnExactUnifyFormulasWrongFalsely : Prop := fnExactUnifyFormulasRow.holds Try.pinned (OpenSpec.ofChange fnExactUnifyFormulasWrong)

/-- 'laws.FnSubstitutions': WHATEVER THE INPUT: true; the input reads as it did. -/
def fnSubstitutionsSpec : ChangeSpec := { name := "fnSubstitutions", fn := fun _ => fun
  | [d] => { results := [.lit (.bool true)], args := [d] }
  | _ => none }
def fnSubstitutionsRow : OpenClaim := { program := "ytdpnkojchimmfaa", sum := "649533faa41fbfafedf7cd0b35ed895e55c04e793d07fe02d7974dc62a9c8984", func := "loop.example/g01089/laws.FnSubstitutions", spec := "fnSubstitutions", unfollowed := true, recurses := true, apart := false }
def FnSubstitutionsSaid : Prop := fnSubstitutionsRow.holds Try.pinned (OpenSpec.ofChange fnSubstitutionsSpec)

/-- ITS FALSE NEIGHBOUR: 'it returns false'. Refute it at one input. -/
def fnSubstitutionsWrong : ChangeSpec := { name := "fnSubstitutions", fn := fun _ => fun
  | [d] => { results := [.lit (.bool false)], args := [d] }
  | _ => none }
def FnSubstitutionsWrongFalsely : Prop := fnSubstitutionsRow.holds Try.pinned (OpenSpec.ofChange fnSubstitutionsWrong)

/-- 'laws.FnUnifiers': WHATEVER THE INPUT: true; the input reads as it did. -/
def fnUnifiersSpec : ChangeSpec := { name := "fnUnifiers", fn := fun _ => fun
  | [d] => { results := [.lit (.bool true)], args := [d] }
  | _ => none }
def fnUnifiersRow : OpenClaim := { program := "ytdpnkojchimmfaa", sum := "649533faa41fbfafedf7cd0b35ed895e55c04e793d07fe02d7974dc62a9c8984", func := "loop.example/g01089/laws.FnUnifiers", spec := "fnUnifiers", inPlace := ["internal/bytealg.abigen_runtime_cmpstring"], unfollowed := true, recurses := true, apart := false }
def FnUnifiersSaid : Prop := fnUnifiersRow.holds Try.pinned (OpenSpec.ofChange fnUnifiersSpec)

/-- ITS FALSE NEIGHBOUR: 'it returns false'. Refute it at one input. -/
def fnUnifiersWrong : ChangeSpec := { name := "fnUnifiers", fn := fun _ => fun
  | [d] => { results := [.lit (.bool false)], args := [d] }
  | _ => none }
def FnUnifiersWrongFalsely : Prop := fnUnifiersRow.holds Try.pinned (OpenSpec.ofChange fnUnifiersWrong)

/- THE SECOND FORM. 'bulk': how many values and letters a reading holds, each counted each time it is reached (what is shared counts as often as it is met; a slice's spare places count too). A statement '..UptoSaid' is the law's where the arguments, and the package variables that the reading takes, are together of bulk at most 1048576: NARROWER than '..Said'. Prove '..Said' where nothing that the law and all that it calls make is longer than what came in: it says more and counts as full. Else prove '..UptoSaid'. A law counts once. -/
mutual
def uptoBulk {H : Type} : DataW H → Nat
  | .lit (.string bytes) => bytes.length + 1
  | .lit _ => 1
  | .nil => 1
  | .ptr d => uptoBulk d + 1
  | .slice elems spare => uptoBulkAll elems + uptoBulkAll spare + 1
  | .agg parts => uptoBulkAll parts + 1
  | .iface _ d => uptoBulk d + 1
  | .map entries => uptoBulkEntries entries + 1
  | .held _ => 1
def uptoBulkAll {H : Type} : List (DataW H) → Nat
  | [] => 0
  | d :: r => uptoBulk d + uptoBulkAll r
def uptoBulkEntries {H : Type} : List (Lit × DataW H) → Nat
  | [] => 0
  | x :: r => uptoBulkEntry x + uptoBulkEntries r
def uptoBulkEntry {H : Type} : Lit × DataW H → Nat
  | (.string bytes, d) => bytes.length + uptoBulk d + 1
  | (_, d) => uptoBulk d + 1
 end
def uptoSmall : (H : Type) → List (DataW H) → Bool := fun _ ds => decide (uptoBulkAll ds ≤ 1048576)
def OpenSpec.upto (s : _root_.Go.ChangeSpec) : _root_.Go.OpenSpec := { _root_.Go.OpenSpec.ofChange s with cond := some uptoSmall }

/-- 'laws.FnExactUnifyFormulas', WHERE WHAT IT READS IS OF BULK AT MOST 1048576: true; the input reads as it did. -/
def fnExactUnifyFormulasUptoRow : OpenClaim := { program := "ytdpnkojchimmfaa", sum := "649533faa41fbfafedf7cd0b35ed895e55c04e793d07fe02d7974dc62a9c8984", func := "loop.example/g01089/laws.FnExactUnifyFormulas", spec := "fnExactUnifyFormulas", unfollowed := true, recurses := true, apart := false, narrowed := true }
def FnExactUnifyFormulasUptoSaid : Prop := fnExactUnifyFormulasUptoRow.holds Try.pinned (OpenSpec.upto fnExactUnifyFormulasSpec)

/-- 'laws.FnSubstitutions', WHERE WHAT IT READS IS OF BULK AT MOST 1048576: true; the input reads as it did. -/
def fnSubstitutionsUptoRow : OpenClaim := { program := "ytdpnkojchimmfaa", sum := "649533faa41fbfafedf7cd0b35ed895e55c04e793d07fe02d7974dc62a9c8984", func := "loop.example/g01089/laws.FnSubstitutions", spec := "fnSubstitutions", unfollowed := true, recurses := true, apart := false, narrowed := true }
def FnSubstitutionsUptoSaid : Prop := fnSubstitutionsUptoRow.holds Try.pinned (OpenSpec.upto fnSubstitutionsSpec)

/-- 'laws.FnUnifiers', WHERE WHAT IT READS IS OF BULK AT MOST 1048576: true; the input reads as it did. -/
def fnUnifiersUptoRow : OpenClaim := { program := "ytdpnkojchimmfaa", sum := "649533faa41fbfafedf7cd0b35ed895e55c04e793d07fe02d7974dc62a9c8984", func := "loop.example/g01089/laws.FnUnifiers", spec := "fnUnifiers", inPlace := ["internal/bytealg.abigen_runtime_cmpstring"], unfollowed := true, recurses := true, apart := false, narrowed := true }
def FnUnifiersUptoSaid : Prop := fnUnifiersUptoRow.holds Try.pinned (OpenSpec.upto fnUnifiersSpec)

end Rows
end Go.Proofs.Ytdpnkojchimmfaa

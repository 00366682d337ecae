/-
  NARROWER THAN 'FOR EVERY INPUT', by the rows' own cells (each row's printed sentence says how): FnExactLogicName: laid · FnExactLogicAxioms: laid.
  DERIVED. THE GIVEN ROWS OF THIS SEAT. 2 by the template 'for every input the law returns true; each argument reads behind the call as it read before'; 0 by the template 'total and deterministic' (their statements: YtkhbimdahjkgoaaDoorTotals.lean).
  GIVEN WITH THE SEED: the statements are not yours to turn. If you find one false, say at which input.
  Laid BY PROGRAM, IN A SANDBOX (cutbox-rows.mjs): the forced cells as the released guide's own fill.sh prints them over the translation bd351d7e0f4c1596… (all of the seat's roots in one cut). By AI agents, Wed Nov 11 2026. No macro, syntax, notation, axiom, sorry.
-/
import Derived.Test.YtkhbimdahjkgoaaDoorChecked
import GoSem.PinnedTables
import GoSem.Claim
import GoSem.ClaimJoined
import GoSem.ClaimMapViews
import Derived.JoinedTies
import Derived.KernelRfl
namespace Go.Proofs.YtkhbimdahjkgoaaDoor
/- THE CELL 'sum', in the pinned program and in every row, IS THE sha256 OF THE DUMP (.gsa) THAT YtkhbimdahjkgoaaDoorProg.lean LOADS. Nothing in Lean hashes anything: it is a label: what it is worth is what the hold of that sum in a sandbox is worth. -/
noncomputable def Tryd.pinned : Pinned := { name := "ytkhbimdahjkgoaadoor", sum := "bd351d7e0f4c159673e3848b41f0d77b74ab15e31130dfa796972b693b583432", checked := Tryd.checked }
namespace Rows
def none {H : Type} : Left H := { results := [], args := [] }

/- WHAT THE LISTED PACKAGE-LEVEL VARIABLES READ AS WHEN THE CALL BEGINS. Each datum BY PROGRAM (the guide's laid-datum.mjs) off the statement by which the dump's own 'gosem.cut.vars' lays the variable. In a bare row this is a premise. The card (YtkhbimdahjkgoaaDoorCards.lean) ties it to the program's text. -/
def laid_unicode_utf8_acceptRanges {H : Type} : DataW H := .agg [.agg [.lit (.int .u8 128), .lit (.int .u8 191)], .agg [.lit (.int .u8 160), .lit (.int .u8 191)], .agg [.lit (.int .u8 128), .lit (.int .u8 159)], .agg [.lit (.int .u8 144), .lit (.int .u8 191)], .agg [.lit (.int .u8 128), .lit (.int .u8 143)], .agg [.lit (.int .u8 0), .lit (.int .u8 0)], .agg [.lit (.int .u8 0), .lit (.int .u8 0)], .agg [.lit (.int .u8 0), .lit (.int .u8 0)], .agg [.lit (.int .u8 0), .lit (.int .u8 0)], .agg [.lit (.int .u8 0), .lit (.int .u8 0)], .agg [.lit (.int .u8 0), .lit (.int .u8 0)], .agg [.lit (.int .u8 0), .lit (.int .u8 0)], .agg [.lit (.int .u8 0), .lit (.int .u8 0)], .agg [.lit (.int .u8 0), .lit (.int .u8 0)], .agg [.lit (.int .u8 0), .lit (.int .u8 0)], .agg [.lit (.int .u8 0), .lit (.int .u8 0)]]
def laid_loop_example_g01089_impl_logicTable {H : Type} : DataW H := .agg [.lit (.string [68, 32, 68]), .lit (.string [68, 52, 32, 52, 32, 68]), .lit (.string [71, 76, 32, 76]), .lit (.string [71, 114, 122, 32, 90]), .lit (.string [75]), .lit (.string [75, 52, 32, 52]), .lit (.string [75, 52, 53, 32, 52, 32, 53]), .lit (.string [75, 66, 32, 66]), .lit (.string [75, 68, 52, 53, 32, 52, 32, 53, 32, 68]), .lit (.string [83, 52, 32, 52, 32, 84]), .lit (.string [83, 52, 50, 32, 52, 32, 71, 32, 84]), .lit (.string [83, 52, 51, 32, 52, 32, 72, 32, 84]), .lit (.string [83, 53, 32, 53, 32, 84]), .lit (.string [84, 32, 84]), .lit (.string [84, 114, 105, 118, 32, 84, 32, 88]), .lit (.string [86, 101, 114, 32, 86])]
/-- One of Go's own tables, pinned by name: the form's constant. -/
def laid_unicode_utf8_first : DataW Unit := Go.Pinned.utf8First

/-- 'laws.FnExactLogicName': WHATEVER THE INPUT: true; the input reads as it did. -/
def fnExactLogicNameSpec : ChangeSpec := { name := "fnExactLogicName", vars := ["loop.example/g01089/impl.logicTable"], fn := fun _ => fun
  | [d, g1] => { results := [.lit (.bool true)], args := [d], vars := [g1] }
  | _ => none }
def fnExactLogicNameRow : OpenClaim := { program := "ytkhbimdahjkgoaadoor", sum := "bd351d7e0f4c159673e3848b41f0d77b74ab15e31130dfa796972b693b583432", func := "loop.example/g01089/laws.FnExactLogicName", spec := "fnExactLogicName", inPlace := ["internal/bytealg.CountString", "internal/bytealg.IndexByteString", "internal/bytealg.IndexString"], named := ["loop.example/g01089/impl.logicTable", "unicode/utf8.first", "unicode/utf8.acceptRanges", "internal/bytealg.MaxLen"], apart := false, laid := [("unicode/utf8.acceptRanges", laid_unicode_utf8_acceptRanges), ("loop.example/g01089/impl.logicTable", laid_loop_example_g01089_impl_logicTable), ("unicode/utf8.first", laid_unicode_utf8_first)] }
def FnExactLogicNameSaid : Prop := fnExactLogicNameRow.holds Tryd.pinned (OpenSpec.ofChange fnExactLogicNameSpec)

/-- ITS FALSE NEIGHBOUR: 'it returns false'. Refute it at one input. -/
def fnExactLogicNameWrong : ChangeSpec := { name := "fnExactLogicName", vars := ["loop.example/g01089/impl.logicTable"], fn := fun _ => fun
  | [d, g1] => { results := [.lit (.bool false)], args := [d], vars := [g1] }
  | _ => none }
def FnExactLogicNameWrongFalsely : Prop := fnExactLogicNameRow.holds Tryd.pinned (OpenSpec.ofChange fnExactLogicNameWrong)

/-- 'laws.FnExactLogicAxioms': WHATEVER THE INPUT: true; the input reads as it did. -/
def fnExactLogicAxiomsSpec : ChangeSpec := { name := "fnExactLogicAxioms", vars := ["loop.example/g01089/impl.logicTable"], fn := fun _ => fun
  | [d, g1] => { results := [.lit (.bool true)], args := [d], vars := [g1] }
  | _ => none }
def fnExactLogicAxiomsRow : OpenClaim := { program := "ytkhbimdahjkgoaadoor", sum := "bd351d7e0f4c159673e3848b41f0d77b74ab15e31130dfa796972b693b583432", func := "loop.example/g01089/laws.FnExactLogicAxioms", spec := "fnExactLogicAxioms", inPlace := ["internal/bytealg.CountString", "internal/bytealg.IndexByteString", "internal/bytealg.IndexString"], named := ["loop.example/g01089/impl.logicTable", "unicode/utf8.first", "unicode/utf8.acceptRanges", "internal/bytealg.MaxLen"], apart := false, laid := [("unicode/utf8.acceptRanges", laid_unicode_utf8_acceptRanges), ("loop.example/g01089/impl.logicTable", laid_loop_example_g01089_impl_logicTable), ("unicode/utf8.first", laid_unicode_utf8_first)] }
def FnExactLogicAxiomsSaid : Prop := fnExactLogicAxiomsRow.holds Tryd.pinned (OpenSpec.ofChange fnExactLogicAxiomsSpec)

/-- ITS FALSE NEIGHBOUR: 'it returns false'. Refute it at one input. -/
def fnExactLogicAxiomsWrong : ChangeSpec := { name := "fnExactLogicAxioms", vars := ["loop.example/g01089/impl.logicTable"], fn := fun _ => fun
  | [d, g1] => { results := [.lit (.bool false)], args := [d], vars := [g1] }
  | _ => none }
def FnExactLogicAxiomsWrongFalsely : Prop := fnExactLogicAxiomsRow.holds Tryd.pinned (OpenSpec.ofChange fnExactLogicAxiomsWrong)

/- THE SECOND FORM. 'bulk': how many values and letters a reading holds, each counted each time it is reached (what is shared counts as often as it is met; a slice's spare places count too). A statement '..UptoSaid' is the law's where the arguments, and the package variables that the reading takes, are together of bulk at most 1048576: NARROWER than '..Said'. Prove '..Said' where nothing that the law and all that it calls make is longer than what came in: it says more and counts as full. Else prove '..UptoSaid'. A law counts once. -/
mutual
def uptoBulk {H : Type} : DataW H → Nat
  | .lit (.string bytes) => bytes.length + 1
  | .lit _ => 1
  | .nil => 1
  | .ptr d => uptoBulk d + 1
  | .slice elems spare => uptoBulkAll elems + uptoBulkAll spare + 1
  | .agg parts => uptoBulkAll parts + 1
  | .iface _ d => uptoBulk d + 1
  | .map entries => uptoBulkEntries entries + 1
  | .held _ => 1
def uptoBulkAll {H : Type} : List (DataW H) → Nat
  | [] => 0
  | d :: r => uptoBulk d + uptoBulkAll r
def uptoBulkEntries {H : Type} : List (Lit × DataW H) → Nat
  | [] => 0
  | x :: r => uptoBulkEntry x + uptoBulkEntries r
def uptoBulkEntry {H : Type} : Lit × DataW H → Nat
  | (.string bytes, d) => bytes.length + uptoBulk d + 1
  | (_, d) => uptoBulk d + 1
 end
def uptoSmall : (H : Type) → List (DataW H) → Bool := fun _ ds => decide (uptoBulkAll ds ≤ 1048576)
def OpenSpec.upto (s : _root_.Go.ChangeSpec) : _root_.Go.OpenSpec := { _root_.Go.OpenSpec.ofChange s with cond := some uptoSmall }

/-- 'laws.FnExactLogicName', WHERE WHAT IT READS IS OF BULK AT MOST 1048576: true; the input reads as it did. -/
def fnExactLogicNameUptoRow : OpenClaim := { program := "ytkhbimdahjkgoaadoor", sum := "bd351d7e0f4c159673e3848b41f0d77b74ab15e31130dfa796972b693b583432", func := "loop.example/g01089/laws.FnExactLogicName", spec := "fnExactLogicName", inPlace := ["internal/bytealg.CountString", "internal/bytealg.IndexByteString", "internal/bytealg.IndexString"], named := ["loop.example/g01089/impl.logicTable", "unicode/utf8.first", "unicode/utf8.acceptRanges", "internal/bytealg.MaxLen"], apart := false, laid := [("unicode/utf8.acceptRanges", laid_unicode_utf8_acceptRanges), ("loop.example/g01089/impl.logicTable", laid_loop_example_g01089_impl_logicTable), ("unicode/utf8.first", laid_unicode_utf8_first)], narrowed := true }
def FnExactLogicNameUptoSaid : Prop := fnExactLogicNameUptoRow.holds Tryd.pinned (OpenSpec.upto fnExactLogicNameSpec)

/-- 'laws.FnExactLogicAxioms', WHERE WHAT IT READS IS OF BULK AT MOST 1048576: true; the input reads as it did. -/
def fnExactLogicAxiomsUptoRow : OpenClaim := { program := "ytkhbimdahjkgoaadoor", sum := "bd351d7e0f4c159673e3848b41f0d77b74ab15e31130dfa796972b693b583432", func := "loop.example/g01089/laws.FnExactLogicAxioms", spec := "fnExactLogicAxioms", inPlace := ["internal/bytealg.CountString", "internal/bytealg.IndexByteString", "internal/bytealg.IndexString"], named := ["loop.example/g01089/impl.logicTable", "unicode/utf8.first", "unicode/utf8.acceptRanges", "internal/bytealg.MaxLen"], apart := false, laid := [("unicode/utf8.acceptRanges", laid_unicode_utf8_acceptRanges), ("loop.example/g01089/impl.logicTable", laid_loop_example_g01089_impl_logicTable), ("unicode/utf8.first", laid_unicode_utf8_first)], narrowed := true }
def FnExactLogicAxiomsUptoSaid : Prop := fnExactLogicAxiomsUptoRow.holds Tryd.pinned (OpenSpec.upto fnExactLogicAxiomsSpec)

end Rows
end Go.Proofs.YtkhbimdahjkgoaaDoor

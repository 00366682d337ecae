/-
  DERIVED. GIVEN WITH THE SEED: THE CARDS: each row of YtkhbimdahjkgoaaDoorRows.lean that lists a variable, with what it lists TIED to the program's text (the seventh form; the later family's looks); each row that meets fmt, with fmt's text TOLD by the authors' own Lean function (tested against real Go, not proved from fmt's source: count such statements apart). THE CARD IS WHAT COUNTS. Prove the row's statement (the work); the ties are given (YtkhbimdahjkgoaaDoorTie.lean); close each card by the builder's one call (the guide's Derived/Test/ToyasCard.lean, 'card_holds'). Laid BY PROGRAM, IN A SANDBOX (cutbox-door.mjs). By AI agents, Wed Nov 11 2026. No macro, syntax, notation, axiom, sorry.
-/
import Derived.Test.YtkhbimdahjkgoaaDoorRows
import GoSem.ClaimSeven
namespace Go.Proofs.YtkhbimdahjkgoaaDoor
namespace Rows

/-- THE TIED CARD OF 'laws.FnExactLogicName'. -/
def fnExactLogicNameCard : Claim7 := { stood := { row := fnExactLogicNameRow, standIns := [], harness := (true, "5634f3afde337a075b98c78562e5e4e9d61e3fb7df30366d08808c73132457d9"), looks := false }, kinds := [], alts := [], laidByText := true, laidKinds := [.data, .data, .pinned], laidTests := true, laidLooks := .later }
def FnExactLogicNameCardSaid : Prop := Claim7.holds Tryd.pinned (.plain (OpenSpec.ofChange fnExactLogicNameSpec)) fnExactLogicNameCard

/-- THE TIED CARD OF 'laws.FnExactLogicAxioms'. -/
def fnExactLogicAxiomsCard : Claim7 := { stood := { row := fnExactLogicAxiomsRow, standIns := [], harness := (true, "5634f3afde337a075b98c78562e5e4e9d61e3fb7df30366d08808c73132457d9"), looks := false }, kinds := [], alts := [], laidByText := true, laidKinds := [.data, .data, .pinned], laidTests := true, laidLooks := .later }
def FnExactLogicAxiomsCardSaid : Prop := Claim7.holds Tryd.pinned (.plain (OpenSpec.ofChange fnExactLogicAxiomsSpec)) fnExactLogicAxiomsCard

/-- THE SECOND FORM's CARD OF 'laws.FnExactLogicName'. -/
def fnExactLogicNameUptoCard : Claim7 := { stood := { row := fnExactLogicNameUptoRow, standIns := [], harness := (true, "5634f3afde337a075b98c78562e5e4e9d61e3fb7df30366d08808c73132457d9"), looks := false }, kinds := [], alts := [], laidByText := true, laidKinds := [.data, .data, .pinned], laidTests := true, laidLooks := .later }
def FnExactLogicNameUptoCardSaid : Prop := Claim7.holds Tryd.pinned (.plain (OpenSpec.upto fnExactLogicNameSpec)) fnExactLogicNameUptoCard

/-- THE SECOND FORM's CARD OF 'laws.FnExactLogicAxioms'. -/
def fnExactLogicAxiomsUptoCard : Claim7 := { stood := { row := fnExactLogicAxiomsUptoRow, standIns := [], harness := (true, "5634f3afde337a075b98c78562e5e4e9d61e3fb7df30366d08808c73132457d9"), looks := false }, kinds := [], alts := [], laidByText := true, laidKinds := [.data, .data, .pinned], laidTests := true, laidLooks := .later }
def FnExactLogicAxiomsUptoCardSaid : Prop := Claim7.holds Tryd.pinned (.plain (OpenSpec.upto fnExactLogicAxiomsSpec)) fnExactLogicAxiomsUptoCard
end Rows
end Go.Proofs.YtkhbimdahjkgoaaDoor

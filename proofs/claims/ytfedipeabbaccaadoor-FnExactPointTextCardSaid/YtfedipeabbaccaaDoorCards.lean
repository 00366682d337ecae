/-
  DERIVED. GIVEN WITH THE SEED: THE CARDS: each row of YtfedipeabbaccaaDoorRows.lean that lists a variable, with what it lists TIED to the program's text (the seventh form; the later family's looks); each row that meets fmt, with fmt's text TOLD by the authors' own Lean function (tested against real Go, not proved from fmt's source: count such statements apart). THE CARD IS WHAT COUNTS. Prove the row's statement (the work); the ties are given (YtfedipeabbaccaaDoorTie.lean); close each card by the builder's one call (the guide's Derived/Test/ToyasCard.lean, 'card_holds'). Laid BY PROGRAM, IN A SANDBOX (cutbox-door.mjs). By AI agents, Wed Nov 11 2026. No macro, syntax, notation, axiom, sorry.
-/
import Derived.Test.YtfedipeabbaccaaDoorRows
import GoSem.ClaimSeven
namespace Go.Proofs.YtfedipeabbaccaaDoor
namespace Rows

/-- THE TIED CARD OF 'laws.FnExactPointText'. -/
def fnExactPointTextCard : Claim7 := { stood := { row := fnExactPointTextRow, standIns := [], harness := (true, "33ec4e59efe76e342181505bd239cd4404bc9ba6b589245706b89f70fe1ed994"), looks := false }, kinds := [], alts := [], laidByText := true, laidKinds := [.data, .data, .data], laidTests := true, laidLooks := .later }
def FnExactPointTextCardSaid : Prop := Claim7.holds Tryd.pinned (.plain (OpenSpec.ofChange fnExactPointTextSpec)) fnExactPointTextCard

/-- THE TIED CARD OF 'laws.FnExactLogicName'. -/
def fnExactLogicNameCard : Claim7 := { stood := { row := fnExactLogicNameRow, standIns := [], harness := (true, "33ec4e59efe76e342181505bd239cd4404bc9ba6b589245706b89f70fe1ed994"), looks := false }, kinds := [], alts := [], laidByText := true, laidKinds := [.data, .data, .pinned], laidTests := true, laidLooks := .later }
def FnExactLogicNameCardSaid : Prop := Claim7.holds Tryd.pinned (.plain (OpenSpec.ofChange fnExactLogicNameSpec)) fnExactLogicNameCard

/-- THE TIED CARD OF 'laws.FnExactLogicAxioms'. -/
def fnExactLogicAxiomsCard : Claim7 := { stood := { row := fnExactLogicAxiomsRow, standIns := [], harness := (true, "33ec4e59efe76e342181505bd239cd4404bc9ba6b589245706b89f70fe1ed994"), looks := false }, kinds := [], alts := [], laidByText := true, laidKinds := [.data, .data, .pinned], laidTests := true, laidLooks := .later }
def FnExactLogicAxiomsCardSaid : Prop := Claim7.holds Tryd.pinned (.plain (OpenSpec.ofChange fnExactLogicAxiomsSpec)) fnExactLogicAxiomsCard

/-- THE TIED CARD OF 'laws.FnExactAxiomName'. -/
def fnExactAxiomNameCard : Claim7 := { stood := { row := fnExactAxiomNameRow, standIns := [], harness := (true, "33ec4e59efe76e342181505bd239cd4404bc9ba6b589245706b89f70fe1ed994"), looks := false }, kinds := [], alts := [], laidByText := true, laidKinds := [.data], laidTests := true, laidLooks := .later }
def FnExactAxiomNameCardSaid : Prop := Claim7.holds Tryd.pinned (.plain (OpenSpec.ofChange fnExactAxiomNameSpec)) fnExactAxiomNameCard

/-- THE TIED CARD OF 'laws.FnExactFirstModel'. -/
def fnExactFirstModelCard : Claim7 := { stood := { row := fnExactFirstModelRow, standIns := [], harness := (true, "33ec4e59efe76e342181505bd239cd4404bc9ba6b589245706b89f70fe1ed994"), looks := false }, kinds := [], alts := [], laidByText := true, laidKinds := [.data], laidTests := true, laidLooks := .later }
def FnExactFirstModelCardSaid : Prop := Claim7.holds Tryd.pinned (.plain (OpenSpec.ofChange fnExactFirstModelSpec)) fnExactFirstModelCard

/-- THE SECOND FORM's CARD OF 'laws.FnExactPointText'. -/
def fnExactPointTextUptoCard : Claim7 := { stood := { row := fnExactPointTextUptoRow, standIns := [], harness := (true, "33ec4e59efe76e342181505bd239cd4404bc9ba6b589245706b89f70fe1ed994"), looks := false }, kinds := [], alts := [], laidByText := true, laidKinds := [.data, .data, .data], laidTests := true, laidLooks := .later }
def FnExactPointTextUptoCardSaid : Prop := Claim7.holds Tryd.pinned (.plain (OpenSpec.upto fnExactPointTextSpec)) fnExactPointTextUptoCard

/-- THE SECOND FORM's CARD OF 'laws.FnExactLogicName'. -/
def fnExactLogicNameUptoCard : Claim7 := { stood := { row := fnExactLogicNameUptoRow, standIns := [], harness := (true, "33ec4e59efe76e342181505bd239cd4404bc9ba6b589245706b89f70fe1ed994"), looks := false }, kinds := [], alts := [], laidByText := true, laidKinds := [.data, .data, .pinned], laidTests := true, laidLooks := .later }
def FnExactLogicNameUptoCardSaid : Prop := Claim7.holds Tryd.pinned (.plain (OpenSpec.upto fnExactLogicNameSpec)) fnExactLogicNameUptoCard

/-- THE SECOND FORM's CARD OF 'laws.FnExactLogicAxioms'. -/
def fnExactLogicAxiomsUptoCard : Claim7 := { stood := { row := fnExactLogicAxiomsUptoRow, standIns := [], harness := (true, "33ec4e59efe76e342181505bd239cd4404bc9ba6b589245706b89f70fe1ed994"), looks := false }, kinds := [], alts := [], laidByText := true, laidKinds := [.data, .data, .pinned], laidTests := true, laidLooks := .later }
def FnExactLogicAxiomsUptoCardSaid : Prop := Claim7.holds Tryd.pinned (.plain (OpenSpec.upto fnExactLogicAxiomsSpec)) fnExactLogicAxiomsUptoCard

/-- THE SECOND FORM's CARD OF 'laws.FnExactAxiomName'. -/
def fnExactAxiomNameUptoCard : Claim7 := { stood := { row := fnExactAxiomNameUptoRow, standIns := [], harness := (true, "33ec4e59efe76e342181505bd239cd4404bc9ba6b589245706b89f70fe1ed994"), looks := false }, kinds := [], alts := [], laidByText := true, laidKinds := [.data], laidTests := true, laidLooks := .later }
def FnExactAxiomNameUptoCardSaid : Prop := Claim7.holds Tryd.pinned (.plain (OpenSpec.upto fnExactAxiomNameSpec)) fnExactAxiomNameUptoCard

/-- THE SECOND FORM's CARD OF 'laws.FnExactFirstModel'. -/
def fnExactFirstModelUptoCard : Claim7 := { stood := { row := fnExactFirstModelUptoRow, standIns := [], harness := (true, "33ec4e59efe76e342181505bd239cd4404bc9ba6b589245706b89f70fe1ed994"), looks := false }, kinds := [], alts := [], laidByText := true, laidKinds := [.data], laidTests := true, laidLooks := .later }
def FnExactFirstModelUptoCardSaid : Prop := Claim7.holds Tryd.pinned (.plain (OpenSpec.upto fnExactFirstModelSpec)) fnExactFirstModelUptoCard
end Rows
end Go.Proofs.YtfedipeabbaccaaDoor

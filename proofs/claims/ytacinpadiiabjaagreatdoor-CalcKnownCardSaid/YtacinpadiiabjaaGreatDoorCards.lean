/-
  DERIVED. GIVEN WITH THE SEED: THE CARDS: each row of YtacinpadiiabjaaGreatDoorRows.lean that lists a variable, with what it lists TIED to the program's text (the seventh form; the later family's looks); each row that meets fmt, with fmt's text TOLD by the authors' own Lean function (tested against real Go, not proved from fmt's source: count such statements apart). THE CARD IS WHAT COUNTS. Prove the row's statement (the work); the ties are given (YtacinpadiiabjaaGreatDoorTie.lean); close each card by the builder's one call (the guide's Derived/Test/ToyasCard.lean, 'card_holds'). Laid BY PROGRAM, IN A SANDBOX (cutbox-door.mjs). By AI agents, Wed Nov 11 2026. No macro, syntax, notation, axiom, sorry.
-/
import Derived.Test.YtacinpadiiabjaaGreatDoorRows
import GoSem.ClaimSeven
namespace Go.Proofs.YtacinpadiiabjaaGreatDoor
namespace Rows

/-- THE TIED CARD OF 'escritoirelaw4.CalcParts'. -/
def calcPartsCard : Claim7 := { stood := { row := calcPartsRow, standIns := [], harness := (true, "efb965baff253c260af6384d39e63526ae954e87a106bbfdfe654e781ebbfb15"), looks := true }, kinds := [], alts := [], laidByText := true, laidKinds := [.data, .data, .widerDeep, .widerDeep, .data, .data, .data, .data, .data, .data, .sentinel, .sentinel, .pinned, .pinned, .pinned], laidTests := true, laidLooks := .later }
def CalcPartsCardSaid : Prop := Claim7.holds Tryz.pinned (.plain (OpenSpec.ofChange calcPartsSpec)) calcPartsCard

/-- THE TIED CARD OF 'escritoirelaw4.CalcNumbers'. -/
def calcNumbersCard : Claim7 := { stood := { row := calcNumbersRow, standIns := [], harness := (true, "efb965baff253c260af6384d39e63526ae954e87a106bbfdfe654e781ebbfb15"), looks := true }, kinds := [], alts := [], laidByText := true, laidKinds := [.data, .data, .widerDeep, .widerDeep, .data, .data, .data, .data, .data, .data, .sentinel, .sentinel, .pinned, .pinned, .pinned], laidTests := true, laidLooks := .later }
def CalcNumbersCardSaid : Prop := Claim7.holds Tryz.pinned (.plain (OpenSpec.ofChange calcNumbersSpec)) calcNumbersCard

/-- THE TIED CARD OF 'escritoirelaw4.CalcKnown'. -/
def calcKnownCard : Claim7 := { stood := { row := calcKnownRow, standIns := [], harness := (true, "efb965baff253c260af6384d39e63526ae954e87a106bbfdfe654e781ebbfb15"), looks := true }, kinds := [], alts := [], laidByText := true, laidKinds := [.data, .data, .widerDeep, .widerDeep, .data, .data, .data, .data, .data, .data, .sentinel, .sentinel, .pinned, .pinned, .pinned], laidTests := true, laidLooks := .later }
def CalcKnownCardSaid : Prop := Claim7.holds Tryz.pinned (.plain (OpenSpec.ofChange calcKnownSpec)) calcKnownCard

/-- THE TIED CARD OF 'escritoirelaw4.CalcDeep'. -/
def calcDeepCard : Claim7 := { stood := { row := calcDeepRow, standIns := [], harness := (true, "efb965baff253c260af6384d39e63526ae954e87a106bbfdfe654e781ebbfb15"), looks := true }, kinds := [], alts := [], laidByText := true, laidKinds := [.data, .data, .widerDeep, .widerDeep, .data, .data, .data, .data, .data, .data, .sentinel, .sentinel, .pinned, .pinned, .pinned], laidTests := true, laidLooks := .later }
def CalcDeepCardSaid : Prop := Claim7.holds Tryz.pinned (.plain (OpenSpec.ofChange calcDeepSpec)) calcDeepCard

/-- THE TIED CARD OF 'escritoirelaw4.CalcEvals'. -/
def calcEvalsCard : Claim7 := { stood := { row := calcEvalsRow, standIns := [], harness := (true, "efb965baff253c260af6384d39e63526ae954e87a106bbfdfe654e781ebbfb15"), looks := true }, kinds := [], alts := [], laidByText := true, laidKinds := [.data, .data, .widerDeep, .widerDeep, .data, .data, .data, .data, .data, .data, .sentinel, .sentinel, .pinned, .pinned, .pinned], laidTests := true, laidLooks := .later }
def CalcEvalsCardSaid : Prop := Claim7.holds Tryz.pinned (.plain (OpenSpec.ofChange calcEvalsSpec)) calcEvalsCard

/-- THE TIED CARD OF 'escritoirelaw4.CalcBlanks'. -/
def calcBlanksCard : Claim7 := { stood := { row := calcBlanksRow, standIns := [], harness := (true, "efb965baff253c260af6384d39e63526ae954e87a106bbfdfe654e781ebbfb15"), looks := true }, kinds := [], alts := [], laidByText := true, laidKinds := [.data, .data, .widerDeep, .widerDeep, .data, .data, .data, .data, .data, .data, .sentinel, .sentinel, .pinned, .pinned, .pinned], laidTests := true, laidLooks := .later }
def CalcBlanksCardSaid : Prop := Claim7.holds Tryz.pinned (.plain (OpenSpec.ofChange calcBlanksSpec)) calcBlanksCard

/-- THE SECOND FORM's CARD OF 'escritoirelaw4.CalcParts'. -/
def calcPartsUptoCard : Claim7 := { stood := { row := calcPartsUptoRow, standIns := [], harness := (true, "efb965baff253c260af6384d39e63526ae954e87a106bbfdfe654e781ebbfb15"), looks := true }, kinds := [], alts := [], laidByText := true, laidKinds := [.data, .data, .widerDeep, .widerDeep, .data, .data, .data, .data, .data, .data, .sentinel, .sentinel, .pinned, .pinned, .pinned], laidTests := true, laidLooks := .later }
def CalcPartsUptoCardSaid : Prop := Claim7.holds Tryz.pinned (.plain (OpenSpec.upto calcPartsSpec)) calcPartsUptoCard

/-- THE SECOND FORM's CARD OF 'escritoirelaw4.CalcNumbers'. -/
def calcNumbersUptoCard : Claim7 := { stood := { row := calcNumbersUptoRow, standIns := [], harness := (true, "efb965baff253c260af6384d39e63526ae954e87a106bbfdfe654e781ebbfb15"), looks := true }, kinds := [], alts := [], laidByText := true, laidKinds := [.data, .data, .widerDeep, .widerDeep, .data, .data, .data, .data, .data, .data, .sentinel, .sentinel, .pinned, .pinned, .pinned], laidTests := true, laidLooks := .later }
def CalcNumbersUptoCardSaid : Prop := Claim7.holds Tryz.pinned (.plain (OpenSpec.upto calcNumbersSpec)) calcNumbersUptoCard

/-- THE SECOND FORM's CARD OF 'escritoirelaw4.CalcKnown'. -/
def calcKnownUptoCard : Claim7 := { stood := { row := calcKnownUptoRow, standIns := [], harness := (true, "efb965baff253c260af6384d39e63526ae954e87a106bbfdfe654e781ebbfb15"), looks := true }, kinds := [], alts := [], laidByText := true, laidKinds := [.data, .data, .widerDeep, .widerDeep, .data, .data, .data, .data, .data, .data, .sentinel, .sentinel, .pinned, .pinned, .pinned], laidTests := true, laidLooks := .later }
def CalcKnownUptoCardSaid : Prop := Claim7.holds Tryz.pinned (.plain (OpenSpec.upto calcKnownSpec)) calcKnownUptoCard

/-- THE SECOND FORM's CARD OF 'escritoirelaw4.CalcDeep'. -/
def calcDeepUptoCard : Claim7 := { stood := { row := calcDeepUptoRow, standIns := [], harness := (true, "efb965baff253c260af6384d39e63526ae954e87a106bbfdfe654e781ebbfb15"), looks := true }, kinds := [], alts := [], laidByText := true, laidKinds := [.data, .data, .widerDeep, .widerDeep, .data, .data, .data, .data, .data, .data, .sentinel, .sentinel, .pinned, .pinned, .pinned], laidTests := true, laidLooks := .later }
def CalcDeepUptoCardSaid : Prop := Claim7.holds Tryz.pinned (.plain (OpenSpec.upto calcDeepSpec)) calcDeepUptoCard

/-- THE SECOND FORM's CARD OF 'escritoirelaw4.CalcEvals'. -/
def calcEvalsUptoCard : Claim7 := { stood := { row := calcEvalsUptoRow, standIns := [], harness := (true, "efb965baff253c260af6384d39e63526ae954e87a106bbfdfe654e781ebbfb15"), looks := true }, kinds := [], alts := [], laidByText := true, laidKinds := [.data, .data, .widerDeep, .widerDeep, .data, .data, .data, .data, .data, .data, .sentinel, .sentinel, .pinned, .pinned, .pinned], laidTests := true, laidLooks := .later }
def CalcEvalsUptoCardSaid : Prop := Claim7.holds Tryz.pinned (.plain (OpenSpec.upto calcEvalsSpec)) calcEvalsUptoCard

/-- THE SECOND FORM's CARD OF 'escritoirelaw4.CalcBlanks'. -/
def calcBlanksUptoCard : Claim7 := { stood := { row := calcBlanksUptoRow, standIns := [], harness := (true, "efb965baff253c260af6384d39e63526ae954e87a106bbfdfe654e781ebbfb15"), looks := true }, kinds := [], alts := [], laidByText := true, laidKinds := [.data, .data, .widerDeep, .widerDeep, .data, .data, .data, .data, .data, .data, .sentinel, .sentinel, .pinned, .pinned, .pinned], laidTests := true, laidLooks := .later }
def CalcBlanksUptoCardSaid : Prop := Claim7.holds Tryz.pinned (.plain (OpenSpec.upto calcBlanksSpec)) calcBlanksUptoCard
end Rows
end Go.Proofs.YtacinpadiiabjaaGreatDoor

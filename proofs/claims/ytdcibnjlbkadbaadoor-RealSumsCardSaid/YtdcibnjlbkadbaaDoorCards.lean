/-
  DERIVED. GIVEN WITH THE SEED: THE CARDS: each row of YtdcibnjlbkadbaaDoorRows.lean that lists a variable, with what it lists TIED to the program's text (the seventh form; the later family's looks); each row that meets fmt, with fmt's text TOLD by the authors' own Lean function (tested against real Go, not proved from fmt's source: count such statements apart). THE CARD IS WHAT COUNTS. Prove the row's statement (the work); the ties are given (YtdcibnjlbkadbaaDoorTie.lean); close each card by the builder's one call (the guide's Derived/Test/ToyasCard.lean, 'card_holds'). Laid BY PROGRAM, IN A SANDBOX (cutbox-door.mjs). By AI agents, Wed Nov 11 2026. No macro, syntax, notation, axiom, sorry.
-/
import Derived.Test.YtdcibnjlbkadbaaDoorRows
import GoSem.ClaimSeven
namespace Go.Proofs.YtdcibnjlbkadbaaDoor
namespace Rows

/-- THE TIED CARD OF 'escritoirelaw3.RealSorts'. -/
def realSortsCard : Claim7 := { stood := { row := realSortsRow, standIns := [], harness := (true, "e62abce868d7accace4da6fd042169f399330a2e8558fff0c62de82be25d7c5f"), looks := false }, kinds := [], alts := [], laidByText := true, laidKinds := [.data, .data, .data, .data, .pinned], laidTests := true, laidLooks := .later }
def RealSortsCardSaid : Prop := Claim7.holds Tryd.pinned (.plain (OpenSpec.ofChange realSortsSpec)) realSortsCard

/-- THE TIED CARD OF 'escritoirelaw3.RealOrders'. -/
def realOrdersCard : Claim7 := { stood := { row := realOrdersRow, standIns := [], harness := (true, "e62abce868d7accace4da6fd042169f399330a2e8558fff0c62de82be25d7c5f"), looks := false }, kinds := [], alts := [], laidByText := true, laidKinds := [.data, .data, .data, .data, .pinned], laidTests := true, laidLooks := .later }
def RealOrdersCardSaid : Prop := Claim7.holds Tryd.pinned (.plain (OpenSpec.ofChange realOrdersSpec)) realOrdersCard

/-- THE TIED CARD OF 'escritoirelaw3.RealPlaces'. -/
def realPlacesCard : Claim7 := { stood := { row := realPlacesRow, standIns := [], harness := (true, "e62abce868d7accace4da6fd042169f399330a2e8558fff0c62de82be25d7c5f"), looks := false }, kinds := [], alts := [], laidByText := true, laidKinds := [.data, .data, .data, .data, .pinned], laidTests := true, laidLooks := .later }
def RealPlacesCardSaid : Prop := Claim7.holds Tryd.pinned (.plain (OpenSpec.ofChange realPlacesSpec)) realPlacesCard

/-- THE TIED CARD OF 'escritoirelaw3.RealSums'. -/
def realSumsCard : Claim7 := { stood := { row := realSumsRow, standIns := [], harness := (true, "e62abce868d7accace4da6fd042169f399330a2e8558fff0c62de82be25d7c5f"), looks := false }, kinds := [], alts := [], laidByText := true, laidKinds := [.data, .data, .data, .data, .pinned], laidTests := true, laidLooks := .later }
def RealSumsCardSaid : Prop := Claim7.holds Tryd.pinned (.plain (OpenSpec.ofChange realSumsSpec)) realSumsCard

/-- THE SECOND FORM's CARD OF 'escritoirelaw3.RealSorts'. -/
def realSortsUptoCard : Claim7 := { stood := { row := realSortsUptoRow, standIns := [], harness := (true, "e62abce868d7accace4da6fd042169f399330a2e8558fff0c62de82be25d7c5f"), looks := false }, kinds := [], alts := [], laidByText := true, laidKinds := [.data, .data, .data, .data, .pinned], laidTests := true, laidLooks := .later }
def RealSortsUptoCardSaid : Prop := Claim7.holds Tryd.pinned (.plain (OpenSpec.upto realSortsSpec)) realSortsUptoCard

/-- THE SECOND FORM's CARD OF 'escritoirelaw3.RealOrders'. -/
def realOrdersUptoCard : Claim7 := { stood := { row := realOrdersUptoRow, standIns := [], harness := (true, "e62abce868d7accace4da6fd042169f399330a2e8558fff0c62de82be25d7c5f"), looks := false }, kinds := [], alts := [], laidByText := true, laidKinds := [.data, .data, .data, .data, .pinned], laidTests := true, laidLooks := .later }
def RealOrdersUptoCardSaid : Prop := Claim7.holds Tryd.pinned (.plain (OpenSpec.upto realOrdersSpec)) realOrdersUptoCard

/-- THE SECOND FORM's CARD OF 'escritoirelaw3.RealPlaces'. -/
def realPlacesUptoCard : Claim7 := { stood := { row := realPlacesUptoRow, standIns := [], harness := (true, "e62abce868d7accace4da6fd042169f399330a2e8558fff0c62de82be25d7c5f"), looks := false }, kinds := [], alts := [], laidByText := true, laidKinds := [.data, .data, .data, .data, .pinned], laidTests := true, laidLooks := .later }
def RealPlacesUptoCardSaid : Prop := Claim7.holds Tryd.pinned (.plain (OpenSpec.upto realPlacesSpec)) realPlacesUptoCard

/-- THE SECOND FORM's CARD OF 'escritoirelaw3.RealSums'. -/
def realSumsUptoCard : Claim7 := { stood := { row := realSumsUptoRow, standIns := [], harness := (true, "e62abce868d7accace4da6fd042169f399330a2e8558fff0c62de82be25d7c5f"), looks := false }, kinds := [], alts := [], laidByText := true, laidKinds := [.data, .data, .data, .data, .pinned], laidTests := true, laidLooks := .later }
def RealSumsUptoCardSaid : Prop := Claim7.holds Tryd.pinned (.plain (OpenSpec.upto realSumsSpec)) realSumsUptoCard
end Rows
end Go.Proofs.YtdcibnjlbkadbaaDoor

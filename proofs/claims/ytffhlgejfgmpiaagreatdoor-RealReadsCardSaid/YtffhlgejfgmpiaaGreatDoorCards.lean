/-
  DERIVED. GIVEN WITH THE SEED: THE CARDS: each row of YtffhlgejfgmpiaaGreatDoorRows.lean that lists a variable, with what it lists TIED to the program's text (the seventh form; the later family's looks); each row that meets fmt, with fmt's text TOLD by the authors' own Lean function (tested against real Go, not proved from fmt's source: count such statements apart). THE CARD IS WHAT COUNTS. Prove the row's statement (the work); the ties are given (YtffhlgejfgmpiaaGreatDoorTie.lean); close each card by the builder's one call (the guide's Derived/Test/ToyasCard.lean, 'card_holds'). Laid BY PROGRAM, IN A SANDBOX (cutbox-door.mjs). By AI agents, Wed Nov 11 2026. No macro, syntax, notation, axiom, sorry.
-/
import Derived.Test.YtffhlgejfgmpiaaGreatDoorRows
import GoSem.ClaimSeven
namespace Go.Proofs.YtffhlgejfgmpiaaGreatDoor
namespace Rows

/-- THE TIED CARD OF 'escritoirelaw3.RealShows'. -/
def realShowsCard : Claim7 := { stood := { row := realShowsRow, standIns := [], harness := (true, "73a25a7cd9171e58a60f07fb338cb77ee6d66e5f85c33c3876a1d49f117e0847"), looks := true }, kinds := [], alts := [], laidByText := true, laidKinds := [.data, .data, .widerDeep, .widerDeep, .data, .data, .data, .data, .data, .data, .sentinel, .sentinel, .pinned, .pinned, .pinned], laidTests := true, laidLooks := .later }
def RealShowsCardSaid : Prop := Claim7.holds Tryz.pinned (.plain (OpenSpec.ofChange realShowsSpec)) realShowsCard

/-- THE TIED CARD OF 'escritoirelaw3.RealReads'. -/
def realReadsCard : Claim7 := { stood := { row := realReadsRow, standIns := [], harness := (true, "73a25a7cd9171e58a60f07fb338cb77ee6d66e5f85c33c3876a1d49f117e0847"), looks := true }, kinds := [], alts := [], laidByText := true, laidKinds := [.data, .data, .widerDeep, .widerDeep, .data, .data, .data, .data, .data, .data, .sentinel, .sentinel, .pinned, .pinned, .pinned], laidTests := true, laidLooks := .later }
def RealReadsCardSaid : Prop := Claim7.holds Tryz.pinned (.plain (OpenSpec.ofChange realReadsSpec)) realReadsCard

/-- THE TIED CARD OF 'escritoirelaw3.RealWhole'. -/
def realWholeCard : Claim7 := { stood := { row := realWholeRow, standIns := [], harness := (true, "73a25a7cd9171e58a60f07fb338cb77ee6d66e5f85c33c3876a1d49f117e0847"), looks := true }, kinds := [], alts := [], laidByText := true, laidKinds := [.data, .data, .widerDeep, .widerDeep, .data, .data, .data, .data, .data, .data, .sentinel, .sentinel, .pinned, .pinned, .pinned], laidTests := true, laidLooks := .later }
def RealWholeCardSaid : Prop := Claim7.holds Tryz.pinned (.plain (OpenSpec.ofChange realWholeSpec)) realWholeCard

/-- THE TIED CARD OF 'escritoirelaw3.RealKnown'. -/
def realKnownCard : Claim7 := { stood := { row := realKnownRow, standIns := [], harness := (true, "73a25a7cd9171e58a60f07fb338cb77ee6d66e5f85c33c3876a1d49f117e0847"), looks := true }, kinds := [], alts := [], laidByText := true, laidKinds := [.data, .data, .widerDeep, .widerDeep, .data, .data, .data, .data, .data, .data, .sentinel, .sentinel, .pinned, .pinned, .pinned], laidTests := true, laidLooks := .later }
def RealKnownCardSaid : Prop := Claim7.holds Tryz.pinned (.plain (OpenSpec.ofChange realKnownSpec)) realKnownCard

/-- THE SECOND FORM's CARD OF 'escritoirelaw3.RealShows'. -/
def realShowsUptoCard : Claim7 := { stood := { row := realShowsUptoRow, standIns := [], harness := (true, "73a25a7cd9171e58a60f07fb338cb77ee6d66e5f85c33c3876a1d49f117e0847"), looks := true }, kinds := [], alts := [], laidByText := true, laidKinds := [.data, .data, .widerDeep, .widerDeep, .data, .data, .data, .data, .data, .data, .sentinel, .sentinel, .pinned, .pinned, .pinned], laidTests := true, laidLooks := .later }
def RealShowsUptoCardSaid : Prop := Claim7.holds Tryz.pinned (.plain (OpenSpec.upto realShowsSpec)) realShowsUptoCard

/-- THE SECOND FORM's CARD OF 'escritoirelaw3.RealReads'. -/
def realReadsUptoCard : Claim7 := { stood := { row := realReadsUptoRow, standIns := [], harness := (true, "73a25a7cd9171e58a60f07fb338cb77ee6d66e5f85c33c3876a1d49f117e0847"), looks := true }, kinds := [], alts := [], laidByText := true, laidKinds := [.data, .data, .widerDeep, .widerDeep, .data, .data, .data, .data, .data, .data, .sentinel, .sentinel, .pinned, .pinned, .pinned], laidTests := true, laidLooks := .later }
def RealReadsUptoCardSaid : Prop := Claim7.holds Tryz.pinned (.plain (OpenSpec.upto realReadsSpec)) realReadsUptoCard

/-- THE SECOND FORM's CARD OF 'escritoirelaw3.RealWhole'. -/
def realWholeUptoCard : Claim7 := { stood := { row := realWholeUptoRow, standIns := [], harness := (true, "73a25a7cd9171e58a60f07fb338cb77ee6d66e5f85c33c3876a1d49f117e0847"), looks := true }, kinds := [], alts := [], laidByText := true, laidKinds := [.data, .data, .widerDeep, .widerDeep, .data, .data, .data, .data, .data, .data, .sentinel, .sentinel, .pinned, .pinned, .pinned], laidTests := true, laidLooks := .later }
def RealWholeUptoCardSaid : Prop := Claim7.holds Tryz.pinned (.plain (OpenSpec.upto realWholeSpec)) realWholeUptoCard

/-- THE SECOND FORM's CARD OF 'escritoirelaw3.RealKnown'. -/
def realKnownUptoCard : Claim7 := { stood := { row := realKnownUptoRow, standIns := [], harness := (true, "73a25a7cd9171e58a60f07fb338cb77ee6d66e5f85c33c3876a1d49f117e0847"), looks := true }, kinds := [], alts := [], laidByText := true, laidKinds := [.data, .data, .widerDeep, .widerDeep, .data, .data, .data, .data, .data, .data, .sentinel, .sentinel, .pinned, .pinned, .pinned], laidTests := true, laidLooks := .later }
def RealKnownUptoCardSaid : Prop := Claim7.holds Tryz.pinned (.plain (OpenSpec.upto realKnownSpec)) realKnownUptoCard
end Rows
end Go.Proofs.YtffhlgejfgmpiaaGreatDoor

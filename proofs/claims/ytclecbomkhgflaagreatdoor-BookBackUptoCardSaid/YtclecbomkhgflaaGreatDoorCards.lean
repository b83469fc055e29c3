/-
  DERIVED. GIVEN WITH THE SEED: THE CARDS: each row of YtclecbomkhgflaaGreatDoorRows.lean that lists a variable, with what it lists TIED to the program's text (the seventh form; the later family's looks); each row that meets fmt, with fmt's text TOLD by the authors' own Lean function (tested against real Go, not proved from fmt's source: count such statements apart). THE CARD IS WHAT COUNTS. Prove the row's statement (the work); the ties are given (YtclecbomkhgflaaGreatDoorTie.lean); close each card by the builder's one call (the guide's Derived/Test/ToyasCard.lean, 'card_holds'). Laid BY PROGRAM, IN A SANDBOX (cutbox-door.mjs). By AI agents, Wed Nov 11 2026. No macro, syntax, notation, axiom, sorry.
-/
import Derived.Test.YtclecbomkhgflaaGreatDoorRows
import GoSem.ClaimSeven
namespace Go.Proofs.YtclecbomkhgflaaGreatDoor
namespace Rows

/-- THE TIED CARD OF 'trammellaw27.BookReads'. -/
def bookReadsCard : Claim7 := { stood := { row := bookReadsRow, standIns := [], harness := (true, "8db8e63fa5ed2185016a8e20a9f68366b049dc250f7edee2ffdef5910d900c4e"), looks := false }, kinds := [], alts := [], laidByText := true, laidKinds := [.data, .pinned], laidTests := true, laidLooks := .later }
def BookReadsCardSaid : Prop := Claim7.holds Tryz.pinned (.plain (OpenSpec.ofChange bookReadsSpec)) bookReadsCard

/-- THE TIED CARD OF 'trammellaw27.BookRests'. -/
def bookRestsCard : Claim7 := { stood := { row := bookRestsRow, standIns := [], harness := (true, "8db8e63fa5ed2185016a8e20a9f68366b049dc250f7edee2ffdef5910d900c4e"), looks := false }, kinds := [], alts := [], laidByText := true, laidKinds := [.data, .pinned], laidTests := true, laidLooks := .later }
def BookRestsCardSaid : Prop := Claim7.holds Tryz.pinned (.plain (OpenSpec.ofChange bookRestsSpec)) bookRestsCard

/-- THE TIED CARD OF 'trammellaw27.BookBack'. -/
def bookBackCard : Claim7 := { stood := { row := bookBackRow, standIns := [], harness := (true, "8db8e63fa5ed2185016a8e20a9f68366b049dc250f7edee2ffdef5910d900c4e"), looks := false }, kinds := [], alts := [], laidByText := true, laidKinds := [.data, .pinned], laidTests := true, laidLooks := .later }
def BookBackCardSaid : Prop := Claim7.holds Tryz.pinned (.plain (OpenSpec.ofChange bookBackSpec)) bookBackCard

/-- THE TIED CARD OF 'trammellaw27.BookPlays'. -/
def bookPlaysCard : Claim7 := { stood := { row := bookPlaysRow, standIns := [], harness := (true, "8db8e63fa5ed2185016a8e20a9f68366b049dc250f7edee2ffdef5910d900c4e"), looks := false }, kinds := [], alts := [], laidByText := true, laidKinds := [.data, .pinned], laidTests := true, laidLooks := .later }
def BookPlaysCardSaid : Prop := Claim7.holds Tryz.pinned (.plain (OpenSpec.ofChange bookPlaysSpec)) bookPlaysCard

/-- THE TIED CARD OF 'trammellaw27.BookNil'. -/
def bookNilCard : Claim7 := { stood := { row := bookNilRow, standIns := [], harness := (true, "8db8e63fa5ed2185016a8e20a9f68366b049dc250f7edee2ffdef5910d900c4e"), looks := false }, kinds := [], alts := [], laidByText := true, laidKinds := [.data, .pinned], laidTests := true, laidLooks := .later }
def BookNilCardSaid : Prop := Claim7.holds Tryz.pinned (.plain (OpenSpec.ofChange bookNilSpec)) bookNilCard

/-- THE SECOND FORM's CARD OF 'trammellaw27.BookReads'. -/
def bookReadsUptoCard : Claim7 := { stood := { row := bookReadsUptoRow, standIns := [], harness := (true, "8db8e63fa5ed2185016a8e20a9f68366b049dc250f7edee2ffdef5910d900c4e"), looks := false }, kinds := [], alts := [], laidByText := true, laidKinds := [.data, .pinned], laidTests := true, laidLooks := .later }
def BookReadsUptoCardSaid : Prop := Claim7.holds Tryz.pinned (.plain (OpenSpec.upto bookReadsSpec)) bookReadsUptoCard

/-- THE SECOND FORM's CARD OF 'trammellaw27.BookRests'. -/
def bookRestsUptoCard : Claim7 := { stood := { row := bookRestsUptoRow, standIns := [], harness := (true, "8db8e63fa5ed2185016a8e20a9f68366b049dc250f7edee2ffdef5910d900c4e"), looks := false }, kinds := [], alts := [], laidByText := true, laidKinds := [.data, .pinned], laidTests := true, laidLooks := .later }
def BookRestsUptoCardSaid : Prop := Claim7.holds Tryz.pinned (.plain (OpenSpec.upto bookRestsSpec)) bookRestsUptoCard

/-- THE SECOND FORM's CARD OF 'trammellaw27.BookBack'. -/
def bookBackUptoCard : Claim7 := { stood := { row := bookBackUptoRow, standIns := [], harness := (true, "8db8e63fa5ed2185016a8e20a9f68366b049dc250f7edee2ffdef5910d900c4e"), looks := false }, kinds := [], alts := [], laidByText := true, laidKinds := [.data, .pinned], laidTests := true, laidLooks := .later }
def BookBackUptoCardSaid : Prop := Claim7.holds Tryz.pinned (.plain (OpenSpec.upto bookBackSpec)) bookBackUptoCard

/-- THE SECOND FORM's CARD OF 'trammellaw27.BookPlays'. -/
def bookPlaysUptoCard : Claim7 := { stood := { row := bookPlaysUptoRow, standIns := [], harness := (true, "8db8e63fa5ed2185016a8e20a9f68366b049dc250f7edee2ffdef5910d900c4e"), looks := false }, kinds := [], alts := [], laidByText := true, laidKinds := [.data, .pinned], laidTests := true, laidLooks := .later }
def BookPlaysUptoCardSaid : Prop := Claim7.holds Tryz.pinned (.plain (OpenSpec.upto bookPlaysSpec)) bookPlaysUptoCard

/-- THE SECOND FORM's CARD OF 'trammellaw27.BookNil'. -/
def bookNilUptoCard : Claim7 := { stood := { row := bookNilUptoRow, standIns := [], harness := (true, "8db8e63fa5ed2185016a8e20a9f68366b049dc250f7edee2ffdef5910d900c4e"), looks := false }, kinds := [], alts := [], laidByText := true, laidKinds := [.data, .pinned], laidTests := true, laidLooks := .later }
def BookNilUptoCardSaid : Prop := Claim7.holds Tryz.pinned (.plain (OpenSpec.upto bookNilSpec)) bookNilUptoCard
end Rows
end Go.Proofs.YtclecbomkhgflaaGreatDoor

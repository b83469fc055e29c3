/-
  DERIVED. GIVEN WITH THE SEED: THE CARDS: each row of YtmbjamifiadncaaDoorRows.lean that lists a variable, with what it lists TIED to the program's text (the seventh form; the later family's looks); each row that meets fmt, with fmt's text TOLD by the authors' own Lean function (tested against real Go, not proved from fmt's source: count such statements apart). THE CARD IS WHAT COUNTS. Prove the row's statement (the work); the ties are given (YtmbjamifiadncaaDoorTie.lean); close each card by the builder's one call (the guide's Derived/Test/ToyasCard.lean, 'card_holds'). Laid BY PROGRAM, IN A SANDBOX (cutbox-door.mjs). By AI agents, Wed Nov 11 2026. No macro, syntax, notation, axiom, sorry.
-/
import Derived.Test.YtmbjamifiadncaaDoorRows
import GoSem.ClaimSeven
namespace Go.Proofs.YtmbjamifiadncaaDoor
namespace Rows

/-- THE TIED CARD OF 'trammellaw27.BookNames'. -/
def bookNamesCard : Claim7 := { stood := { row := bookNamesRow, standIns := [], harness := (true, "dc334dedb18643a072f2bbf32493856c691032ecec6e5646f0b2a072cd1d3fee"), looks := false }, kinds := [], alts := [], laidByText := true, laidKinds := [.data, .pinned], laidTests := true, laidLooks := .later }
def BookNamesCardSaid : Prop := Claim7.holds Tryd.pinned (.plain (OpenSpec.ofChange bookNamesSpec)) bookNamesCard

/-- THE SECOND FORM's CARD OF 'trammellaw27.BookNames'. -/
def bookNamesUptoCard : Claim7 := { stood := { row := bookNamesUptoRow, standIns := [], harness := (true, "dc334dedb18643a072f2bbf32493856c691032ecec6e5646f0b2a072cd1d3fee"), looks := false }, kinds := [], alts := [], laidByText := true, laidKinds := [.data, .pinned], laidTests := true, laidLooks := .later }
def BookNamesUptoCardSaid : Prop := Claim7.holds Tryd.pinned (.plain (OpenSpec.upto bookNamesSpec)) bookNamesUptoCard
end Rows
end Go.Proofs.YtmbjamifiadncaaDoor

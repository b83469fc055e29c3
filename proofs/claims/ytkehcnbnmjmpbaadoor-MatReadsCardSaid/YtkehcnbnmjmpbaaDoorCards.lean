/-
  DERIVED. GIVEN WITH THE SEED: THE CARDS: each row of YtkehcnbnmjmpbaaDoorRows.lean that lists a variable, with what it lists TIED to the program's text (the seventh form; the later family's looks); each row that meets fmt, with fmt's text TOLD by the authors' own Lean function (tested against real Go, not proved from fmt's source: count such statements apart). THE CARD IS WHAT COUNTS. Prove the row's statement (the work); the ties are given (YtkehcnbnmjmpbaaDoorTie.lean); close each card by the builder's one call (the guide's Derived/Test/ToyasCard.lean, 'card_holds'). Laid BY PROGRAM, IN A SANDBOX (cutbox-door.mjs). By AI agents, Wed Nov 11 2026. No macro, syntax, notation, axiom, sorry.
-/
import Derived.Test.YtkehcnbnmjmpbaaDoorRows
import GoSem.ClaimSeven
namespace Go.Proofs.YtkehcnbnmjmpbaaDoor
namespace Rows

/-- THE TIED CARD OF 'trammellaw04.MatReads'. -/
def matReadsCard : Claim7 := { stood := { row := matReadsRow, standIns := [], harness := (true, "d090f53a3d2f0a3f6d27836a8f0608299b9efe12565f27d2d96a7cdebaf4605f"), looks := true }, kinds := [], alts := [], laidByText := true, laidKinds := [.data, .pinned], laidTests := true, laidLooks := .later }
def MatReadsCardSaid : Prop := Claim7.holds Tryd.pinned (.plain (OpenSpec.ofChange matReadsSpec)) matReadsCard

/-- THE TIED CARD OF 'trammellaw04.MatBack'. -/
def matBackCard : Claim7 := { stood := { row := matBackRow, standIns := [], harness := (true, "d090f53a3d2f0a3f6d27836a8f0608299b9efe12565f27d2d96a7cdebaf4605f"), looks := true }, kinds := [], alts := [], laidByText := true, laidKinds := [.data, .pinned], laidTests := true, laidLooks := .later }
def MatBackCardSaid : Prop := Claim7.holds Tryd.pinned (.plain (OpenSpec.ofChange matBackSpec)) matBackCard

/-- THE SECOND FORM's CARD OF 'trammellaw04.MatReads'. -/
def matReadsUptoCard : Claim7 := { stood := { row := matReadsUptoRow, standIns := [], harness := (true, "d090f53a3d2f0a3f6d27836a8f0608299b9efe12565f27d2d96a7cdebaf4605f"), looks := true }, kinds := [], alts := [], laidByText := true, laidKinds := [.data, .pinned], laidTests := true, laidLooks := .later }
def MatReadsUptoCardSaid : Prop := Claim7.holds Tryd.pinned (.plain (OpenSpec.upto matReadsSpec)) matReadsUptoCard

/-- THE SECOND FORM's CARD OF 'trammellaw04.MatBack'. -/
def matBackUptoCard : Claim7 := { stood := { row := matBackUptoRow, standIns := [], harness := (true, "d090f53a3d2f0a3f6d27836a8f0608299b9efe12565f27d2d96a7cdebaf4605f"), looks := true }, kinds := [], alts := [], laidByText := true, laidKinds := [.data, .pinned], laidTests := true, laidLooks := .later }
def MatBackUptoCardSaid : Prop := Claim7.holds Tryd.pinned (.plain (OpenSpec.upto matBackSpec)) matBackUptoCard
end Rows
end Go.Proofs.YtkehcnbnmjmpbaaDoor

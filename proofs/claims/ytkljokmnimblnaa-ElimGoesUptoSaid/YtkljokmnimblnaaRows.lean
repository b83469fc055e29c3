/-
  No cell of these rows narrows 'for every input' (looked for: loops, veiled, ifaces, maps, wideKeys, modest, calm, conditions, laid).
  DERIVED. THE GIVEN ROWS OF THIS SEAT. 11 by the template 'for every input the law returns true; each argument reads behind the call as it read before'; 0 by the template 'total and deterministic' (their statements: YtkljokmnimblnaaTotals.lean).
  GIVEN WITH THE SEED: the statements are not yours to turn. If you find one false, say at which input.
  Laid BY PROGRAM, IN A SANDBOX (cutbox-rows.mjs): the forced cells as the released guide's own fill.sh prints them over the translation 3913cc449c9f64e7… (all of the seat's roots in one cut). By AI agents, Wed Nov 11 2026. No macro, syntax, notation, axiom, sorry.
-/
import Derived.Test.YtkljokmnimblnaaChecked
import GoSem.Claim
import GoSem.ClaimJoined
import GoSem.ClaimMapViews
import Derived.JoinedTies
import Derived.KernelRfl
namespace Go.Proofs.Ytkljokmnimblnaa
/- THE CELL 'sum', in the pinned program and in every row, IS THE sha256 OF THE DUMP (.gsa) THAT YtkljokmnimblnaaProg.lean LOADS. Nothing in Lean hashes anything: it is a label: what it is worth is what the hold of that sum in a sandbox is worth. -/
noncomputable def Try.pinned : Pinned := { name := "ytkljokmnimblnaa", sum := "3913cc449c9f64e7d3f58a06838e01de286096738885e1d737f9a4151e40775d", checked := Try.checked }
namespace Rows
def none {H : Type} : Left H := { results := [], args := [] }

/-- 'trammellaw06.ElimRanks': WHATEVER THE INPUT: true; the input reads as it did. -/
def elimRanksSpec : ChangeSpec := { name := "elimRanks", fn := fun _ => fun
  | [d] => { results := [.lit (.bool true)], args := [d] }
  | _ => none }
def elimRanksRow : OpenClaim := { program := "ytkljokmnimblnaa", sum := "3913cc449c9f64e7d3f58a06838e01de286096738885e1d737f9a4151e40775d", func := "trammel/trammellaw06.ElimRanks", spec := "elimRanks", apart := false }
def ElimRanksSaid : Prop := elimRanksRow.holds Try.pinned (OpenSpec.ofChange elimRanksSpec)

/-- ITS FALSE NEIGHBOUR: 'it returns false'. Refute it at one input. -/
def elimRanksWrong : ChangeSpec := { name := "elimRanks", fn := fun _ => fun
  | [d] => { results := [.lit (.bool false)], args := [d] }
  | _ => none }
def ElimRanksWrongFalsely : Prop := elimRanksRow.holds Try.pinned (OpenSpec.ofChange elimRanksWrong)

/-- 'trammellaw06.ElimMinors': WHATEVER THE INPUT: true; the input reads as it did. -/
def elimMinorsSpec : ChangeSpec := { name := "elimMinors", fn := fun _ => fun
  | [d] => { results := [.lit (.bool true)], args := [d] }
  | _ => none }
def elimMinorsRow : OpenClaim := { program := "ytkljokmnimblnaa", sum := "3913cc449c9f64e7d3f58a06838e01de286096738885e1d737f9a4151e40775d", func := "trammel/trammellaw06.ElimMinors", spec := "elimMinors", apart := false }
def ElimMinorsSaid : Prop := elimMinorsRow.holds Try.pinned (OpenSpec.ofChange elimMinorsSpec)

/-- ITS FALSE NEIGHBOUR: 'it returns false'. Refute it at one input. -/
def elimMinorsWrong : ChangeSpec := { name := "elimMinors", fn := fun _ => fun
  | [d] => { results := [.lit (.bool false)], args := [d] }
  | _ => none }
def ElimMinorsWrongFalsely : Prop := elimMinorsRow.holds Try.pinned (OpenSpec.ofChange elimMinorsWrong)

/-- 'trammellaw06.ElimCramers': WHATEVER THE INPUT: true; the input reads as it did. -/
def elimCramersSpec : ChangeSpec := { name := "elimCramers", fn := fun _ => fun
  | [d1, d2] => { results := [.lit (.bool true)], args := [d1, d2] }
  | _ => none }
def elimCramersRow : OpenClaim := { program := "ytkljokmnimblnaa", sum := "3913cc449c9f64e7d3f58a06838e01de286096738885e1d737f9a4151e40775d", func := "trammel/trammellaw06.ElimCramers", spec := "elimCramers", apart := false }
def ElimCramersSaid : Prop := elimCramersRow.holds Try.pinned (OpenSpec.ofChange elimCramersSpec)

/-- ITS FALSE NEIGHBOUR: 'it returns false'. Refute it at one input. -/
def elimCramersWrong : ChangeSpec := { name := "elimCramers", fn := fun _ => fun
  | [d1, d2] => { results := [.lit (.bool false)], args := [d1, d2] }
  | _ => none }
def ElimCramersWrongFalsely : Prop := elimCramersRow.holds Try.pinned (OpenSpec.ofChange elimCramersWrong)

/-- 'trammellaw06.ElimDets': WHATEVER THE INPUT: true; the input reads as it did. -/
def elimDetsSpec : ChangeSpec := { name := "elimDets", fn := fun _ => fun
  | [d] => { results := [.lit (.bool true)], args := [d] }
  | _ => none }
def elimDetsRow : OpenClaim := { program := "ytkljokmnimblnaa", sum := "3913cc449c9f64e7d3f58a06838e01de286096738885e1d737f9a4151e40775d", func := "trammel/trammellaw06.ElimDets", spec := "elimDets", apart := false }
def ElimDetsSaid : Prop := elimDetsRow.holds Try.pinned (OpenSpec.ofChange elimDetsSpec)

/-- ITS FALSE NEIGHBOUR: 'it returns false'. Refute it at one input. -/
def elimDetsWrong : ChangeSpec := { name := "elimDets", fn := fun _ => fun
  | [d] => { results := [.lit (.bool false)], args := [d] }
  | _ => none }
def ElimDetsWrongFalsely : Prop := elimDetsRow.holds Try.pinned (OpenSpec.ofChange elimDetsWrong)

/-- 'trammellaw06.ElimSteps': WHATEVER THE INPUT: true; the input reads as it did. -/
def elimStepsSpec : ChangeSpec := { name := "elimSteps", fn := fun _ => fun
  | [d] => { results := [.lit (.bool true)], args := [d] }
  | _ => none }
def elimStepsRow : OpenClaim := { program := "ytkljokmnimblnaa", sum := "3913cc449c9f64e7d3f58a06838e01de286096738885e1d737f9a4151e40775d", func := "trammel/trammellaw06.ElimSteps", spec := "elimSteps", apart := false }
def ElimStepsSaid : Prop := elimStepsRow.holds Try.pinned (OpenSpec.ofChange elimStepsSpec)

/-- ITS FALSE NEIGHBOUR: 'it returns false'. Refute it at one input. -/
def elimStepsWrong : ChangeSpec := { name := "elimSteps", fn := fun _ => fun
  | [d] => { results := [.lit (.bool false)], args := [d] }
  | _ => none }
def ElimStepsWrongFalsely : Prop := elimStepsRow.holds Try.pinned (OpenSpec.ofChange elimStepsWrong)

/-- 'trammellaw06.ElimInverses': WHATEVER THE INPUT: true; the input reads as it did. -/
def elimInversesSpec : ChangeSpec := { name := "elimInverses", fn := fun _ => fun
  | [d] => { results := [.lit (.bool true)], args := [d] }
  | _ => none }
def elimInversesRow : OpenClaim := { program := "ytkljokmnimblnaa", sum := "3913cc449c9f64e7d3f58a06838e01de286096738885e1d737f9a4151e40775d", func := "trammel/trammellaw06.ElimInverses", spec := "elimInverses", apart := false }
def ElimInversesSaid : Prop := elimInversesRow.holds Try.pinned (OpenSpec.ofChange elimInversesSpec)

/-- ITS FALSE NEIGHBOUR: 'it returns false'. Refute it at one input. -/
def elimInversesWrong : ChangeSpec := { name := "elimInverses", fn := fun _ => fun
  | [d] => { results := [.lit (.bool false)], args := [d] }
  | _ => none }
def ElimInversesWrongFalsely : Prop := elimInversesRow.holds Try.pinned (OpenSpec.ofChange elimInversesWrong)

/-- 'trammellaw06.ElimProducts': WHATEVER THE INPUT: true; the input reads as it did. -/
def elimProductsSpec : ChangeSpec := { name := "elimProducts", fn := fun _ => fun
  | [d1, d2] => { results := [.lit (.bool true)], args := [d1, d2] }
  | _ => none }
def elimProductsRow : OpenClaim := { program := "ytkljokmnimblnaa", sum := "3913cc449c9f64e7d3f58a06838e01de286096738885e1d737f9a4151e40775d", func := "trammel/trammellaw06.ElimProducts", spec := "elimProducts", unfollowed := true, recurses := true, apart := false }
def ElimProductsSaid : Prop := elimProductsRow.holds Try.pinned (OpenSpec.ofChange elimProductsSpec)

/-- ITS FALSE NEIGHBOUR: 'it returns false'. Refute it at one input. -/
def elimProductsWrong : ChangeSpec := { name := "elimProducts", fn := fun _ => fun
  | [d1, d2] => { results := [.lit (.bool false)], args := [d1, d2] }
  | _ => none }
def ElimProductsWrongFalsely : Prop := elimProductsRow.holds Try.pinned (OpenSpec.ofChange elimProductsWrong)

/-- 'trammellaw06.ElimNulls': WHATEVER THE INPUT: true; the input reads as it did. -/
def elimNullsSpec : ChangeSpec := { name := "elimNulls", fn := fun _ => fun
  | [d] => { results := [.lit (.bool true)], args := [d] }
  | _ => none }
def elimNullsRow : OpenClaim := { program := "ytkljokmnimblnaa", sum := "3913cc449c9f64e7d3f58a06838e01de286096738885e1d737f9a4151e40775d", func := "trammel/trammellaw06.ElimNulls", spec := "elimNulls", apart := false }
def ElimNullsSaid : Prop := elimNullsRow.holds Try.pinned (OpenSpec.ofChange elimNullsSpec)

/-- ITS FALSE NEIGHBOUR: 'it returns false'. Refute it at one input. -/
def elimNullsWrong : ChangeSpec := { name := "elimNulls", fn := fun _ => fun
  | [d] => { results := [.lit (.bool false)], args := [d] }
  | _ => none }
def ElimNullsWrongFalsely : Prop := elimNullsRow.holds Try.pinned (OpenSpec.ofChange elimNullsWrong)

/-- 'trammellaw06.ElimSolves': WHATEVER THE INPUT: true; the input reads as it did. -/
def elimSolvesSpec : ChangeSpec := { name := "elimSolves", fn := fun _ => fun
  | [d1, d2] => { results := [.lit (.bool true)], args := [d1, d2] }
  | _ => none }
def elimSolvesRow : OpenClaim := { program := "ytkljokmnimblnaa", sum := "3913cc449c9f64e7d3f58a06838e01de286096738885e1d737f9a4151e40775d", func := "trammel/trammellaw06.ElimSolves", spec := "elimSolves", apart := false }
def ElimSolvesSaid : Prop := elimSolvesRow.holds Try.pinned (OpenSpec.ofChange elimSolvesSpec)

/-- ITS FALSE NEIGHBOUR: 'it returns false'. Refute it at one input. -/
def elimSolvesWrong : ChangeSpec := { name := "elimSolves", fn := fun _ => fun
  | [d1, d2] => { results := [.lit (.bool false)], args := [d1, d2] }
  | _ => none }
def ElimSolvesWrongFalsely : Prop := elimSolvesRow.holds Try.pinned (OpenSpec.ofChange elimSolvesWrong)

/-- 'trammellaw06.ElimRounds': WHATEVER THE INPUT: true; the input reads as it did. -/
def elimRoundsSpec : ChangeSpec := { name := "elimRounds", fn := fun _ => fun
  | [d] => { results := [.lit (.bool true)], args := [d] }
  | _ => none }
def elimRoundsRow : OpenClaim := { program := "ytkljokmnimblnaa", sum := "3913cc449c9f64e7d3f58a06838e01de286096738885e1d737f9a4151e40775d", func := "trammel/trammellaw06.ElimRounds", spec := "elimRounds", unfollowed := true, recurses := true, apart := false }
def ElimRoundsSaid : Prop := elimRoundsRow.holds Try.pinned (OpenSpec.ofChange elimRoundsSpec)

/-- ITS FALSE NEIGHBOUR: 'it returns false'. Refute it at one input. -/
def elimRoundsWrong : ChangeSpec := { name := "elimRounds", fn := fun _ => fun
  | [d] => { results := [.lit (.bool false)], args := [d] }
  | _ => none }
def ElimRoundsWrongFalsely : Prop := elimRoundsRow.holds Try.pinned (OpenSpec.ofChange elimRoundsWrong)

/-- 'trammellaw06.ElimGoes': WHATEVER THE INPUT: true; the input reads as it did. -/
def elimGoesSpec : ChangeSpec := { name := "elimGoes", fn := fun _ => fun
  | [d1, d2] => { results := [.lit (.bool true)], args := [d1, d2] }
  | _ => none }
def elimGoesRow : OpenClaim := { program := "ytkljokmnimblnaa", sum := "3913cc449c9f64e7d3f58a06838e01de286096738885e1d737f9a4151e40775d", func := "trammel/trammellaw06.ElimGoes", spec := "elimGoes", unfollowed := true, recurses := true, apart := false }
def ElimGoesSaid : Prop := elimGoesRow.holds Try.pinned (OpenSpec.ofChange elimGoesSpec)

/-- ITS FALSE NEIGHBOUR: 'it returns false'. Refute it at one input. -/
def elimGoesWrong : ChangeSpec := { name := "elimGoes", fn := fun _ => fun
  | [d1, d2] => { results := [.lit (.bool false)], args := [d1, d2] }
  | _ => none }
def ElimGoesWrongFalsely : Prop := elimGoesRow.holds Try.pinned (OpenSpec.ofChange elimGoesWrong)

/- THE SECOND FORM. 'bulk': how many values and letters a reading holds, each counted each time it is reached (what is shared counts as often as it is met; a slice's spare places count too). A statement '..UptoSaid' is the law's where the arguments, and the package variables that the reading takes, are together of bulk at most 1048576: NARROWER than '..Said'. Prove '..Said' where nothing that the law and all that it calls make is longer than what came in: it says more and counts as full. Else prove '..UptoSaid'. A law counts once. -/
mutual
def uptoBulk {H : Type} : DataW H → Nat
  | .lit (.string bytes) => bytes.length + 1
  | .lit _ => 1
  | .nil => 1
  | .ptr d => uptoBulk d + 1
  | .slice elems spare => uptoBulkAll elems + uptoBulkAll spare + 1
  | .agg parts => uptoBulkAll parts + 1
  | .iface _ d => uptoBulk d + 1
  | .map entries => uptoBulkEntries entries + 1
  | .held _ => 1
def uptoBulkAll {H : Type} : List (DataW H) → Nat
  | [] => 0
  | d :: r => uptoBulk d + uptoBulkAll r
def uptoBulkEntries {H : Type} : List (Lit × DataW H) → Nat
  | [] => 0
  | x :: r => uptoBulkEntry x + uptoBulkEntries r
def uptoBulkEntry {H : Type} : Lit × DataW H → Nat
  | (.string bytes, d) => bytes.length + uptoBulk d + 1
  | (_, d) => uptoBulk d + 1
 end
def uptoSmall : (H : Type) → List (DataW H) → Bool := fun _ ds => decide (uptoBulkAll ds ≤ 1048576)
def OpenSpec.upto (s : _root_.Go.ChangeSpec) : _root_.Go.OpenSpec := { _root_.Go.OpenSpec.ofChange s with cond := some uptoSmall }

/-- 'trammellaw06.ElimRanks', WHERE WHAT IT READS IS OF BULK AT MOST 1048576: true; the input reads as it did. -/
def elimRanksUptoRow : OpenClaim := { program := "ytkljokmnimblnaa", sum := "3913cc449c9f64e7d3f58a06838e01de286096738885e1d737f9a4151e40775d", func := "trammel/trammellaw06.ElimRanks", spec := "elimRanks", apart := false, narrowed := true }
def ElimRanksUptoSaid : Prop := elimRanksUptoRow.holds Try.pinned (OpenSpec.upto elimRanksSpec)

/-- 'trammellaw06.ElimMinors', WHERE WHAT IT READS IS OF BULK AT MOST 1048576: true; the input reads as it did. -/
def elimMinorsUptoRow : OpenClaim := { program := "ytkljokmnimblnaa", sum := "3913cc449c9f64e7d3f58a06838e01de286096738885e1d737f9a4151e40775d", func := "trammel/trammellaw06.ElimMinors", spec := "elimMinors", apart := false, narrowed := true }
def ElimMinorsUptoSaid : Prop := elimMinorsUptoRow.holds Try.pinned (OpenSpec.upto elimMinorsSpec)

/-- 'trammellaw06.ElimCramers', WHERE WHAT IT READS IS OF BULK AT MOST 1048576: true; the input reads as it did. -/
def elimCramersUptoRow : OpenClaim := { program := "ytkljokmnimblnaa", sum := "3913cc449c9f64e7d3f58a06838e01de286096738885e1d737f9a4151e40775d", func := "trammel/trammellaw06.ElimCramers", spec := "elimCramers", apart := false, narrowed := true }
def ElimCramersUptoSaid : Prop := elimCramersUptoRow.holds Try.pinned (OpenSpec.upto elimCramersSpec)

/-- 'trammellaw06.ElimDets', WHERE WHAT IT READS IS OF BULK AT MOST 1048576: true; the input reads as it did. -/
def elimDetsUptoRow : OpenClaim := { program := "ytkljokmnimblnaa", sum := "3913cc449c9f64e7d3f58a06838e01de286096738885e1d737f9a4151e40775d", func := "trammel/trammellaw06.ElimDets", spec := "elimDets", apart := false, narrowed := true }
def ElimDetsUptoSaid : Prop := elimDetsUptoRow.holds Try.pinned (OpenSpec.upto elimDetsSpec)

/-- 'trammellaw06.ElimSteps', WHERE WHAT IT READS IS OF BULK AT MOST 1048576: true; the input reads as it did. -/
def elimStepsUptoRow : OpenClaim := { program := "ytkljokmnimblnaa", sum := "3913cc449c9f64e7d3f58a06838e01de286096738885e1d737f9a4151e40775d", func := "trammel/trammellaw06.ElimSteps", spec := "elimSteps", apart := false, narrowed := true }
def ElimStepsUptoSaid : Prop := elimStepsUptoRow.holds Try.pinned (OpenSpec.upto elimStepsSpec)

/-- 'trammellaw06.ElimInverses', WHERE WHAT IT READS IS OF BULK AT MOST 1048576: true; the input reads as it did. -/
def elimInversesUptoRow : OpenClaim := { program := "ytkljokmnimblnaa", sum := "3913cc449c9f64e7d3f58a06838e01de286096738885e1d737f9a4151e40775d", func := "trammel/trammellaw06.ElimInverses", spec := "elimInverses", apart := false, narrowed := true }
def ElimInversesUptoSaid : Prop := elimInversesUptoRow.holds Try.pinned (OpenSpec.upto elimInversesSpec)

/-- 'trammellaw06.ElimProducts', WHERE WHAT IT READS IS OF BULK AT MOST 1048576: true; the input reads as it did. -/
def elimProductsUptoRow : OpenClaim := { program := "ytkljokmnimblnaa", sum := "3913cc449c9f64e7d3f58a06838e01de286096738885e1d737f9a4151e40775d", func := "trammel/trammellaw06.ElimProducts", spec := "elimProducts", unfollowed := true, recurses := true, apart := false, narrowed := true }
def ElimProductsUptoSaid : Prop := elimProductsUptoRow.holds Try.pinned (OpenSpec.upto elimProductsSpec)

/-- 'trammellaw06.ElimNulls', WHERE WHAT IT READS IS OF BULK AT MOST 1048576: true; the input reads as it did. -/
def elimNullsUptoRow : OpenClaim := { program := "ytkljokmnimblnaa", sum := "3913cc449c9f64e7d3f58a06838e01de286096738885e1d737f9a4151e40775d", func := "trammel/trammellaw06.ElimNulls", spec := "elimNulls", apart := false, narrowed := true }
def ElimNullsUptoSaid : Prop := elimNullsUptoRow.holds Try.pinned (OpenSpec.upto elimNullsSpec)

/-- 'trammellaw06.ElimSolves', WHERE WHAT IT READS IS OF BULK AT MOST 1048576: true; the input reads as it did. -/
def elimSolvesUptoRow : OpenClaim := { program := "ytkljokmnimblnaa", sum := "3913cc449c9f64e7d3f58a06838e01de286096738885e1d737f9a4151e40775d", func := "trammel/trammellaw06.ElimSolves", spec := "elimSolves", apart := false, narrowed := true }
def ElimSolvesUptoSaid : Prop := elimSolvesUptoRow.holds Try.pinned (OpenSpec.upto elimSolvesSpec)

/-- 'trammellaw06.ElimRounds', WHERE WHAT IT READS IS OF BULK AT MOST 1048576: true; the input reads as it did. -/
def elimRoundsUptoRow : OpenClaim := { program := "ytkljokmnimblnaa", sum := "3913cc449c9f64e7d3f58a06838e01de286096738885e1d737f9a4151e40775d", func := "trammel/trammellaw06.ElimRounds", spec := "elimRounds", unfollowed := true, recurses := true, apart := false, narrowed := true }
def ElimRoundsUptoSaid : Prop := elimRoundsUptoRow.holds Try.pinned (OpenSpec.upto elimRoundsSpec)

/-- 'trammellaw06.ElimGoes', WHERE WHAT IT READS IS OF BULK AT MOST 1048576: true; the input reads as it did. -/
def elimGoesUptoRow : OpenClaim := { program := "ytkljokmnimblnaa", sum := "3913cc449c9f64e7d3f58a06838e01de286096738885e1d737f9a4151e40775d", func := "trammel/trammellaw06.ElimGoes", spec := "elimGoes", unfollowed := true, recurses := true, apart := false, narrowed := true }
def ElimGoesUptoSaid : Prop := elimGoesUptoRow.holds Try.pinned (OpenSpec.upto elimGoesSpec)

end Rows
end Go.Proofs.Ytkljokmnimblnaa

/-
  No cell of these rows narrows 'for every input' (looked for: loops, veiled, ifaces, maps, wideKeys, modest, calm, conditions, laid).
  DERIVED. THE GIVEN ROWS OF THIS SEAT. 9 by the template 'for every input the law returns true; each argument reads behind the call as it read before'; 0 by the template 'total and deterministic' (their statements: YtofbhhncpjegfaaTotals.lean).
  GIVEN WITH THE SEED: the statements are not yours to turn. If you find one false, say at which input.
  Laid BY PROGRAM, IN A SANDBOX (cutbox-rows.mjs): the forced cells as the released guide's own fill.sh prints them over the translation 18857c775278d089… (all of the seat's roots in one cut). By AI agents, Wed Nov 11 2026. No macro, syntax, notation, axiom, sorry.
-/
import Derived.Test.YtofbhhncpjegfaaChecked
import GoSem.Claim
import GoSem.ClaimJoined
import GoSem.ClaimMapViews
import Derived.JoinedTies
import Derived.KernelRfl
namespace Go.Proofs.Ytofbhhncpjegfaa
/- THE CELL 'sum', in the pinned program and in every row, IS THE sha256 OF THE DUMP (.gsa) THAT YtofbhhncpjegfaaProg.lean LOADS. Nothing in Lean hashes anything: it is a label: what it is worth is what the hold of that sum in a sandbox is worth. -/
noncomputable def Try.pinned : Pinned := { name := "ytofbhhncpjegfaa", sum := "18857c775278d089fd4b31747e42088466ea291ba65a6eeb418273a628032b40", checked := Try.checked }
namespace Rows
def none {H : Type} : Left H := { results := [], args := [] }

/-- 'trammellaw04.MatSames': WHATEVER THE INPUT: true; the input reads as it did. -/
def matSamesSpec : ChangeSpec := { name := "matSames", fn := fun _ => fun
  | [d1, d2] => { results := [.lit (.bool true)], args := [d1, d2] }
  | _ => none }
def matSamesRow : OpenClaim := { program := "ytofbhhncpjegfaa", sum := "18857c775278d089fd4b31747e42088466ea291ba65a6eeb418273a628032b40", func := "trammel/trammellaw04.MatSames", spec := "matSames", apart := false }
def MatSamesSaid : Prop := matSamesRow.holds Try.pinned (OpenSpec.ofChange matSamesSpec)

/-- ITS FALSE NEIGHBOUR: 'it returns false'. Refute it at one input. -/
def matSamesWrong : ChangeSpec := { name := "matSames", fn := fun _ => fun
  | [d1, d2] => { results := [.lit (.bool false)], args := [d1, d2] }
  | _ => none }
def MatSamesWrongFalsely : Prop := matSamesRow.holds Try.pinned (OpenSpec.ofChange matSamesWrong)

/-- 'trammellaw04.MatShapes': WHATEVER THE INPUT: true; the input reads as it did. -/
def matShapesSpec : ChangeSpec := { name := "matShapes", fn := fun _ => fun
  | [d1, d2] => { results := [.lit (.bool true)], args := [d1, d2] }
  | _ => none }
def matShapesRow : OpenClaim := { program := "ytofbhhncpjegfaa", sum := "18857c775278d089fd4b31747e42088466ea291ba65a6eeb418273a628032b40", func := "trammel/trammellaw04.MatShapes", spec := "matShapes", unfollowed := true, recurses := true, apart := false }
def MatShapesSaid : Prop := matShapesRow.holds Try.pinned (OpenSpec.ofChange matShapesSpec)

/-- ITS FALSE NEIGHBOUR: 'it returns false'. Refute it at one input. -/
def matShapesWrong : ChangeSpec := { name := "matShapes", fn := fun _ => fun
  | [d1, d2] => { results := [.lit (.bool false)], args := [d1, d2] }
  | _ => none }
def MatShapesWrongFalsely : Prop := matShapesRow.holds Try.pinned (OpenSpec.ofChange matShapesWrong)

/-- 'trammellaw04.MatOrders': WHATEVER THE INPUT: true; the input reads as it did. -/
def matOrdersSpec : ChangeSpec := { name := "matOrders", fn := fun _ => fun
  | [d1, d2] => { results := [.lit (.bool true)], args := [d1, d2] }
  | _ => none }
def matOrdersRow : OpenClaim := { program := "ytofbhhncpjegfaa", sum := "18857c775278d089fd4b31747e42088466ea291ba65a6eeb418273a628032b40", func := "trammel/trammellaw04.MatOrders", spec := "matOrders", unfollowed := true, recurses := true, apart := false }
def MatOrdersSaid : Prop := matOrdersRow.holds Try.pinned (OpenSpec.ofChange matOrdersSpec)

/-- ITS FALSE NEIGHBOUR: 'it returns false'. Refute it at one input. -/
def matOrdersWrong : ChangeSpec := { name := "matOrders", fn := fun _ => fun
  | [d1, d2] => { results := [.lit (.bool false)], args := [d1, d2] }
  | _ => none }
def MatOrdersWrongFalsely : Prop := matOrdersRow.holds Try.pinned (OpenSpec.ofChange matOrdersWrong)

/-- 'trammellaw04.MatVectors': WHATEVER THE INPUT: true; the input reads as it did. -/
def matVectorsSpec : ChangeSpec := { name := "matVectors", fn := fun _ => fun
  | [d1, d2, d3] => { results := [.lit (.bool true)], args := [d1, d2, d3] }
  | _ => none }
def matVectorsRow : OpenClaim := { program := "ytofbhhncpjegfaa", sum := "18857c775278d089fd4b31747e42088466ea291ba65a6eeb418273a628032b40", func := "trammel/trammellaw04.MatVectors", spec := "matVectors", unfollowed := true, recurses := true, apart := false }
def MatVectorsSaid : Prop := matVectorsRow.holds Try.pinned (OpenSpec.ofChange matVectorsSpec)

/-- ITS FALSE NEIGHBOUR: 'it returns false'. Refute it at one input. -/
def matVectorsWrong : ChangeSpec := { name := "matVectors", fn := fun _ => fun
  | [d1, d2, d3] => { results := [.lit (.bool false)], args := [d1, d2, d3] }
  | _ => none }
def MatVectorsWrongFalsely : Prop := matVectorsRow.holds Try.pinned (OpenSpec.ofChange matVectorsWrong)

/-- 'trammellaw04.MatTexts': WHATEVER THE INPUT: true; the input reads as it did. -/
def matTextsSpec : ChangeSpec := { name := "matTexts", fn := fun _ => fun
  | [d1, d2] => { results := [.lit (.bool true)], args := [d1, d2] }
  | _ => none }
def matTextsRow : OpenClaim := { program := "ytofbhhncpjegfaa", sum := "18857c775278d089fd4b31747e42088466ea291ba65a6eeb418273a628032b40", func := "trammel/trammellaw04.MatTexts", spec := "matTexts", inPlace := ["internal/abi.NoEscape", "internal/bytealg.MakeNoZero"], unfollowed := true, recurses := true, apart := false }
def MatTextsSaid : Prop := matTextsRow.holds Try.pinned (OpenSpec.ofChange matTextsSpec)

/-- ITS FALSE NEIGHBOUR: 'it returns false'. Refute it at one input. -/
def matTextsWrong : ChangeSpec := { name := "matTexts", fn := fun _ => fun
  | [d1, d2] => { results := [.lit (.bool false)], args := [d1, d2] }
  | _ => none }
def MatTextsWrongFalsely : Prop := matTextsRow.holds Try.pinned (OpenSpec.ofChange matTextsWrong)

/-- 'trammellaw04.MatProducts': WHATEVER THE INPUT: true; the input reads as it did. -/
def matProductsSpec : ChangeSpec := { name := "matProducts", fn := fun _ => fun
  | [d1, d2, d3] => { results := [.lit (.bool true)], args := [d1, d2, d3] }
  | _ => none }
def matProductsRow : OpenClaim := { program := "ytofbhhncpjegfaa", sum := "18857c775278d089fd4b31747e42088466ea291ba65a6eeb418273a628032b40", func := "trammel/trammellaw04.MatProducts", spec := "matProducts", unfollowed := true, recurses := true, apart := false }
def MatProductsSaid : Prop := matProductsRow.holds Try.pinned (OpenSpec.ofChange matProductsSpec)

/-- ITS FALSE NEIGHBOUR: 'it returns false'. Refute it at one input. -/
def matProductsWrong : ChangeSpec := { name := "matProducts", fn := fun _ => fun
  | [d1, d2, d3] => { results := [.lit (.bool false)], args := [d1, d2, d3] }
  | _ => none }
def MatProductsWrongFalsely : Prop := matProductsRow.holds Try.pinned (OpenSpec.ofChange matProductsWrong)

/-- 'trammellaw04.MatLine': WHATEVER THE INPUT: true; the input reads as it did. -/
def matLineSpec : ChangeSpec := { name := "matLine", fn := fun _ => fun
  | [d1, d2, d3] => { results := [.lit (.bool true)], args := [d1, d2, d3] }
  | _ => none }
def matLineRow : OpenClaim := { program := "ytofbhhncpjegfaa", sum := "18857c775278d089fd4b31747e42088466ea291ba65a6eeb418273a628032b40", func := "trammel/trammellaw04.MatLine", spec := "matLine", inPlace := ["internal/abi.NoEscape", "internal/bytealg.MakeNoZero"], unfollowed := true, recurses := true, apart := false }
def MatLineSaid : Prop := matLineRow.holds Try.pinned (OpenSpec.ofChange matLineSpec)

/-- ITS FALSE NEIGHBOUR: 'it returns false'. Refute it at one input. -/
def matLineWrong : ChangeSpec := { name := "matLine", fn := fun _ => fun
  | [d1, d2, d3] => { results := [.lit (.bool false)], args := [d1, d2, d3] }
  | _ => none }
def MatLineWrongFalsely : Prop := matLineRow.holds Try.pinned (OpenSpec.ofChange matLineWrong)

/-- 'trammellaw04.MatMemory': WHATEVER THE INPUT: true; the input reads as it did. -/
def matMemorySpec : ChangeSpec := { name := "matMemory", fn := fun _ => fun
  | [d1, d2] => { results := [.lit (.bool true)], args := [d1, d2] }
  | _ => none }
def matMemoryRow : OpenClaim := { program := "ytofbhhncpjegfaa", sum := "18857c775278d089fd4b31747e42088466ea291ba65a6eeb418273a628032b40", func := "trammel/trammellaw04.MatMemory", spec := "matMemory", inPlace := ["internal/abi.NoEscape", "internal/bytealg.MakeNoZero"], unfollowed := true, recurses := true, apart := false }
def MatMemorySaid : Prop := matMemoryRow.holds Try.pinned (OpenSpec.ofChange matMemorySpec)

/-- ITS FALSE NEIGHBOUR: 'it returns false'. Refute it at one input. -/
def matMemoryWrong : ChangeSpec := { name := "matMemory", fn := fun _ => fun
  | [d1, d2] => { results := [.lit (.bool false)], args := [d1, d2] }
  | _ => none }
def MatMemoryWrongFalsely : Prop := matMemoryRow.holds Try.pinned (OpenSpec.ofChange matMemoryWrong)

/-- 'trammellaw04.MatLinear': WHATEVER THE INPUT: true; the input reads as it did. -/
def matLinearSpec : ChangeSpec := { name := "matLinear", fn := fun _ => fun
  | [d1, d2, d3] => { results := [.lit (.bool true)], args := [d1, d2, d3] }
  | _ => none }
def matLinearRow : OpenClaim := { program := "ytofbhhncpjegfaa", sum := "18857c775278d089fd4b31747e42088466ea291ba65a6eeb418273a628032b40", func := "trammel/trammellaw04.MatLinear", spec := "matLinear", inPlace := ["internal/abi.NoEscape", "internal/bytealg.MakeNoZero"], unfollowed := true, recurses := true, apart := false }
def MatLinearSaid : Prop := matLinearRow.holds Try.pinned (OpenSpec.ofChange matLinearSpec)

/-- ITS FALSE NEIGHBOUR: 'it returns false'. Refute it at one input. -/
def matLinearWrong : ChangeSpec := { name := "matLinear", fn := fun _ => fun
  | [d1, d2, d3] => { results := [.lit (.bool false)], args := [d1, d2, d3] }
  | _ => none }
def MatLinearWrongFalsely : Prop := matLinearRow.holds Try.pinned (OpenSpec.ofChange matLinearWrong)

/- THE SECOND FORM. 'bulk': how many values and letters a reading holds, each counted each time it is reached (what is shared counts as often as it is met; a slice's spare places count too). A statement '..UptoSaid' is the law's where the arguments, and the package variables that the reading takes, are together of bulk at most 1048576: NARROWER than '..Said'. Prove '..Said' where nothing that the law and all that it calls make is longer than what came in: it says more and counts as full. Else prove '..UptoSaid'. A law counts once. -/
mutual
def uptoBulk {H : Type} : DataW H → Nat
  | .lit (.string bytes) => bytes.length + 1
  | .lit _ => 1
  | .nil => 1
  | .ptr d => uptoBulk d + 1
  | .slice elems spare => uptoBulkAll elems + uptoBulkAll spare + 1
  | .agg parts => uptoBulkAll parts + 1
  | .iface _ d => uptoBulk d + 1
  | .map entries => uptoBulkEntries entries + 1
  | .held _ => 1
def uptoBulkAll {H : Type} : List (DataW H) → Nat
  | [] => 0
  | d :: r => uptoBulk d + uptoBulkAll r
def uptoBulkEntries {H : Type} : List (Lit × DataW H) → Nat
  | [] => 0
  | x :: r => uptoBulkEntry x + uptoBulkEntries r
def uptoBulkEntry {H : Type} : Lit × DataW H → Nat
  | (.string bytes, d) => bytes.length + uptoBulk d + 1
  | (_, d) => uptoBulk d + 1
 end
def uptoSmall : (H : Type) → List (DataW H) → Bool := fun _ ds => decide (uptoBulkAll ds ≤ 1048576)
def OpenSpec.upto (s : _root_.Go.ChangeSpec) : _root_.Go.OpenSpec := { _root_.Go.OpenSpec.ofChange s with cond := some uptoSmall }

/-- 'trammellaw04.MatSames', WHERE WHAT IT READS IS OF BULK AT MOST 1048576: true; the input reads as it did. -/
def matSamesUptoRow : OpenClaim := { program := "ytofbhhncpjegfaa", sum := "18857c775278d089fd4b31747e42088466ea291ba65a6eeb418273a628032b40", func := "trammel/trammellaw04.MatSames", spec := "matSames", apart := false, narrowed := true }
def MatSamesUptoSaid : Prop := matSamesUptoRow.holds Try.pinned (OpenSpec.upto matSamesSpec)

/-- 'trammellaw04.MatShapes', WHERE WHAT IT READS IS OF BULK AT MOST 1048576: true; the input reads as it did. -/
def matShapesUptoRow : OpenClaim := { program := "ytofbhhncpjegfaa", sum := "18857c775278d089fd4b31747e42088466ea291ba65a6eeb418273a628032b40", func := "trammel/trammellaw04.MatShapes", spec := "matShapes", unfollowed := true, recurses := true, apart := false, narrowed := true }
def MatShapesUptoSaid : Prop := matShapesUptoRow.holds Try.pinned (OpenSpec.upto matShapesSpec)

/-- 'trammellaw04.MatOrders', WHERE WHAT IT READS IS OF BULK AT MOST 1048576: true; the input reads as it did. -/
def matOrdersUptoRow : OpenClaim := { program := "ytofbhhncpjegfaa", sum := "18857c775278d089fd4b31747e42088466ea291ba65a6eeb418273a628032b40", func := "trammel/trammellaw04.MatOrders", spec := "matOrders", unfollowed := true, recurses := true, apart := false, narrowed := true }
def MatOrdersUptoSaid : Prop := matOrdersUptoRow.holds Try.pinned (OpenSpec.upto matOrdersSpec)

/-- 'trammellaw04.MatVectors', WHERE WHAT IT READS IS OF BULK AT MOST 1048576: true; the input reads as it did. -/
def matVectorsUptoRow : OpenClaim := { program := "ytofbhhncpjegfaa", sum := "18857c775278d089fd4b31747e42088466ea291ba65a6eeb418273a628032b40", func := "trammel/trammellaw04.MatVectors", spec := "matVectors", unfollowed := true, recurses := true, apart := false, narrowed := true }
def MatVectorsUptoSaid : Prop := matVectorsUptoRow.holds Try.pinned (OpenSpec.upto matVectorsSpec)

/-- 'trammellaw04.MatTexts', WHERE WHAT IT READS IS OF BULK AT MOST 1048576: true; the input reads as it did. -/
def matTextsUptoRow : OpenClaim := { program := "ytofbhhncpjegfaa", sum := "18857c775278d089fd4b31747e42088466ea291ba65a6eeb418273a628032b40", func := "trammel/trammellaw04.MatTexts", spec := "matTexts", inPlace := ["internal/abi.NoEscape", "internal/bytealg.MakeNoZero"], unfollowed := true, recurses := true, apart := false, narrowed := true }
def MatTextsUptoSaid : Prop := matTextsUptoRow.holds Try.pinned (OpenSpec.upto matTextsSpec)

/-- 'trammellaw04.MatProducts', WHERE WHAT IT READS IS OF BULK AT MOST 1048576: true; the input reads as it did. -/
def matProductsUptoRow : OpenClaim := { program := "ytofbhhncpjegfaa", sum := "18857c775278d089fd4b31747e42088466ea291ba65a6eeb418273a628032b40", func := "trammel/trammellaw04.MatProducts", spec := "matProducts", unfollowed := true, recurses := true, apart := false, narrowed := true }
def MatProductsUptoSaid : Prop := matProductsUptoRow.holds Try.pinned (OpenSpec.upto matProductsSpec)

/-- 'trammellaw04.MatLine', WHERE WHAT IT READS IS OF BULK AT MOST 1048576: true; the input reads as it did. -/
def matLineUptoRow : OpenClaim := { program := "ytofbhhncpjegfaa", sum := "18857c775278d089fd4b31747e42088466ea291ba65a6eeb418273a628032b40", func := "trammel/trammellaw04.MatLine", spec := "matLine", inPlace := ["internal/abi.NoEscape", "internal/bytealg.MakeNoZero"], unfollowed := true, recurses := true, apart := false, narrowed := true }
def MatLineUptoSaid : Prop := matLineUptoRow.holds Try.pinned (OpenSpec.upto matLineSpec)

/-- 'trammellaw04.MatMemory', WHERE WHAT IT READS IS OF BULK AT MOST 1048576: true; the input reads as it did. -/
def matMemoryUptoRow : OpenClaim := { program := "ytofbhhncpjegfaa", sum := "18857c775278d089fd4b31747e42088466ea291ba65a6eeb418273a628032b40", func := "trammel/trammellaw04.MatMemory", spec := "matMemory", inPlace := ["internal/abi.NoEscape", "internal/bytealg.MakeNoZero"], unfollowed := true, recurses := true, apart := false, narrowed := true }
def MatMemoryUptoSaid : Prop := matMemoryUptoRow.holds Try.pinned (OpenSpec.upto matMemorySpec)

/-- 'trammellaw04.MatLinear', WHERE WHAT IT READS IS OF BULK AT MOST 1048576: true; the input reads as it did. -/
def matLinearUptoRow : OpenClaim := { program := "ytofbhhncpjegfaa", sum := "18857c775278d089fd4b31747e42088466ea291ba65a6eeb418273a628032b40", func := "trammel/trammellaw04.MatLinear", spec := "matLinear", inPlace := ["internal/abi.NoEscape", "internal/bytealg.MakeNoZero"], unfollowed := true, recurses := true, apart := false, narrowed := true }
def MatLinearUptoSaid : Prop := matLinearUptoRow.holds Try.pinned (OpenSpec.upto matLinearSpec)

end Rows
end Go.Proofs.Ytofbhhncpjegfaa

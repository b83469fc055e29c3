/- The arguments of a law, with what they hold together. -/
import Derived.Test.YtofbhhncpjegfaaO3
import Derived.Test.YtofbhhncpjegfaaT2
set_option linter.unusedVariables false
namespace Go.Abs
open Go.ChangeShapes Go.WideShapes Go.RowKit
open Go.Proofs.Ytofbhhncpjegfaa.Rows (uptoBulk uptoBulkAll)
section
variable {K : Type} {enc : TypeId × Value → K} {P : Program} {w : World} {base : Nat} {sp : Nat → Bool} {held : Bool} {tm tv tz tb tn te : TypeId} {v : Value} {fuel : Nat} {x : DataW K × List MemPlace} {b1 : Nat}
theorem Types.arg_matT (T : Types P tm tv tz tb tn te) (hok : Value.okWide P w .any b1 tm v) (h : DataW.trod enc P w base sp held fuel tm v.cells.toList = some x) (hb : uptoBulk x.1 ≤ 1048576) : ∃ b, (Mok 1048576 b ∧ TotM b) ∧ ∀ φ, Rep ⟨φ, [], w⟩ v (matV b) := by
  obtain ⟨b, s, l, e, c1, c2⟩ := T.open_mat h
  rw [cells_slice T.mat hok] at s
  exact ⟨b, ⟨mok_of l e hb, ⟨by omega, by omega, Nat.le_trans c2 hb⟩⟩, fun φ => s.rep1 rfl φ⟩
theorem Types.arg_vecT (T : Types P tm tv tz tb tn te) (hok : Value.okWide P w .any b1 tv v) (h : DataW.trod enc P w base sp held fuel tv v.cells.toList = some x) (hb : uptoBulk x.1 ≤ 1048576) : ∃ b, (Vok 1048576 b ∧ TotV b) ∧ ∀ φ, Rep ⟨φ, [], w⟩ v (vecV b) := by
  obtain ⟨b, s, l, e, c⟩ := T.open_vec h
  rw [cells_slice T.vec hok] at s
  exact ⟨b, ⟨vok_of l e hb, ⟨by omega, Nat.le_trans c hb⟩⟩, fun φ => s.rep1 rfl φ⟩
end
end Go.Abs

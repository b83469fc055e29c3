/- The arguments of a law, each by its kind. -/
import Derived.Test.YtofbhhncpjegfaaO2
set_option linter.unusedVariables false
set_option linter.unusedSimpArgs false
namespace Go.Abs
open Go.ChangeShapes Go.WideShapes Go.RowKit
open Go.Proofs.Ytofbhhncpjegfaa.Rows (uptoBulk uptoBulkAll)

section
variable {K : Type} {enc : TypeId × Value → K} {P : Program} {w : World} {base : Nat} {sp : Nat → Bool} {held : Bool} {tm tv tz tb tn te : TypeId} {v : Value} {fuel : Nat} {x : DataW K × List MemPlace} {b1 : Nat}

theorem Types.arg_mat (T : Types P tm tv tz tb tn te) (hok : Value.okWide P w .any b1 tm v) (h : DataW.trod enc P w base sp held fuel tm v.cells.toList = some x) (hb : uptoBulk x.1 ≤ 1048576) : ∃ b, Mok 1048576 b ∧ ∀ φ, Rep ⟨φ, [], w⟩ v (matV b) := by
  obtain ⟨b, s, l, e, _⟩ := T.open_mat h
  rw [cells_slice T.mat hok] at s
  exact ⟨b, mok_of l e hb, fun φ => s.rep1 rfl φ⟩
theorem Types.arg_vec (T : Types P tm tv tz tb tn te) (hok : Value.okWide P w .any b1 tv v) (h : DataW.trod enc P w base sp held fuel tv v.cells.toList = some x) (hb : uptoBulk x.1 ≤ 1048576) : ∃ b, Vok 1048576 b ∧ ∀ φ, Rep ⟨φ, [], w⟩ v (vecV b) := by
  obtain ⟨b, s, l, e, _⟩ := T.open_vec h
  rw [cells_slice T.vec hok] at s
  exact ⟨b, vok_of l e hb, fun φ => s.rep1 rfl φ⟩
theorem Types.arg_z (T : Types P tm tv tz tb tn te) (hok : Value.okWide P w .any b1 tz v) (h : DataW.trod enc P w base sp held fuel tz v.cells.toList = some x) (hb : uptoBulk x.1 ≤ 1048576) : ∃ b : ZI, Zok 1048576 b ∧ ∀ φ, Rep ⟨φ, [], w⟩ v b.av := by
  obtain ⟨fs, f0, f1, h1, h2, h3, h4⟩ := T.num
  unfold Value.okWide at hok
  rw [h1] at hok
  obtain ⟨cs, rfl, hsz, _⟩ := hok
  rw [T.cz] at hsz
  obtain ⟨z, s, e⟩ := T.open_z h (by simpa [Value.cells] using hsz)
  refine ⟨z, e.mono hb, fun φ => ?_⟩
  have := Rep.agg (E := ⟨φ, [], w⟩) cs.toList z.av.cells s.len s.one (s.rep φ)
  rw [Array.toArray_toList] at this
  exact this
theorem cells_one {c : Value} (h : v.cells.toList = [c]) (hn : ∀ cs, v ≠ .agg cs) : v = c := by
  cases v with
  | agg cs => exact absurd rfl (hn cs)
  | _ => exact (List.cons.inj h).1
theorem arg_int {t : TypeId} (ht : P.underlying t = some (.int .i64)) (hok : Value.okWide P w .any b1 t v) (h : DataW.trod enc P w base sp held fuel t v.cells.toList = some x) : ∃ n : Int, (-9223372036854775808 ≤ n ∧ n < 9223372036854775808) ∧ ∀ φ, Rep ⟨φ, [], w⟩ v (.int .i64 n) := by
  obtain ⟨n, hc, hx, hwf⟩ := DataW.trod_int ht h
  have hb := bounds_i64 hwf
  refine ⟨n, ⟨hb.1, by omega⟩, fun φ => ?_⟩
  have : v = .int .i64 n := cells_one hc (by
    rintro cs rfl
    unfold Value.okWide at hok
    rw [ht] at hok
    simp [Cell.okWide, Cell.ok, ht] at hok)
  subst this
  exact .int _ _
theorem arg_str {t : TypeId} (ht : P.underlying t = some .string) (hok : Value.okWide P w .any b1 t v) (h : DataW.trod enc P w base sp held fuel t v.cells.toList = some x) (hb : uptoBulk x.1 ≤ 1048576) : ∃ s : ByteArray, s.size ≤ 1048576 ∧ ∀ φ, Rep ⟨φ, [], w⟩ v (.str s) := by
  obtain ⟨s, hc, hx, _⟩ := DataW.trod_string ht h
  rw [hx] at hb
  simp only [uptoBulk] at hb
  refine ⟨s, by have : s.data.toList.length = s.size := Array.length_toList
                omega, fun φ => ?_⟩
  have : v = .string s := cells_one hc (by
    rintro cs rfl
    unfold Value.okWide at hok
    rw [ht] at hok
    simp [Cell.okWide, Cell.ok, ht] at hok)
  subst this
  exact .str _
end
end Go.Abs

/- A library's contract as a walk's. -/
import Derived.Test.YtmbjamifiadncaaDoorA17
import Derived.Below
set_option linter.unusedVariables false
namespace Go.Abs
theorem PureC.ofBelow {P : Program} {f : FuncId} {fn : Func} (hf : P.funcs[f]? = some fn) (hn : (fn.name == "runtime.NumGoroutine") = false) (hb : fn.body.isSome = true) {args : List AV} {r : AV}
    (h : ∀ (E : Emb) (vs : List Value), HOk E → vs.length = args.length → (∀ (k : Nat) v a, vs[k]? = some v → args[k]? = some a → Rep E v a) →
      Calls P f vs.toArray E.w fun e w' => (∃ v, e = .returned v ∧ ∀ E', Rep E' v r) ∧ Go.RowKit.Below E.w.heap.size E.w w') : PureC P f args r := by
  intro H
  refine ⟨⟨fn, hf, hn, hb⟩, fun φ w vs hok hl hrep => (h ⟨φ, H, w⟩ vs hok hl hrep).mono ?_⟩
  rintro e w' ⟨⟨v, rfl, hv⟩, hbl⟩
  exact ⟨v, r, φ, H, rfl, ⟨rfl, rfl⟩, HOk.of_heap (E := ⟨φ, H, w⟩) hbl.os hbl.tape hbl.output hbl.size (fun b hb => hbl.block b hb) hok, hv _, Nat.le_refl _,
    Ext.of_heap (E := ⟨φ, H, w⟩) hbl.os hbl.tape hbl.output hbl.size (fun b hb => hbl.block b hb) hok⟩
end Go.Abs

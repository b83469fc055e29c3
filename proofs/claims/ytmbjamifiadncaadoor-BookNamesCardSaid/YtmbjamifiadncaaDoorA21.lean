/- A row handed to a function that only answers: it is a value from there on. -/
import Derived.Test.YtmbjamifiadncaaDoorA19
set_option linter.unusedVariables false
set_option linter.unusedSimpArgs false
namespace Go.Abs

theorem PureC.consume {P : Program} {f : FuncId} {args : List AV} {r : AV} {H : Heap} {id : Nat} {b : Blk} (hl : H[id]? = some (some b)) (hcl : ∀ c ∈ b.flat, Cl c)
    (h : PureC P f (args.map (frz id b)) r) : ACalls P f args H fun r' H' => r' = r ∧ H' = frzH id b H := by
  have h0 := h (frzH id b H)
  refine ⟨h0.1, fun φ w vs hok hlen hrep => ?_⟩
  have hok' := frz_ok hok hl hcl
  refine (h0.2 φ w vs hok' (by simpa using hlen) fun k v a hv ha => ?_).mono ?_
  · rw [List.getElem?_map, Option.map_eq_some_iff] at ha
    obtain ⟨a0, ha, rfl⟩ := ha
    exact frz_rep hok hl hcl (hrep k v a0 hv ha)
  · rintro e w' ⟨v, r', φ', H', rfl, hr, q1, q2, q3, q4⟩
    have hlen2 : (frzH id b H).length = H.length := by simp [frzH]
    rw [hlen2] at q3 q4
    exact ⟨v, r', φ', H', rfl, hr, q1, q2, q3, (frz_ext.sub fun _ _ => trivial).trans q4⟩

/-- The i-th of the call's own rows. -/
theorem PureC.consumeL {P : Program} {f : FuncId} {args : List AV} {r : AV} {H L : Heap} {R : AV → Heap → Prop} (hH : HRefs H) (i : Nat) {b : Blk} (hl : L[i]? = some (some b)) (hcl : ∀ c ∈ b.flat, Cl c)
    (h : PureC P f (args.map (frz (lid H i) b)) r) (k : R r (hap H ((frzL (lid H i) b L).set i none))) : ACalls P f args (hap H L) R := by
  have hl' : (hap H L)[lid H i]? = some (some b) := by
    unfold hap lid
    rw [List.getElem?_append_right (by omega), Nat.add_sub_cancel_left]; exact hl
  refine (PureC.consume hl' hcl h).mono ?_
  rintro r' H' ⟨rfl, rfl⟩
  rw [frzH_hap hH]; exact k
end Go.Abs

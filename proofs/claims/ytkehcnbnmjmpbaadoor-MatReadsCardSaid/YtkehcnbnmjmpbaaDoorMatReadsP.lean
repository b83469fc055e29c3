/- MatReads: for every text, in whatever memory, the law answers true, and what was handed in reads as it did; the row and its tied card. -/
import Derived.Test.YtkehcnbnmjmpbaaDoorMatReadsK6
import Derived.Test.YtkehcnbnmjmpbaaDoorRows
import Derived.Test.YtkehcnbnmjmpbaaDoorCards
import Derived.Test.YtkehcnbnmjmpbaaDoorTie
import Derived.OpenShut
import Derived.LaidMore
import Derived.Lay
import Derived.SevenTiedAt
import Derived.Stop.Joined
namespace Go.Proofs.YtkehcnbnmjmpbaaDoor.matReads
open Go.ChangeShapes Go.WideShapes Go.ChangeAt Go.RowKit Go.Abs
set_option linter.unusedVariables false
section
open Go.Abs
variable {P : Program} {H : Type} {enc : TypeId × Value → H} {w : World} {base b1 : Nat} {sp : Nat → Bool} {held : Bool} {fuel : Nat} {x : DataW H × List MemPlace}
theorem arg_strS {t : TypeId} (ht : P.underlying t = some .string) {v : Value} (hok : Value.okWide P w .any b1 t v) (h : DataW.trod enc P w base sp held fuel t v.cells.toList = some x) : ∃ s : ByteArray, ∀ φ, Rep ⟨φ, [], w⟩ v (.str s) := by
  obtain ⟨s, hc, hx, _⟩ := DataW.trod_string ht h
  refine ⟨s, fun φ => ?_⟩
  have : v = .string s := c2s hc (by
    rintro cs rfl
    unfold Value.okWide at hok
    rw [ht] at hok
    simp [Cell.okWide, Cell.ok, ht] at hok)
  subst this
  exact .str _
end
theorem own : ownKnob Tryd.prog.godebug = none := by kernel_rfl
theorem laidOut : laidOutB Tryd.prog = true := by kernel_rfl
set_option maxRecDepth 100000 in
theorem lifted (os : Os) (started : os.Started) (H : Type) (enc : TypeId × Value → H) :
    ReturnsInHanded {} Tryd.checked os 3 .any (fun w args => (Rows.matReadsSpec.pre enc Tryd.prog Tryd.f3 Rows.matReadsRow.domain false w args ∧ laidMetH Tryd.prog Rows.matReadsRow.laid w) ∧ sizedMet enc Tryd.prog Tryd.f3 (OpenSpec.ofChange Rows.matReadsSpec) false w args)
      (Rows.matReadsSpec.post enc Tryd.prog Tryd.f3 false true false false) := by
  refine returnsInHanded_of_change_and (C := Tryd.checked) (X := fun w _ => laidMetH Tryd.prog Rows.matReadsRow.laid w) (fun _ _ _ hh h => h.of_heap hh) own started (by kernel_rfl) Tryd.func3
    (ChangeSpec.witness_shaped (enc := enc) (C := Tryd.checked) (os := os) (X := fun w _ => laidMetH Tryd.prog Rows.matReadsRow.laid w) false (World.laidAll Tryd.prog os Rows.matReadsRow.laid) #[.string ⟨#[]⟩] 8 (World.laidAll_os _ _ _)
      (World.shaped_of_ZipB (by kernel_rfl) (by kernel_rfl)) (by kernel_rfl) (by kernel_rfl) (by kernel_rfl)
      (by rw [MakeChecks.laidMetH_plain _ _ _ (by kernel_rfl)]; exact laidMet_laidAll _ (by kernel_rfl) (by kernel_rfl))) ?_
  intro W base args ds gs before hval0 hW hc _ hL _
  have hW' := hW
  obtain ⟨p, q, hA0, hV, rfl, _, _⟩ := hW
  have hA : DataW.TrodAll enc Tryd.prog W 0 (fun _ => true) true Tryd.f3.params.toList args.toList ds p := hA0
  rw [Tryd.params3] at hA hval0
  obtain ⟨v0, d0, rfl, rfl, h0⟩ := trodAll_one hA
  obtain ⟨rfl, rfl⟩ := trodVars_none hV
  obtain ⟨f0, g0⟩ := h0
  obtain ⟨a0, r0⟩ := arg_strS (P := Tryd.prog) (w := W) (by kernel_rfl) (hval0 0 9 v0 (by simp) (by simp)) g0
  have hr : Tryd.f3.resultTypes = #[4] := by kernel_rfl
  refine (c1U (b6n a0.data.toList) (by simp) (fun k v a hv ha => ?_)).mono fun e W' ⟨he, hg⟩ => ⟨_, he, c3a hW' rfl rfl hr Tryd.underlying4 laidOut (by kernel_rfl) hg⟩
  match k with
  | 0 => cases hv; cases ha; exact r0 _
  | k + 1 => simp at hv
theorem said : Rows.MatReadsSaid :=
  OpenClaim.holds_of_wide 3 Tryd.f3 rfl rfl rfl rfl rfl rfl rfl ⟨rfl, rfl, rfl, rfl, rfl⟩ rfl rfl rfl rfl rfl (by kernel_rfl) Tryd.func3 (by kernel_rfl)
    (of_decide_eq_true (by kernel_rfl)) (by unfold Func.isWrapper; first | (rw [if_pos (by decide +kernel)]; kernel_rfl) | (rw [if_neg (by decide +kernel)]; exact ⟨rfl, rfl⟩))
    (fun os started H enc _ => lifted os started H enc)
theorem plain (f : FuncId) (fn : Func) (hf : Tryd.pinned.checked.prog.funcNamed "trammel/trammellaw04.MatReads" = some f) (hfn : Tryd.pinned.checked.prog.funcs[f]? = some fn) :
    true = Tryd.pinned.checked.prog.looks [] ∧ ∀ (j : Nat) t, fn.params[j]? = some t → Tryd.pinned.checked.prog.wantsStandIn t = false := by
  obtain rfl : f = 3 := Option.some.inj ((show Tryd.prog.funcNamed "trammel/trammellaw04.MatReads" = some 3 by kernel_rfl).symm.trans hf) |>.symm
  obtain rfl : fn = Tryd.f3 := (Option.some.inj (Tryd.func3.symm.trans hfn)).symm
  refine ⟨by kernel_rfl, fun j t ht => ?_⟩
  rw [Tryd.params3] at ht
  have e : t = 9 := by
    match j with
    | 0 => exact (Option.some.inj (show some 9 = some t from ht)).symm
    | j + 1 => simp at ht
  subst e
  show Tryd.prog.wantsStandIn 9 = false
  kernel_rfl
theorem proved : Rows.MatReadsCardSaid :=
  Claim7.holds_tied_plain_at .later [] _ _ _ _ said (fun _ h => by cases h) (by kernel_rfl) (fun _ h => by cases h) matReads_row_tie rfl ⟨rfl, rfl⟩ (by kernel_rfl) rfl plain (by kernel_rfl)
end Go.Proofs.YtkehcnbnmjmpbaaDoor.matReads

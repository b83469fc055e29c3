/- BookRests: for all its arguments the law answers true, and what was handed in reads as it did. -/
import Derived.Test.YtclecbomkhgflaaGreatDoorBookRestsK9
import Derived.Test.YtclecbomkhgflaaGreatDoorRows
import Derived.Test.YtclecbomkhgflaaGreatDoorCards
import Derived.Test.YtclecbomkhgflaaGreatDoorTie
import Derived.OpenShut
import Derived.LaidMore
import Derived.Lay
import Derived.SevenTiedAt
import Derived.Stop.Joined
namespace Go.Proofs.YtclecbomkhgflaaGreatDoor.bookRests
open Go.ChangeShapes Go.WideShapes Go.ChangeAt Go.RowKit Go.Abs
set_option linter.unusedVariables false
section
open Go.Abs
variable {P : Program} {H : Type} {enc : TypeId × Value → H} {w : World} {base b1 : Nat} {sp : Nat → Bool} {held : Bool} {fuel : Nat} {x : DataW H × List MemPlace}
theorem arg_strS {t : TypeId} (ht : P.underlying t = some .string) {v : Value} (hok : Value.okWide P w .any b1 t v) (h : DataW.trod enc P w base sp held fuel t v.cells.toList = some x) : ∃ s : ByteArray, x.1 = .lit (.string s.data.toList) ∧ ∀ φ, Rep ⟨φ, [], w⟩ v (.str s) := by
  obtain ⟨s, hc, hx, _⟩ := DataW.trod_string ht h
  refine ⟨s, by rw [hx], fun φ => ?_⟩
  have : v = .string s := c8O hc (by
    rintro cs rfl
    unfold Value.okWide at hok
    rw [ht] at hok
    simp [Cell.okWide, Cell.ok, ht] at hok)
  subst this
  exact .str _
theorem arg_u16 {t : TypeId} (ht : P.underlying t = some (.int .u16)) {v : Value} (hok : Value.okWide P w .any b1 t v) (h : DataW.trod enc P w base sp held fuel t v.cells.toList = some x) : ∃ n : Int, (0 ≤ n ∧ n < 65536) ∧ ∀ φ, Rep ⟨φ, [], w⟩ v (.int .u16 n) := by
  obtain ⟨n, hc, hx, hwf⟩ := DataW.trod_int ht h
  have hb : 0 ≤ n ∧ n < 65536 := by
    have h1 : (IntKind.min .u16 ≤ n ∧ n ≤ IntKind.max .u16) := by simpa [Lit.wf] using hwf
    have e1 : IntKind.min .u16 = 0 := rfl
    have e2 : IntKind.max .u16 = 65535 := rfl
    omega
  refine ⟨n, hb, fun φ => ?_⟩
  have : v = .int .u16 n := c8O hc (by
    rintro cs rfl
    unfold Value.okWide at hok
    rw [ht] at hok
    simp [Cell.okWide, Cell.ok, ht] at hok)
  subst this
  exact .int _ _
end
theorem own : ownKnob Tryz.prog.godebug = none := by kernel_rfl
theorem laidOut : laidOutB Tryz.prog = true := by kernel_rfl
set_option maxRecDepth 100000 in
theorem lifted (os : Os) (started : os.Started) (H : Type) (enc : TypeId × Value → H) :
    ReturnsInHanded {} Tryz.checked os 4 .any (fun w args => (Rows.bookRestsSpec.pre enc Tryz.prog Tryz.f4 Rows.bookRestsRow.domain false w args ∧ laidMetH Tryz.prog Rows.bookRestsRow.laid w) ∧ sizedMet enc Tryz.prog Tryz.f4 (OpenSpec.ofChange Rows.bookRestsSpec) false w args)
      (Rows.bookRestsSpec.post enc Tryz.prog Tryz.f4 false true false false) := by
  refine returnsInHanded_of_change_and (C := Tryz.checked) (X := fun w args => laidMetH Tryz.prog Rows.bookRestsRow.laid w) (fun _ _ _ hh h => h.of_heap hh) own started (by kernel_rfl) Tryz.func4
    (ChangeSpec.witness_shaped (enc := enc) (C := Tryz.checked) (os := os) (X := fun w _ => laidMetH Tryz.prog Rows.bookRestsRow.laid w) false (World.laidAll Tryz.prog os Rows.bookRestsRow.laid) #[.string ⟨#[]⟩, .string ⟨#[]⟩, .int .u16 0] 8 (World.laidAll_os _ _ _)
      (World.shaped_of_ZipB (by kernel_rfl) (by kernel_rfl)) (by kernel_rfl) (by kernel_rfl) (by kernel_rfl)
      (by rw [MakeChecks.laidMetH_plain _ _ _ (by kernel_rfl)]; exact laidMet_laidAll _ (by kernel_rfl) (by kernel_rfl))) ?_
  intro W base args ds gs before hval0 hW hc hsz hL _
  have hW' := hW
  obtain ⟨p, q, hA0, hV, rfl, _, _⟩ := hW
  have hA : DataW.TrodAll enc Tryz.prog W 0 (fun _ => true) true Tryz.f4.params.toList args.toList ds p := hA0
  rw [Tryz.params4] at hA hval0
  obtain ⟨v0, v1, v2, d0, d1, d2, p0, p1, p2, rfl, rfl, rfl, h0, h1, h2⟩ := trodAll_three hA
  obtain ⟨rfl, rfl⟩ := trodVars_none hV
  obtain ⟨f0, g0⟩ := h0
  obtain ⟨f1, g1⟩ := h1
  obtain ⟨f2, g2⟩ := h2
  obtain ⟨a0, e0, r0⟩ := arg_strS (P := Tryz.prog) (w := W) (by kernel_rfl) (hval0 0 9 v0 (by simp) (by simp)) g0
  obtain ⟨a1, e1, r1⟩ := arg_strS (P := Tryz.prog) (w := W) (by kernel_rfl) (hval0 1 9 v1 (by simp) (by simp)) g1
  obtain ⟨a2, m2, r2⟩ := arg_u16 (P := Tryz.prog) (w := W) (by kernel_rfl) (hval0 2 35 v2 (by simp) (by simp)) g2
  have hr : Tryz.f4.resultTypes = #[4] := by kernel_rfl
  have hb1 : a1.data.toList.length ≤ 140737488355328 := by
    have hm : a1.data.toList.length ∈ DataW.weightsEach Tryz.prog (Tryz.f4.params.toList ++ Rows.bookRestsSpec.plain.varTypes Tryz.prog) ([d0, d1, d2] ++ []) := by
      rw [Tryz.params4, show d1 = _ from e1]
      simp [DataW.weightsEach, DataW.weights]
    have h1 := List.all_eq_true.1 hsz _ hm
    exact Nat.le_trans (of_decide_eq_true h1) (by decide)
  refine (d6h (c3P a0.data.toList a1.data.toList a2 m2 hb1) (by simp) (fun k v a hv ha => ?_)).mono fun e W' ⟨he, hg⟩ => ⟨_, he, d8M hW' rfl rfl hr Tryz.underlying4 laidOut (by kernel_rfl) hg⟩
  match k with
  | 0 => cases hv; cases ha; exact r0 _
  | 1 => cases hv; cases ha; exact r1 _
  | 2 => cases hv; cases ha; exact r2 _
  | k + 3 => simp at hv
theorem said : Rows.BookRestsSaid :=
  OpenClaim.holds_of_wide 4 Tryz.f4 rfl rfl rfl rfl rfl rfl rfl ⟨rfl, rfl, rfl, rfl, rfl⟩ rfl rfl rfl rfl rfl (by kernel_rfl) Tryz.func4 (by kernel_rfl)
    (of_decide_eq_true (by kernel_rfl)) (by unfold Func.isWrapper; first | (rw [if_pos (by decide +kernel)]; kernel_rfl) | (rw [if_neg (by decide +kernel)]; exact ⟨rfl, rfl⟩))
    (fun os started H enc _ => lifted os started H enc)
theorem plain (f : FuncId) (fn : Func) (hf : Tryz.pinned.checked.prog.funcNamed "trammel/trammellaw27.BookRests" = some f) (hfn : Tryz.pinned.checked.prog.funcs[f]? = some fn) :
    false = Tryz.pinned.checked.prog.looks [] ∧ ∀ (j : Nat) t, fn.params[j]? = some t → Tryz.pinned.checked.prog.wantsStandIn t = false := by
  obtain rfl : f = 4 := Option.some.inj ((show Tryz.prog.funcNamed "trammel/trammellaw27.BookRests" = some 4 by kernel_rfl).symm.trans hf) |>.symm
  obtain rfl : fn = Tryz.f4 := (Option.some.inj (Tryz.func4.symm.trans hfn)).symm
  refine ⟨by kernel_rfl, fun j t ht => ?_⟩
  rw [Tryz.params4] at ht
  have e : t = 9 ∨ t = 9 ∨ t = 35 := by
    match j with
    | 0 => exact .inl <| (Option.some.inj (show some 9 = some t from ht)).symm
    | 1 => exact .inr <| .inl <| (Option.some.inj (show some 9 = some t from ht)).symm
    | 2 => exact .inr <| .inr <| (Option.some.inj (show some 35 = some t from ht)).symm
    | j + 3 => simp at ht
  rcases e with rfl | rfl | rfl
  · show Tryz.prog.wantsStandIn 9 = false; kernel_rfl
  · show Tryz.prog.wantsStandIn 9 = false; kernel_rfl
  · show Tryz.prog.wantsStandIn 35 = false; kernel_rfl
theorem proved : Rows.BookRestsCardSaid :=
  Claim7.holds_tied_plain_at .later [] _ _ _ _ said (fun _ h => by cases h) (by kernel_rfl) (fun _ h => by cases h) bookRests_row_tie rfl ⟨rfl, rfl⟩ (by kernel_rfl) rfl plain (by kernel_rfl)
end Go.Proofs.YtclecbomkhgflaaGreatDoor.bookRests

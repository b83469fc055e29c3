/- BookBack: for all its arguments that read as data of bulk at most 1048576 together, the law answers true, and what was handed in reads as it did. -/
import Derived.Test.YtclecbomkhgflaaGreatDoorBookBackK9
import Derived.OpenShut
import Derived.Test.YtclecbomkhgflaaGreatDoorRows
import Derived.Test.YtclecbomkhgflaaGreatDoorCards
import Derived.Test.YtclecbomkhgflaaGreatDoorTie
import Derived.LaidMore
import Derived.Lay
import Derived.SevenTiedAt
import Derived.Deep.DeepHandedRow
namespace Go.Proofs.YtclecbomkhgflaaGreatDoor.bookBack
open Go.ChangeShapes Go.WideShapes Go.ChangeAt Go.RowKit Go.Abs
set_option linter.unusedVariables false
theorem own : ownKnob Tryz.prog.godebug = none := by kernel_rfl
theorem laidOut : laidOutB Tryz.prog = true := by kernel_rfl
theorem types : Types Pr 37 88 40 4 38 125 :=
  ⟨by kernel_rfl, by kernel_rfl, ⟨_, _, _, Tryz.underlying40, rfl, ⟨rfl, rfl⟩, ⟨rfl, rfl⟩⟩, by kernel_rfl, by kernel_rfl, by kernel_rfl, by kernel_rfl, by kernel_rfl, by kernel_rfl, by kernel_rfl, by kernel_rfl⟩
set_option maxRecDepth 100000 in
theorem contract (H : Type) (enc : TypeId × Value → H) (W : World) (base : Nat) (args : Array Value) (ds gs : List (DataW H)) (before : List MemPlace)
    (hval : ∀ (j : Nat) t v, Tryz.f5.params[j]? = some t → args[j]? = some v → Value.okWide Tryz.prog W .any base t v)
    (hW : DataW.Whole enc Tryz.prog Tryz.f5.params.toList Rows.bookBackSpec.vars false W args.toList ds gs before) (hk : Rows.uptoSmall H (ds ++ gs) = true) :
    Calls Tryz.prog 5 args W fun e W' => ∃ v, e = .returned v ∧ Rows.bookBackSpec.post enc Tryz.prog Tryz.f5 false true false false W args v W' := by
  have hW' := hW
  obtain ⟨p, q, hA0, hV, rfl, hfz, hnd⟩ := hW
  have hA : DataW.TrodAll enc Tryz.prog W 0 (fun _ => true) true Tryz.f5.params.toList args.toList ds p := hA0
  rw [Tryz.params5] at hA hval
  obtain ⟨v0, v1, v2, v3, d0, d1, d2, d3, p0, p1, p2, p3, rfl, rfl, rfl, h0, h1, h2, h3⟩ := trodAll_four hA
  obtain ⟨rfl, rfl⟩ := trodVars_none hV
  have hb : Rows.uptoBulkAll [d0, d1, d2, d3] ≤ 1048576 := by
    rw [List.append_nil] at hk
    exact of_decide_eq_true hk
  simp only [Rows.uptoBulkAll] at hb
  obtain ⟨f0, g0⟩ := h0
  obtain ⟨f1, g1⟩ := h1
  obtain ⟨f2, g2⟩ := h2
  obtain ⟨f3, g3⟩ := h3
  obtain ⟨a0, m0, r0⟩ := types.arg_mat (P := Tryz.prog) (w := W) (hval 0 37 v0 (by simp) (by simp)) g0 (show Rows.uptoBulk d0 ≤ 1048576 by omega)
  obtain ⟨a1, m1, r1⟩ := e0g (P := Tryz.prog) (w := W) (by kernel_rfl) (hval 1 3 v1 (by simp) (by simp)) g1
  obtain ⟨a2, m2, r2⟩ := e0g (P := Tryz.prog) (w := W) (by kernel_rfl) (hval 2 3 v2 (by simp) (by simp)) g2
  obtain ⟨a3, m3, r3⟩ := types.arg_z (P := Tryz.prog) (w := W) (hval 3 40 v3 (by simp) (by simp)) g3 (show Rows.uptoBulk d3 ≤ 1048576 by omega)
  have hr : Tryz.f5.resultTypes = #[4] := by kernel_rfl
  refine (d8z (c8H a0 a1 a2 a3 m0 m3) (by simp) ?_).mono fun e W' ⟨he, hg⟩ => ⟨_, he, e1e hW' rfl rfl hr types.bool laidOut (by kernel_rfl) hg⟩
  intro k v c hv hc
  match k with
  | 0 => cases hv; cases hc; exact r0 _
  | 1 => cases hv; cases hc; exact r1 _
  | 2 => cases hv; cases hc; exact r2 _
  | 3 => cases hv; cases hc; exact r3 _
  | k + 4 => simp at hv
set_option maxRecDepth 100000 in
theorem lifted (os : Os) (started : os.Started) (H : Type) (enc : TypeId × Value → H) (F : Stop.Interp) :
    ReturnsInHanded {} Tryz.checked os 5 .any ((Rows.OpenSpec.upto Rows.bookBackSpec).preRow enc Tryz.prog Tryz.f5 Rows.bookBackUptoRow.domain false Rows.bookBackUptoRow.laid) (((Rows.OpenSpec.upto Rows.bookBackSpec).at F).post enc Tryz.prog Tryz.f5 false true false false) := by
  refine returnsInHanded_of_row (C := Tryz.checked) (s := Rows.OpenSpec.upto Rows.bookBackSpec) own started (by kernel_rfl) Tryz.func5
    ⟨World.laidAll Tryz.prog os Rows.bookBackUptoRow.laid, fun _ _ => 0, ⟨#[], #[.slice none 0 0, .int .i64 0, .int .i64 0, .agg #[.bool false, .slice none 0 0]], []⟩, World.laidAll_os _ _ _,
      World.shaped_of_ZipB (by kernel_rfl) (by kernel_rfl), rfl, (Input.okWide_of_okWideB (by kernel_rfl)).2,
      OpenSpec.preRow_of_cond 8 (x := ([.nil, .lit (.int .i64 0), .lit (.int .i64 0), .agg [.lit (.bool false), .nil]], [], [])) (by kernel_rfl) rfl (fun k hk => by cases hk; kernel_rfl) (by kernel_rfl) (by rw [MakeChecks.laidMetH_plain _ _ _ (by kernel_rfl)]; exact laidMet_laidAll _ (by kernel_rfl) (by kernel_rfl)),
      by simp only [Assume.holds]; exact ⟨by simp, by simp, fun _ => Modest.zero, by simp, by simp⟩⟩ ?_
  intro W base args ds gs before hval hW _ hk _ _ _ _
  exact contract H enc W base args ds gs before hval hW (hk _ rfl)
theorem said : Rows.BookBackUptoSaid :=
  OpenClaim.holds_of_cond 5 Tryz.f5 rfl rfl rfl rfl rfl rfl rfl ⟨rfl, rfl, rfl, rfl, rfl⟩ rfl rfl rfl rfl rfl (by kernel_rfl) Tryz.func5 (by kernel_rfl)
    (of_decide_eq_true (by kernel_rfl)) (by unfold Func.isWrapper; first | (rw [if_pos (by decide +kernel)]; kernel_rfl) | (rw [if_neg (by decide +kernel)]; exact ⟨rfl, rfl⟩))
    (fun os started H enc _ F => by rw [OpenClaim.pre_eq_preRow]; exact lifted os started H enc F)
theorem plain (f : FuncId) (fn : Func) (hf : Tryz.pinned.checked.prog.funcNamed "trammel/trammellaw27.BookBack" = some f) (hfn : Tryz.pinned.checked.prog.funcs[f]? = some fn) :
    false = Tryz.pinned.checked.prog.looks [] ∧ ∀ (j : Nat) t, fn.params[j]? = some t → Tryz.pinned.checked.prog.wantsStandIn t = false := by
  obtain rfl : f = 5 := Option.some.inj ((show Tryz.prog.funcNamed "trammel/trammellaw27.BookBack" = some 5 by kernel_rfl).symm.trans hf) |>.symm
  obtain rfl : fn = Tryz.f5 := (Option.some.inj (Tryz.func5.symm.trans hfn)).symm
  refine ⟨by kernel_rfl, fun j t ht => ?_⟩
  rw [Tryz.params5] at ht
  have e : t = 37 ∨ t = 3 ∨ t = 3 ∨ t = 40 := by
    match j with
    | 0 => exact .inl <| (Option.some.inj (show some 37 = some t from ht)).symm
    | 1 => exact .inr <| .inl <| (Option.some.inj (show some 3 = some t from ht)).symm
    | 2 => exact .inr <| .inr <| .inl <| (Option.some.inj (show some 3 = some t from ht)).symm
    | 3 => exact .inr <| .inr <| .inr <| (Option.some.inj (show some 40 = some t from ht)).symm
    | j + 4 => simp at ht
  rcases e with rfl | rfl | rfl | rfl
  · show Tryz.prog.wantsStandIn 37 = false; kernel_rfl
  · show Tryz.prog.wantsStandIn 3 = false; kernel_rfl
  · show Tryz.prog.wantsStandIn 3 = false; kernel_rfl
  · show Tryz.prog.wantsStandIn 40 = false; kernel_rfl
theorem proved : Rows.BookBackUptoCardSaid :=
  Claim7.holds_tied_plain_at .later [] _ _ _ _ said (fun _ h => by cases h) (by kernel_rfl) (fun _ h => by cases h) bookBackUpto_row_tie rfl ⟨rfl, rfl⟩ (by kernel_rfl) rfl plain (by kernel_rfl)
end Go.Proofs.YtclecbomkhgflaaGreatDoor.bookBack

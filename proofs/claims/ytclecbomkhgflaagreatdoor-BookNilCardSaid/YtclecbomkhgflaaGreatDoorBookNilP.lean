/- BookNil: for all its arguments the law answers true, and what was handed in reads as it did. -/
import Derived.Test.YtclecbomkhgflaaGreatDoorBookNilK9
import Derived.Test.YtclecbomkhgflaaGreatDoorRows
import Derived.Test.YtclecbomkhgflaaGreatDoorCards
import Derived.Test.YtclecbomkhgflaaGreatDoorTie
import Derived.OpenShut
import Derived.LaidMore
import Derived.Lay
import Derived.SevenTiedAt
import Derived.Stop.Joined
namespace Go.Proofs.YtclecbomkhgflaaGreatDoor.bookNil
open Go.ChangeShapes Go.WideShapes Go.ChangeAt Go.RowKit Go.Abs
set_option linter.unusedVariables false
section
open Go.Abs
variable {P : Program} {H : Type} {enc : TypeId × Value → H} {w : World} {base b1 : Nat} {sp : Nat → Bool} {held : Bool} {fuel : Nat} {x : DataW H × List MemPlace}
theorem arg_strS {t : TypeId} (ht : P.underlying t = some .string) {v : Value} (hok : Value.okWide P w .any b1 t v) (h : DataW.trod enc P w base sp held fuel t v.cells.toList = some x) : ∃ s : ByteArray, x.1 = .lit (.string s.data.toList) ∧ ∀ φ, Rep ⟨φ, [], w⟩ v (.str s) := by
  obtain ⟨s, hc, hx, _⟩ := DataW.trod_string ht h
  refine ⟨s, by rw [hx], fun φ => ?_⟩
  have : v = .string s := d0m hc (by
    rintro cs rfl
    unfold Value.okWide at hok
    rw [ht] at hok
    simp [Cell.okWide, Cell.ok, ht] at hok)
  subst this
  exact .str _
theorem arg_zS {tm tv tz tb tn te : TypeId} (T : Types P tm tv tz tb tn te) {v : Value} (hok : Value.okWide P w .any b1 tz v) (h : DataW.trod enc P w base sp held fuel tz v.cells.toList = some x) : ∃ b : ZI, ∀ φ, Rep ⟨φ, [], w⟩ v b.av := by
  obtain ⟨fs, f0, f1, h1, h2, h3, h4⟩ := T.num
  unfold Value.okWide at hok
  rw [h1] at hok
  obtain ⟨cs, rfl, hsz, _⟩ := hok
  rw [T.cz] at hsz
  obtain ⟨z, s, e⟩ := T.open_z h (by simpa [Value.cells] using hsz)
  refine ⟨z, fun φ => ?_⟩
  have := Rep.agg (E := ⟨φ, [], w⟩) cs.toList z.av.cells s.len s.one (s.rep φ)
  rw [Array.toArray_toList] at this
  exact this
end
theorem own : ownKnob Tryz.prog.godebug = none := by kernel_rfl
theorem laidOut : laidOutB Tryz.prog = true := by kernel_rfl
theorem types : Types Pr 37 88 40 4 38 125 :=
  ⟨by kernel_rfl, by kernel_rfl, ⟨_, _, _, Tryz.underlying40, rfl, ⟨rfl, rfl⟩, ⟨rfl, rfl⟩⟩, by kernel_rfl, by kernel_rfl, by kernel_rfl, by kernel_rfl, by kernel_rfl, by kernel_rfl, by kernel_rfl, by kernel_rfl⟩
set_option maxRecDepth 100000 in
theorem lifted (os : Os) (started : os.Started) (H : Type) (enc : TypeId × Value → H) :
    ReturnsInHanded {} Tryz.checked os 7 .any (fun w args => (Rows.bookNilSpec.pre enc Tryz.prog Tryz.f7 Rows.bookNilRow.domain false w args ∧ laidMetH Tryz.prog Rows.bookNilRow.laid w) ∧ sizedMet enc Tryz.prog Tryz.f7 (OpenSpec.ofChange Rows.bookNilSpec) false w args)
      (Rows.bookNilSpec.post enc Tryz.prog Tryz.f7 false true false false) := by
  refine returnsInHanded_of_change_and (C := Tryz.checked) (X := fun w args => laidMetH Tryz.prog Rows.bookNilRow.laid w) (fun _ _ _ hh h => h.of_heap hh) own started (by kernel_rfl) Tryz.func7
    (ChangeSpec.witness_shaped (enc := enc) (C := Tryz.checked) (os := os) (X := fun w _ => laidMetH Tryz.prog Rows.bookNilRow.laid w) false (World.laidAll Tryz.prog os Rows.bookNilRow.laid) #[.string ⟨#[]⟩, .int .i64 0, .agg #[.bool false, .slice none 0 0]] 8 (World.laidAll_os _ _ _)
      (World.shaped_of_ZipB (by kernel_rfl) (by kernel_rfl)) (by kernel_rfl) (by kernel_rfl) (by kernel_rfl)
      (by rw [MakeChecks.laidMetH_plain _ _ _ (by kernel_rfl)]; exact laidMet_laidAll _ (by kernel_rfl) (by kernel_rfl))) ?_
  intro W base args ds gs before hval0 hW hc hsz hL _
  have hW' := hW
  obtain ⟨p, q, hA0, hV, rfl, _, _⟩ := hW
  have hA : DataW.TrodAll enc Tryz.prog W 0 (fun _ => true) true Tryz.f7.params.toList args.toList ds p := hA0
  rw [Tryz.params7] at hA hval0
  obtain ⟨v0, v1, v2, d0, d1, d2, p0, p1, p2, rfl, rfl, rfl, h0, h1, h2⟩ := trodAll_three hA
  obtain ⟨rfl, rfl⟩ := trodVars_none hV
  obtain ⟨f0, g0⟩ := h0
  obtain ⟨f1, g1⟩ := h1
  obtain ⟨f2, g2⟩ := h2
  obtain ⟨a0, e0, r0⟩ := arg_strS (P := Tryz.prog) (w := W) (by kernel_rfl) (hval0 0 9 v0 (by simp) (by simp)) g0
  obtain ⟨a1, m1, r1⟩ := e4Q (P := Tryz.prog) (w := W) (by kernel_rfl) (hval0 1 3 v1 (by simp) (by simp)) g1
  obtain ⟨a2, r2⟩ := arg_zS (P := Tryz.prog) (w := W) types (hval0 2 40 v2 (by simp) (by simp)) g2
  have hr : Tryz.f7.resultTypes = #[4] := by kernel_rfl
  refine (d7y (d0p a0.data.toList a1 a2) (by simp) (fun k v a hv ha => ?_)).mono fun e W' ⟨he, hg⟩ => ⟨_, he, d9P hW' rfl rfl hr Tryz.underlying4 laidOut (by kernel_rfl) hg⟩
  match k with
  | 0 => cases hv; cases ha; exact r0 _
  | 1 => cases hv; cases ha; exact r1 _
  | 2 => cases hv; cases ha; exact r2 _
  | k + 3 => simp at hv
theorem said : Rows.BookNilSaid :=
  OpenClaim.holds_of_wide 7 Tryz.f7 rfl rfl rfl rfl rfl rfl rfl ⟨rfl, rfl, rfl, rfl, rfl⟩ rfl rfl rfl rfl rfl (by kernel_rfl) Tryz.func7 (by kernel_rfl)
    (of_decide_eq_true (by kernel_rfl)) (by unfold Func.isWrapper; first | (rw [if_pos (by decide +kernel)]; kernel_rfl) | (rw [if_neg (by decide +kernel)]; exact ⟨rfl, rfl⟩))
    (fun os started H enc _ => lifted os started H enc)
theorem plain (f : FuncId) (fn : Func) (hf : Tryz.pinned.checked.prog.funcNamed "trammel/trammellaw27.BookNil" = some f) (hfn : Tryz.pinned.checked.prog.funcs[f]? = some fn) :
    false = Tryz.pinned.checked.prog.looks [] ∧ ∀ (j : Nat) t, fn.params[j]? = some t → Tryz.pinned.checked.prog.wantsStandIn t = false := by
  obtain rfl : f = 7 := Option.some.inj ((show Tryz.prog.funcNamed "trammel/trammellaw27.BookNil" = some 7 by kernel_rfl).symm.trans hf) |>.symm
  obtain rfl : fn = Tryz.f7 := (Option.some.inj (Tryz.func7.symm.trans hfn)).symm
  refine ⟨by kernel_rfl, fun j t ht => ?_⟩
  rw [Tryz.params7] at ht
  have e : t = 9 ∨ t = 3 ∨ t = 40 := by
    match j with
    | 0 => exact .inl <| (Option.some.inj (show some 9 = some t from ht)).symm
    | 1 => exact .inr <| .inl <| (Option.some.inj (show some 3 = some t from ht)).symm
    | 2 => exact .inr <| .inr <| (Option.some.inj (show some 40 = some t from ht)).symm
    | j + 3 => simp at ht
  rcases e with rfl | rfl | rfl
  · show Tryz.prog.wantsStandIn 9 = false; kernel_rfl
  · show Tryz.prog.wantsStandIn 3 = false; kernel_rfl
  · show Tryz.prog.wantsStandIn 40 = false; kernel_rfl
theorem proved : Rows.BookNilCardSaid :=
  Claim7.holds_tied_plain_at .later [] _ _ _ _ said (fun _ h => by cases h) (by kernel_rfl) (fun _ h => by cases h) bookNil_row_tie rfl ⟨rfl, rfl⟩ (by kernel_rfl) rfl plain (by kernel_rfl)
end Go.Proofs.YtclecbomkhgflaaGreatDoor.bookNil

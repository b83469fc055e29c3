/- The walks on the way of the one call: the line's cutting, the name, the reader. -/
import Derived.Test.YtmbjamifiadncaaDoorB1
set_option linter.unusedVariables false
set_option linter.unusedSimpArgs false
namespace Go.Abs
open Go.Proofs

set_option linter.defProp false in
def E0 := And.intro EV (And.intro @pv_mkbf (And.intro @callvK_bfn @nref_bfn))
theorem c0 : ((0 : Nat) : Int) = 0 := rfl
theorem c1 : ((1 : Nat) : Int) = 1 := rfl
theorem c8 : ((8 : Nat) : Int) = 8 := rfl
theorem c9 : ((9 : Nat) : Int) = 9 := rfl
theorem c10 : ((10 : Nat) : Int) = 10 := rfl
abbrev sText : ByteArray := ⟨#[108, 97, 116, 116, 105, 99, 101, 32, 90, 10]⟩
abbrev sLine : ByteArray := ⟨#[108, 97, 116, 116, 105, 99, 101, 32, 90]⟩
abbrev sLat : ByteArray := ⟨#[108, 97, 116, 116, 105, 99, 101, 32]⟩
abbrev sZ : ByteArray := ⟨#[90]⟩
abbrev sNl : ByteArray := ⟨#[10]⟩
abbrev sNo : ByteArray := ⟨#[]⟩
theorem ACalls.introB {P : Program} {mu : Nat → Nat → Bool} {f : FuncId} {fn : Func} (hf : P.funcs[f]? = some fn) {ac : ACode} {rs : List ResV} {nt : Nat} (hc : fchk P mu fn = some (ac, rs, nt))
    {args : List AV} {H : Heap} {R : AV → Heap → Prop} (ha : args.length ≤ nt) (h : HRefs H → Safe ⟨P, mu, f, nt, rs, H.length⟩ [.code ac] (envOf 0 args) (hap H []) R) : ACalls P f args H R := ACalls.intro hf hc ha fun hH => by
  have := h hH
  rw [show hap H [] = H by simp [hap]] at this
  exact this
theorem indexbyte_pure (s : ByteArray) (c : Int) : PureC Pr F_internal_stringslite_IndexByte [.str s, .int .u8 c] (.int .i64 (Lib.indexByte s.data.toList c.toNat.toUInt8)) := by
  refine PureC.ofBelow Tryd.func26 (by decide +kernel) (by kernel_rfl) fun E vs hok hl hr => ?_
  obtain ⟨v0, v1, rfl⟩ : ∃ v0 v1, vs = [v0, v1] := by
    match vs, hl with
    | [v0, v1], _ => exact ⟨v0, v1, rfl⟩
  have h0 := rep_str_inv (hr 0 v0 _ rfl rfl)
  have h1 := rep_int_inv (hr 1 v1 _ rfl rfl)
  subst h0; subst h1
  refine (Tryd.stringslite_IndexByte s c E.w).mono ?_
  rintro e w' ⟨rfl, rfl⟩
  exact ⟨⟨_, rfl, fun E' => .int _ _⟩, Go.RowKit.Below.refl _ _⟩
theorem index_pure : PureC Pr F_internal_stringslite_Index [.str sText, .str sNl] (.int .i64 9) := by
  refine PureC.intro internal_stringslite_Index_fn internal_stringslite_Index_ok (Nat.le_of_ble_eq_true rfl) (.int _ _) fun H hH => ?_
  refine Safe.rg rfl ?_
  simp only [internal_stringslite_Index_r0, E0, List.getElem?_cons_zero, List.getElem?_cons_succ, Option.isSome_some, List.map_cons, List.map_nil, List.nil_append, List.cons_append, c0, c1, c8, c9, c10, Int.reduceEq, Int.reduceNe, Int.reduceLT, Int.reduceLE, Int.reduceGT, Int.reduceGE, Int.reduceAdd, Int.reduceToNat, decide_true, decide_false, Bool.not_true, Bool.not_false, Nat.reduceLeDiff, Nat.reduceSub, Nat.reduceAdd, Nat.reduceEqDiff, reduceCtorEq, ↓reduceIte]
  refine Safe.rg rfl ?_
  simp only [internal_stringslite_Index_r1, E0, List.getElem?_cons_zero, List.getElem?_cons_succ, Option.isSome_some, List.map_cons, List.map_nil, List.nil_append, List.cons_append, c0, c1, c8, c9, c10, Int.reduceEq, Int.reduceNe, Int.reduceLT, Int.reduceLE, Int.reduceGT, Int.reduceGE, Int.reduceAdd, Int.reduceToNat, decide_true, decide_false, Bool.not_true, Bool.not_false, Nat.reduceLeDiff, Nat.reduceSub, Nat.reduceAdd, Nat.reduceEqDiff, reduceCtorEq, ↓reduceIte]
  have e1 : sNl.size = 1 := rfl
  have e2 : sText.size = 10 := rfl
  have e3 : Lib.indexByte sText.data.toList (10 : Int).toNat.toUInt8 = 9 := by decide
  have hib := indexbyte_pure sText 10
  rw [e3] at hib
  have e4 : (sNl.toList == sText.toList) = false := by decide +kernel
  have e5 : (sNl.data.toList.getD (Int.toNat 0) 0).toNat = 10 := rfl
  refine Safe.rg rfl ?_
  simp only [internal_stringslite_Index_r2, e1, e4, E0, List.getElem?_cons_zero, List.getElem?_cons_succ, Option.isSome_some, List.map_cons, List.map_nil, List.nil_append, List.cons_append, c0, c1, c8, c9, c10, Int.reduceEq, Int.reduceNe, Int.reduceLT, Int.reduceLE, Int.reduceGT, Int.reduceGE, Int.reduceAdd, Int.reduceToNat, decide_true, decide_false, Bool.not_true, Bool.not_false, Nat.reduceLeDiff, Nat.reduceSub, Nat.reduceAdd, Nat.reduceEqDiff, reduceCtorEq, ↓reduceIte]
  refine Safe.cd rfl ?_
  simp only [E0, List.getElem?_cons_zero, List.getElem?_cons_succ, Option.isSome_some, List.map_cons, List.map_nil, List.nil_append, List.cons_append, c0, c1, c8, c9, c10, Int.reduceEq, Int.reduceNe, Int.reduceLT, Int.reduceLE, Int.reduceGT, Int.reduceGE, Int.reduceAdd, Int.reduceToNat, decide_true, decide_false, Bool.not_true, Bool.not_false, Nat.reduceLeDiff, Nat.reduceSub, Nat.reduceAdd, Nat.reduceEqDiff, reduceCtorEq, ↓reduceIte]
  refine Safe.rg rfl ?_
  simp only [internal_stringslite_Index_r4, e1, E0, List.getElem?_cons_zero, List.getElem?_cons_succ, Option.isSome_some, List.map_cons, List.map_nil, List.nil_append, List.cons_append, c0, c1, c8, c9, c10, Int.reduceEq, Int.reduceNe, Int.reduceLT, Int.reduceLE, Int.reduceGT, Int.reduceGE, Int.reduceAdd, Int.reduceToNat, decide_true, decide_false, Bool.not_true, Bool.not_false, Nat.reduceLeDiff, Nat.reduceSub, Nat.reduceAdd, Nat.reduceEqDiff, reduceCtorEq, ↓reduceIte]
  refine Safe.cd rfl ?_
  simp only [E0, List.getElem?_cons_zero, List.getElem?_cons_succ, Option.isSome_some, List.map_cons, List.map_nil, List.nil_append, List.cons_append, c0, c1, c8, c9, c10, Int.reduceEq, Int.reduceNe, Int.reduceLT, Int.reduceLE, Int.reduceGT, Int.reduceGE, Int.reduceAdd, Int.reduceToNat, decide_true, decide_false, Bool.not_true, Bool.not_false, Nat.reduceLeDiff, Nat.reduceSub, Nat.reduceAdd, Nat.reduceEqDiff, reduceCtorEq, ↓reduceIte]
  refine Safe.rg rfl ?_
  simp only [internal_stringslite_Index_r5, e1, e5, E0, List.getElem?_cons_zero, List.getElem?_cons_succ, Option.isSome_some, List.map_cons, List.map_nil, List.nil_append, List.cons_append, c0, c1, c8, c9, c10, Int.reduceEq, Int.reduceNe, Int.reduceLT, Int.reduceLE, Int.reduceGT, Int.reduceGE, Int.reduceAdd, Int.reduceToNat, decide_true, decide_false, Bool.not_true, Bool.not_false, Nat.reduceLeDiff, Nat.reduceSub, Nat.reduceAdd, Nat.reduceEqDiff, reduceCtorEq, ↓reduceIte]
  first | refine (hib).acall ?_ | refine (hib).dcall ?_
  try simp only [E0, List.getElem?_cons_zero, List.getElem?_cons_succ, Option.isSome_some, List.map_cons, List.map_nil, List.nil_append, List.cons_append, c0, c1, c8, c9, c10, Int.reduceEq, Int.reduceNe, Int.reduceLT, Int.reduceLE, Int.reduceGT, Int.reduceGE, Int.reduceAdd, Int.reduceToNat, decide_true, decide_false, Bool.not_true, Bool.not_false, Nat.reduceLeDiff, Nat.reduceSub, Nat.reduceAdd, Nat.reduceEqDiff, reduceCtorEq, ↓reduceIte]
  refine Safe.rt rfl ?_
  simp only [E0, List.getElem?_cons_zero, List.getElem?_cons_succ, Option.isSome_some, List.map_cons, List.map_nil, List.nil_append, List.cons_append, c0, c1, c8, c9, c10, Int.reduceEq, Int.reduceNe, Int.reduceLT, Int.reduceLE, Int.reduceGT, Int.reduceGE, Int.reduceAdd, Int.reduceToNat, decide_true, decide_false, Bool.not_true, Bool.not_false, Nat.reduceLeDiff, Nat.reduceSub, Nat.reduceAdd, Nat.reduceEqDiff, reduceCtorEq, ↓reduceIte]
  first | exact ⟨rfl, _, rfl⟩ | exact ⟨_, rfl⟩ | exact ⟨trivial, _, rfl⟩
theorem litecut_pure : PureC Pr F_internal_stringslite_Cut [.str sText, .str sNl] (.tup [.str sLine, .str sNo, .bool true]) := by
  have h1 : slcS (.str sText) none (some (.int .i64 9)) = some (.str sLine) := by rfl
  have h2 : slcS (.str sText) (some (.int .i64 10)) none = some (.str sNo) := by rfl
  have e1 : sNl.size = 1 := rfl
  have hw : IntKind.wrap .i64 (9 + 1) = 10 := by decide
  have hw2 : IntKind.wrap .i64 10 = 10 := by decide
  refine PureC.intro internal_stringslite_Cut_fn internal_stringslite_Cut_ok (Nat.le_of_ble_eq_true rfl) (.tup _ fun c hc => by simp at hc; rcases hc with rfl | rfl | rfl; exact .str _; exact .str _; exact .bool _) fun H hH => ?_
  refine Safe.rg rfl ?_
  simp only [internal_stringslite_Cut_r0, E0, List.getElem?_cons_zero, List.getElem?_cons_succ, Option.isSome_some, List.map_cons, List.map_nil, List.nil_append, List.cons_append, c0, c1, c8, c9, c10, Int.reduceEq, Int.reduceNe, Int.reduceLT, Int.reduceLE, Int.reduceGT, Int.reduceGE, Int.reduceAdd, Int.reduceToNat, decide_true, decide_false, Bool.not_true, Bool.not_false, Nat.reduceLeDiff, Nat.reduceSub, Nat.reduceAdd, Nat.reduceEqDiff, reduceCtorEq, ↓reduceIte]
  refine Safe.rg rfl ?_
  simp only [internal_stringslite_Cut_r1, E0, List.getElem?_cons_zero, List.getElem?_cons_succ, Option.isSome_some, List.map_cons, List.map_nil, List.nil_append, List.cons_append, c0, c1, c8, c9, c10, Int.reduceEq, Int.reduceNe, Int.reduceLT, Int.reduceLE, Int.reduceGT, Int.reduceGE, Int.reduceAdd, Int.reduceToNat, decide_true, decide_false, Bool.not_true, Bool.not_false, Nat.reduceLeDiff, Nat.reduceSub, Nat.reduceAdd, Nat.reduceEqDiff, reduceCtorEq, ↓reduceIte]
  first | refine (index_pure).acall ?_ | refine (index_pure).dcall ?_
  try simp only [E0, List.getElem?_cons_zero, List.getElem?_cons_succ, Option.isSome_some, List.map_cons, List.map_nil, List.nil_append, List.cons_append, c0, c1, c8, c9, c10, Int.reduceEq, Int.reduceNe, Int.reduceLT, Int.reduceLE, Int.reduceGT, Int.reduceGE, Int.reduceAdd, Int.reduceToNat, decide_true, decide_false, Bool.not_true, Bool.not_false, Nat.reduceLeDiff, Nat.reduceSub, Nat.reduceAdd, Nat.reduceEqDiff, reduceCtorEq, ↓reduceIte]
  refine Safe.rg rfl ?_
  simp only [internal_stringslite_Cut_r2, E0, List.getElem?_cons_zero, List.getElem?_cons_succ, Option.isSome_some, List.map_cons, List.map_nil, List.nil_append, List.cons_append, c0, c1, c8, c9, c10, Int.reduceEq, Int.reduceNe, Int.reduceLT, Int.reduceLE, Int.reduceGT, Int.reduceGE, Int.reduceAdd, Int.reduceToNat, decide_true, decide_false, Bool.not_true, Bool.not_false, Nat.reduceLeDiff, Nat.reduceSub, Nat.reduceAdd, Nat.reduceEqDiff, reduceCtorEq, ↓reduceIte]
  refine Safe.cd rfl ?_
  simp only [E0, List.getElem?_cons_zero, List.getElem?_cons_succ, Option.isSome_some, List.map_cons, List.map_nil, List.nil_append, List.cons_append, c0, c1, c8, c9, c10, Int.reduceEq, Int.reduceNe, Int.reduceLT, Int.reduceLE, Int.reduceGT, Int.reduceGE, Int.reduceAdd, Int.reduceToNat, decide_true, decide_false, Bool.not_true, Bool.not_false, Nat.reduceLeDiff, Nat.reduceSub, Nat.reduceAdd, Nat.reduceEqDiff, reduceCtorEq, ↓reduceIte]
  refine Safe.rg rfl ?_
  simp only [internal_stringslite_Cut_r3, h1, h2, e1, hw, hw2, E0, List.getElem?_cons_zero, List.getElem?_cons_succ, Option.isSome_some, List.map_cons, List.map_nil, List.nil_append, List.cons_append, c0, c1, c8, c9, c10, Int.reduceEq, Int.reduceNe, Int.reduceLT, Int.reduceLE, Int.reduceGT, Int.reduceGE, Int.reduceAdd, Int.reduceToNat, decide_true, decide_false, Bool.not_true, Bool.not_false, Nat.reduceLeDiff, Nat.reduceSub, Nat.reduceAdd, Nat.reduceEqDiff, reduceCtorEq, ↓reduceIte]
  refine Safe.rt rfl ?_
  simp only [E0, List.getElem?_cons_zero, List.getElem?_cons_succ, Option.isSome_some, List.map_cons, List.map_nil, List.nil_append, List.cons_append, c0, c1, c8, c9, c10, Int.reduceEq, Int.reduceNe, Int.reduceLT, Int.reduceLE, Int.reduceGT, Int.reduceGE, Int.reduceAdd, Int.reduceToNat, decide_true, decide_false, Bool.not_true, Bool.not_false, Nat.reduceLeDiff, Nat.reduceSub, Nat.reduceAdd, Nat.reduceEqDiff, reduceCtorEq, ↓reduceIte]
  first | exact ⟨rfl, _, rfl⟩ | exact ⟨_, rfl⟩ | exact ⟨trivial, _, rfl⟩
theorem cut_pure : PureC Pr F_strings_Cut [.str sText, .str sNl] (.tup [.str sLine, .str sNo, .bool true]) := by
  refine PureC.intro strings_Cut_fn strings_Cut_ok (Nat.le_of_ble_eq_true rfl) (.tup _ fun c hc => by simp at hc; rcases hc with rfl | rfl | rfl; exact .str _; exact .str _; exact .bool _) fun H hH => ?_
  refine Safe.rg rfl ?_
  simp only [strings_Cut_r0, E0, List.getElem?_cons_zero, List.getElem?_cons_succ, Option.isSome_some, List.map_cons, List.map_nil, List.nil_append, List.cons_append, c0, c1, c8, c9, c10, Int.reduceEq, Int.reduceNe, Int.reduceLT, Int.reduceLE, Int.reduceGT, Int.reduceGE, Int.reduceAdd, Int.reduceToNat, decide_true, decide_false, Bool.not_true, Bool.not_false, Nat.reduceLeDiff, Nat.reduceSub, Nat.reduceAdd, Nat.reduceEqDiff, reduceCtorEq, ↓reduceIte]
  refine Safe.rg rfl ?_
  simp only [strings_Cut_r1, E0, List.getElem?_cons_zero, List.getElem?_cons_succ, Option.isSome_some, List.map_cons, List.map_nil, List.nil_append, List.cons_append, c0, c1, c8, c9, c10, Int.reduceEq, Int.reduceNe, Int.reduceLT, Int.reduceLE, Int.reduceGT, Int.reduceGE, Int.reduceAdd, Int.reduceToNat, decide_true, decide_false, Bool.not_true, Bool.not_false, Nat.reduceLeDiff, Nat.reduceSub, Nat.reduceAdd, Nat.reduceEqDiff, reduceCtorEq, ↓reduceIte]
  first | refine (litecut_pure).acall ?_ | refine (litecut_pure).dcall ?_
  try simp only [E0, List.getElem?_cons_zero, List.getElem?_cons_succ, Option.isSome_some, List.map_cons, List.map_nil, List.nil_append, List.cons_append, c0, c1, c8, c9, c10, Int.reduceEq, Int.reduceNe, Int.reduceLT, Int.reduceLE, Int.reduceGT, Int.reduceGE, Int.reduceAdd, Int.reduceToNat, decide_true, decide_false, Bool.not_true, Bool.not_false, Nat.reduceLeDiff, Nat.reduceSub, Nat.reduceAdd, Nat.reduceEqDiff, reduceCtorEq, ↓reduceIte]
  refine Safe.rt rfl ?_
  simp only [E0, List.getElem?_cons_zero, List.getElem?_cons_succ, Option.isSome_some, List.map_cons, List.map_nil, List.nil_append, List.cons_append, c0, c1, c8, c9, c10, Int.reduceEq, Int.reduceNe, Int.reduceLT, Int.reduceLE, Int.reduceGT, Int.reduceGE, Int.reduceAdd, Int.reduceToNat, decide_true, decide_false, Bool.not_true, Bool.not_false, Nat.reduceLeDiff, Nat.reduceSub, Nat.reduceAdd, Nat.reduceEqDiff, reduceCtorEq, ↓reduceIte]
  first | exact ⟨rfl, _, rfl⟩ | exact ⟨_, rfl⟩ | exact ⟨trivial, _, rfl⟩
theorem hasprefix_pure : PureC Pr F_internal_stringslite_HasPrefix [.str sLine, .str sLat] (.bool true) := by
  have h1 : slcS (.str sLine) none (some (.int .i64 8)) = some (.str sLat) := by rfl
  have e1 : sLat.size = 8 := rfl
  have e2 : sLine.size = 9 := rfl
  have e3 : ((sLine.extract 0 8).toList == sLat.toList) = true := by decide +kernel
  refine PureC.intro internal_stringslite_HasPrefix_fn internal_stringslite_HasPrefix_ok (Nat.le_of_ble_eq_true rfl) (.bool _) fun H hH => ?_
  refine Safe.rg rfl ?_
  simp only [internal_stringslite_HasPrefix_r0, E0, List.getElem?_cons_zero, List.getElem?_cons_succ, Option.isSome_some, List.map_cons, List.map_nil, List.nil_append, List.cons_append, c0, c1, c8, c9, c10, Int.reduceEq, Int.reduceNe, Int.reduceLT, Int.reduceLE, Int.reduceGT, Int.reduceGE, Int.reduceAdd, Int.reduceToNat, decide_true, decide_false, Bool.not_true, Bool.not_false, Nat.reduceLeDiff, Nat.reduceSub, Nat.reduceAdd, Nat.reduceEqDiff, reduceCtorEq, ↓reduceIte]
  refine Safe.rg rfl ?_
  simp only [internal_stringslite_HasPrefix_r1, h1, e1, e2, e3, E0, List.getElem?_cons_zero, List.getElem?_cons_succ, Option.isSome_some, List.map_cons, List.map_nil, List.nil_append, List.cons_append, c0, c1, c8, c9, c10, Int.reduceEq, Int.reduceNe, Int.reduceLT, Int.reduceLE, Int.reduceGT, Int.reduceGE, Int.reduceAdd, Int.reduceToNat, decide_true, decide_false, Bool.not_true, Bool.not_false, Nat.reduceLeDiff, Nat.reduceSub, Nat.reduceAdd, Nat.reduceEqDiff, reduceCtorEq, ↓reduceIte]
  refine Safe.rt rfl ?_
  simp only [E0, List.getElem?_cons_zero, List.getElem?_cons_succ, Option.isSome_some, List.map_cons, List.map_nil, List.nil_append, List.cons_append, c0, c1, c8, c9, c10, Int.reduceEq, Int.reduceNe, Int.reduceLT, Int.reduceLE, Int.reduceGT, Int.reduceGE, Int.reduceAdd, Int.reduceToNat, decide_true, decide_false, Bool.not_true, Bool.not_false, Nat.reduceLeDiff, Nat.reduceSub, Nat.reduceAdd, Nat.reduceEqDiff, reduceCtorEq, ↓reduceIte]
  rw [e3]
  exact ⟨rfl, _, rfl⟩
theorem litecutprefix_pure : PureC Pr F_internal_stringslite_CutPrefix [.str sLine, .str sLat] (.tup [.str sZ, .bool true]) := by
  have h1 : slcS (.str sLine) (some (.int .i64 8)) none = some (.str sZ) := by rfl
  have e1 : sLat.size = 8 := rfl
  refine PureC.intro internal_stringslite_CutPrefix_fn internal_stringslite_CutPrefix_ok (Nat.le_of_ble_eq_true rfl) (.tup _ fun c hc => by simp at hc; rcases hc with rfl | rfl; exact .str _; exact .bool _) fun H hH => ?_
  refine Safe.rg rfl ?_
  simp only [internal_stringslite_CutPrefix_r0, E0, List.getElem?_cons_zero, List.getElem?_cons_succ, Option.isSome_some, List.map_cons, List.map_nil, List.nil_append, List.cons_append, c0, c1, c8, c9, c10, Int.reduceEq, Int.reduceNe, Int.reduceLT, Int.reduceLE, Int.reduceGT, Int.reduceGE, Int.reduceAdd, Int.reduceToNat, decide_true, decide_false, Bool.not_true, Bool.not_false, Nat.reduceLeDiff, Nat.reduceSub, Nat.reduceAdd, Nat.reduceEqDiff, reduceCtorEq, ↓reduceIte]
  refine Safe.rg rfl ?_
  simp only [internal_stringslite_CutPrefix_r1, E0, List.getElem?_cons_zero, List.getElem?_cons_succ, Option.isSome_some, List.map_cons, List.map_nil, List.nil_append, List.cons_append, c0, c1, c8, c9, c10, Int.reduceEq, Int.reduceNe, Int.reduceLT, Int.reduceLE, Int.reduceGT, Int.reduceGE, Int.reduceAdd, Int.reduceToNat, decide_true, decide_false, Bool.not_true, Bool.not_false, Nat.reduceLeDiff, Nat.reduceSub, Nat.reduceAdd, Nat.reduceEqDiff, reduceCtorEq, ↓reduceIte]
  first | refine (hasprefix_pure).acall ?_ | refine (hasprefix_pure).dcall ?_
  try simp only [E0, List.getElem?_cons_zero, List.getElem?_cons_succ, Option.isSome_some, List.map_cons, List.map_nil, List.nil_append, List.cons_append, c0, c1, c8, c9, c10, Int.reduceEq, Int.reduceNe, Int.reduceLT, Int.reduceLE, Int.reduceGT, Int.reduceGE, Int.reduceAdd, Int.reduceToNat, decide_true, decide_false, Bool.not_true, Bool.not_false, Nat.reduceLeDiff, Nat.reduceSub, Nat.reduceAdd, Nat.reduceEqDiff, reduceCtorEq, ↓reduceIte]
  refine Safe.cd rfl ?_
  simp only [E0, List.getElem?_cons_zero, List.getElem?_cons_succ, Option.isSome_some, List.map_cons, List.map_nil, List.nil_append, List.cons_append, c0, c1, c8, c9, c10, Int.reduceEq, Int.reduceNe, Int.reduceLT, Int.reduceLE, Int.reduceGT, Int.reduceGE, Int.reduceAdd, Int.reduceToNat, decide_true, decide_false, Bool.not_true, Bool.not_false, Nat.reduceLeDiff, Nat.reduceSub, Nat.reduceAdd, Nat.reduceEqDiff, reduceCtorEq, ↓reduceIte]
  refine Safe.rg rfl ?_
  simp only [internal_stringslite_CutPrefix_r3, h1, e1, E0, List.getElem?_cons_zero, List.getElem?_cons_succ, Option.isSome_some, List.map_cons, List.map_nil, List.nil_append, List.cons_append, c0, c1, c8, c9, c10, Int.reduceEq, Int.reduceNe, Int.reduceLT, Int.reduceLE, Int.reduceGT, Int.reduceGE, Int.reduceAdd, Int.reduceToNat, decide_true, decide_false, Bool.not_true, Bool.not_false, Nat.reduceLeDiff, Nat.reduceSub, Nat.reduceAdd, Nat.reduceEqDiff, reduceCtorEq, ↓reduceIte]
  refine Safe.rt rfl ?_
  simp only [E0, List.getElem?_cons_zero, List.getElem?_cons_succ, Option.isSome_some, List.map_cons, List.map_nil, List.nil_append, List.cons_append, c0, c1, c8, c9, c10, Int.reduceEq, Int.reduceNe, Int.reduceLT, Int.reduceLE, Int.reduceGT, Int.reduceGE, Int.reduceAdd, Int.reduceToNat, decide_true, decide_false, Bool.not_true, Bool.not_false, Nat.reduceLeDiff, Nat.reduceSub, Nat.reduceAdd, Nat.reduceEqDiff, reduceCtorEq, ↓reduceIte]
  first | exact ⟨rfl, _, rfl⟩ | exact ⟨_, rfl⟩ | exact ⟨trivial, _, rfl⟩
theorem cutprefix_pure : PureC Pr F_strings_CutPrefix [.str sLine, .str sLat] (.tup [.str sZ, .bool true]) := by
  refine PureC.intro strings_CutPrefix_fn strings_CutPrefix_ok (Nat.le_of_ble_eq_true rfl) (.tup _ fun c hc => by simp at hc; rcases hc with rfl | rfl; exact .str _; exact .bool _) fun H hH => ?_
  refine Safe.rg rfl ?_
  simp only [strings_CutPrefix_r0, E0, List.getElem?_cons_zero, List.getElem?_cons_succ, Option.isSome_some, List.map_cons, List.map_nil, List.nil_append, List.cons_append, c0, c1, c8, c9, c10, Int.reduceEq, Int.reduceNe, Int.reduceLT, Int.reduceLE, Int.reduceGT, Int.reduceGE, Int.reduceAdd, Int.reduceToNat, decide_true, decide_false, Bool.not_true, Bool.not_false, Nat.reduceLeDiff, Nat.reduceSub, Nat.reduceAdd, Nat.reduceEqDiff, reduceCtorEq, ↓reduceIte]
  refine Safe.rg rfl ?_
  simp only [strings_CutPrefix_r1, E0, List.getElem?_cons_zero, List.getElem?_cons_succ, Option.isSome_some, List.map_cons, List.map_nil, List.nil_append, List.cons_append, c0, c1, c8, c9, c10, Int.reduceEq, Int.reduceNe, Int.reduceLT, Int.reduceLE, Int.reduceGT, Int.reduceGE, Int.reduceAdd, Int.reduceToNat, decide_true, decide_false, Bool.not_true, Bool.not_false, Nat.reduceLeDiff, Nat.reduceSub, Nat.reduceAdd, Nat.reduceEqDiff, reduceCtorEq, ↓reduceIte]
  first | refine (litecutprefix_pure).acall ?_ | refine (litecutprefix_pure).dcall ?_
  try simp only [E0, List.getElem?_cons_zero, List.getElem?_cons_succ, Option.isSome_some, List.map_cons, List.map_nil, List.nil_append, List.cons_append, c0, c1, c8, c9, c10, Int.reduceEq, Int.reduceNe, Int.reduceLT, Int.reduceLE, Int.reduceGT, Int.reduceGE, Int.reduceAdd, Int.reduceToNat, decide_true, decide_false, Bool.not_true, Bool.not_false, Nat.reduceLeDiff, Nat.reduceSub, Nat.reduceAdd, Nat.reduceEqDiff, reduceCtorEq, ↓reduceIte]
  refine Safe.rt rfl ?_
  simp only [E0, List.getElem?_cons_zero, List.getElem?_cons_succ, Option.isSome_some, List.map_cons, List.map_nil, List.nil_append, List.cons_append, c0, c1, c8, c9, c10, Int.reduceEq, Int.reduceNe, Int.reduceLT, Int.reduceLE, Int.reduceGT, Int.reduceGE, Int.reduceAdd, Int.reduceToNat, decide_true, decide_false, Bool.not_true, Bool.not_false, Nat.reduceLeDiff, Nat.reduceSub, Nat.reduceAdd, Nat.reduceEqDiff, reduceCtorEq, ↓reduceIte]
  first | exact ⟨rfl, _, rfl⟩ | exact ⟨_, rfl⟩ | exact ⟨trivial, _, rfl⟩
theorem named_pure : PureC Pr F_book_named [.str sZ] (.bool false) := by
  have e1 : sZ.size = 1 := rfl
  have e5 : (sZ.data.toList.getD (Int.toNat 0) 0).toNat = 90 := rfl
  have c90 : ((90 : Nat) : Int) = 90 := rfl
  refine PureC.intro book_named_fn book_named_ok (Nat.le_of_ble_eq_true rfl) (.bool _) fun H hH => ?_
  refine Safe.rg rfl ?_
  simp only [book_named_r0, E0, List.getElem?_cons_zero, List.getElem?_cons_succ, Option.isSome_some, List.map_cons, List.map_nil, List.nil_append, List.cons_append, c0, c1, c8, c9, c10, Int.reduceEq, Int.reduceNe, Int.reduceLT, Int.reduceLE, Int.reduceGT, Int.reduceGE, Int.reduceAdd, Int.reduceToNat, decide_true, decide_false, Bool.not_true, Bool.not_false, Nat.reduceLeDiff, Nat.reduceSub, Nat.reduceAdd, Nat.reduceEqDiff, reduceCtorEq, ↓reduceIte]
  refine Safe.rg rfl ?_
  simp only [book_named_r1, e1, e5, c90, E0, List.getElem?_cons_zero, List.getElem?_cons_succ, Option.isSome_some, List.map_cons, List.map_nil, List.nil_append, List.cons_append, c0, c1, c8, c9, c10, Int.reduceEq, Int.reduceNe, Int.reduceLT, Int.reduceLE, Int.reduceGT, Int.reduceGE, Int.reduceAdd, Int.reduceToNat, decide_true, decide_false, Bool.not_true, Bool.not_false, Nat.reduceLeDiff, Nat.reduceSub, Nat.reduceAdd, Nat.reduceEqDiff, reduceCtorEq, ↓reduceIte]
  refine Safe.cd rfl ?_
  simp only [E0, List.getElem?_cons_zero, List.getElem?_cons_succ, Option.isSome_some, List.map_cons, List.map_nil, List.nil_append, List.cons_append, c0, c1, c8, c9, c10, Int.reduceEq, Int.reduceNe, Int.reduceLT, Int.reduceLE, Int.reduceGT, Int.reduceGE, Int.reduceAdd, Int.reduceToNat, decide_true, decide_false, Bool.not_true, Bool.not_false, Nat.reduceLeDiff, Nat.reduceSub, Nat.reduceAdd, Nat.reduceEqDiff, reduceCtorEq, ↓reduceIte]
  refine Safe.rg rfl ?_
  simp only [book_named_r2, E0, List.getElem?_cons_zero, List.getElem?_cons_succ, Option.isSome_some, List.map_cons, List.map_nil, List.nil_append, List.cons_append, c0, c1, c8, c9, c10, Int.reduceEq, Int.reduceNe, Int.reduceLT, Int.reduceLE, Int.reduceGT, Int.reduceGE, Int.reduceAdd, Int.reduceToNat, decide_true, decide_false, Bool.not_true, Bool.not_false, Nat.reduceLeDiff, Nat.reduceSub, Nat.reduceAdd, Nat.reduceEqDiff, reduceCtorEq, ↓reduceIte]
  refine Safe.rt rfl ?_
  simp only [E0, List.getElem?_cons_zero, List.getElem?_cons_succ, Option.isSome_some, List.map_cons, List.map_nil, List.nil_append, List.cons_append, c0, c1, c8, c9, c10, Int.reduceEq, Int.reduceNe, Int.reduceLT, Int.reduceLE, Int.reduceGT, Int.reduceGE, Int.reduceAdd, Int.reduceToNat, decide_true, decide_false, Bool.not_true, Bool.not_false, Nat.reduceLeDiff, Nat.reduceSub, Nat.reduceAdd, Nat.reduceEqDiff, reduceCtorEq, ↓reduceIte]
  first | exact ⟨rfl, _, rfl⟩ | exact ⟨_, rfl⟩ | exact ⟨trivial, _, rfl⟩
theorem room_calls (H : Heap) (b : AV) : ACalls Pr F_book_Book_room [b, .str sZ] H fun r' H' => r' = .int .i64 270 ∧ H' = H := by
  refine ACalls.introB book_Book_room_fn book_Book_room_ok (Nat.le_of_ble_eq_true rfl) fun hH => ?_
  refine Safe.rg rfl ?_
  simp only [book_Book_room_r0, E0, List.getElem?_cons_zero, List.getElem?_cons_succ, Option.isSome_some, List.map_cons, List.map_nil, List.nil_append, List.cons_append, c0, c1, c8, c9, c10, Int.reduceEq, Int.reduceNe, Int.reduceLT, Int.reduceLE, Int.reduceGT, Int.reduceGE, Int.reduceAdd, Int.reduceToNat, decide_true, decide_false, Bool.not_true, Bool.not_false, Nat.reduceLeDiff, Nat.reduceSub, Nat.reduceAdd, Nat.reduceEqDiff, reduceCtorEq, ↓reduceIte]
  refine Safe.rg rfl ?_
  simp only [book_Book_room_r1, E0, List.getElem?_cons_zero, List.getElem?_cons_succ, Option.isSome_some, List.map_cons, List.map_nil, List.nil_append, List.cons_append, c0, c1, c8, c9, c10, Int.reduceEq, Int.reduceNe, Int.reduceLT, Int.reduceLE, Int.reduceGT, Int.reduceGE, Int.reduceAdd, Int.reduceToNat, decide_true, decide_false, Bool.not_true, Bool.not_false, Nat.reduceLeDiff, Nat.reduceSub, Nat.reduceAdd, Nat.reduceEqDiff, reduceCtorEq, ↓reduceIte]
  first | refine (named_pure).acall ?_ | refine (named_pure).dcall ?_
  try simp only [E0, List.getElem?_cons_zero, List.getElem?_cons_succ, Option.isSome_some, List.map_cons, List.map_nil, List.nil_append, List.cons_append, c0, c1, c8, c9, c10, Int.reduceEq, Int.reduceNe, Int.reduceLT, Int.reduceLE, Int.reduceGT, Int.reduceGE, Int.reduceAdd, Int.reduceToNat, decide_true, decide_false, Bool.not_true, Bool.not_false, Nat.reduceLeDiff, Nat.reduceSub, Nat.reduceAdd, Nat.reduceEqDiff, reduceCtorEq, ↓reduceIte]
  refine Safe.cd rfl ?_
  simp only [E0, List.getElem?_cons_zero, List.getElem?_cons_succ, Option.isSome_some, List.map_cons, List.map_nil, List.nil_append, List.cons_append, c0, c1, c8, c9, c10, Int.reduceEq, Int.reduceNe, Int.reduceLT, Int.reduceLE, Int.reduceGT, Int.reduceGE, Int.reduceAdd, Int.reduceToNat, decide_true, decide_false, Bool.not_true, Bool.not_false, Nat.reduceLeDiff, Nat.reduceSub, Nat.reduceAdd, Nat.reduceEqDiff, reduceCtorEq, ↓reduceIte]
  refine Safe.rg rfl ?_
  simp only [book_Book_room_r2, E0, List.getElem?_cons_zero, List.getElem?_cons_succ, Option.isSome_some, List.map_cons, List.map_nil, List.nil_append, List.cons_append, c0, c1, c8, c9, c10, Int.reduceEq, Int.reduceNe, Int.reduceLT, Int.reduceLE, Int.reduceGT, Int.reduceGE, Int.reduceAdd, Int.reduceToNat, decide_true, decide_false, Bool.not_true, Bool.not_false, Nat.reduceLeDiff, Nat.reduceSub, Nat.reduceAdd, Nat.reduceEqDiff, reduceCtorEq, ↓reduceIte]
  refine Safe.rt rfl ?_
  simp only [E0, List.getElem?_cons_zero, List.getElem?_cons_succ, Option.isSome_some, List.map_cons, List.map_nil, List.nil_append, List.cons_append, c0, c1, c8, c9, c10, Int.reduceEq, Int.reduceNe, Int.reduceLT, Int.reduceLE, Int.reduceGT, Int.reduceGE, Int.reduceAdd, Int.reduceToNat, decide_true, decide_false, Bool.not_true, Bool.not_false, Nat.reduceLeDiff, Nat.reduceSub, Nat.reduceAdd, Nat.reduceEqDiff, reduceCtorEq, ↓reduceIte]
  rw [hap_nil]
  exact ⟨rfl, rfl⟩
theorem outside_calls (G : Heap) (id : Nat) (x y z t : AV) (h : hrow G id = some ⟨4, [.agg [x, y, z, t]]⟩) : ACalls Pr F_book_reader_outside [.loc id 0 0, .str sLine] G fun r' H' => r' = .int .i64 270 ∧ H' = G := by
  refine ACalls.introB book_reader_outside_fn book_reader_outside_ok (Nat.le_of_ble_eq_true rfl) fun hH => ?_
  have hat : atV (hap G []) (.loc id 0 0) = some [x, y, z, t] := by
    rw [hap_nil, atV_loc, h]; rfl
  have hro : (hrow (hap G []) id).isSome = true := by rw [hap_nil, h]; rfl
  refine Safe.rg rfl ?_
  simp only [book_reader_outside_r0, E0, List.getElem?_cons_zero, List.getElem?_cons_succ, Option.isSome_some, List.map_cons, List.map_nil, List.nil_append, List.cons_append, c0, c1, c8, c9, c10, Int.reduceEq, Int.reduceNe, Int.reduceLT, Int.reduceLE, Int.reduceGT, Int.reduceGE, Int.reduceAdd, Int.reduceToNat, decide_true, decide_false, Bool.not_true, Bool.not_false, Nat.reduceLeDiff, Nat.reduceSub, Nat.reduceAdd, Nat.reduceEqDiff, reduceCtorEq, ↓reduceIte]
  refine Safe.rg rfl ?_
  simp only [book_reader_outside_r1, E0, List.getElem?_cons_zero, List.getElem?_cons_succ, Option.isSome_some, List.map_cons, List.map_nil, List.nil_append, List.cons_append, c0, c1, c8, c9, c10, Int.reduceEq, Int.reduceNe, Int.reduceLT, Int.reduceLE, Int.reduceGT, Int.reduceGE, Int.reduceAdd, Int.reduceToNat, decide_true, decide_false, Bool.not_true, Bool.not_false, Nat.reduceLeDiff, Nat.reduceSub, Nat.reduceAdd, Nat.reduceEqDiff, reduceCtorEq, ↓reduceIte]
  first | refine (cutprefix_pure).acall ?_ | refine (cutprefix_pure).dcall ?_
  try simp only [E0, List.getElem?_cons_zero, List.getElem?_cons_succ, Option.isSome_some, List.map_cons, List.map_nil, List.nil_append, List.cons_append, c0, c1, c8, c9, c10, Int.reduceEq, Int.reduceNe, Int.reduceLT, Int.reduceLE, Int.reduceGT, Int.reduceGE, Int.reduceAdd, Int.reduceToNat, decide_true, decide_false, Bool.not_true, Bool.not_false, Nat.reduceLeDiff, Nat.reduceSub, Nat.reduceAdd, Nat.reduceEqDiff, reduceCtorEq, ↓reduceIte]
  refine Safe.rg rfl ?_
  simp only [book_reader_outside_r2, E0, List.getElem?_cons_zero, List.getElem?_cons_succ, Option.isSome_some, List.map_cons, List.map_nil, List.nil_append, List.cons_append, c0, c1, c8, c9, c10, Int.reduceEq, Int.reduceNe, Int.reduceLT, Int.reduceLE, Int.reduceGT, Int.reduceGE, Int.reduceAdd, Int.reduceToNat, decide_true, decide_false, Bool.not_true, Bool.not_false, Nat.reduceLeDiff, Nat.reduceSub, Nat.reduceAdd, Nat.reduceEqDiff, reduceCtorEq, ↓reduceIte]
  refine Safe.cd rfl ?_
  simp only [E0, List.getElem?_cons_zero, List.getElem?_cons_succ, Option.isSome_some, List.map_cons, List.map_nil, List.nil_append, List.cons_append, c0, c1, c8, c9, c10, Int.reduceEq, Int.reduceNe, Int.reduceLT, Int.reduceLE, Int.reduceGT, Int.reduceGE, Int.reduceAdd, Int.reduceToNat, decide_true, decide_false, Bool.not_true, Bool.not_false, Nat.reduceLeDiff, Nat.reduceSub, Nat.reduceAdd, Nat.reduceEqDiff, reduceCtorEq, ↓reduceIte]
  refine Safe.rg rfl ?_
  simp only [book_reader_outside_r4, hro, hat, List.getElem?_cons_zero, E0, List.getElem?_cons_zero, List.getElem?_cons_succ, Option.isSome_some, List.map_cons, List.map_nil, List.nil_append, List.cons_append, c0, c1, c8, c9, c10, Int.reduceEq, Int.reduceNe, Int.reduceLT, Int.reduceLE, Int.reduceGT, Int.reduceGE, Int.reduceAdd, Int.reduceToNat, decide_true, decide_false, Bool.not_true, Bool.not_false, Nat.reduceLeDiff, Nat.reduceSub, Nat.reduceAdd, Nat.reduceEqDiff, reduceCtorEq, ↓reduceIte]
  refine (room_calls (hap G []) x).mono ?_
  rintro r' H' ⟨rfl, rfl⟩
  simp only [E0, List.getElem?_cons_zero, List.getElem?_cons_succ, Option.isSome_some, List.map_cons, List.map_nil, List.nil_append, List.cons_append, c0, c1, c8, c9, c10, Int.reduceEq, Int.reduceNe, Int.reduceLT, Int.reduceLE, Int.reduceGT, Int.reduceGE, Int.reduceAdd, Int.reduceToNat, decide_true, decide_false, Bool.not_true, Bool.not_false, Nat.reduceLeDiff, Nat.reduceSub, Nat.reduceAdd, Nat.reduceEqDiff, reduceCtorEq, ↓reduceIte]
  refine Safe.rg rfl ?_
  simp only [book_reader_outside_r5, E0, List.getElem?_cons_zero, List.getElem?_cons_succ, Option.isSome_some, List.map_cons, List.map_nil, List.nil_append, List.cons_append, c0, c1, c8, c9, c10, Int.reduceEq, Int.reduceNe, Int.reduceLT, Int.reduceLE, Int.reduceGT, Int.reduceGE, Int.reduceAdd, Int.reduceToNat, decide_true, decide_false, Bool.not_true, Bool.not_false, Nat.reduceLeDiff, Nat.reduceSub, Nat.reduceAdd, Nat.reduceEqDiff, reduceCtorEq, ↓reduceIte]
  refine Safe.cd rfl ?_
  simp only [E0, List.getElem?_cons_zero, List.getElem?_cons_succ, Option.isSome_some, List.map_cons, List.map_nil, List.nil_append, List.cons_append, c0, c1, c8, c9, c10, Int.reduceEq, Int.reduceNe, Int.reduceLT, Int.reduceLE, Int.reduceGT, Int.reduceGE, Int.reduceAdd, Int.reduceToNat, decide_true, decide_false, Bool.not_true, Bool.not_false, Nat.reduceLeDiff, Nat.reduceSub, Nat.reduceAdd, Nat.reduceEqDiff, reduceCtorEq, ↓reduceIte]
  refine Safe.rg rfl ?_
  simp only [book_reader_outside_r6, E0, List.getElem?_cons_zero, List.getElem?_cons_succ, Option.isSome_some, List.map_cons, List.map_nil, List.nil_append, List.cons_append, c0, c1, c8, c9, c10, Int.reduceEq, Int.reduceNe, Int.reduceLT, Int.reduceLE, Int.reduceGT, Int.reduceGE, Int.reduceAdd, Int.reduceToNat, decide_true, decide_false, Bool.not_true, Bool.not_false, Nat.reduceLeDiff, Nat.reduceSub, Nat.reduceAdd, Nat.reduceEqDiff, reduceCtorEq, ↓reduceIte]
  refine Safe.rt rfl ?_
  simp only [E0, List.getElem?_cons_zero, List.getElem?_cons_succ, Option.isSome_some, List.map_cons, List.map_nil, List.nil_append, List.cons_append, c0, c1, c8, c9, c10, Int.reduceEq, Int.reduceNe, Int.reduceLT, Int.reduceLE, Int.reduceGT, Int.reduceGE, Int.reduceAdd, Int.reduceToNat, decide_true, decide_false, Bool.not_true, Bool.not_false, Nat.reduceLeDiff, Nat.reduceSub, Nat.reduceAdd, Nat.reduceEqDiff, reduceCtorEq, ↓reduceIte]
  rw [show hap G [] = G by simp [hap]]
  exact ⟨rfl, rfl⟩
theorem fit_bfn (f : FuncId) (bs : List AV) : (AV.bfn f bs).fit = true := rfl
theorem cells_bfn (f : FuncId) (bs : List AV) : (AV.bfn f bs).cells = [.bfn f bs] := rfl
theorem bld4 {env : Env} {a x y z t : AV} (h : look env 17 = a) (hc : a.cells = [a]) (hf : a.fit = true) : bldV env [x, y, z, t] [(0, 1, .t 17)] = some [a, y, z, t] := by
  simp only [bldV, Src.ev, h, hc, hf]
  simp [splice, bldV]
theorem st4 (H : Heap) (r0 : Option Blk) (a b c d v : AV) (hf : v.fit = true) (hc : v.cells = [v]) (env : Env) : storeV 1 (.loc (lid H 1) 0 1) v env (hap H [r0, some ⟨4, [.agg [a, b, c, d]]⟩]) = some (.top, env, hap H [r0, some ⟨4, [.agg [a, v, c, d]]⟩]) := by
  rw [storeV_loc env H [r0, some ⟨4, [.agg [a, b, c, d]]⟩] 1 1 0 1 v rfl (by simp) hf (by rw [hc]; rfl) (by simp)]
  show some (AV.top, env, hap H [r0, some ⟨4, [.agg (splice [a, b, c, d] 1 v.cells)]⟩]) = _
  rw [hc]; rfl
theorem read_calls (H : Heap) : ACalls Pr F_book_Read [.str sText] H fun r' H' => r' = .tup [.lit (.pointer none), .int .i64 1, .int .i64 270] ∧ ∃ L, H' = hap H L := by
  refine ACalls.introB book_Read_fn book_Read_ok (Nat.le_of_ble_eq_true rfl) fun hH => ?_
  have e2 : sText.size = 10 := rfl
  refine Safe.rg rfl ?_
  simp only [book_Read_r0, E0, List.getElem?_cons_zero, List.getElem?_cons_succ, Option.isSome_some, List.map_cons, List.map_nil, List.nil_append, List.cons_append, c0, c1, c8, c9, c10, Int.reduceEq, Int.reduceNe, Int.reduceLT, Int.reduceLE, Int.reduceGT, Int.reduceGE, Int.reduceAdd, Int.reduceToNat, decide_true, decide_false, Bool.not_true, Bool.not_false, Nat.reduceLeDiff, Nat.reduceSub, Nat.reduceAdd, Nat.reduceEqDiff, reduceCtorEq, ↓reduceIte]
  refine Safe.rg rfl ?_
  simp only [book_Read_r1, e2, E0, List.getElem?_cons_zero, List.getElem?_cons_succ, Option.isSome_some, List.map_cons, List.map_nil, List.nil_append, List.cons_append, c0, c1, c8, c9, c10, Int.reduceEq, Int.reduceNe, Int.reduceLT, Int.reduceLE, Int.reduceGT, Int.reduceGE, Int.reduceAdd, Int.reduceToNat, decide_true, decide_false, Bool.not_true, Bool.not_false, Nat.reduceLeDiff, Nat.reduceSub, Nat.reduceAdd, Nat.reduceEqDiff, reduceCtorEq, ↓reduceIte]
  refine Safe.cd rfl ?_
  simp only [E0, List.getElem?_cons_zero, List.getElem?_cons_succ, Option.isSome_some, List.map_cons, List.map_nil, List.nil_append, List.cons_append, c0, c1, c8, c9, c10, Int.reduceEq, Int.reduceNe, Int.reduceLT, Int.reduceLE, Int.reduceGT, Int.reduceGE, Int.reduceAdd, Int.reduceToNat, decide_true, decide_false, Bool.not_true, Bool.not_false, Nat.reduceLeDiff, Nat.reduceSub, Nat.reduceAdd, Nat.reduceEqDiff, reduceCtorEq, ↓reduceIte]
  refine Safe.rg rfl ?_
  simp only [book_Read_r3, E0, List.getElem?_cons_zero, List.getElem?_cons_succ, Option.isSome_some, List.map_cons, List.map_nil, List.nil_append, List.cons_append, c0, c1, c8, c9, c10, Int.reduceEq, Int.reduceNe, Int.reduceLT, Int.reduceLE, Int.reduceGT, Int.reduceGE, Int.reduceAdd, Int.reduceToNat, decide_true, decide_false, Bool.not_true, Bool.not_false, Nat.reduceLeDiff, Nat.reduceSub, Nat.reduceAdd, Nat.reduceEqDiff, reduceCtorEq, ↓reduceIte]
  refine (new_calls (hap H [])).mono ?_
  rintro r' H' ⟨rfl, rfl⟩
  simp only [List.length_nil, List.nil_append, List.cons_append, E0, List.getElem?_cons_zero, List.getElem?_cons_succ, Option.isSome_some, List.map_cons, List.map_nil, List.nil_append, List.cons_append, c0, c1, c8, c9, c10, Int.reduceEq, Int.reduceNe, Int.reduceLT, Int.reduceLE, Int.reduceGT, Int.reduceGE, Int.reduceAdd, Int.reduceToNat, decide_true, decide_false, Bool.not_true, Bool.not_false, Nat.reduceLeDiff, Nat.reduceSub, Nat.reduceAdd, Nat.reduceEqDiff, reduceCtorEq, ↓reduceIte]
  rw [bld4 (a := .loc (lid H 0) 0 0) rfl rfl rfl]
  simp only [List.length_cons, List.length_nil, Option.map_some, Nat.zero_add, E0, List.getElem?_cons_zero, List.getElem?_cons_succ, Option.isSome_some, List.map_cons, List.map_nil, List.nil_append, List.cons_append, c0, c1, c8, c9, c10, Int.reduceEq, Int.reduceNe, Int.reduceLT, Int.reduceLE, Int.reduceGT, Int.reduceGE, Int.reduceAdd, Int.reduceToNat, decide_true, decide_false, Bool.not_true, Bool.not_false, Nat.reduceLeDiff, Nat.reduceSub, Nat.reduceAdd, Nat.reduceEqDiff, reduceCtorEq, ↓reduceIte]
  simp only [true_and, and_self, E0, List.getElem?_cons_zero, List.getElem?_cons_succ, Option.isSome_some, List.map_cons, List.map_nil, List.nil_append, List.cons_append, c0, c1, c8, c9, c10, Int.reduceEq, Int.reduceNe, Int.reduceLT, Int.reduceLE, Int.reduceGT, Int.reduceGE, Int.reduceAdd, Int.reduceToNat, decide_true, decide_false, Bool.not_true, Bool.not_false, Nat.reduceLeDiff, Nat.reduceSub, Nat.reduceAdd, Nat.reduceEqDiff, reduceCtorEq, ↓reduceIte]
  have hst := fun env => st4 H (some ⟨1, [.top]⟩) (.loc (lid H 0) 0 0) (.lit .nilFunc) (.str ⟨#[]⟩) .nil (.bfn F_book_reader_outside [.loc (lid H 1) 0 0]) rfl rfl env
  refine Safe.rg rfl ?_
  simp only [book_Read_r4, fit_bfn, cells_bfn, hst, E0, List.getElem?_cons_zero, List.getElem?_cons_succ, Option.isSome_some, List.map_cons, List.map_nil, List.nil_append, List.cons_append, c0, c1, c8, c9, c10, Int.reduceEq, Int.reduceNe, Int.reduceLT, Int.reduceLE, Int.reduceGT, Int.reduceGE, Int.reduceAdd, Int.reduceToNat, decide_true, decide_false, Bool.not_true, Bool.not_false, Nat.reduceLeDiff, Nat.reduceSub, Nat.reduceAdd, Nat.reduceEqDiff, reduceCtorEq, ↓reduceIte]
  refine Safe.rg rfl ?_
  simp only [book_Read_r5, E0, List.getElem?_cons_zero, List.getElem?_cons_succ, Option.isSome_some, List.map_cons, List.map_nil, List.nil_append, List.cons_append, c0, c1, c8, c9, c10, Int.reduceEq, Int.reduceNe, Int.reduceLT, Int.reduceLE, Int.reduceGT, Int.reduceGE, Int.reduceAdd, Int.reduceToNat, decide_true, decide_false, Bool.not_true, Bool.not_false, Nat.reduceLeDiff, Nat.reduceSub, Nat.reduceAdd, Nat.reduceEqDiff, reduceCtorEq, ↓reduceIte]
  refine Safe.rg rfl ?_
  simp only [book_Read_r6, E0, List.getElem?_cons_zero, List.getElem?_cons_succ, Option.isSome_some, List.map_cons, List.map_nil, List.nil_append, List.cons_append, c0, c1, c8, c9, c10, Int.reduceEq, Int.reduceNe, Int.reduceLT, Int.reduceLE, Int.reduceGT, Int.reduceGE, Int.reduceAdd, Int.reduceToNat, decide_true, decide_false, Bool.not_true, Bool.not_false, Nat.reduceLeDiff, Nat.reduceSub, Nat.reduceAdd, Nat.reduceEqDiff, reduceCtorEq, ↓reduceIte]
  refine Safe.lp rfl ?_
  refine Safe.inLoop ?_
  have h1 : (sText.toList == (⟨#[]⟩ : ByteArray).toList) = false := by decide +kernel
  have h2 : (sLine.toList == (⟨#[]⟩ : ByteArray).toList) = false := by decide +kernel
  have e9 : sLine.size = 9 := rfl
  have e5 : (sLine.data.toList.getD (Int.toNat 0) 0).toNat = 108 := rfl
  have hw1 : IntKind.wrap .i64 (0 + 1) = 1 := by decide
  have c108 : ((108 : Nat) : Int) = 108 := rfl
  refine Safe.rg rfl ?_
  simp only [book_Read_r7, h1, E0, List.getElem?_cons_zero, List.getElem?_cons_succ, Option.isSome_some, List.map_cons, List.map_nil, List.nil_append, List.cons_append, c0, c1, c8, c9, c10, Int.reduceEq, Int.reduceNe, Int.reduceLT, Int.reduceLE, Int.reduceGT, Int.reduceGE, Int.reduceAdd, Int.reduceToNat, decide_true, decide_false, Bool.not_true, Bool.not_false, Nat.reduceLeDiff, Nat.reduceSub, Nat.reduceAdd, Nat.reduceEqDiff, reduceCtorEq, ↓reduceIte]
  refine Safe.cd rfl ?_
  simp only [E0, List.getElem?_cons_zero, List.getElem?_cons_succ, Option.isSome_some, List.map_cons, List.map_nil, List.nil_append, List.cons_append, c0, c1, c8, c9, c10, Int.reduceEq, Int.reduceNe, Int.reduceLT, Int.reduceLE, Int.reduceGT, Int.reduceGE, Int.reduceAdd, Int.reduceToNat, decide_true, decide_false, Bool.not_true, Bool.not_false, Nat.reduceLeDiff, Nat.reduceSub, Nat.reduceAdd, Nat.reduceEqDiff, reduceCtorEq, ↓reduceIte]
  refine Safe.rg rfl ?_
  simp only [book_Read_r8, E0, List.getElem?_cons_zero, List.getElem?_cons_succ, Option.isSome_some, List.map_cons, List.map_nil, List.nil_append, List.cons_append, c0, c1, c8, c9, c10, Int.reduceEq, Int.reduceNe, Int.reduceLT, Int.reduceLE, Int.reduceGT, Int.reduceGE, Int.reduceAdd, Int.reduceToNat, decide_true, decide_false, Bool.not_true, Bool.not_false, Nat.reduceLeDiff, Nat.reduceSub, Nat.reduceAdd, Nat.reduceEqDiff, reduceCtorEq, ↓reduceIte]
  first | refine (cut_pure).acall ?_ | refine (cut_pure).dcall ?_
  try simp only [E0, List.getElem?_cons_zero, List.getElem?_cons_succ, Option.isSome_some, List.map_cons, List.map_nil, List.nil_append, List.cons_append, c0, c1, c8, c9, c10, Int.reduceEq, Int.reduceNe, Int.reduceLT, Int.reduceLE, Int.reduceGT, Int.reduceGE, Int.reduceAdd, Int.reduceToNat, decide_true, decide_false, Bool.not_true, Bool.not_false, Nat.reduceLeDiff, Nat.reduceSub, Nat.reduceAdd, Nat.reduceEqDiff, reduceCtorEq, ↓reduceIte]
  refine Safe.rg rfl ?_
  simp only [book_Read_r9, E0, List.getElem?_cons_zero, List.getElem?_cons_succ, Option.isSome_some, List.map_cons, List.map_nil, List.nil_append, List.cons_append, c0, c1, c8, c9, c10, Int.reduceEq, Int.reduceNe, Int.reduceLT, Int.reduceLE, Int.reduceGT, Int.reduceGE, Int.reduceAdd, Int.reduceToNat, decide_true, decide_false, Bool.not_true, Bool.not_false, Nat.reduceLeDiff, Nat.reduceSub, Nat.reduceAdd, Nat.reduceEqDiff, reduceCtorEq, ↓reduceIte]
  refine Safe.rg rfl ?_
  simp only [book_Read_r10, hw1, E0, List.getElem?_cons_zero, List.getElem?_cons_succ, Option.isSome_some, List.map_cons, List.map_nil, List.nil_append, List.cons_append, c0, c1, c8, c9, c10, Int.reduceEq, Int.reduceNe, Int.reduceLT, Int.reduceLE, Int.reduceGT, Int.reduceGE, Int.reduceAdd, Int.reduceToNat, decide_true, decide_false, Bool.not_true, Bool.not_false, Nat.reduceLeDiff, Nat.reduceSub, Nat.reduceAdd, Nat.reduceEqDiff, reduceCtorEq, ↓reduceIte]
  refine Safe.rg rfl ?_
  simp only [book_Read_r11, h2, e9, e5, c108, E0, List.getElem?_cons_zero, List.getElem?_cons_succ, Option.isSome_some, List.map_cons, List.map_nil, List.nil_append, List.cons_append, c0, c1, c8, c9, c10, Int.reduceEq, Int.reduceNe, Int.reduceLT, Int.reduceLE, Int.reduceGT, Int.reduceGE, Int.reduceAdd, Int.reduceToNat, decide_true, decide_false, Bool.not_true, Bool.not_false, Nat.reduceLeDiff, Nat.reduceSub, Nat.reduceAdd, Nat.reduceEqDiff, reduceCtorEq, ↓reduceIte]
  refine Safe.cd rfl ?_
  simp only [E0, List.getElem?_cons_zero, List.getElem?_cons_succ, Option.isSome_some, List.map_cons, List.map_nil, List.nil_append, List.cons_append, c0, c1, c8, c9, c10, Int.reduceEq, Int.reduceNe, Int.reduceLT, Int.reduceLE, Int.reduceGT, Int.reduceGE, Int.reduceAdd, Int.reduceToNat, decide_true, decide_false, Bool.not_true, Bool.not_false, Nat.reduceLeDiff, Nat.reduceSub, Nat.reduceAdd, Nat.reduceEqDiff, reduceCtorEq, ↓reduceIte]
  have hw2 : IntKind.wrap .i64 1 = 1 := by decide
  refine Safe.rg rfl ?_
  simp only [book_Read_r12, hw2, List.length_cons, List.length_nil, List.getD_cons_zero, List.drop_succ_cons, List.drop_zero, Nat.zero_lt_succ, Option.bind_some, E0, List.getElem?_cons_zero, List.getElem?_cons_succ, Option.isSome_some, List.map_cons, List.map_nil, List.nil_append, List.cons_append, c0, c1, c8, c9, c10, Int.reduceEq, Int.reduceNe, Int.reduceLT, Int.reduceLE, Int.reduceGT, Int.reduceGE, Int.reduceAdd, Int.reduceToNat, decide_true, decide_false, Bool.not_true, Bool.not_false, Nat.reduceLeDiff, Nat.reduceSub, Nat.reduceAdd, Nat.reduceEqDiff, reduceCtorEq, ↓reduceIte]
  refine (outside_calls (hap H [some ⟨1, [.top]⟩, some ⟨4, [.agg [.loc (lid H 0) 0 0, .bfn F_book_reader_outside [.loc (lid H 1) 0 0], .str ⟨#[]⟩, .nil]]⟩]) (lid H 1) _ _ _ _ (by rw [hrow_hap]; rfl)).mono ?_
  rintro r' H' ⟨rfl, rfl⟩
  simp only [E0, List.getElem?_cons_zero, List.getElem?_cons_succ, Option.isSome_some, List.map_cons, List.map_nil, List.nil_append, List.cons_append, c0, c1, c8, c9, c10, Int.reduceEq, Int.reduceNe, Int.reduceLT, Int.reduceLE, Int.reduceGT, Int.reduceGE, Int.reduceAdd, Int.reduceToNat, decide_true, decide_false, Bool.not_true, Bool.not_false, Nat.reduceLeDiff, Nat.reduceSub, Nat.reduceAdd, Nat.reduceEqDiff, reduceCtorEq, ↓reduceIte]
  refine Safe.rg rfl ?_
  simp only [book_Read_r13, E0, List.getElem?_cons_zero, List.getElem?_cons_succ, Option.isSome_some, List.map_cons, List.map_nil, List.nil_append, List.cons_append, c0, c1, c8, c9, c10, Int.reduceEq, Int.reduceNe, Int.reduceLT, Int.reduceLE, Int.reduceGT, Int.reduceGE, Int.reduceAdd, Int.reduceToNat, decide_true, decide_false, Bool.not_true, Bool.not_false, Nat.reduceLeDiff, Nat.reduceSub, Nat.reduceAdd, Nat.reduceEqDiff, reduceCtorEq, ↓reduceIte]
  refine Safe.cd rfl ?_
  simp only [E0, List.getElem?_cons_zero, List.getElem?_cons_succ, Option.isSome_some, List.map_cons, List.map_nil, List.nil_append, List.cons_append, c0, c1, c8, c9, c10, Int.reduceEq, Int.reduceNe, Int.reduceLT, Int.reduceLE, Int.reduceGT, Int.reduceGE, Int.reduceAdd, Int.reduceToNat, decide_true, decide_false, Bool.not_true, Bool.not_false, Nat.reduceLeDiff, Nat.reduceSub, Nat.reduceAdd, Nat.reduceEqDiff, reduceCtorEq, ↓reduceIte]
  refine Safe.rg rfl ?_
  simp only [book_Read_r14, E0, List.getElem?_cons_zero, List.getElem?_cons_succ, Option.isSome_some, List.map_cons, List.map_nil, List.nil_append, List.cons_append, c0, c1, c8, c9, c10, Int.reduceEq, Int.reduceNe, Int.reduceLT, Int.reduceLE, Int.reduceGT, Int.reduceGE, Int.reduceAdd, Int.reduceToNat, decide_true, decide_false, Bool.not_true, Bool.not_false, Nat.reduceLeDiff, Nat.reduceSub, Nat.reduceAdd, Nat.reduceEqDiff, reduceCtorEq, ↓reduceIte]
  refine Safe.rt rfl ?_
  simp only [E0, List.getElem?_cons_zero, List.getElem?_cons_succ, Option.isSome_some, List.map_cons, List.map_nil, List.nil_append, List.cons_append, c0, c1, c8, c9, c10, Int.reduceEq, Int.reduceNe, Int.reduceLT, Int.reduceLE, Int.reduceGT, Int.reduceGE, Int.reduceAdd, Int.reduceToNat, decide_true, decide_false, Bool.not_true, Bool.not_false, Nat.reduceLeDiff, Nat.reduceSub, Nat.reduceAdd, Nat.reduceEqDiff, reduceCtorEq, ↓reduceIte]
  exact ⟨rfl, _, rfl⟩
theorem booknames_pure : PureC Pr F_law27_BookNames [] (.bool true) := by
  refine PureC.intro law27_BookNames_fn law27_BookNames_ok (Nat.le_of_ble_eq_true rfl) (.bool _) fun H hH => ?_
  refine Safe.rg rfl ?_
  simp only [law27_BookNames_r0, E0, List.getElem?_cons_zero, List.getElem?_cons_succ, Option.isSome_some, List.map_cons, List.map_nil, List.nil_append, List.cons_append, c0, c1, c8, c9, c10, Int.reduceEq, Int.reduceNe, Int.reduceLT, Int.reduceLE, Int.reduceGT, Int.reduceGE, Int.reduceAdd, Int.reduceToNat, decide_true, decide_false, Bool.not_true, Bool.not_false, Nat.reduceLeDiff, Nat.reduceSub, Nat.reduceAdd, Nat.reduceEqDiff, reduceCtorEq, ↓reduceIte]
  refine Safe.rg rfl ?_
  simp only [law27_BookNames_r1, E0, List.getElem?_cons_zero, List.getElem?_cons_succ, Option.isSome_some, List.map_cons, List.map_nil, List.nil_append, List.cons_append, c0, c1, c8, c9, c10, Int.reduceEq, Int.reduceNe, Int.reduceLT, Int.reduceLE, Int.reduceGT, Int.reduceGE, Int.reduceAdd, Int.reduceToNat, decide_true, decide_false, Bool.not_true, Bool.not_false, Nat.reduceLeDiff, Nat.reduceSub, Nat.reduceAdd, Nat.reduceEqDiff, reduceCtorEq, ↓reduceIte]
  refine (read_calls (hap H [])).mono ?_
  rintro r' H' ⟨rfl, L, rfl⟩
  simp only [E0, List.getElem?_cons_zero, List.getElem?_cons_succ, Option.isSome_some, List.map_cons, List.map_nil, List.nil_append, List.cons_append, c0, c1, c8, c9, c10, Int.reduceEq, Int.reduceNe, Int.reduceLT, Int.reduceLE, Int.reduceGT, Int.reduceGE, Int.reduceAdd, Int.reduceToNat, decide_true, decide_false, Bool.not_true, Bool.not_false, Nat.reduceLeDiff, Nat.reduceSub, Nat.reduceAdd, Nat.reduceEqDiff, reduceCtorEq, ↓reduceIte]
  refine Safe.rg rfl ?_
  simp only [law27_BookNames_r2, E0, List.getElem?_cons_zero, List.getElem?_cons_succ, Option.isSome_some, List.map_cons, List.map_nil, List.nil_append, List.cons_append, c0, c1, c8, c9, c10, Int.reduceEq, Int.reduceNe, Int.reduceLT, Int.reduceLE, Int.reduceGT, Int.reduceGE, Int.reduceAdd, Int.reduceToNat, decide_true, decide_false, Bool.not_true, Bool.not_false, Nat.reduceLeDiff, Nat.reduceSub, Nat.reduceAdd, Nat.reduceEqDiff, reduceCtorEq, ↓reduceIte]
  refine Safe.rt rfl ?_
  simp only [E0, List.getElem?_cons_zero, List.getElem?_cons_succ, Option.isSome_some, List.map_cons, List.map_nil, List.nil_append, List.cons_append, c0, c1, c8, c9, c10, Int.reduceEq, Int.reduceNe, Int.reduceLT, Int.reduceLE, Int.reduceGT, Int.reduceGE, Int.reduceAdd, Int.reduceToNat, decide_true, decide_false, Bool.not_true, Bool.not_false, Nat.reduceLeDiff, Nat.reduceSub, Nat.reduceAdd, Nat.reduceEqDiff, reduceCtorEq, ↓reduceIte]
  exact ⟨rfl, _, hap_hap' _ _ _⟩
end Go.Abs

/- The walks: sums of rows, products. -/
import Derived.Test.YtofbhhncpjegfaaW6
import Derived.Test.YtofbhhncpjegfaaD6
set_option linter.unusedVariables false
set_option linter.unusedSimpArgs false
namespace Go.Abs
theorem combine_pure (x : List ZI) (b : List (List ZI)) (p q : Nat) (hx : Vok p x) (hb : Mok q b) (hp : p + q + 2 < 17592186044416) (hr : Rect b) (hl : x.length = b.length) : PureC Pr F_mat_combine [vecV x, matV b] (vecV (combV x b)) := by
  have hbl := hb.len
  refine PureC.introL mat_combine_fn mat_combine_ok (Nat.le_of_ble_eq_true rfl) (vecV_cl _) fun H hH => ?_
  refine Safe.rg rfl ?_
  simp only [mat_combine_r0, E3, Nat.reduceLeDiff, Nat.reduceSub, Nat.reduceAdd, Nat.reduceEqDiff, reduceCtorEq, ↓reduceIte]
  refine Safe.rg rfl ?_
  simp only [mat_combine_r1, E3, Nat.reduceLeDiff, Nat.reduceSub, Nat.reduceAdd, Nat.reduceEqDiff, reduceCtorEq, ↓reduceIte]
  refine Safe.cd rfl ?_
  simp only [E3, Nat.reduceLeDiff, Nat.reduceSub, Nat.reduceAdd, Nat.reduceEqDiff, reduceCtorEq, ↓reduceIte]
  by_cases h0 : b.length = 0
  · have h0' : (b.length : Int) = 0 := by omega
    have hw : combV x b = [] := by simp [combV, wid, mg, List.length_eq_zero_iff.1 h0, vec]
    simp only [h0', E3, Nat.reduceLeDiff, Nat.reduceSub, Nat.reduceAdd, Nat.reduceEqDiff, reduceCtorEq, ↓reduceIte]
    refine Safe.rg rfl ?_
    simp only [mat_combine_r2, E3, Nat.reduceLeDiff, Nat.reduceSub, Nat.reduceAdd, Nat.reduceEqDiff, reduceCtorEq, ↓reduceIte]
    refine Safe.rt rfl ?_
    simp only [E3, Nat.reduceLeDiff, Nat.reduceSub, Nat.reduceAdd, Nat.reduceEqDiff, reduceCtorEq, ↓reduceIte]
    rw [hw]
    exact ⟨Le.nilvec, _, rfl⟩
  · have h0' : ¬ (b.length : Int) = 0 := by omega
    have hw0 : b[0].length = wid b := (wid_lt (by omega)).symm
    have hwl := (hb.row 0).len
    rw [show (mg b 0).length = wid b from rfl] at hwl
    simp only [h0', E3, Nat.reduceLeDiff, Nat.reduceSub, Nat.reduceAdd, Nat.reduceEqDiff, reduceCtorEq, ↓reduceIte]
    refine Safe.rg rfl ?_
    simp only [mat_combine_r3, mat_idx0 _ b _ (show 0 < b.length by omega), hw0, mkslV_int _ H [] 2 32 (.agg [.bool false, .nil]) .i64 .i64 (wid b) (wid b) (by decide) (Nat.le_refl _) (by omega) (by omega), E3, Nat.reduceLeDiff, Nat.reduceSub, Nat.reduceAdd, Nat.reduceEqDiff, reduceCtorEq, ↓reduceIte]
    refine Safe.toldRep 0 (wid b) rfl ?_
    simp only [E3, Nat.reduceLeDiff, Nat.reduceSub, Nat.reduceAdd, Nat.reduceEqDiff, reduceCtorEq, ↓reduceIte]
    refine Safe.rg rfl ?_
    simp only [mat_combine_r4, E3, Nat.reduceLeDiff, Nat.reduceSub, Nat.reduceAdd, Nat.reduceEqDiff, reduceCtorEq, ↓reduceIte]
    refine Safe.lp rfl ?_
    refine Safe.keep [0, 5, 18, 19, 20] ?_
    try simp only [E3, Nat.reduceLeDiff, Nat.reduceSub, Nat.reduceAdd, Nat.reduceEqDiff, reduceCtorEq, ↓reduceIte]
    refine Safe.loopN (b.length) (fun i => [(0, vecV x), (5, .mu (lid H 0) 0 (wid b) (some (wid b))), (18, matV b), (19, .int .i64 b.length), (20, .int .i64 i)]) (fun i => hap H [some ⟨2, (vec (wid b) fun k => cmbS x b k i).map ZI.av⟩]) rfl rfl (fun i hi ih => ?_) ?_
    · have hlt : (i : Int) < (b.length : Int) := by omega
      have hri := rect_w hr hi
      have hiw : IntKind.wrap .i64 ((i : Int) + 1) = ((i + 1 : Nat) : Int) := by rw [wrap_i64] <;> omega
      refine Safe.inLoop ?_
      refine Safe.rg rfl ?_
      simp only [mat_combine_r5, hlt, E3, Nat.reduceLeDiff, Nat.reduceSub, Nat.reduceAdd, Nat.reduceEqDiff, reduceCtorEq, ↓reduceIte]
      refine Safe.cd rfl ?_
      simp only [E3, Nat.reduceLeDiff, Nat.reduceSub, Nat.reduceAdd, Nat.reduceEqDiff, reduceCtorEq, ↓reduceIte]
      refine Safe.rg rfl ?_
      simp only [mat_combine_r6, mat_idx _ b _ i hi, E3, Nat.reduceLeDiff, Nat.reduceSub, Nat.reduceAdd, Nat.reduceEqDiff, reduceCtorEq, ↓reduceIte]
      refine Safe.rg rfl ?_
      simp only [mat_combine_r7, hri, E3, Nat.reduceLeDiff, Nat.reduceSub, Nat.reduceAdd, Nat.reduceEqDiff, reduceCtorEq, ↓reduceIte]
      refine Safe.lp rfl ?_
      refine Safe.keep [0, 5, 6, 18, 19, 20, 25, 26, 27] ?_
      simp only [E3, Nat.reduceLeDiff, Nat.reduceSub, Nat.reduceAdd, Nat.reduceEqDiff, reduceCtorEq, ↓reduceIte]
      refine Safe.loopN (wid b) (fun j => [(0, vecV x), (5, .mu (lid H 0) 0 (wid b) (some (wid b))), (6, .int .i64 i), (18, matV b), (19, .int .i64 b.length), (20, .int .i64 i), (25, vecV b[i]), (26, .int .i64 (wid b)), (27, .int .i64 j)]) (fun j => hap H [some ⟨2, (vec (wid b) (cmbF x b i j)).map ZI.av⟩]) rfl (by rw [cmbF_zero]) (fun j hj ih2 => ?_) ?_
      · have hlt2 : (j : Int) < (wid b : Int) := by omega
        have hjw : IntKind.wrap .i64 ((j : Int) + 1) = ((j + 1 : Nat) : Int) := by rw [wrap_i64] <;> omega
        have hm := zmul_pure x[i] b[i][j] p q (hx.get (by omega)) ((hb.get hi).get (by omega)) (by omega)
        rw [← zg_lt (show i < x.length by omega), mgz hi (show j < b[i].length by omega)] at hm
        have ha := zadd_can (cmbF_abs hx hb hi j (j := j)) (Nat.lt_of_lt_of_le (mul_abs (hx.abs i) ((hb.row i).abs j)) (lb_mono (show p + q ≤ p + q + 2 by omega))) hp
        refine Safe.inLoop ?_
        refine Safe.rg rfl ?_
        simp only [mat_combine_r8, hlt2, E3, Nat.reduceLeDiff, Nat.reduceSub, Nat.reduceAdd, Nat.reduceEqDiff, reduceCtorEq, ↓reduceIte]
        refine Safe.cd rfl ?_
        simp only [E3, Nat.reduceLeDiff, Nat.reduceSub, Nat.reduceAdd, Nat.reduceEqDiff, reduceCtorEq, ↓reduceIte]
        refine Safe.rg rfl ?_
        simp only [mat_combine_r9, vec_idx _ b[i] _ j (by omega), E3, Nat.reduceLeDiff, Nat.reduceSub, Nat.reduceAdd, Nat.reduceEqDiff, reduceCtorEq, ↓reduceIte]
        refine Safe.rg rfl ?_
        simp only [mat_combine_r10, idx_r0 hj, at_r0 hj, vec_idx _ x _ i (by omega), E3, Nat.reduceLeDiff, Nat.reduceSub, Nat.reduceAdd, Nat.reduceEqDiff, reduceCtorEq, ↓reduceIte]
        first | refine (hm).acall ?_ | refine (hm).dcall ?_
        try simp only [E3, Nat.reduceLeDiff, Nat.reduceSub, Nat.reduceAdd, Nat.reduceEqDiff, reduceCtorEq, ↓reduceIte]
        first | refine (ha).acall ?_ | refine (ha).dcall ?_
        try simp only [E3, Nat.reduceLeDiff, Nat.reduceSub, Nat.reduceAdd, Nat.reduceEqDiff, reduceCtorEq, ↓reduceIte]
        simp only [idx_r0 hj, st_r0 hj, E3, Nat.reduceLeDiff, Nat.reduceSub, Nat.reduceAdd, Nat.reduceEqDiff, reduceCtorEq, ↓reduceIte]
        rw [cmbF_step]
        refine Safe.rg rfl ?_
        simp only [mat_combine_r11, hjw, E3, Nat.reduceLeDiff, Nat.reduceSub, Nat.reduceAdd, Nat.reduceEqDiff, reduceCtorEq, ↓reduceIte]
        refine Safe.keep [0, 5, 6, 18, 19, 20, 25, 26, 27] ?_
        simp only [E3, Nat.reduceLeDiff, Nat.reduceSub, Nat.reduceAdd, Nat.reduceEqDiff, reduceCtorEq, ↓reduceIte]
        refine Safe.drop1 hH rfl (by simp only [List.all_cons, List.all_nil, E3, Nat.reduceLeDiff, Nat.reduceSub, Nat.reduceAdd, Nat.reduceEqDiff, reduceCtorEq, ↓reduceIte]) (by repeat (first | exact RC.nil | refine RC.none ?_ | refine RC.row ZI.cl ?_ | refine RC.row vecV_cl ?_ | refine RC.emp ?_ | refine RC.zero ?_ | refine RC.one (Z_cl _) ?_ | refine RC.one (ZI.cl _) ?_ | refine RC.one (vecV_cl _) ?_)) ?_
        exact ih2
      · refine Safe.inLoop ?_
        refine Safe.rg rfl ?_
        simp only [mat_combine_r8, Int.lt_irrefl, E3, Nat.reduceLeDiff, Nat.reduceSub, Nat.reduceAdd, Nat.reduceEqDiff, reduceCtorEq, ↓reduceIte]
        refine Safe.cd rfl ?_
        simp only [E3, Nat.reduceLeDiff, Nat.reduceSub, Nat.reduceAdd, Nat.reduceEqDiff, reduceCtorEq, ↓reduceIte]
        rw [cmbF_all]
        refine Safe.rg rfl ?_
        simp only [mat_combine_r12, hiw, E3, Nat.reduceLeDiff, Nat.reduceSub, Nat.reduceAdd, Nat.reduceEqDiff, reduceCtorEq, ↓reduceIte]
        refine Safe.keep [0, 5, 18, 19, 20] ?_
        simp only [E3, Nat.reduceLeDiff, Nat.reduceSub, Nat.reduceAdd, Nat.reduceEqDiff, reduceCtorEq, ↓reduceIte]
        exact ih
    · refine Safe.inLoop ?_
      refine Safe.rg rfl ?_
      simp only [mat_combine_r5, Int.lt_irrefl, E3, Nat.reduceLeDiff, Nat.reduceSub, Nat.reduceAdd, Nat.reduceEqDiff, reduceCtorEq, ↓reduceIte]
      refine Safe.cd rfl ?_
      simp only [E3, Nat.reduceLeDiff, Nat.reduceSub, Nat.reduceAdd, Nat.reduceEqDiff, reduceCtorEq, ↓reduceIte]
      refine Safe.freeze 0 hH rfl rfl (blk_map 2 ZI.av _ ZI.cl) ?_
      refine Safe.keep [5] ?_
      simp only [frz_vec H 0 (vec (wid b) fun k => cmbS x b k b.length) (wid b) (some (wid b)) (by simp only [vec_length, mat_length]), frz_mu_other, frz_loc_other, map_frz_vec, map_frz_mat, E3, Nat.reduceLeDiff, Nat.reduceSub, Nat.reduceAdd, Nat.reduceEqDiff, reduceCtorEq, ↓reduceIte]
      refine Safe.rg rfl ?_
      simp only [mat_combine_r13, E3, Nat.reduceLeDiff, Nat.reduceSub, Nat.reduceAdd, Nat.reduceEqDiff, reduceCtorEq, ↓reduceIte]
      refine Safe.rt rfl ?_
      simp only [E3, Nat.reduceLeDiff, Nat.reduceSub, Nat.reduceAdd, Nat.reduceEqDiff, reduceCtorEq, ↓reduceIte]
      exact ⟨Le.refl _, _, rfl⟩

theorem comb_rect (x : List ZI) (b : List (List ZI)) (p q : Nat) (hx : Vok p x) (hb : Mok q b) (hp : p + q + 2 < 17592186044416) (hr : Rect b) (hl : x.length = b.length) : PureC Pr F_mat_Combine [vecV x, matV b] (.tup [vecV (combV x b), .int .i64 0]) := by
  have hl' : (x.length : Int) = (b.length : Int) := by omega
  refine PureC.intro mat_Combine_fn mat_Combine_ok (Nat.le_of_ble_eq_true rfl) (cl_tup2 (vecV_cl _) (.int _ _)) fun H hH => ?_
  refine Safe.rg rfl ?_
  simp only [mat_Combine_r0, E3, Nat.reduceLeDiff, Nat.reduceSub, Nat.reduceAdd, Nat.reduceEqDiff, reduceCtorEq, ↓reduceIte]
  refine Safe.rg rfl ?_
  simp only [mat_Combine_r1, E3, Nat.reduceLeDiff, Nat.reduceSub, Nat.reduceAdd, Nat.reduceEqDiff, reduceCtorEq, ↓reduceIte]
  first | refine (mshape_ok b q hb hr).acall ?_ | refine (mshape_ok b q hb hr).dcall ?_
  try simp only [E3, Nat.reduceLeDiff, Nat.reduceSub, Nat.reduceAdd, Nat.reduceEqDiff, reduceCtorEq, ↓reduceIte]
  refine Safe.rg rfl ?_
  simp only [mat_Combine_r2, hl', E3, Nat.reduceLeDiff, Nat.reduceSub, Nat.reduceAdd, Nat.reduceEqDiff, reduceCtorEq, ↓reduceIte]
  refine Safe.cd rfl ?_
  simp only [E3, Nat.reduceLeDiff, Nat.reduceSub, Nat.reduceAdd, Nat.reduceEqDiff, reduceCtorEq, ↓reduceIte]
  refine Safe.rg rfl ?_
  simp only [mat_Combine_r4, E3, Nat.reduceLeDiff, Nat.reduceSub, Nat.reduceAdd, Nat.reduceEqDiff, reduceCtorEq, ↓reduceIte]
  first | refine (combine_pure x b p q hx hb hp hr hl).acall ?_ | refine (combine_pure x b p q hx hb hp hr hl).dcall ?_
  try simp only [E3, Nat.reduceLeDiff, Nat.reduceSub, Nat.reduceAdd, Nat.reduceEqDiff, reduceCtorEq, ↓reduceIte]
  refine Safe.rt rfl ?_
  simp only [E3, Nat.reduceLeDiff, Nat.reduceSub, Nat.reduceAdd, Nat.reduceEqDiff, reduceCtorEq, ↓reduceIte]
  first | exact ⟨rfl, _, rfl⟩ | exact ⟨_, rfl⟩ | exact ⟨trivial, _, rfl⟩
theorem comb_bad (x : List ZI) (b : List (List ZI)) (q : Nat) (hb : Mok q b) (hr : ¬ (Rect b ∧ x.length = b.length)) : PureC Pr F_mat_Combine [vecV x, matV b] (.tup [vecV [], .int .i64 8]) := by
  by_cases h : Rect b
  · have hl' : ¬ (x.length : Int) = (b.length : Int) := fun e => hr ⟨h, by omega⟩
    refine PureC.introL mat_Combine_fn mat_Combine_ok (Nat.le_of_ble_eq_true rfl) (cl_tup2 (vecV_cl _) (.int _ _)) fun H hH => ?_
    refine Safe.rg rfl ?_
    simp only [mat_Combine_r0, E3, Nat.reduceLeDiff, Nat.reduceSub, Nat.reduceAdd, Nat.reduceEqDiff, reduceCtorEq, ↓reduceIte]
    refine Safe.rg rfl ?_
    simp only [mat_Combine_r1, E3, Nat.reduceLeDiff, Nat.reduceSub, Nat.reduceAdd, Nat.reduceEqDiff, reduceCtorEq, ↓reduceIte]
    first | refine (mshape_ok b q hb h).acall ?_ | refine (mshape_ok b q hb h).dcall ?_
    try simp only [E3, Nat.reduceLeDiff, Nat.reduceSub, Nat.reduceAdd, Nat.reduceEqDiff, reduceCtorEq, ↓reduceIte]
    refine Safe.rg rfl ?_
    simp only [mat_Combine_r2, hl', E3, Nat.reduceLeDiff, Nat.reduceSub, Nat.reduceAdd, Nat.reduceEqDiff, reduceCtorEq, ↓reduceIte]
    refine Safe.cd rfl ?_
    simp only [E3, Nat.reduceLeDiff, Nat.reduceSub, Nat.reduceAdd, Nat.reduceEqDiff, reduceCtorEq, ↓reduceIte]
    refine Safe.rg rfl ?_
    simp only [mat_Combine_r3, E3, Nat.reduceLeDiff, Nat.reduceSub, Nat.reduceAdd, Nat.reduceEqDiff, reduceCtorEq, ↓reduceIte]
    refine Safe.rt rfl ?_
    simp only [E3, Nat.reduceLeDiff, Nat.reduceSub, Nat.reduceAdd, Nat.reduceEqDiff, reduceCtorEq, ↓reduceIte]
    exact ⟨Le.tup2 Le.nilvec (Le.refl _), _, rfl⟩
  · refine PureC.introL mat_Combine_fn mat_Combine_ok (Nat.le_of_ble_eq_true rfl) (cl_tup2 (vecV_cl _) (.int _ _)) fun H hH => ?_
    refine Safe.rg rfl ?_
    simp only [mat_Combine_r0, E3, Nat.reduceLeDiff, Nat.reduceSub, Nat.reduceAdd, Nat.reduceEqDiff, reduceCtorEq, ↓reduceIte]
    refine Safe.rg rfl ?_
    simp only [mat_Combine_r1, E3, Nat.reduceLeDiff, Nat.reduceSub, Nat.reduceAdd, Nat.reduceEqDiff, reduceCtorEq, ↓reduceIte]
    first | refine (mshape_bad b q hb h).acall ?_ | refine (mshape_bad b q hb h).dcall ?_
    try simp only [E3, Nat.reduceLeDiff, Nat.reduceSub, Nat.reduceAdd, Nat.reduceEqDiff, reduceCtorEq, ↓reduceIte]
    refine Safe.rg rfl ?_
    simp only [mat_Combine_r2, show ¬ (8 : Int) = 0 by decide, E3, Nat.reduceLeDiff, Nat.reduceSub, Nat.reduceAdd, Nat.reduceEqDiff, reduceCtorEq, ↓reduceIte]
    refine Safe.cd rfl ?_
    simp only [E3, Nat.reduceLeDiff, Nat.reduceSub, Nat.reduceAdd, Nat.reduceEqDiff, reduceCtorEq, ↓reduceIte]
    refine Safe.rg rfl ?_
    simp only [mat_Combine_r3, E3, Nat.reduceLeDiff, Nat.reduceSub, Nat.reduceAdd, Nat.reduceEqDiff, reduceCtorEq, ↓reduceIte]
    refine Safe.rt rfl ?_
    simp only [E3, Nat.reduceLeDiff, Nat.reduceSub, Nat.reduceAdd, Nat.reduceEqDiff, reduceCtorEq, ↓reduceIte]
    exact ⟨Le.tup2 Le.nilvec (Le.refl _), _, rfl⟩
theorem rcomb_bad (x : List ZI) (b : List (List ZI)) (q : Nat) (hb : Mok q b) (hr : ¬ (Rect b ∧ x.length = b.length)) : PureC Pr F_ref04_Combine [vecV x, matV b] (.tup [vecV [], .int .i64 8]) := by
  by_cases h : Rect b
  · have hl' : ¬ (x.length : Int) = (b.length : Int) := fun e => hr ⟨h, by omega⟩
    refine PureC.introL ref04_Combine_fn ref04_Combine_ok (Nat.le_of_ble_eq_true rfl) (cl_tup2 (vecV_cl _) (.int _ _)) fun H hH => ?_
    refine Safe.rg rfl ?_
    simp only [ref04_Combine_r0, E3, Nat.reduceLeDiff, Nat.reduceSub, Nat.reduceAdd, Nat.reduceEqDiff, reduceCtorEq, ↓reduceIte]
    refine Safe.rg rfl ?_
    simp only [ref04_Combine_r1, E3, Nat.reduceLeDiff, Nat.reduceSub, Nat.reduceAdd, Nat.reduceEqDiff, reduceCtorEq, ↓reduceIte]
    first | refine (rshape_ok b q hb h).acall ?_ | refine (rshape_ok b q hb h).dcall ?_
    try simp only [E3, Nat.reduceLeDiff, Nat.reduceSub, Nat.reduceAdd, Nat.reduceEqDiff, reduceCtorEq, ↓reduceIte]
    refine Safe.rg rfl ?_
    simp only [ref04_Combine_r2, hl', E3, Nat.reduceLeDiff, Nat.reduceSub, Nat.reduceAdd, Nat.reduceEqDiff, reduceCtorEq, ↓reduceIte]
    refine Safe.cd rfl ?_
    simp only [E3, Nat.reduceLeDiff, Nat.reduceSub, Nat.reduceAdd, Nat.reduceEqDiff, reduceCtorEq, ↓reduceIte]
    refine Safe.rg rfl ?_
    simp only [ref04_Combine_r3, E3, Nat.reduceLeDiff, Nat.reduceSub, Nat.reduceAdd, Nat.reduceEqDiff, reduceCtorEq, ↓reduceIte]
    refine Safe.rt rfl ?_
    simp only [E3, Nat.reduceLeDiff, Nat.reduceSub, Nat.reduceAdd, Nat.reduceEqDiff, reduceCtorEq, ↓reduceIte]
    exact ⟨Le.tup2 Le.nilvec (Le.refl _), _, rfl⟩
  · refine PureC.introL ref04_Combine_fn ref04_Combine_ok (Nat.le_of_ble_eq_true rfl) (cl_tup2 (vecV_cl _) (.int _ _)) fun H hH => ?_
    refine Safe.rg rfl ?_
    simp only [ref04_Combine_r0, E3, Nat.reduceLeDiff, Nat.reduceSub, Nat.reduceAdd, Nat.reduceEqDiff, reduceCtorEq, ↓reduceIte]
    refine Safe.rg rfl ?_
    simp only [ref04_Combine_r1, E3, Nat.reduceLeDiff, Nat.reduceSub, Nat.reduceAdd, Nat.reduceEqDiff, reduceCtorEq, ↓reduceIte]
    first | refine (rshape_bad b q hb h).acall ?_ | refine (rshape_bad b q hb h).dcall ?_
    try simp only [E3, Nat.reduceLeDiff, Nat.reduceSub, Nat.reduceAdd, Nat.reduceEqDiff, reduceCtorEq, ↓reduceIte]
    refine Safe.rg rfl ?_
    simp only [ref04_Combine_r2, show ¬ (8 : Int) = 0 by decide, E3, Nat.reduceLeDiff, Nat.reduceSub, Nat.reduceAdd, Nat.reduceEqDiff, reduceCtorEq, ↓reduceIte]
    refine Safe.cd rfl ?_
    simp only [E3, Nat.reduceLeDiff, Nat.reduceSub, Nat.reduceAdd, Nat.reduceEqDiff, reduceCtorEq, ↓reduceIte]
    refine Safe.rg rfl ?_
    simp only [ref04_Combine_r3, E3, Nat.reduceLeDiff, Nat.reduceSub, Nat.reduceAdd, Nat.reduceEqDiff, reduceCtorEq, ↓reduceIte]
    refine Safe.rt rfl ?_
    simp only [E3, Nat.reduceLeDiff, Nat.reduceSub, Nat.reduceAdd, Nat.reduceEqDiff, reduceCtorEq, ↓reduceIte]
    exact ⟨Le.tup2 Le.nilvec (Le.refl _), _, rfl⟩
theorem rcomb_rect (x : List ZI) (b : List (List ZI)) (p q : Nat) (hx : Vok p x) (hb : Mok q b) (hp : p + q + 2 < 17592186044416) (hr : Rect b) (hl : x.length = b.length) : PureC Pr F_ref04_Combine [vecV x, matV b] (.tup [vecV (combV x b), .int .i64 0]) := by
  have hbl := hb.len
  have hl' : (x.length : Int) = (b.length : Int) := by omega
  have hwl := (hb.row 0).len
  rw [show (mg b 0).length = wid b from rfl] at hwl
  refine PureC.intro ref04_Combine_fn ref04_Combine_ok (Nat.le_of_ble_eq_true rfl) (cl_tup2 (vecV_cl _) (.int _ _)) fun H hH => ?_
  refine Safe.rg rfl ?_
  simp only [ref04_Combine_r0, E3, Nat.reduceLeDiff, Nat.reduceSub, Nat.reduceAdd, Nat.reduceEqDiff, reduceCtorEq, ↓reduceIte]
  refine Safe.rg rfl ?_
  simp only [ref04_Combine_r1, E3, Nat.reduceLeDiff, Nat.reduceSub, Nat.reduceAdd, Nat.reduceEqDiff, reduceCtorEq, ↓reduceIte]
  first | refine (rshape_ok b q hb hr).acall ?_ | refine (rshape_ok b q hb hr).dcall ?_
  try simp only [E3, Nat.reduceLeDiff, Nat.reduceSub, Nat.reduceAdd, Nat.reduceEqDiff, reduceCtorEq, ↓reduceIte]
  refine Safe.rg rfl ?_
  simp only [ref04_Combine_r2, hl', E3, Nat.reduceLeDiff, Nat.reduceSub, Nat.reduceAdd, Nat.reduceEqDiff, reduceCtorEq, ↓reduceIte]
  refine Safe.cd rfl ?_
  simp only [E3, Nat.reduceLeDiff, Nat.reduceSub, Nat.reduceAdd, Nat.reduceEqDiff, reduceCtorEq, ↓reduceIte]
  refine Safe.rg rfl ?_
  simp only [ref04_Combine_r4, E3, Nat.reduceLeDiff, Nat.reduceSub, Nat.reduceAdd, Nat.reduceEqDiff, reduceCtorEq, ↓reduceIte]
  refine Safe.nilrow 9 2 (by decide) (by simp only [E3, Nat.reduceLeDiff, Nat.reduceSub, Nat.reduceAdd, Nat.reduceEqDiff, reduceCtorEq, ↓reduceIte]) ?_
  refine Safe.rg rfl ?_
  simp only [ref04_Combine_r5, E3, Nat.reduceLeDiff, Nat.reduceSub, Nat.reduceAdd, Nat.reduceEqDiff, reduceCtorEq, ↓reduceIte]
  refine Safe.lp rfl ?_
  refine Safe.keep [0, 1, 7, 9, 10] ?_
  try simp only [E3, Nat.reduceLeDiff, Nat.reduceSub, Nat.reduceAdd, Nat.reduceEqDiff, reduceCtorEq, ↓reduceIte]
  refine Safe.loopN (wid b) (fun i => [(0, vecV x), (1, matV b), (7, .int .i64 (wid b)), (9, .mu (lid H 0) 0 i none), (10, .int .i64 i)]) (fun i => hap H [some ⟨2, (vec i fun k => cmbS x b k b.length).map ZI.av⟩]) rfl rfl (fun i hi ih => ?_) ?_
  · have hlt : (i : Int) < (wid b : Int) := by omega
    have hiw : IntKind.wrap .i64 ((i : Int) + 1) = ((i + 1 : Nat) : Int) := by rw [wrap_i64] <;> omega
    refine Safe.inLoop ?_
    refine Safe.rg rfl ?_
    simp only [ref04_Combine_r6, hlt, E3, Nat.reduceLeDiff, Nat.reduceSub, Nat.reduceAdd, Nat.reduceEqDiff, reduceCtorEq, ↓reduceIte]
    refine Safe.cd rfl ?_
    simp only [E3, Nat.reduceLeDiff, Nat.reduceSub, Nat.reduceAdd, Nat.reduceEqDiff, reduceCtorEq, ↓reduceIte]
    refine Safe.rg rfl ?_
    simp only [ref04_Combine_r7, E3, Nat.reduceLeDiff, Nat.reduceSub, Nat.reduceAdd, Nat.reduceEqDiff, reduceCtorEq, ↓reduceIte]
    first | refine (r2of_pure 0 (by omega) (by omega)).acall ?_ | refine (r2of_pure 0 (by omega) (by omega)).dcall ?_
    try simp only [E3, Nat.reduceLeDiff, Nat.reduceSub, Nat.reduceAdd, Nat.reduceEqDiff, reduceCtorEq, ↓reduceIte]
    refine Safe.rg rfl ?_
    simp only [ref04_Combine_r8, E3, Nat.reduceLeDiff, Nat.reduceSub, Nat.reduceAdd, Nat.reduceEqDiff, reduceCtorEq, ↓reduceIte]
    refine Safe.lp rfl ?_
    refine Safe.keep [0, 1, 7, 9, 10, 11, 12] ?_
    simp only [E3, Nat.reduceLeDiff, Nat.reduceSub, Nat.reduceAdd, Nat.reduceEqDiff, reduceCtorEq, ↓reduceIte]
    refine Safe.loopN b.length (fun j => [(0, vecV x), (1, matV b), (7, .int .i64 (wid b)), (9, .mu (lid H 0) 0 i none), (10, .int .i64 i), (11, .loc (lid H 1) 0 0), (12, .int .i64 j)]) (fun j => hap H [some ⟨2, (vec i fun k => cmbS x b k b.length).map ZI.av⟩, some ⟨2, [Z (cmbS x b i j)]⟩]) rfl rfl (fun j hj ih2 => ?_) ?_
    · have hlt2 : (j : Int) < (b.length : Int) := by omega
      have hjw : IntKind.wrap .i64 ((j : Int) + 1) = ((j + 1 : Nat) : Int) := by rw [wrap_i64] <;> omega
      have hri := rect_w hr hj
      have hm := r2mul_pure x[j] b[j][i] p q (hx.get (by omega)) ((hb.get hj).get (by omega)) (by omega)
      rw [← zg_lt (show j < x.length by omega), mgz hj (show i < b[j].length by omega)] at hm
      have ha := r2add_can (cmbS_abs hx hb i (Nat.le_of_lt hj)) (Nat.lt_of_lt_of_le (mul_abs (hx.abs j) ((hb.row j).abs i)) (lb_mono (show p + q ≤ p + q + 2 by omega))) hp
      refine Safe.inLoop ?_
      refine Safe.rg rfl ?_
      simp only [ref04_Combine_r9, hlt2, E3, Nat.reduceLeDiff, Nat.reduceSub, Nat.reduceAdd, Nat.reduceEqDiff, reduceCtorEq, ↓reduceIte]
      refine Safe.cd rfl ?_
      simp only [E3, Nat.reduceLeDiff, Nat.reduceSub, Nat.reduceAdd, Nat.reduceEqDiff, reduceCtorEq, ↓reduceIte]
      refine Safe.rg rfl ?_
      simp only [ref04_Combine_r10, vec_idx _ x _ j (by omega), mat_idx _ b _ j hj, vec_idx _ b[j] _ i (by omega), E3, Nat.reduceLeDiff, Nat.reduceSub, Nat.reduceAdd, Nat.reduceEqDiff, reduceCtorEq, ↓reduceIte]
      first | refine (hm).acall ?_ | refine (hm).dcall ?_
      try simp only [E3, Nat.reduceLeDiff, Nat.reduceSub, Nat.reduceAdd, Nat.reduceEqDiff, reduceCtorEq, ↓reduceIte]
      first | refine (ha).acall ?_ | refine (ha).dcall ?_
      try simp only [E3, Nat.reduceLeDiff, Nat.reduceSub, Nat.reduceAdd, Nat.reduceEqDiff, reduceCtorEq, ↓reduceIte]
      refine Safe.rg rfl ?_
      simp only [ref04_Combine_r11, hjw, E3, Nat.reduceLeDiff, Nat.reduceSub, Nat.reduceAdd, Nat.reduceEqDiff, reduceCtorEq, ↓reduceIte]
      refine Safe.keep [0, 1, 7, 9, 10, 11, 12] ?_
      simp only [E3, Nat.reduceLeDiff, Nat.reduceSub, Nat.reduceAdd, Nat.reduceEqDiff, reduceCtorEq, ↓reduceIte]
      exact ih2
    · refine Safe.inLoop ?_
      refine Safe.rg rfl ?_
      simp only [ref04_Combine_r9, Int.lt_irrefl, E3, Nat.reduceLeDiff, Nat.reduceSub, Nat.reduceAdd, Nat.reduceEqDiff, reduceCtorEq, ↓reduceIte]
      refine Safe.cd rfl ?_
      simp only [E3, Nat.reduceLeDiff, Nat.reduceSub, Nat.reduceAdd, Nat.reduceEqDiff, reduceCtorEq, ↓reduceIte]
      refine Safe.rg rfl ?_
      simp only [ref04_Combine_r12, E3, Nat.reduceLeDiff, Nat.reduceSub, Nat.reduceAdd, Nat.reduceEqDiff, reduceCtorEq, ↓reduceIte]
      rw [app_row hH 0 (lid_ge H 0) ZI.cl (vec i fun k => cmbS x b k b.length) (canZ (cmbS x b i b.length)) (vec (i + 1) fun k => cmbS x b k b.length) ?hlen ?hl ?hL ?hy ?hl2 ?hb ?hbb]
      case hlen => first | rfl | (simp only [vec_length, mat_length, List.length_map, List.length_take]; done) | (simp only [vec_length, mat_length, List.length_map, List.length_take]; omega)
      case hl => rfl
      case hL => repeat (first | exact RC.nil | refine RC.none ?_ | refine RC.row ZI.cl ?_ | refine RC.row vecV_cl ?_ | refine RC.emp ?_ | refine RC.zero ?_ | refine RC.one (Z_cl _) ?_ | refine RC.one (ZI.cl _) ?_ | refine RC.one (vecV_cl _) ?_)
      case hy => rfl
      case hl2 => first | exact vec_succ _ _ | exact mat_succ _ _ | exact take_succ _ (by omega) | exact take_map_succ _ _ (by omega)
      case hb => omega
      case hbb => omega
      simp only [E3, Nat.reduceLeDiff, Nat.reduceSub, Nat.reduceAdd, Nat.reduceEqDiff, reduceCtorEq, ↓reduceIte]
      refine Safe.rg rfl ?_
      simp only [ref04_Combine_r13, hiw, E3, Nat.reduceLeDiff, Nat.reduceSub, Nat.reduceAdd, Nat.reduceEqDiff, reduceCtorEq, ↓reduceIte]
      refine Safe.keep [0, 1, 7, 9, 10] ?_
      simp only [E3, Nat.reduceLeDiff, Nat.reduceSub, Nat.reduceAdd, Nat.reduceEqDiff, reduceCtorEq, ↓reduceIte]
      refine Safe.drop1 hH rfl (by simp only [List.all_cons, List.all_nil, E3, Nat.reduceLeDiff, Nat.reduceSub, Nat.reduceAdd, Nat.reduceEqDiff, reduceCtorEq, ↓reduceIte]) (by repeat (first | exact RC.nil | refine RC.none ?_ | refine RC.row ZI.cl ?_ | refine RC.row vecV_cl ?_ | refine RC.emp ?_ | refine RC.zero ?_ | refine RC.one (Z_cl _) ?_ | refine RC.one (ZI.cl _) ?_ | refine RC.one (vecV_cl _) ?_)) ?_
      exact ih
  · refine Safe.inLoop ?_
    refine Safe.rg rfl ?_
    simp only [ref04_Combine_r6, Int.lt_irrefl, E3, Nat.reduceLeDiff, Nat.reduceSub, Nat.reduceAdd, Nat.reduceEqDiff, reduceCtorEq, ↓reduceIte]
    refine Safe.cd rfl ?_
    simp only [E3, Nat.reduceLeDiff, Nat.reduceSub, Nat.reduceAdd, Nat.reduceEqDiff, reduceCtorEq, ↓reduceIte]
    refine Safe.freeze 0 hH rfl rfl (blk_map 2 ZI.av _ ZI.cl) ?_
    refine Safe.keep [9] ?_
    simp only [frz_vec H 0 (vec (wid b) fun k => cmbS x b k b.length) (wid b) (none) (by simp only [vec_length, mat_length]), frz_mu_other, frz_loc_other, map_frz_vec, map_frz_mat, E3, Nat.reduceLeDiff, Nat.reduceSub, Nat.reduceAdd, Nat.reduceEqDiff, reduceCtorEq, ↓reduceIte]
    refine Safe.rg rfl ?_
    simp only [ref04_Combine_r14, E3, Nat.reduceLeDiff, Nat.reduceSub, Nat.reduceAdd, Nat.reduceEqDiff, reduceCtorEq, ↓reduceIte]
    refine Safe.rt rfl ?_
    simp only [E3, Nat.reduceLeDiff, Nat.reduceSub, Nat.reduceAdd, Nat.reduceEqDiff, reduceCtorEq, ↓reduceIte]
    first | exact ⟨rfl, _, rfl⟩ | exact ⟨_, rfl⟩ | exact ⟨trivial, _, rfl⟩

theorem ro_mat_cl (b : List (List ZI)) (off : Nat) : Cl (.ro (matV b) off) := .ro _ _ (clcells (matV_cl b))
theorem ro_vec_cl (b : List ZI) (off : Nat) : Cl (.ro (vecV b) off) := .ro _ _ (clcells (vecV_cl b))
theorem blk_one {wd : Nat} {a : AV} (h : Cl a) : ∀ c ∈ (Blk.mk wd [a]).flat, Cl c := fun c hc => by
  simp only [Blk.flat, List.flatMap_cons, List.flatMap_nil, List.append_nil] at hc
  exact clcells h c hc

theorem prod1_pure (x : List ZI) (b : List (List ZI)) (p q : Nat) (hx : Vok p x) (hb : Mok q b) (hp : p + q + 2 < 17592186044416) (hr : Rect b) (hl : x.length = b.length) : PureC Pr F_mat_Product_1 [vecV x, .ro (matV b) 0] (vecV (combV x b)) := by
  refine PureC.intro mat_Product_1_fn mat_Product_1_ok (Nat.le_of_ble_eq_true rfl) (vecV_cl _) fun H hH => ?_
  refine Safe.rg rfl ?_
  simp only [mat_Product_1_r0, E3, Nat.reduceLeDiff, Nat.reduceSub, Nat.reduceAdd, Nat.reduceEqDiff, reduceCtorEq, ↓reduceIte]
  refine Safe.rg rfl ?_
  simp only [mat_Product_1_r1, E3, Nat.reduceLeDiff, Nat.reduceSub, Nat.reduceAdd, Nat.reduceEqDiff, reduceCtorEq, ↓reduceIte]
  first | refine (combine_pure x b p q hx hb hp hr hl).acall ?_ | refine (combine_pure x b p q hx hb hp hr hl).dcall ?_
  try simp only [E3, Nat.reduceLeDiff, Nat.reduceSub, Nat.reduceAdd, Nat.reduceEqDiff, reduceCtorEq, ↓reduceIte]
  refine Safe.rt rfl ?_
  simp only [E3, Nat.reduceLeDiff, Nat.reduceSub, Nat.reduceAdd, Nat.reduceEqDiff, reduceCtorEq, ↓reduceIte]
  first | exact ⟨rfl, _, rfl⟩ | exact ⟨_, rfl⟩ | exact ⟨trivial, _, rfl⟩

/-- Where a product is. -/
def Fits (a b : List (List ZI)) : Prop := Rect a ∧ Rect b ∧ (0 < a.length → wid a = b.length)

theorem product_ok (a b : List (List ZI)) (p q : Nat) (ha : Mok p a) (hb : Mok q b) (hp : p + q + 2 < 17592186044416) (hf : Fits a b) : PureC Pr F_mat_Product [matV a, matV b] (.tup [matV (prodM a b), .int .i64 0]) := by
  obtain ⟨hra, hrb, hw⟩ := hf
  have he := each_VV F_mat_Product_1 [.ro (matV b) 0] a (fun i => combV (mg a i) b) ha.len (cl_one (ro_mat_cl b 0)) fun i h => by
    have := prod1_pure a[i] b p q (ha.get h) hb hp hrb (by rw [rect_w hra h]; exact hw (by omega))
    rw [mg_lt h]; exact this
  refine PureC.intro mat_Product_fn mat_Product_ok (Nat.le_of_ble_eq_true rfl) (cl_tup2 (matV_cl _) (.int _ _)) fun H hH => ?_
  refine Safe.rg rfl ?_
  simp only [mat_Product_r0, E3, Nat.reduceLeDiff, Nat.reduceSub, Nat.reduceAdd, Nat.reduceEqDiff, reduceCtorEq, ↓reduceIte]
  refine Safe.freeze 0 (b := ⟨1, [matV b]⟩) hH rfl rfl (blk_one (matV_cl b)) ?_
  simp only [frz_loc_same, E3, Nat.reduceLeDiff, Nat.reduceSub, Nat.reduceAdd, Nat.reduceEqDiff, reduceCtorEq, ↓reduceIte]
  refine Safe.rg rfl ?_
  simp only [mat_Product_r1, E3, Nat.reduceLeDiff, Nat.reduceSub, Nat.reduceAdd, Nat.reduceEqDiff, reduceCtorEq, ↓reduceIte]
  first | refine (mshape_ok a p ha hra).acall ?_ | refine (mshape_ok a p ha hra).dcall ?_
  try simp only [E3, Nat.reduceLeDiff, Nat.reduceSub, Nat.reduceAdd, Nat.reduceEqDiff, reduceCtorEq, ↓reduceIte]
  refine Safe.rg rfl ?_
  simp only [mat_Product_r2, E3, Nat.reduceLeDiff, Nat.reduceSub, Nat.reduceAdd, Nat.reduceEqDiff, reduceCtorEq, ↓reduceIte]
  first | refine (mshape_ok b q hb hrb).acall ?_ | refine (mshape_ok b q hb hrb).dcall ?_
  try simp only [E3, Nat.reduceLeDiff, Nat.reduceSub, Nat.reduceAdd, Nat.reduceEqDiff, reduceCtorEq, ↓reduceIte]
  by_cases h0 : a.length = 0
  · have h0' : ¬ (a.length : Int) > 0 := by omega
    refine Safe.rg rfl ?_
    simp only [mat_Product_r3, h0', E3, Nat.reduceLeDiff, Nat.reduceSub, Nat.reduceAdd, Nat.reduceEqDiff, reduceCtorEq, ↓reduceIte]
    refine Safe.cd rfl ?_
    simp only [E3, Nat.reduceLeDiff, Nat.reduceSub, Nat.reduceAdd, Nat.reduceEqDiff, reduceCtorEq, ↓reduceIte]
    refine Safe.rg rfl ?_
    simp only [mat_Product_r5, E3, Nat.reduceLeDiff, Nat.reduceSub, Nat.reduceAdd, Nat.reduceEqDiff, reduceCtorEq, ↓reduceIte]
    first | refine (he).acall ?_ | refine (he).dcall ?_
    try simp only [E3, Nat.reduceLeDiff, Nat.reduceSub, Nat.reduceAdd, Nat.reduceEqDiff, reduceCtorEq, ↓reduceIte]
    refine Safe.rt rfl ?_
    simp only [E3, Nat.reduceLeDiff, Nat.reduceSub, Nat.reduceAdd, Nat.reduceEqDiff, reduceCtorEq, ↓reduceIte]
    first | exact ⟨rfl, _, rfl⟩ | exact ⟨_, rfl⟩ | exact ⟨trivial, _, rfl⟩
  · have h0' : (a.length : Int) > 0 := by omega
    have hw' : (wid a : Int) = (b.length : Int) := by have := hw (by omega); omega
    refine Safe.rg rfl ?_
    simp only [mat_Product_r3, h0', hw', E3, Nat.reduceLeDiff, Nat.reduceSub, Nat.reduceAdd, Nat.reduceEqDiff, reduceCtorEq, ↓reduceIte]
    refine Safe.cd rfl ?_
    simp only [E3, Nat.reduceLeDiff, Nat.reduceSub, Nat.reduceAdd, Nat.reduceEqDiff, reduceCtorEq, ↓reduceIte]
    refine Safe.rg rfl ?_
    simp only [mat_Product_r5, E3, Nat.reduceLeDiff, Nat.reduceSub, Nat.reduceAdd, Nat.reduceEqDiff, reduceCtorEq, ↓reduceIte]
    first | refine (he).acall ?_ | refine (he).dcall ?_
    try simp only [E3, Nat.reduceLeDiff, Nat.reduceSub, Nat.reduceAdd, Nat.reduceEqDiff, reduceCtorEq, ↓reduceIte]
    refine Safe.rt rfl ?_
    simp only [E3, Nat.reduceLeDiff, Nat.reduceSub, Nat.reduceAdd, Nat.reduceEqDiff, reduceCtorEq, ↓reduceIte]
    first | exact ⟨rfl, _, rfl⟩ | exact ⟨_, rfl⟩ | exact ⟨trivial, _, rfl⟩
theorem fits_no {a b : List (List ZI)} (h : ¬ Fits a b) : ¬ Rect a ∨ (Rect a ∧ ¬ Rect b) ∨ (Rect a ∧ Rect b ∧ 0 < a.length ∧ wid a ≠ b.length) := by
  by_cases h1 : Rect a
  · by_cases h2 : Rect b
    · by_cases h3 : 0 < a.length
      · by_cases h4 : wid a = b.length
        · exact absurd ⟨h1, h2, fun _ => h4⟩ h
        · exact .inr (.inr ⟨h1, h2, h3, h4⟩)
      · exact absurd ⟨h1, h2, fun h => absurd h h3⟩ h
    · exact .inr (.inl ⟨h1, h2⟩)
  · exact .inl h1
theorem eight_ne : ((8 : Int) = 0) = False := by decide
theorem product_bad (a b : List (List ZI)) (p q : Nat) (ha : Mok p a) (hb : Mok q b) (hf : ¬ Fits a b) : PureC Pr F_mat_Product [matV a, matV b] (.tup [matV [], .int .i64 8]) := by
  have hsb : ∃ x y z : Int, PureC Pr F_mat_Shape [matV b] (.tup [.int .i64 x, .int .i64 y, .int .i64 z]) := by
    by_cases h : Rect b
    · exact ⟨_, _, _, mshape_ok b q hb h⟩
    · exact ⟨_, _, _, mshape_bad b q hb h⟩
  refine PureC.introL mat_Product_fn mat_Product_ok (Nat.le_of_ble_eq_true rfl) (cl_tup2 (matV_cl _) (.int _ _)) fun H hH => ?_
  refine Safe.rg rfl ?_
  simp only [mat_Product_r0, E3, Nat.reduceLeDiff, Nat.reduceSub, Nat.reduceAdd, Nat.reduceEqDiff, reduceCtorEq, ↓reduceIte]
  refine Safe.freeze 0 (b := ⟨1, [matV b]⟩) hH rfl rfl (blk_one (matV_cl b)) ?_
  simp only [frz_loc_same, E3, Nat.reduceLeDiff, Nat.reduceSub, Nat.reduceAdd, Nat.reduceEqDiff, reduceCtorEq, ↓reduceIte]
  refine Safe.rg rfl ?_
  simp only [mat_Product_r1, E3, Nat.reduceLeDiff, Nat.reduceSub, Nat.reduceAdd, Nat.reduceEqDiff, reduceCtorEq, ↓reduceIte]
  rcases fits_no hf with h1 | ⟨h1, h2⟩ | ⟨h1, h2, h3, h4⟩
  · obtain ⟨x, y, z, hs⟩ := hsb
    first | refine (mshape_bad a p ha h1).acall ?_ | refine (mshape_bad a p ha h1).dcall ?_
    try simp only [E3, Nat.reduceLeDiff, Nat.reduceSub, Nat.reduceAdd, Nat.reduceEqDiff, reduceCtorEq, ↓reduceIte]
    refine Safe.rg rfl ?_
    simp only [mat_Product_r2, E3, Nat.reduceLeDiff, Nat.reduceSub, Nat.reduceAdd, Nat.reduceEqDiff, reduceCtorEq, ↓reduceIte]
    first | refine (hs).acall ?_ | refine (hs).dcall ?_
    try simp only [E3, Nat.reduceLeDiff, Nat.reduceSub, Nat.reduceAdd, Nat.reduceEqDiff, reduceCtorEq, ↓reduceIte]
    refine Safe.rg rfl ?_
    simp only [mat_Product_r3, eight_ne, E3, Nat.reduceLeDiff, Nat.reduceSub, Nat.reduceAdd, Nat.reduceEqDiff, reduceCtorEq, ↓reduceIte]
    refine Safe.cd rfl ?_
    simp only [E3, Nat.reduceLeDiff, Nat.reduceSub, Nat.reduceAdd, Nat.reduceEqDiff, reduceCtorEq, ↓reduceIte]
    refine Safe.rg rfl ?_
    simp only [mat_Product_r4, E3, Nat.reduceLeDiff, Nat.reduceSub, Nat.reduceAdd, Nat.reduceEqDiff, reduceCtorEq, ↓reduceIte]
    refine Safe.rt rfl ?_
    simp only [E3, Nat.reduceLeDiff, Nat.reduceSub, Nat.reduceAdd, Nat.reduceEqDiff, reduceCtorEq, ↓reduceIte]
    exact ⟨Le.tup2 Le.nilmat (Le.refl _), _, rfl⟩
  · first | refine (mshape_ok a p ha h1).acall ?_ | refine (mshape_ok a p ha h1).dcall ?_
    try simp only [E3, Nat.reduceLeDiff, Nat.reduceSub, Nat.reduceAdd, Nat.reduceEqDiff, reduceCtorEq, ↓reduceIte]
    refine Safe.rg rfl ?_
    simp only [mat_Product_r2, E3, Nat.reduceLeDiff, Nat.reduceSub, Nat.reduceAdd, Nat.reduceEqDiff, reduceCtorEq, ↓reduceIte]
    first | refine (mshape_bad b q hb h2).acall ?_ | refine (mshape_bad b q hb h2).dcall ?_
    try simp only [E3, Nat.reduceLeDiff, Nat.reduceSub, Nat.reduceAdd, Nat.reduceEqDiff, reduceCtorEq, ↓reduceIte]
    refine Safe.rg rfl ?_
    simp only [mat_Product_r3, eight_ne, E3, Nat.reduceLeDiff, Nat.reduceSub, Nat.reduceAdd, Nat.reduceEqDiff, reduceCtorEq, ↓reduceIte]
    refine Safe.cd rfl ?_
    simp only [E3, Nat.reduceLeDiff, Nat.reduceSub, Nat.reduceAdd, Nat.reduceEqDiff, reduceCtorEq, ↓reduceIte]
    refine Safe.rg rfl ?_
    simp only [mat_Product_r4, E3, Nat.reduceLeDiff, Nat.reduceSub, Nat.reduceAdd, Nat.reduceEqDiff, reduceCtorEq, ↓reduceIte]
    refine Safe.rt rfl ?_
    simp only [E3, Nat.reduceLeDiff, Nat.reduceSub, Nat.reduceAdd, Nat.reduceEqDiff, reduceCtorEq, ↓reduceIte]
    exact ⟨Le.tup2 Le.nilmat (Le.refl _), _, rfl⟩
  · have h0' : (a.length : Int) > 0 := by omega
    have hw' : ¬ (wid a : Int) = (b.length : Int) := by omega
    first | refine (mshape_ok a p ha h1).acall ?_ | refine (mshape_ok a p ha h1).dcall ?_
    try simp only [E3, Nat.reduceLeDiff, Nat.reduceSub, Nat.reduceAdd, Nat.reduceEqDiff, reduceCtorEq, ↓reduceIte]
    refine Safe.rg rfl ?_
    simp only [mat_Product_r2, E3, Nat.reduceLeDiff, Nat.reduceSub, Nat.reduceAdd, Nat.reduceEqDiff, reduceCtorEq, ↓reduceIte]
    first | refine (mshape_ok b q hb h2).acall ?_ | refine (mshape_ok b q hb h2).dcall ?_
    try simp only [E3, Nat.reduceLeDiff, Nat.reduceSub, Nat.reduceAdd, Nat.reduceEqDiff, reduceCtorEq, ↓reduceIte]
    refine Safe.rg rfl ?_
    simp only [mat_Product_r3, h0', hw', E3, Nat.reduceLeDiff, Nat.reduceSub, Nat.reduceAdd, Nat.reduceEqDiff, reduceCtorEq, ↓reduceIte]
    refine Safe.cd rfl ?_
    simp only [E3, Nat.reduceLeDiff, Nat.reduceSub, Nat.reduceAdd, Nat.reduceEqDiff, reduceCtorEq, ↓reduceIte]
    refine Safe.rg rfl ?_
    simp only [mat_Product_r4, E3, Nat.reduceLeDiff, Nat.reduceSub, Nat.reduceAdd, Nat.reduceEqDiff, reduceCtorEq, ↓reduceIte]
    refine Safe.rt rfl ?_
    simp only [E3, Nat.reduceLeDiff, Nat.reduceSub, Nat.reduceAdd, Nat.reduceEqDiff, reduceCtorEq, ↓reduceIte]
    exact ⟨Le.tup2 Le.nilmat (Le.refl _), _, rfl⟩

theorem rproduct_ok (a b : List (List ZI)) (p q : Nat) (ha : Mok p a) (hb : Mok q b) (hp : p + q + 2 < 17592186044416) (hf : Fits a b) : PureC Pr F_ref04_Product [matV a, matV b] (.tup [matV (prodM a b), .int .i64 0]) := by
  obtain ⟨hra, hrb, hw⟩ := hf
  have hal := ha.len
  have hcond : ((a.length : Int) > 0 → (wid a : Int) = (b.length : Int)) := fun h => by have := hw (by omega); omega
  refine PureC.intro ref04_Product_fn ref04_Product_ok (Nat.le_of_ble_eq_true rfl) (cl_tup2 (matV_cl _) (.int _ _)) fun H hH => ?_
  refine Safe.rg rfl ?_
  simp only [ref04_Product_r0, E3, Nat.reduceLeDiff, Nat.reduceSub, Nat.reduceAdd, Nat.reduceEqDiff, reduceCtorEq, ↓reduceIte]
  refine Safe.rg rfl ?_
  simp only [ref04_Product_r1, E3, Nat.reduceLeDiff, Nat.reduceSub, Nat.reduceAdd, Nat.reduceEqDiff, reduceCtorEq, ↓reduceIte]
  first | refine (rshape_ok a p ha hra).acall ?_ | refine (rshape_ok a p ha hra).dcall ?_
  try simp only [E3, Nat.reduceLeDiff, Nat.reduceSub, Nat.reduceAdd, Nat.reduceEqDiff, reduceCtorEq, ↓reduceIte]
  refine Safe.rg rfl ?_
  simp only [ref04_Product_r2, E3, Nat.reduceLeDiff, Nat.reduceSub, Nat.reduceAdd, Nat.reduceEqDiff, reduceCtorEq, ↓reduceIte]
  first | refine (rshape_ok b q hb hrb).acall ?_ | refine (rshape_ok b q hb hrb).dcall ?_
  try simp only [E3, Nat.reduceLeDiff, Nat.reduceSub, Nat.reduceAdd, Nat.reduceEqDiff, reduceCtorEq, ↓reduceIte]
  have tail : Safe ⟨Pr, fun _ _ => false, F_ref04_Product, 65, [.tmp 4, .tmp 5], H.length⟩ [.code (.seq (.region ref04_Product_r5 false) (.seq (.seq (.region ref04_Product_r6 false) (.block 0 (.loop ref04_Product_l0))) (.seq (.region ref04_Product_r11 false) (.ret))))]
      [(0, matV a), (1, matV b)] (hap H []) fun r' H' => r' = .tup [matV (prodM a b), .int .i64 0] ∧ ∃ L, H' = hap H L := by
    refine Safe.rg rfl ?_
    simp only [ref04_Product_r5, E3, Nat.reduceLeDiff, Nat.reduceSub, Nat.reduceAdd, Nat.reduceEqDiff, reduceCtorEq, ↓reduceIte]
    refine Safe.nilrow 12 1 (by decide) (by simp only [E3, Nat.reduceLeDiff, Nat.reduceSub, Nat.reduceAdd, Nat.reduceEqDiff, reduceCtorEq, ↓reduceIte]) ?_
    refine Safe.rg rfl ?_
    simp only [ref04_Product_r6, E3, Nat.reduceLeDiff, Nat.reduceSub, Nat.reduceAdd, Nat.reduceEqDiff, reduceCtorEq, ↓reduceIte]
    refine Safe.lp rfl ?_
    refine Safe.keep [0, 1, 12, 13] ?_
    try simp only [E3, Nat.reduceLeDiff, Nat.reduceSub, Nat.reduceAdd, Nat.reduceEqDiff, reduceCtorEq, ↓reduceIte]
    refine Safe.loopN (a.length) (fun i => [(0, matV a), (1, matV b), (12, .mu (lid H 0) 0 i none), (13, .int .i64 i)]) (fun i => hap H [some ⟨1, (mat i fun i => combV (mg a i) b).map vecV⟩]) rfl rfl (fun i hi ih => ?_) ?_
    · have hlt : (i : Int) < (a.length : Int) := by omega
      have hc := rcomb_rect a[i] b p q (ha.get hi) hb hp hrb (by rw [rect_w hra hi]; exact hw (by omega))
      rw [← mg_lt hi] at hc
      have hiw : IntKind.wrap .i64 ((i : Int) + 1) = ((i + 1 : Nat) : Int) := by rw [wrap_i64] <;> omega
      refine Safe.inLoop ?_
      refine Safe.rg rfl ?_
      simp only [ref04_Product_r7, hlt, E3, Nat.reduceLeDiff, Nat.reduceSub, Nat.reduceAdd, Nat.reduceEqDiff, reduceCtorEq, ↓reduceIte]
      refine Safe.cd rfl ?_
      simp only [E3, Nat.reduceLeDiff, Nat.reduceSub, Nat.reduceAdd, Nat.reduceEqDiff, reduceCtorEq, ↓reduceIte]
      refine Safe.rg rfl ?_
      simp only [ref04_Product_r8, mat_idx _ a _ i hi, ← mg_lt hi, E3, Nat.reduceLeDiff, Nat.reduceSub, Nat.reduceAdd, Nat.reduceEqDiff, reduceCtorEq, ↓reduceIte]
      first | refine (hc).acall ?_ | refine (hc).dcall ?_
      try simp only [E3, Nat.reduceLeDiff, Nat.reduceSub, Nat.reduceAdd, Nat.reduceEqDiff, reduceCtorEq, ↓reduceIte]
      refine Safe.rg rfl ?_
      simp only [ref04_Product_r9, E3, Nat.reduceLeDiff, Nat.reduceSub, Nat.reduceAdd, Nat.reduceEqDiff, reduceCtorEq, ↓reduceIte]
      rw [app_row hH 0 (lid_ge H 0) vecV_cl (mat i fun i => combV (mg a i) b) (combV (mg a i) b) (mat (i + 1) fun i => combV (mg a i) b) ?hlen ?hl ?hL ?hy ?hl2 ?hb ?hbb]
      case hlen => first | rfl | (simp only [vec_length, mat_length, List.length_map, List.length_take]; done) | (simp only [vec_length, mat_length, List.length_map, List.length_take]; omega)
      case hl => rfl
      case hL => repeat (first | exact RC.nil | refine RC.none ?_ | refine RC.row ZI.cl ?_ | refine RC.row vecV_cl ?_ | refine RC.emp ?_ | refine RC.zero ?_ | refine RC.one (Z_cl _) ?_ | refine RC.one (ZI.cl _) ?_ | refine RC.one (vecV_cl _) ?_)
      case hy => rfl
      case hl2 => first | exact vec_succ _ _ | exact mat_succ _ _ | exact take_succ _ (by omega) | exact take_map_succ _ _ (by omega)
      case hb => omega
      case hbb => omega
      simp only [E3, Nat.reduceLeDiff, Nat.reduceSub, Nat.reduceAdd, Nat.reduceEqDiff, reduceCtorEq, ↓reduceIte]
      refine Safe.rg rfl ?_
      simp only [ref04_Product_r10, hiw, E3, Nat.reduceLeDiff, Nat.reduceSub, Nat.reduceAdd, Nat.reduceEqDiff, reduceCtorEq, ↓reduceIte]
      refine Safe.keep [0, 1, 12, 13] ?_
      simp only [E3, Nat.reduceLeDiff, Nat.reduceSub, Nat.reduceAdd, Nat.reduceEqDiff, reduceCtorEq, ↓reduceIte]
      exact ih
    · refine Safe.inLoop ?_
      refine Safe.rg rfl ?_
      simp only [ref04_Product_r7, Int.lt_irrefl, E3, Nat.reduceLeDiff, Nat.reduceSub, Nat.reduceAdd, Nat.reduceEqDiff, reduceCtorEq, ↓reduceIte]
      refine Safe.cd rfl ?_
      simp only [E3, Nat.reduceLeDiff, Nat.reduceSub, Nat.reduceAdd, Nat.reduceEqDiff, reduceCtorEq, ↓reduceIte]
      refine Safe.freeze 0 hH rfl rfl (blk_map 1 vecV _ vecV_cl) ?_
      refine Safe.keep [12] ?_
      simp only [frz_mat H 0 (mat a.length fun i => combV (mg a i) b) (a.length) (none) (by simp only [vec_length, mat_length]), frz_mu_other, frz_loc_other, map_frz_vec, map_frz_mat, E3, Nat.reduceLeDiff, Nat.reduceSub, Nat.reduceAdd, Nat.reduceEqDiff, reduceCtorEq, ↓reduceIte]
      refine Safe.rg rfl ?_
      simp only [ref04_Product_r11, E3, Nat.reduceLeDiff, Nat.reduceSub, Nat.reduceAdd, Nat.reduceEqDiff, reduceCtorEq, ↓reduceIte]
      refine Safe.rt rfl ?_
      simp only [E3, Nat.reduceLeDiff, Nat.reduceSub, Nat.reduceAdd, Nat.reduceEqDiff, reduceCtorEq, ↓reduceIte]
      first | exact ⟨rfl, _, rfl⟩ | exact ⟨_, rfl⟩ | exact ⟨trivial, _, rfl⟩
  by_cases h0 : a.length = 0
  · have h0' : ¬ (a.length : Int) > 0 := by omega
    refine Safe.rg rfl ?_
    simp only [ref04_Product_r3, h0', E3, Nat.reduceLeDiff, Nat.reduceSub, Nat.reduceAdd, Nat.reduceEqDiff, reduceCtorEq, ↓reduceIte]
    refine Safe.cd rfl ?_
    simp only [E3, Nat.reduceLeDiff, Nat.reduceSub, Nat.reduceAdd, Nat.reduceEqDiff, reduceCtorEq, ↓reduceIte]
    refine Safe.skip ?_
    refine Safe.keep [0, 1] ?_
    simp only [E3, Nat.reduceLeDiff, Nat.reduceSub, Nat.reduceAdd, Nat.reduceEqDiff, reduceCtorEq, ↓reduceIte]
    exact tail
  · have h0' : (a.length : Int) > 0 := by omega
    refine Safe.rg rfl ?_
    simp only [ref04_Product_r3, h0', hcond h0', E3, Nat.reduceLeDiff, Nat.reduceSub, Nat.reduceAdd, Nat.reduceEqDiff, reduceCtorEq, ↓reduceIte]
    refine Safe.cd rfl ?_
    simp only [E3, Nat.reduceLeDiff, Nat.reduceSub, Nat.reduceAdd, Nat.reduceEqDiff, reduceCtorEq, ↓reduceIte]
    refine Safe.skip ?_
    refine Safe.keep [0, 1] ?_
    simp only [E3, Nat.reduceLeDiff, Nat.reduceSub, Nat.reduceAdd, Nat.reduceEqDiff, reduceCtorEq, ↓reduceIte]
    exact tail
theorem rproduct_bad (a b : List (List ZI)) (p q : Nat) (ha : Mok p a) (hb : Mok q b) (hf : ¬ Fits a b) : PureC Pr F_ref04_Product [matV a, matV b] (.tup [matV [], .int .i64 8]) := by
  have hsb : ∃ x y z : Int, PureC Pr F_ref04_Shape [matV b] (.tup [.int .i64 x, .int .i64 y, .int .i64 z]) := by
    by_cases h : Rect b
    · exact ⟨_, _, _, rshape_ok b q hb h⟩
    · exact ⟨_, _, _, rshape_bad b q hb h⟩
  refine PureC.introL ref04_Product_fn ref04_Product_ok (Nat.le_of_ble_eq_true rfl) (cl_tup2 (matV_cl _) (.int _ _)) fun H hH => ?_
  refine Safe.rg rfl ?_
  simp only [ref04_Product_r0, E3, Nat.reduceLeDiff, Nat.reduceSub, Nat.reduceAdd, Nat.reduceEqDiff, reduceCtorEq, ↓reduceIte]
  refine Safe.rg rfl ?_
  simp only [ref04_Product_r1, E3, Nat.reduceLeDiff, Nat.reduceSub, Nat.reduceAdd, Nat.reduceEqDiff, reduceCtorEq, ↓reduceIte]
  rcases fits_no hf with h1 | ⟨h1, h2⟩ | ⟨h1, h2, h3, h4⟩
  · obtain ⟨x, y, z, hs⟩ := hsb
    first | refine (rshape_bad a p ha h1).acall ?_ | refine (rshape_bad a p ha h1).dcall ?_
    try simp only [E3, Nat.reduceLeDiff, Nat.reduceSub, Nat.reduceAdd, Nat.reduceEqDiff, reduceCtorEq, ↓reduceIte]
    refine Safe.rg rfl ?_
    simp only [ref04_Product_r2, E3, Nat.reduceLeDiff, Nat.reduceSub, Nat.reduceAdd, Nat.reduceEqDiff, reduceCtorEq, ↓reduceIte]
    first | refine (hs).acall ?_ | refine (hs).dcall ?_
    try simp only [E3, Nat.reduceLeDiff, Nat.reduceSub, Nat.reduceAdd, Nat.reduceEqDiff, reduceCtorEq, ↓reduceIte]
    refine Safe.rg rfl ?_
    simp only [ref04_Product_r3, eight_ne, E3, Nat.reduceLeDiff, Nat.reduceSub, Nat.reduceAdd, Nat.reduceEqDiff, reduceCtorEq, ↓reduceIte]
    refine Safe.cd rfl ?_
    simp only [E3, Nat.reduceLeDiff, Nat.reduceSub, Nat.reduceAdd, Nat.reduceEqDiff, reduceCtorEq, ↓reduceIte]
    refine Safe.rg rfl ?_
    simp only [ref04_Product_r4, E3, Nat.reduceLeDiff, Nat.reduceSub, Nat.reduceAdd, Nat.reduceEqDiff, reduceCtorEq, ↓reduceIte]
    refine Safe.rt rfl ?_
    simp only [E3, Nat.reduceLeDiff, Nat.reduceSub, Nat.reduceAdd, Nat.reduceEqDiff, reduceCtorEq, ↓reduceIte]
    exact ⟨Le.tup2 Le.nilmat (Le.refl _), _, rfl⟩
  · first | refine (rshape_ok a p ha h1).acall ?_ | refine (rshape_ok a p ha h1).dcall ?_
    try simp only [E3, Nat.reduceLeDiff, Nat.reduceSub, Nat.reduceAdd, Nat.reduceEqDiff, reduceCtorEq, ↓reduceIte]
    refine Safe.rg rfl ?_
    simp only [ref04_Product_r2, E3, Nat.reduceLeDiff, Nat.reduceSub, Nat.reduceAdd, Nat.reduceEqDiff, reduceCtorEq, ↓reduceIte]
    first | refine (rshape_bad b q hb h2).acall ?_ | refine (rshape_bad b q hb h2).dcall ?_
    try simp only [E3, Nat.reduceLeDiff, Nat.reduceSub, Nat.reduceAdd, Nat.reduceEqDiff, reduceCtorEq, ↓reduceIte]
    refine Safe.rg rfl ?_
    simp only [ref04_Product_r3, eight_ne, E3, Nat.reduceLeDiff, Nat.reduceSub, Nat.reduceAdd, Nat.reduceEqDiff, reduceCtorEq, ↓reduceIte]
    refine Safe.cd rfl ?_
    simp only [E3, Nat.reduceLeDiff, Nat.reduceSub, Nat.reduceAdd, Nat.reduceEqDiff, reduceCtorEq, ↓reduceIte]
    refine Safe.rg rfl ?_
    simp only [ref04_Product_r4, E3, Nat.reduceLeDiff, Nat.reduceSub, Nat.reduceAdd, Nat.reduceEqDiff, reduceCtorEq, ↓reduceIte]
    refine Safe.rt rfl ?_
    simp only [E3, Nat.reduceLeDiff, Nat.reduceSub, Nat.reduceAdd, Nat.reduceEqDiff, reduceCtorEq, ↓reduceIte]
    exact ⟨Le.tup2 Le.nilmat (Le.refl _), _, rfl⟩
  · have h0' : (a.length : Int) > 0 := by omega
    have hw' : ¬ (wid a : Int) = (b.length : Int) := by omega
    first | refine (rshape_ok a p ha h1).acall ?_ | refine (rshape_ok a p ha h1).dcall ?_
    try simp only [E3, Nat.reduceLeDiff, Nat.reduceSub, Nat.reduceAdd, Nat.reduceEqDiff, reduceCtorEq, ↓reduceIte]
    refine Safe.rg rfl ?_
    simp only [ref04_Product_r2, E3, Nat.reduceLeDiff, Nat.reduceSub, Nat.reduceAdd, Nat.reduceEqDiff, reduceCtorEq, ↓reduceIte]
    first | refine (rshape_ok b q hb h2).acall ?_ | refine (rshape_ok b q hb h2).dcall ?_
    try simp only [E3, Nat.reduceLeDiff, Nat.reduceSub, Nat.reduceAdd, Nat.reduceEqDiff, reduceCtorEq, ↓reduceIte]
    refine Safe.rg rfl ?_
    simp only [ref04_Product_r3, h0', hw', E3, Nat.reduceLeDiff, Nat.reduceSub, Nat.reduceAdd, Nat.reduceEqDiff, reduceCtorEq, ↓reduceIte]
    refine Safe.cd rfl ?_
    simp only [E3, Nat.reduceLeDiff, Nat.reduceSub, Nat.reduceAdd, Nat.reduceEqDiff, reduceCtorEq, ↓reduceIte]
    refine Safe.rg rfl ?_
    simp only [ref04_Product_r4, E3, Nat.reduceLeDiff, Nat.reduceSub, Nat.reduceAdd, Nat.reduceEqDiff, reduceCtorEq, ↓reduceIte]
    refine Safe.rt rfl ?_
    simp only [E3, Nat.reduceLeDiff, Nat.reduceSub, Nat.reduceAdd, Nat.reduceEqDiff, reduceCtorEq, ↓reduceIte]
    exact ⟨Le.tup2 Le.nilmat (Le.refl _), _, rfl⟩

def gramM (b : List (List ZI)) : List (List ZI) := mat b.length fun i => vec b.length fun j => dotZ (mg b i) (mg b j)
theorem gram11_pure (u v : List ZI) (p : Nat) (hu : Vok p u) (hv : Vok p v) (hp : p + p + 2 < 17592186044416) (hl : u.length = v.length) : PureC Pr F_mat_Gram_1_1 [vecV v, .ro (vecV u) 0] (Z (dotZ u v)) := by
  refine PureC.intro mat_Gram_1_1_fn mat_Gram_1_1_ok (Nat.le_of_ble_eq_true rfl) (Z_cl _) fun H hH => ?_
  refine Safe.rg rfl ?_
  simp only [mat_Gram_1_1_r0, E3, Nat.reduceLeDiff, Nat.reduceSub, Nat.reduceAdd, Nat.reduceEqDiff, reduceCtorEq, ↓reduceIte]
  refine Safe.rg rfl ?_
  simp only [mat_Gram_1_1_r1, E3, Nat.reduceLeDiff, Nat.reduceSub, Nat.reduceAdd, Nat.reduceEqDiff, reduceCtorEq, ↓reduceIte]
  first | refine (dot_pure u v p hu hv hp hl).acall ?_ | refine (dot_pure u v p hu hv hp hl).dcall ?_
  try simp only [E3, Nat.reduceLeDiff, Nat.reduceSub, Nat.reduceAdd, Nat.reduceEqDiff, reduceCtorEq, ↓reduceIte]
  refine Safe.rt rfl ?_
  simp only [E3, Nat.reduceLeDiff, Nat.reduceSub, Nat.reduceAdd, Nat.reduceEqDiff, reduceCtorEq, ↓reduceIte]
  first | exact ⟨rfl, _, rfl⟩ | exact ⟨_, rfl⟩ | exact ⟨trivial, _, rfl⟩
theorem gram1_pure (u : List ZI) (b : List (List ZI)) (p : Nat) (hu : Vok p u) (hb : Mok p b) (hp : p + p + 2 < 17592186044416) (hl : ∀ i (h : i < b.length), u.length = b[i].length) : PureC Pr F_mat_Gram_1 [vecV u, .ro (matV b) 0] (vecV (vec b.length fun j => dotZ u (mg b j))) := by
  have he := each_VI F_mat_Gram_1_1 [.ro (vecV u) 0] b (fun j => dotZ u (mg b j)) hb.len (cl_one (ro_vec_cl u 0)) fun i h => by
    rw [mg_lt h]; exact gram11_pure u b[i] p hu (hb.get h) hp (hl i h)
  refine PureC.intro mat_Gram_1_fn mat_Gram_1_ok (Nat.le_of_ble_eq_true rfl) (vecV_cl _) fun H hH => ?_
  refine Safe.rg rfl ?_
  simp only [mat_Gram_1_r0, E3, Nat.reduceLeDiff, Nat.reduceSub, Nat.reduceAdd, Nat.reduceEqDiff, reduceCtorEq, ↓reduceIte]
  refine Safe.freeze 0 (b := ⟨1, [vecV u]⟩) hH rfl rfl (blk_one (vecV_cl u)) ?_
  simp only [frz_loc_same, AV.cells, frz_ro, E3, Nat.reduceLeDiff, Nat.reduceSub, Nat.reduceAdd, Nat.reduceEqDiff, reduceCtorEq, ↓reduceIte]
  refine Safe.rg rfl ?_
  simp only [mat_Gram_1_r1, E3, Nat.reduceLeDiff, Nat.reduceSub, Nat.reduceAdd, Nat.reduceEqDiff, reduceCtorEq, ↓reduceIte]
  first | refine (he).acall ?_ | refine (he).dcall ?_
  try simp only [E3, Nat.reduceLeDiff, Nat.reduceSub, Nat.reduceAdd, Nat.reduceEqDiff, reduceCtorEq, ↓reduceIte]
  refine Safe.rt rfl ?_
  simp only [E3, Nat.reduceLeDiff, Nat.reduceSub, Nat.reduceAdd, Nat.reduceEqDiff, reduceCtorEq, ↓reduceIte]
  first | exact ⟨rfl, _, rfl⟩ | exact ⟨_, rfl⟩ | exact ⟨trivial, _, rfl⟩
theorem gram_ok (b : List (List ZI)) (p : Nat) (hb : Mok p b) (hp : p + p + 2 < 17592186044416) (hr : Rect b) : PureC Pr F_mat_Gram [matV b] (.tup [matV (gramM b), .int .i64 0]) := by
  have he := each_VV F_mat_Gram_1 [.ro (matV b) 0] b (fun i => vec b.length fun j => dotZ (mg b i) (mg b j)) hb.len (cl_one (ro_mat_cl b 0)) fun i h => by
    rw [mg_lt h]; exact gram1_pure b[i] b p (hb.get h) hb hp fun j hj => by rw [rect_w hr h, rect_w hr hj]
  refine PureC.intro mat_Gram_fn mat_Gram_ok (Nat.le_of_ble_eq_true rfl) (cl_tup2 (matV_cl _) (.int _ _)) fun H hH => ?_
  refine Safe.rg rfl ?_
  simp only [mat_Gram_r0, E3, Nat.reduceLeDiff, Nat.reduceSub, Nat.reduceAdd, Nat.reduceEqDiff, reduceCtorEq, ↓reduceIte]
  refine Safe.freeze 0 (b := ⟨1, [matV b]⟩) hH rfl rfl (blk_one (matV_cl b)) ?_
  simp only [frz_loc_same, E3, Nat.reduceLeDiff, Nat.reduceSub, Nat.reduceAdd, Nat.reduceEqDiff, reduceCtorEq, ↓reduceIte]
  refine Safe.rg rfl ?_
  simp only [mat_Gram_r1, E3, Nat.reduceLeDiff, Nat.reduceSub, Nat.reduceAdd, Nat.reduceEqDiff, reduceCtorEq, ↓reduceIte]
  first | refine (mshape_ok b p hb hr).acall ?_ | refine (mshape_ok b p hb hr).dcall ?_
  try simp only [E3, Nat.reduceLeDiff, Nat.reduceSub, Nat.reduceAdd, Nat.reduceEqDiff, reduceCtorEq, ↓reduceIte]
  refine Safe.rg rfl ?_
  simp only [mat_Gram_r2, E3, Nat.reduceLeDiff, Nat.reduceSub, Nat.reduceAdd, Nat.reduceEqDiff, reduceCtorEq, ↓reduceIte]
  refine Safe.cd rfl ?_
  simp only [E3, Nat.reduceLeDiff, Nat.reduceSub, Nat.reduceAdd, Nat.reduceEqDiff, reduceCtorEq, ↓reduceIte]
  refine Safe.rg rfl ?_
  simp only [mat_Gram_r4, E3, Nat.reduceLeDiff, Nat.reduceSub, Nat.reduceAdd, Nat.reduceEqDiff, reduceCtorEq, ↓reduceIte]
  first | refine (he).acall ?_ | refine (he).dcall ?_
  try simp only [E3, Nat.reduceLeDiff, Nat.reduceSub, Nat.reduceAdd, Nat.reduceEqDiff, reduceCtorEq, ↓reduceIte]
  refine Safe.rt rfl ?_
  simp only [E3, Nat.reduceLeDiff, Nat.reduceSub, Nat.reduceAdd, Nat.reduceEqDiff, reduceCtorEq, ↓reduceIte]
  first | exact ⟨rfl, _, rfl⟩ | exact ⟨_, rfl⟩ | exact ⟨trivial, _, rfl⟩
theorem gram_bad (b : List (List ZI)) (p : Nat) (hb : Mok p b) (hr : ¬ Rect b) : PureC Pr F_mat_Gram [matV b] (.tup [matV [], .int .i64 8]) := by
  refine PureC.introL mat_Gram_fn mat_Gram_ok (Nat.le_of_ble_eq_true rfl) (cl_tup2 (matV_cl _) (.int _ _)) fun H hH => ?_
  refine Safe.rg rfl ?_
  simp only [mat_Gram_r0, E3, Nat.reduceLeDiff, Nat.reduceSub, Nat.reduceAdd, Nat.reduceEqDiff, reduceCtorEq, ↓reduceIte]
  refine Safe.rg rfl ?_
  simp only [mat_Gram_r1, E3, Nat.reduceLeDiff, Nat.reduceSub, Nat.reduceAdd, Nat.reduceEqDiff, reduceCtorEq, ↓reduceIte]
  first | refine (mshape_bad b p hb hr).acall ?_ | refine (mshape_bad b p hb hr).dcall ?_
  try simp only [E3, Nat.reduceLeDiff, Nat.reduceSub, Nat.reduceAdd, Nat.reduceEqDiff, reduceCtorEq, ↓reduceIte]
  refine Safe.rg rfl ?_
  simp only [mat_Gram_r2, eight_ne, E3, Nat.reduceLeDiff, Nat.reduceSub, Nat.reduceAdd, Nat.reduceEqDiff, reduceCtorEq, ↓reduceIte]
  refine Safe.cd rfl ?_
  simp only [E3, Nat.reduceLeDiff, Nat.reduceSub, Nat.reduceAdd, Nat.reduceEqDiff, reduceCtorEq, ↓reduceIte]
  refine Safe.rg rfl ?_
  simp only [mat_Gram_r3, E3, Nat.reduceLeDiff, Nat.reduceSub, Nat.reduceAdd, Nat.reduceEqDiff, reduceCtorEq, ↓reduceIte]
  refine Safe.rt rfl ?_
  simp only [E3, Nat.reduceLeDiff, Nat.reduceSub, Nat.reduceAdd, Nat.reduceEqDiff, reduceCtorEq, ↓reduceIte]
  exact ⟨Le.tup2 Le.nilmat (Le.refl _), _, rfl⟩
theorem rgram_bad (b : List (List ZI)) (p : Nat) (hb : Mok p b) (hr : ¬ Rect b) : PureC Pr F_ref04_Gram [matV b] (.tup [matV [], .int .i64 8]) := by
  refine PureC.introL ref04_Gram_fn ref04_Gram_ok (Nat.le_of_ble_eq_true rfl) (cl_tup2 (matV_cl _) (.int _ _)) fun H hH => ?_
  refine Safe.rg rfl ?_
  simp only [ref04_Gram_r0, E3, Nat.reduceLeDiff, Nat.reduceSub, Nat.reduceAdd, Nat.reduceEqDiff, reduceCtorEq, ↓reduceIte]
  refine Safe.rg rfl ?_
  simp only [ref04_Gram_r1, E3, Nat.reduceLeDiff, Nat.reduceSub, Nat.reduceAdd, Nat.reduceEqDiff, reduceCtorEq, ↓reduceIte]
  first | refine (rshape_bad b p hb hr).acall ?_ | refine (rshape_bad b p hb hr).dcall ?_
  try simp only [E3, Nat.reduceLeDiff, Nat.reduceSub, Nat.reduceAdd, Nat.reduceEqDiff, reduceCtorEq, ↓reduceIte]
  refine Safe.rg rfl ?_
  simp only [ref04_Gram_r2, eight_ne, E3, Nat.reduceLeDiff, Nat.reduceSub, Nat.reduceAdd, Nat.reduceEqDiff, reduceCtorEq, ↓reduceIte]
  refine Safe.cd rfl ?_
  simp only [E3, Nat.reduceLeDiff, Nat.reduceSub, Nat.reduceAdd, Nat.reduceEqDiff, reduceCtorEq, ↓reduceIte]
  refine Safe.rg rfl ?_
  simp only [ref04_Gram_r3, E3, Nat.reduceLeDiff, Nat.reduceSub, Nat.reduceAdd, Nat.reduceEqDiff, reduceCtorEq, ↓reduceIte]
  refine Safe.rt rfl ?_
  simp only [E3, Nat.reduceLeDiff, Nat.reduceSub, Nat.reduceAdd, Nat.reduceEqDiff, reduceCtorEq, ↓reduceIte]
  exact ⟨Le.tup2 Le.nilmat (Le.refl _), _, rfl⟩
theorem rgram_ok (b : List (List ZI)) (p : Nat) (hb : Mok p b) (hp : p + p + 2 < 17592186044416) (hr : Rect b) : PureC Pr F_ref04_Gram [matV b] (.tup [matV (gramM b), .int .i64 0]) := by
  have hbl := hb.len
  refine PureC.intro ref04_Gram_fn ref04_Gram_ok (Nat.le_of_ble_eq_true rfl) (cl_tup2 (matV_cl _) (.int _ _)) fun H hH => ?_
  refine Safe.rg rfl ?_
  simp only [ref04_Gram_r0, E3, Nat.reduceLeDiff, Nat.reduceSub, Nat.reduceAdd, Nat.reduceEqDiff, reduceCtorEq, ↓reduceIte]
  refine Safe.rg rfl ?_
  simp only [ref04_Gram_r1, E3, Nat.reduceLeDiff, Nat.reduceSub, Nat.reduceAdd, Nat.reduceEqDiff, reduceCtorEq, ↓reduceIte]
  first | refine (rshape_ok b p hb hr).acall ?_ | refine (rshape_ok b p hb hr).dcall ?_
  try simp only [E3, Nat.reduceLeDiff, Nat.reduceSub, Nat.reduceAdd, Nat.reduceEqDiff, reduceCtorEq, ↓reduceIte]
  refine Safe.rg rfl ?_
  simp only [ref04_Gram_r2, E3, Nat.reduceLeDiff, Nat.reduceSub, Nat.reduceAdd, Nat.reduceEqDiff, reduceCtorEq, ↓reduceIte]
  refine Safe.cd rfl ?_
  simp only [E3, Nat.reduceLeDiff, Nat.reduceSub, Nat.reduceAdd, Nat.reduceEqDiff, reduceCtorEq, ↓reduceIte]
  refine Safe.rg rfl ?_
  simp only [ref04_Gram_r4, E3, Nat.reduceLeDiff, Nat.reduceSub, Nat.reduceAdd, Nat.reduceEqDiff, reduceCtorEq, ↓reduceIte]
  refine Safe.nilrow 7 1 (by decide) (by simp only [E3, Nat.reduceLeDiff, Nat.reduceSub, Nat.reduceAdd, Nat.reduceEqDiff, reduceCtorEq, ↓reduceIte]) ?_
  refine Safe.rg rfl ?_
  simp only [ref04_Gram_r5, E3, Nat.reduceLeDiff, Nat.reduceSub, Nat.reduceAdd, Nat.reduceEqDiff, reduceCtorEq, ↓reduceIte]
  refine Safe.lp rfl ?_
  refine Safe.keep [0, 7, 8] ?_
  try simp only [E3, Nat.reduceLeDiff, Nat.reduceSub, Nat.reduceAdd, Nat.reduceEqDiff, reduceCtorEq, ↓reduceIte]
  refine Safe.loopN (b.length) (fun i => [(0, matV b), (7, .mu (lid H 0) 0 i none), (8, .int .i64 i)]) (fun i => hap H [some ⟨1, (mat i fun i => vec b.length fun j => dotZ (mg b i) (mg b j)).map vecV⟩]) rfl rfl (fun i hi ih => ?_) ?_
  · have hlt : (i : Int) < (b.length : Int) := by omega
    have hiw : IntKind.wrap .i64 ((i : Int) + 1) = ((i + 1 : Nat) : Int) := by rw [wrap_i64] <;> omega
    refine Safe.inLoop ?_
    refine Safe.rg rfl ?_
    simp only [ref04_Gram_r6, hlt, E3, Nat.reduceLeDiff, Nat.reduceSub, Nat.reduceAdd, Nat.reduceEqDiff, reduceCtorEq, ↓reduceIte]
    refine Safe.cd rfl ?_
    simp only [E3, Nat.reduceLeDiff, Nat.reduceSub, Nat.reduceAdd, Nat.reduceEqDiff, reduceCtorEq, ↓reduceIte]
    refine Safe.rg rfl ?_
    simp only [ref04_Gram_r7, E3, Nat.reduceLeDiff, Nat.reduceSub, Nat.reduceAdd, Nat.reduceEqDiff, reduceCtorEq, ↓reduceIte]
    refine Safe.nilrow 9 2 (by decide) (by simp only [E3, Nat.reduceLeDiff, Nat.reduceSub, Nat.reduceAdd, Nat.reduceEqDiff, reduceCtorEq, ↓reduceIte]) ?_
    refine Safe.rg rfl ?_
    simp only [ref04_Gram_r8, E3, Nat.reduceLeDiff, Nat.reduceSub, Nat.reduceAdd, Nat.reduceEqDiff, reduceCtorEq, ↓reduceIte]
    refine Safe.lp rfl ?_
    refine Safe.keep [0, 7, 8, 9, 10] ?_
    simp only [E3, Nat.reduceLeDiff, Nat.reduceSub, Nat.reduceAdd, Nat.reduceEqDiff, reduceCtorEq, ↓reduceIte]
    refine Safe.loopN b.length (fun j => [(0, matV b), (7, .mu (lid H 0) 0 i none), (8, .int .i64 i), (9, .mu (lid H 1) 0 j none), (10, .int .i64 j)]) (fun j => hap H [some ⟨1, (mat i fun i => vec b.length fun j => dotZ (mg b i) (mg b j)).map vecV⟩, some ⟨2, (vec j fun j => dotZ (mg b i) (mg b j)).map ZI.av⟩]) rfl rfl (fun j hj ih2 => ?_) ?_
    · have hlt2 : (j : Int) < (b.length : Int) := by omega
      have hjw : IntKind.wrap .i64 ((j : Int) + 1) = ((j + 1 : Nat) : Int) := by rw [wrap_i64] <;> omega
      have hd := rdot_eq b[i] b[j] p (hb.get hi) (hb.get hj) hp (by rw [rect_w hr hi, rect_w hr hj])
      rw [← mg_lt hi, ← mg_lt hj] at hd
      refine Safe.inLoop ?_
      refine Safe.rg rfl ?_
      simp only [ref04_Gram_r9, hlt2, E3, Nat.reduceLeDiff, Nat.reduceSub, Nat.reduceAdd, Nat.reduceEqDiff, reduceCtorEq, ↓reduceIte]
      refine Safe.cd rfl ?_
      simp only [E3, Nat.reduceLeDiff, Nat.reduceSub, Nat.reduceAdd, Nat.reduceEqDiff, reduceCtorEq, ↓reduceIte]
      refine Safe.rg rfl ?_
      simp only [ref04_Gram_r10, mat_idx _ b _ i hi, mat_idx _ b _ j hj, ← mg_lt hi, ← mg_lt hj, E3, Nat.reduceLeDiff, Nat.reduceSub, Nat.reduceAdd, Nat.reduceEqDiff, reduceCtorEq, ↓reduceIte]
      first | refine (hd).acall ?_ | refine (hd).dcall ?_
      try simp only [E3, Nat.reduceLeDiff, Nat.reduceSub, Nat.reduceAdd, Nat.reduceEqDiff, reduceCtorEq, ↓reduceIte]
      refine Safe.rg rfl ?_
      simp only [ref04_Gram_r11, E3, Nat.reduceLeDiff, Nat.reduceSub, Nat.reduceAdd, Nat.reduceEqDiff, reduceCtorEq, ↓reduceIte]
      rw [app_row hH 1 (lid_ge H 1) ZI.cl (vec j fun j => dotZ (mg b i) (mg b j)) (canZ (dotZ (mg b i) (mg b j))) (vec (j + 1) fun j => dotZ (mg b i) (mg b j)) ?hlen ?hl ?hL ?hy ?hl2 ?hb ?hbb]
      case hlen => first | rfl | (simp only [vec_length, mat_length, List.length_map, List.length_take]; done) | (simp only [vec_length, mat_length, List.length_map, List.length_take]; omega)
      case hl => rfl
      case hL => repeat (first | exact RC.nil | refine RC.none ?_ | refine RC.row ZI.cl ?_ | refine RC.row vecV_cl ?_ | refine RC.emp ?_ | refine RC.zero ?_ | refine RC.one (Z_cl _) ?_ | refine RC.one (ZI.cl _) ?_ | refine RC.one (vecV_cl _) ?_)
      case hy => rfl
      case hl2 => first | exact vec_succ _ _ | exact mat_succ _ _ | exact take_succ _ (by omega) | exact take_map_succ _ _ (by omega)
      case hb => omega
      case hbb => omega
      simp only [E3, Nat.reduceLeDiff, Nat.reduceSub, Nat.reduceAdd, Nat.reduceEqDiff, reduceCtorEq, ↓reduceIte]
      refine Safe.rg rfl ?_
      simp only [ref04_Gram_r12, hjw, E3, Nat.reduceLeDiff, Nat.reduceSub, Nat.reduceAdd, Nat.reduceEqDiff, reduceCtorEq, ↓reduceIte]
      refine Safe.keep [0, 7, 8, 9, 10] ?_
      simp only [E3, Nat.reduceLeDiff, Nat.reduceSub, Nat.reduceAdd, Nat.reduceEqDiff, reduceCtorEq, ↓reduceIte]
      refine Safe.drop2 hH rfl (by simp only [List.all_cons, List.all_nil, E3, Nat.reduceLeDiff, Nat.reduceSub, Nat.reduceAdd, Nat.reduceEqDiff, reduceCtorEq, ↓reduceIte]) (by repeat (first | exact RC.nil | refine RC.none ?_ | refine RC.row ZI.cl ?_ | refine RC.row vecV_cl ?_ | refine RC.emp ?_ | refine RC.zero ?_ | refine RC.one (Z_cl _) ?_ | refine RC.one (ZI.cl _) ?_ | refine RC.one (vecV_cl _) ?_)) ?_
      exact ih2
    · refine Safe.inLoop ?_
      refine Safe.rg rfl ?_
      simp only [ref04_Gram_r9, Int.lt_irrefl, E3, Nat.reduceLeDiff, Nat.reduceSub, Nat.reduceAdd, Nat.reduceEqDiff, reduceCtorEq, ↓reduceIte]
      refine Safe.cd rfl ?_
      simp only [E3, Nat.reduceLeDiff, Nat.reduceSub, Nat.reduceAdd, Nat.reduceEqDiff, reduceCtorEq, ↓reduceIte]
      refine Safe.freeze 1 hH rfl rfl (blk_map 2 ZI.av _ ZI.cl) ?_
      refine Safe.keep [0, 7, 8, 9] ?_
      simp only [frz_vec H 1 (vec b.length fun j => dotZ (mg b i) (mg b j)) (b.length) (none) (by simp only [vec_length, mat_length]), frz_mu_other, frz_loc_other, map_frz_vec, map_frz_mat, E3, Nat.reduceLeDiff, Nat.reduceSub, Nat.reduceAdd, Nat.reduceEqDiff, reduceCtorEq, ↓reduceIte]
      refine Safe.rg rfl ?_
      simp only [ref04_Gram_r13, E3, Nat.reduceLeDiff, Nat.reduceSub, Nat.reduceAdd, Nat.reduceEqDiff, reduceCtorEq, ↓reduceIte]
      rw [app_row hH 0 (lid_ge H 0) vecV_cl (mat i fun i => vec b.length fun j => dotZ (mg b i) (mg b j)) (vec b.length fun j => dotZ (mg b i) (mg b j)) (mat (i + 1) fun i => vec b.length fun j => dotZ (mg b i) (mg b j)) ?hlen ?hl ?hL ?hy ?hl2 ?hb ?hbb]
      case hlen => first | rfl | (simp only [vec_length, mat_length, List.length_map, List.length_take]; done) | (simp only [vec_length, mat_length, List.length_map, List.length_take]; omega)
      case hl => rfl
      case hL => repeat (first | exact RC.nil | refine RC.none ?_ | refine RC.row ZI.cl ?_ | refine RC.row vecV_cl ?_ | refine RC.emp ?_ | refine RC.zero ?_ | refine RC.one (Z_cl _) ?_ | refine RC.one (ZI.cl _) ?_ | refine RC.one (vecV_cl _) ?_)
      case hy => rfl
      case hl2 => first | exact vec_succ _ _ | exact mat_succ _ _ | exact take_succ _ (by omega) | exact take_map_succ _ _ (by omega)
      case hb => omega
      case hbb => omega
      simp only [E3, Nat.reduceLeDiff, Nat.reduceSub, Nat.reduceAdd, Nat.reduceEqDiff, reduceCtorEq, ↓reduceIte]
      refine Safe.rg rfl ?_
      simp only [ref04_Gram_r14, hiw, E3, Nat.reduceLeDiff, Nat.reduceSub, Nat.reduceAdd, Nat.reduceEqDiff, reduceCtorEq, ↓reduceIte]
      refine Safe.keep [0, 7, 8] ?_
      simp only [E3, Nat.reduceLeDiff, Nat.reduceSub, Nat.reduceAdd, Nat.reduceEqDiff, reduceCtorEq, ↓reduceIte]
      refine Safe.drop1 hH rfl (by simp only [List.all_cons, List.all_nil, E3, Nat.reduceLeDiff, Nat.reduceSub, Nat.reduceAdd, Nat.reduceEqDiff, reduceCtorEq, ↓reduceIte]) (by repeat (first | exact RC.nil | refine RC.none ?_ | refine RC.row ZI.cl ?_ | refine RC.row vecV_cl ?_ | refine RC.emp ?_ | refine RC.zero ?_ | refine RC.one (Z_cl _) ?_ | refine RC.one (ZI.cl _) ?_ | refine RC.one (vecV_cl _) ?_)) ?_
      exact ih
  · refine Safe.inLoop ?_
    refine Safe.rg rfl ?_
    simp only [ref04_Gram_r6, Int.lt_irrefl, E3, Nat.reduceLeDiff, Nat.reduceSub, Nat.reduceAdd, Nat.reduceEqDiff, reduceCtorEq, ↓reduceIte]
    refine Safe.cd rfl ?_
    simp only [E3, Nat.reduceLeDiff, Nat.reduceSub, Nat.reduceAdd, Nat.reduceEqDiff, reduceCtorEq, ↓reduceIte]
    refine Safe.freeze 0 hH rfl rfl (blk_map 1 vecV _ vecV_cl) ?_
    refine Safe.keep [7] ?_
    simp only [frz_mat H 0 (mat b.length fun i => vec b.length fun j => dotZ (mg b i) (mg b j)) (b.length) (none) (by simp only [vec_length, mat_length]), frz_mu_other, frz_loc_other, map_frz_vec, map_frz_mat, E3, Nat.reduceLeDiff, Nat.reduceSub, Nat.reduceAdd, Nat.reduceEqDiff, reduceCtorEq, ↓reduceIte]
    refine Safe.rg rfl ?_
    simp only [ref04_Gram_r15, E3, Nat.reduceLeDiff, Nat.reduceSub, Nat.reduceAdd, Nat.reduceEqDiff, reduceCtorEq, ↓reduceIte]
    refine Safe.rt rfl ?_
    simp only [E3, Nat.reduceLeDiff, Nat.reduceSub, Nat.reduceAdd, Nat.reduceEqDiff, reduceCtorEq, ↓reduceIte]
    first | exact ⟨rfl, _, rfl⟩ | exact ⟨_, rfl⟩ | exact ⟨trivial, _, rfl⟩

end Go.Abs

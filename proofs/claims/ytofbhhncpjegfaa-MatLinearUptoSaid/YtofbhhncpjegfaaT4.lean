/- The walks: MatLinear. -/
import Derived.Test.YtofbhhncpjegfaaT3
import Derived.Test.YtofbhhncpjegfaaD8
set_option linter.unusedVariables false
set_option linter.unusedSimpArgs false
namespace Go.Abs
theorem sameZ_self (a : List (List Int)) : sameZ a a = true := by simp [sameZ]
theorem matlinear_pure (a b c : List (List ZI)) (ha : Mok 1048576 a) (hb : Mok 1048576 b) (hc : Mok 1048576 c) : PureC Pr F_law04_MatLinear [matV a, matV b, matV c] (.bool true) := by
  have hal := ha.len
  have rest : ∀ H : Heap, Safe ⟨Pr, fun _ _ => false, F_law04_MatLinear, 149, [.tmp 6], H.length⟩ [.code (.seq (.region law04_MatLinear_r22 false) (.seq (.seq (.region law04_MatLinear_r23 false) (.cond (.t 136) (.seq (.region law04_MatLinear_r24 false) (.ret)) (.skip))) (.seq (.region law04_MatLinear_r25 false) (.seq (.region law04_MatLinear_r26 false) (.ret)))))]
      [(1, matV b)] (hap H []) fun r' H' => r' = .bool true ∧ ∃ L, H' = hap H L := by
    intro H
    refine Safe.rg rfl ?_
    simp only [law04_MatLinear_r22, E3, Nat.reduceLeDiff, Nat.reduceSub, Nat.reduceAdd, Nat.reduceEqDiff, reduceCtorEq, ↓reduceIte]
    by_cases hr : Rect b
    · first | refine (turn_rect b _ hb (by omega) hr).acall ?_ | refine (turn_rect b _ hb (by omega) hr).dcall ?_
      try simp only [E3, Nat.reduceLeDiff, Nat.reduceSub, Nat.reduceAdd, Nat.reduceEqDiff, reduceCtorEq, ↓reduceIte]
      have hlen : ((turnM b).length : Int) = (wid b : Int) := by rw [turn_length]
      by_cases h0 : wid b = 0
      · have h0' : (wid b : Int) = 0 := by omega
        refine Safe.rg rfl ?_
        simp only [law04_MatLinear_r23, hlen, h0', E3, Nat.reduceLeDiff, Nat.reduceSub, Nat.reduceAdd, Nat.reduceEqDiff, reduceCtorEq, ↓reduceIte]
        refine Safe.cd rfl ?_
        simp only [E3, Nat.reduceLeDiff, Nat.reduceSub, Nat.reduceAdd, Nat.reduceEqDiff, reduceCtorEq, ↓reduceIte]
        refine Safe.rg rfl ?_
        simp only [law04_MatLinear_r24, E3, Nat.reduceLeDiff, Nat.reduceSub, Nat.reduceAdd, Nat.reduceEqDiff, reduceCtorEq, ↓reduceIte]
        refine Safe.rt rfl ?_
        simp only [E3, Nat.reduceLeDiff, Nat.reduceSub, Nat.reduceAdd, Nat.reduceEqDiff, reduceCtorEq, ↓reduceIte]
        first | exact ⟨rfl, _, rfl⟩ | exact ⟨_, rfl⟩ | exact ⟨trivial, _, rfl⟩
      · have h0' : ¬ (wid b : Int) = 0 := by omega
        have htt := turn_turn hr (by omega)
        have hsame := same_pure (turnM (turnM b)) b ((turn_ok (turn_ok hb)).mono (by omega)) (hb.mono (by omega))
        rw [htt, sameZ_self] at hsame
        refine Safe.rg rfl ?_
        simp only [law04_MatLinear_r23, hlen, h0', E3, Nat.reduceLeDiff, Nat.reduceSub, Nat.reduceAdd, Nat.reduceEqDiff, reduceCtorEq, ↓reduceIte]
        refine Safe.cd rfl ?_
        simp only [E3, Nat.reduceLeDiff, Nat.reduceSub, Nat.reduceAdd, Nat.reduceEqDiff, reduceCtorEq, ↓reduceIte]
        refine Safe.rg rfl ?_
        simp only [law04_MatLinear_r25, E3, Nat.reduceLeDiff, Nat.reduceSub, Nat.reduceAdd, Nat.reduceEqDiff, reduceCtorEq, ↓reduceIte]
        first | refine (turn_rect (turnM b) _ (turn_ok hb) (by omega) (turn_isrect b)).acall ?_ | refine (turn_rect (turnM b) _ (turn_ok hb) (by omega) (turn_isrect b)).dcall ?_
        try simp only [E3, Nat.reduceLeDiff, Nat.reduceSub, Nat.reduceAdd, Nat.reduceEqDiff, reduceCtorEq, ↓reduceIte]
        refine Safe.rg rfl ?_
        simp only [law04_MatLinear_r26, E3, Nat.reduceLeDiff, Nat.reduceSub, Nat.reduceAdd, Nat.reduceEqDiff, reduceCtorEq, ↓reduceIte]
        first | refine (hsame).acall ?_ | refine (hsame).dcall ?_
        try simp only [E3, Nat.reduceLeDiff, Nat.reduceSub, Nat.reduceAdd, Nat.reduceEqDiff, reduceCtorEq, ↓reduceIte]
        refine Safe.rt rfl ?_
        simp only [E3, Nat.reduceLeDiff, Nat.reduceSub, Nat.reduceAdd, Nat.reduceEqDiff, reduceCtorEq, ↓reduceIte]
        first | exact ⟨rfl, _, rfl⟩ | exact ⟨_, rfl⟩ | exact ⟨trivial, _, rfl⟩
    · first | refine (turn_bad b _ hb hr).acall ?_ | refine (turn_bad b _ hb hr).dcall ?_
      try simp only [E3, Nat.reduceLeDiff, Nat.reduceSub, Nat.reduceAdd, Nat.reduceEqDiff, reduceCtorEq, ↓reduceIte]
      refine Safe.rg rfl ?_
      simp only [law04_MatLinear_r23, eight_ne, E3, Nat.reduceLeDiff, Nat.reduceSub, Nat.reduceAdd, Nat.reduceEqDiff, reduceCtorEq, ↓reduceIte]
      refine Safe.cd rfl ?_
      simp only [E3, Nat.reduceLeDiff, Nat.reduceSub, Nat.reduceAdd, Nat.reduceEqDiff, reduceCtorEq, ↓reduceIte]
      refine Safe.rg rfl ?_
      simp only [law04_MatLinear_r24, E3, Nat.reduceLeDiff, Nat.reduceSub, Nat.reduceAdd, Nat.reduceEqDiff, reduceCtorEq, ↓reduceIte]
      refine Safe.rt rfl ?_
      simp only [E3, Nat.reduceLeDiff, Nat.reduceSub, Nat.reduceAdd, Nat.reduceEqDiff, reduceCtorEq, ↓reduceIte]
      first | exact ⟨rfl, _, rfl⟩ | exact ⟨_, rfl⟩ | exact ⟨trivial, _, rfl⟩
  have part2 : ∀ H : Heap, HRefs H → Fits a b → 0 < a.length → Safe ⟨Pr, fun _ _ => false, F_law04_MatLinear, 149, [.tmp 6], H.length⟩
      [.code (.seq (.region law04_MatLinear_r11 false) (.seq (.seq (.region law04_MatLinear_r12 false) (.block 0 (.loop law04_MatLinear_l0))) (.seq (.region law04_MatLinear_r16 false) (.cond (.t 90) (.seq (.region law04_MatLinear_r17 false) (.seq (.region law04_MatLinear_r18 false) (.seq (.region law04_MatLinear_r19 false) (.seq (.region law04_MatLinear_r20 false) (.cond (.t 124) (.seq (.region law04_MatLinear_r21 false) (.ret)) (.skip)))))) (.skip))))),
       .code (.seq (.region law04_MatLinear_r22 false) (.seq (.seq (.region law04_MatLinear_r23 false) (.cond (.t 136) (.seq (.region law04_MatLinear_r24 false) (.ret)) (.skip))) (.seq (.region law04_MatLinear_r25 false) (.seq (.region law04_MatLinear_r26 false) (.ret)))))]
      [(0, matV a), (1, matV b), (7, matV (prodM a b))] (hap H []) fun r' H' => r' = .bool true ∧ ∃ L, H' = hap H L := by
    intro H hH hf h0
    obtain ⟨hra, hrb, hw⟩ := hf
    have hw' := hw h0
    have hx : Vok 2 (vec a.length fun i => ((i * i : Nat) : Int) - 3) := zok_vec ha.len fun i hi => by
      have : i * i ≤ 2097152 * 2097152 := Nat.mul_le_mul (by omega) (by omega)
      have e : LB ^ 2 = 18446744073709551616 := by decide
      rw [e]; omega
    have hv := comb_ok hx ha
    have hcc := comb_comb (vec a.length fun i => ((i * i : Nat) : Int) - 3) a b hw' (wid_prod hw')
    have ho := order_pure (combV (vec a.length fun i => ((i * i : Nat) : Int) - 3) (prodM a b)) (combV (vec a.length fun i => ((i * i : Nat) : Int) - 3) (prodM a b)) ((comb_ok hx (prod_ok ha hb)).mono (by omega)) ((comb_ok hx (prod_ok ha hb)).mono (by omega))
    rw [ordZ_self] at ho
    have hc2 := comb_rect (combV (vec a.length fun i => ((i * i : Nat) : Int) - 3) a) b _ _ hv hb (by omega) hrb (by rw [combV, vec_length]; exact hw')
    rw [hcc] at hc2
    have hl90 : ((vec a.length fun i => ((i * i : Nat) : Int) - 3).length : Int) = (a.length : Int) := by rw [vec_length]
    refine Safe.rg rfl ?_
    simp only [law04_MatLinear_r11, E3, Nat.reduceLeDiff, Nat.reduceSub, Nat.reduceAdd, Nat.reduceEqDiff, reduceCtorEq, ↓reduceIte]
    refine Safe.nilrow 15 2 (by decide) (by simp only [E3, Nat.reduceLeDiff, Nat.reduceSub, Nat.reduceAdd, Nat.reduceEqDiff, reduceCtorEq, ↓reduceIte]) ?_
    refine Safe.rg rfl ?_
    simp only [law04_MatLinear_r12, E3, Nat.reduceLeDiff, Nat.reduceSub, Nat.reduceAdd, Nat.reduceEqDiff, reduceCtorEq, ↓reduceIte]
    refine Safe.lp rfl ?_
    refine Safe.keep [0, 1, 7, 15, 16] ?_
    try simp only [E3, Nat.reduceLeDiff, Nat.reduceSub, Nat.reduceAdd, Nat.reduceEqDiff, reduceCtorEq, ↓reduceIte]
    refine Safe.loopN (a.length) (fun i => [(0, matV a), (1, matV b), (7, matV (prodM a b)), (15, .mu (lid H 0) 0 i none), (16, .int .i64 i)]) (fun i => hap H [some ⟨2, (vec i fun i => ((i * i : Nat) : Int) - 3).map ZI.av⟩]) rfl rfl (fun i hi ih => ?_) ?_
    · have hlt : (i : Int) < (a.length : Int) := by omega
      have hii : i * i ≤ 2097152 * 2097152 := Nat.mul_le_mul (by omega) (by omega)
      have hmul : IntKind.wrap .i64 ((i : Int) * (i : Int)) = ((i * i : Nat) : Int) := by
        rw [← Int.natCast_mul, wrap_i64] <;> omega
      have hsub : IntKind.wrap .i64 (((i * i : Nat) : Int) - 3) = ((i * i : Nat) : Int) - 3 := by rw [wrap_i64] <;> omega
      have hiw : IntKind.wrap .i64 ((i : Int) + 1) = ((i + 1 : Nat) : Int) := by rw [wrap_i64] <;> omega
      refine Safe.inLoop ?_
      refine Safe.rg rfl ?_
      simp only [law04_MatLinear_r13, hlt, E3, Nat.reduceLeDiff, Nat.reduceSub, Nat.reduceAdd, Nat.reduceEqDiff, reduceCtorEq, ↓reduceIte]
      refine Safe.cd rfl ?_
      simp only [E3, Nat.reduceLeDiff, Nat.reduceSub, Nat.reduceAdd, Nat.reduceEqDiff, reduceCtorEq, ↓reduceIte]
      refine Safe.rg rfl ?_
      simp only [law04_MatLinear_r14, hmul, hsub, E3, Nat.reduceLeDiff, Nat.reduceSub, Nat.reduceAdd, Nat.reduceEqDiff, reduceCtorEq, ↓reduceIte]
      first | refine (zof_pure (((i * i : Nat) : Int) - 3) (by omega) (by omega)).acall ?_ | refine (zof_pure (((i * i : Nat) : Int) - 3) (by omega) (by omega)).dcall ?_
      try simp only [E3, Nat.reduceLeDiff, Nat.reduceSub, Nat.reduceAdd, Nat.reduceEqDiff, reduceCtorEq, ↓reduceIte]
      rw [app_row hH 0 (lid_ge H 0) ZI.cl (vec i fun i => ((i * i : Nat) : Int) - 3) (canZ (((i * i : Nat) : Int) - 3)) (vec (i + 1) fun i => ((i * i : Nat) : Int) - 3) ?hlen ?hl ?hL ?hy ?hl2 ?hb ?hbb]
      case hlen => first | rfl | (simp only [vec_length, mat_length, List.length_map, List.length_take]; done) | (simp only [vec_length, mat_length, List.length_map, List.length_take]; omega)
      case hl => rfl
      case hL => repeat (first | exact RC.nil | refine RC.none ?_ | refine RC.row ZI.cl ?_ | refine RC.row vecV_cl ?_ | refine RC.emp ?_ | refine RC.zero ?_ | refine RC.one (Z_cl _) ?_ | refine RC.one (ZI.cl _) ?_ | refine RC.one (vecV_cl _) ?_)
      case hy => rfl
      case hl2 => first | exact vec_succ _ _ | exact mat_succ _ _ | exact take_succ _ (by omega) | exact take_map_succ _ _ (by omega)
      case hb => omega
      case hbb => omega
      simp only [E3, Nat.reduceLeDiff, Nat.reduceSub, Nat.reduceAdd, Nat.reduceEqDiff, reduceCtorEq, ↓reduceIte]
      refine Safe.rg rfl ?_
      simp only [law04_MatLinear_r15, hiw, E3, Nat.reduceLeDiff, Nat.reduceSub, Nat.reduceAdd, Nat.reduceEqDiff, reduceCtorEq, ↓reduceIte]
      refine Safe.keep [0, 1, 7, 15, 16] ?_
      simp only [E3, Nat.reduceLeDiff, Nat.reduceSub, Nat.reduceAdd, Nat.reduceEqDiff, reduceCtorEq, ↓reduceIte]
      exact ih
    · refine Safe.inLoop ?_
      refine Safe.rg rfl ?_
      simp only [law04_MatLinear_r13, Int.lt_irrefl, E3, Nat.reduceLeDiff, Nat.reduceSub, Nat.reduceAdd, Nat.reduceEqDiff, reduceCtorEq, ↓reduceIte]
      refine Safe.cd rfl ?_
      simp only [E3, Nat.reduceLeDiff, Nat.reduceSub, Nat.reduceAdd, Nat.reduceEqDiff, reduceCtorEq, ↓reduceIte]
      refine Safe.freeze 0 hH rfl rfl (blk_map 2 ZI.av _ ZI.cl) ?_
      refine Safe.keep [0, 1, 7, 15] ?_
      simp only [frz_vec H 0 (vec a.length fun i => ((i * i : Nat) : Int) - 3) (a.length) (none) (by simp only [vec_length, mat_length]), frz_mu_other, frz_loc_other, map_frz_vec, map_frz_mat, E3, Nat.reduceLeDiff, Nat.reduceSub, Nat.reduceAdd, Nat.reduceEqDiff, reduceCtorEq, ↓reduceIte]
      refine Safe.rg rfl ?_
      simp only [law04_MatLinear_r16, hl90, E3, Nat.reduceLeDiff, Nat.reduceSub, Nat.reduceAdd, Nat.reduceEqDiff, reduceCtorEq, ↓reduceIte]
      refine Safe.cd rfl ?_
      simp only [E3, Nat.reduceLeDiff, Nat.reduceSub, Nat.reduceAdd, Nat.reduceEqDiff, reduceCtorEq, ↓reduceIte]
      refine Safe.rg rfl ?_
      simp only [law04_MatLinear_r17, E3, Nat.reduceLeDiff, Nat.reduceSub, Nat.reduceAdd, Nat.reduceEqDiff, reduceCtorEq, ↓reduceIte]
      first | refine (comb_rect (vec a.length fun i => ((i * i : Nat) : Int) - 3) a _ _ hx ha (by omega) hra (vec_length _ _)).acall ?_ | refine (comb_rect (vec a.length fun i => ((i * i : Nat) : Int) - 3) a _ _ hx ha (by omega) hra (vec_length _ _)).dcall ?_
      try simp only [E3, Nat.reduceLeDiff, Nat.reduceSub, Nat.reduceAdd, Nat.reduceEqDiff, reduceCtorEq, ↓reduceIte]
      refine Safe.rg rfl ?_
      simp only [law04_MatLinear_r18, E3, Nat.reduceLeDiff, Nat.reduceSub, Nat.reduceAdd, Nat.reduceEqDiff, reduceCtorEq, ↓reduceIte]
      first | refine (hc2).acall ?_ | refine (hc2).dcall ?_
      try simp only [E3, Nat.reduceLeDiff, Nat.reduceSub, Nat.reduceAdd, Nat.reduceEqDiff, reduceCtorEq, ↓reduceIte]
      refine Safe.rg rfl ?_
      simp only [law04_MatLinear_r19, E3, Nat.reduceLeDiff, Nat.reduceSub, Nat.reduceAdd, Nat.reduceEqDiff, reduceCtorEq, ↓reduceIte]
      first | refine (comb_rect (vec a.length fun i => ((i * i : Nat) : Int) - 3) (prodM a b) _ _ hx (prod_ok ha hb) (by omega) (prod_rect a b) (by rw [vec_length, prod_length])).acall ?_ | refine (comb_rect (vec a.length fun i => ((i * i : Nat) : Int) - 3) (prodM a b) _ _ hx (prod_ok ha hb) (by omega) (prod_rect a b) (by rw [vec_length, prod_length])).dcall ?_
      try simp only [E3, Nat.reduceLeDiff, Nat.reduceSub, Nat.reduceAdd, Nat.reduceEqDiff, reduceCtorEq, ↓reduceIte]
      refine Safe.rg rfl ?_
      simp only [law04_MatLinear_r20, E3, Nat.reduceLeDiff, Nat.reduceSub, Nat.reduceAdd, Nat.reduceEqDiff, reduceCtorEq, ↓reduceIte]
      first | refine (ho).acall ?_ | refine (ho).dcall ?_
      try simp only [E3, Nat.reduceLeDiff, Nat.reduceSub, Nat.reduceAdd, Nat.reduceEqDiff, reduceCtorEq, ↓reduceIte]
      refine Safe.cd rfl ?_
      simp only [E3, Nat.reduceLeDiff, Nat.reduceSub, Nat.reduceAdd, Nat.reduceEqDiff, reduceCtorEq, ↓reduceIte]
      refine Safe.skip ?_
      refine Safe.keep [1] ?_
      simp only [E3, Nat.reduceLeDiff, Nat.reduceSub, Nat.reduceAdd, Nat.reduceEqDiff, reduceCtorEq, ↓reduceIte]
      refine Safe.drop0 hH rfl (by simp only [List.all_cons, List.all_nil, E3, Nat.reduceLeDiff, Nat.reduceSub, Nat.reduceAdd, Nat.reduceEqDiff, reduceCtorEq, ↓reduceIte]) (by repeat (first | exact RC.nil | refine RC.none ?_ | refine RC.row ZI.cl ?_ | refine RC.row vecV_cl ?_ | refine RC.emp ?_ | refine RC.zero ?_ | refine RC.one (Z_cl _) ?_ | refine RC.one (ZI.cl _) ?_ | refine RC.one (vecV_cl _) ?_)) ?_
      exact rest H
  refine PureC.intro law04_MatLinear_fn law04_MatLinear_ok (Nat.le_of_ble_eq_true rfl) (.bool _) fun H hH => ?_
  refine Safe.rg rfl ?_
  simp only [law04_MatLinear_r0, E3, Nat.reduceLeDiff, Nat.reduceSub, Nat.reduceAdd, Nat.reduceEqDiff, reduceCtorEq, ↓reduceIte]
  refine Safe.rg rfl ?_
  simp only [law04_MatLinear_r1, E3, Nat.reduceLeDiff, Nat.reduceSub, Nat.reduceAdd, Nat.reduceEqDiff, reduceCtorEq, ↓reduceIte]
  first | refine (alive_pure).acall ?_ | refine (alive_pure).dcall ?_
  try simp only [E3, Nat.reduceLeDiff, Nat.reduceSub, Nat.reduceAdd, Nat.reduceEqDiff, reduceCtorEq, ↓reduceIte]
  refine Safe.cd rfl ?_
  simp only [E3, Nat.reduceLeDiff, Nat.reduceSub, Nat.reduceAdd, Nat.reduceEqDiff, reduceCtorEq, ↓reduceIte]
  refine Safe.rg rfl ?_
  simp only [law04_MatLinear_r3, E3, Nat.reduceLeDiff, Nat.reduceSub, Nat.reduceAdd, Nat.reduceEqDiff, reduceCtorEq, ↓reduceIte]
  by_cases hf : Fits a b
  · first | refine (product_ok a b _ _ ha hb (by omega) hf).acall ?_ | refine (product_ok a b _ _ ha hb (by omega) hf).dcall ?_
    try simp only [E3, Nat.reduceLeDiff, Nat.reduceSub, Nat.reduceAdd, Nat.reduceEqDiff, reduceCtorEq, ↓reduceIte]
    by_cases h0 : a.length = 0
    · have h0' : ¬ (a.length : Int) > 0 := by omega
      refine Safe.rg rfl ?_
      simp only [law04_MatLinear_r4, h0', E3, Nat.reduceLeDiff, Nat.reduceSub, Nat.reduceAdd, Nat.reduceEqDiff, reduceCtorEq, ↓reduceIte]
      refine Safe.cd rfl ?_
      simp only [E3, Nat.reduceLeDiff, Nat.reduceSub, Nat.reduceAdd, Nat.reduceEqDiff, reduceCtorEq, ↓reduceIte]
      refine Safe.skip ?_
      refine Safe.keep [1] ?_
      simp only [E3, Nat.reduceLeDiff, Nat.reduceSub, Nat.reduceAdd, Nat.reduceEqDiff, reduceCtorEq, ↓reduceIte]
      exact rest H
    · have h0' : (a.length : Int) > 0 := by omega
      have hm := prod_ok ha hb
      have p2 := part2 H hH hf (by omega)
      refine Safe.rg rfl ?_
      simp only [law04_MatLinear_r4, h0', E3, Nat.reduceLeDiff, Nat.reduceSub, Nat.reduceAdd, Nat.reduceEqDiff, reduceCtorEq, ↓reduceIte]
      refine Safe.cd rfl ?_
      simp only [E3, Nat.reduceLeDiff, Nat.reduceSub, Nat.reduceAdd, Nat.reduceEqDiff, reduceCtorEq, ↓reduceIte]
      refine Safe.rg rfl ?_
      simp only [law04_MatLinear_r5, E3, Nat.reduceLeDiff, Nat.reduceSub, Nat.reduceAdd, Nat.reduceEqDiff, reduceCtorEq, ↓reduceIte]
      by_cases hf2 : Fits (prodM a b) c
      · have hwc : wid b = c.length := by rw [← prod_wid (a := a) (by omega)]; exact hf2.2.2 (by rw [prod_length]; omega)
        first | refine (product_ok (prodM a b) c _ _ hm hc (by omega) hf2).acall ?_ | refine (product_ok (prodM a b) c _ _ hm hc (by omega) hf2).dcall ?_
        try simp only [E3, Nat.reduceLeDiff, Nat.reduceSub, Nat.reduceAdd, Nat.reduceEqDiff, reduceCtorEq, ↓reduceIte]
        refine Safe.rg rfl ?_
        simp only [law04_MatLinear_r6, E3, Nat.reduceLeDiff, Nat.reduceSub, Nat.reduceAdd, Nat.reduceEqDiff, reduceCtorEq, ↓reduceIte]
        by_cases hf3 : Fits b c
        · have hfp : Fits a (prodM b c) := ⟨hf.1, prod_rect b c, fun h => by rw [prod_length]; exact hf.2.2 h⟩
          have hn : Mok 17592186044416 (prodM (prodM a b) c) := (prod_ok hm hc).mono (by omega)
          have hq := product_ok a (prodM b c) _ _ ha (prod_ok hb hc) (by omega) hfp
          rw [← prod_assoc a b c hwc] at hq
          have hs := same_pure (prodM (prodM a b) c) (prodM (prodM a b) c) hn hn
          rw [sameZ_self] at hs
          first | refine (product_ok b c _ _ hb hc (by omega) hf3).acall ?_ | refine (product_ok b c _ _ hb hc (by omega) hf3).dcall ?_
          try simp only [E3, Nat.reduceLeDiff, Nat.reduceSub, Nat.reduceAdd, Nat.reduceEqDiff, reduceCtorEq, ↓reduceIte]
          refine Safe.rg rfl ?_
          simp only [law04_MatLinear_r7, E3, Nat.reduceLeDiff, Nat.reduceSub, Nat.reduceAdd, Nat.reduceEqDiff, reduceCtorEq, ↓reduceIte]
          refine Safe.cd rfl ?_
          simp only [E3, Nat.reduceLeDiff, Nat.reduceSub, Nat.reduceAdd, Nat.reduceEqDiff, reduceCtorEq, ↓reduceIte]
          refine Safe.rg rfl ?_
          simp only [law04_MatLinear_r8, E3, Nat.reduceLeDiff, Nat.reduceSub, Nat.reduceAdd, Nat.reduceEqDiff, reduceCtorEq, ↓reduceIte]
          first | refine (hq).acall ?_ | refine (hq).dcall ?_
          try simp only [E3, Nat.reduceLeDiff, Nat.reduceSub, Nat.reduceAdd, Nat.reduceEqDiff, reduceCtorEq, ↓reduceIte]
          refine Safe.rg rfl ?_
          simp only [law04_MatLinear_r9, E3, Nat.reduceLeDiff, Nat.reduceSub, Nat.reduceAdd, Nat.reduceEqDiff, reduceCtorEq, ↓reduceIte]
          first | refine (hs).acall ?_ | refine (hs).dcall ?_
          try simp only [E3, Nat.reduceLeDiff, Nat.reduceSub, Nat.reduceAdd, Nat.reduceEqDiff, reduceCtorEq, ↓reduceIte]
          refine Safe.cd rfl ?_
          simp only [E3, Nat.reduceLeDiff, Nat.reduceSub, Nat.reduceAdd, Nat.reduceEqDiff, reduceCtorEq, ↓reduceIte]
          refine Safe.skip ?_
          refine Safe.keep [0, 1, 7] ?_
          simp only [E3, Nat.reduceLeDiff, Nat.reduceSub, Nat.reduceAdd, Nat.reduceEqDiff, reduceCtorEq, ↓reduceIte]
          exact p2
        · first | refine (product_bad b c _ _ hb hc hf3).acall ?_ | refine (product_bad b c _ _ hb hc hf3).dcall ?_
          try simp only [E3, Nat.reduceLeDiff, Nat.reduceSub, Nat.reduceAdd, Nat.reduceEqDiff, reduceCtorEq, ↓reduceIte]
          refine Safe.rg rfl ?_
          simp only [law04_MatLinear_r7, eight_ne, E3, Nat.reduceLeDiff, Nat.reduceSub, Nat.reduceAdd, Nat.reduceEqDiff, reduceCtorEq, ↓reduceIte]
          refine Safe.cd rfl ?_
          simp only [E3, Nat.reduceLeDiff, Nat.reduceSub, Nat.reduceAdd, Nat.reduceEqDiff, reduceCtorEq, ↓reduceIte]
          refine Safe.skip ?_
          refine Safe.keep [0, 1, 7] ?_
          simp only [E3, Nat.reduceLeDiff, Nat.reduceSub, Nat.reduceAdd, Nat.reduceEqDiff, reduceCtorEq, ↓reduceIte]
          exact p2
      · first | refine (product_bad (prodM a b) c _ _ hm hc hf2).acall ?_ | refine (product_bad (prodM a b) c _ _ hm hc hf2).dcall ?_
        try simp only [E3, Nat.reduceLeDiff, Nat.reduceSub, Nat.reduceAdd, Nat.reduceEqDiff, reduceCtorEq, ↓reduceIte]
        refine Safe.rg rfl ?_
        simp only [law04_MatLinear_r6, E3, Nat.reduceLeDiff, Nat.reduceSub, Nat.reduceAdd, Nat.reduceEqDiff, reduceCtorEq, ↓reduceIte]
        by_cases hf3 : Fits b c
        · first | refine (product_ok b c _ _ hb hc (by omega) hf3).acall ?_ | refine (product_ok b c _ _ hb hc (by omega) hf3).dcall ?_
          try simp only [E3, Nat.reduceLeDiff, Nat.reduceSub, Nat.reduceAdd, Nat.reduceEqDiff, reduceCtorEq, ↓reduceIte]
          refine Safe.rg rfl ?_
          simp only [law04_MatLinear_r7, eight_ne, E3, Nat.reduceLeDiff, Nat.reduceSub, Nat.reduceAdd, Nat.reduceEqDiff, reduceCtorEq, ↓reduceIte]
          refine Safe.cd rfl ?_
          simp only [E3, Nat.reduceLeDiff, Nat.reduceSub, Nat.reduceAdd, Nat.reduceEqDiff, reduceCtorEq, ↓reduceIte]
          refine Safe.skip ?_
          refine Safe.keep [0, 1, 7] ?_
          simp only [E3, Nat.reduceLeDiff, Nat.reduceSub, Nat.reduceAdd, Nat.reduceEqDiff, reduceCtorEq, ↓reduceIte]
          exact p2
        · first | refine (product_bad b c _ _ hb hc hf3).acall ?_ | refine (product_bad b c _ _ hb hc hf3).dcall ?_
          try simp only [E3, Nat.reduceLeDiff, Nat.reduceSub, Nat.reduceAdd, Nat.reduceEqDiff, reduceCtorEq, ↓reduceIte]
          refine Safe.rg rfl ?_
          simp only [law04_MatLinear_r7, eight_ne, E3, Nat.reduceLeDiff, Nat.reduceSub, Nat.reduceAdd, Nat.reduceEqDiff, reduceCtorEq, ↓reduceIte]
          refine Safe.cd rfl ?_
          simp only [E3, Nat.reduceLeDiff, Nat.reduceSub, Nat.reduceAdd, Nat.reduceEqDiff, reduceCtorEq, ↓reduceIte]
          refine Safe.skip ?_
          refine Safe.keep [0, 1, 7] ?_
          simp only [E3, Nat.reduceLeDiff, Nat.reduceSub, Nat.reduceAdd, Nat.reduceEqDiff, reduceCtorEq, ↓reduceIte]
          exact p2
  · first | refine (product_bad a b _ _ ha hb hf).acall ?_ | refine (product_bad a b _ _ ha hb hf).dcall ?_
    try simp only [E3, Nat.reduceLeDiff, Nat.reduceSub, Nat.reduceAdd, Nat.reduceEqDiff, reduceCtorEq, ↓reduceIte]
    refine Safe.rg rfl ?_
    simp only [law04_MatLinear_r4, eight_ne, E3, Nat.reduceLeDiff, Nat.reduceSub, Nat.reduceAdd, Nat.reduceEqDiff, reduceCtorEq, ↓reduceIte]
    refine Safe.cd rfl ?_
    simp only [E3, Nat.reduceLeDiff, Nat.reduceSub, Nat.reduceAdd, Nat.reduceEqDiff, reduceCtorEq, ↓reduceIte]
    refine Safe.skip ?_
    refine Safe.keep [1] ?_
    simp only [E3, Nat.reduceLeDiff, Nat.reduceSub, Nat.reduceAdd, Nat.reduceEqDiff, reduceCtorEq, ↓reduceIte]
    exact rest H
end Go.Abs

/- The walks: MatLine. -/
import Derived.Test.YtofbhhncpjegfaaT2
import Derived.Test.YtofbhhncpjegfaaW8
set_option linter.unusedVariables false
set_option linter.unusedSimpArgs false
namespace Go.Abs
theorem ordZ_self (u : List Int) : ordZ u u = 0 := ordZ_zero.2 rfl
theorem sign_swap (a b : Int) : (b - a).sign = -(a - b).sign := by
  rw [show b - a = -(a - b) by omega, Int.sign_neg]
theorem ordZ_swap : ∀ u v : List Int, ordZ v u = -ordZ u v
  | [], [] => rfl
  | [], _ :: _ => rfl
  | _ :: _, [] => rfl
  | a :: u, b :: v => by
    simp only [ordZ, sign_swap a b]
    by_cases h : (a - b).sign = 0
    · rw [if_pos h, if_pos (by omega), ordZ_swap u v]
    · rw [if_neg h, if_neg (by omega)]
theorem sign_neg_iff (a b : Int) : (a - b).sign < 0 ↔ a < b := by
  rw [sign_lt (a - b)]; omega
theorem sign_zero_iff (a b : Int) : (a - b).sign = 0 ↔ a = b := by
  rw [Int.sign_eq_zero_iff_zero]; omega
theorem ordZ_trans : ∀ {u v w : List Int}, ordZ u v < 0 → ordZ v w < 0 → ordZ u w < 0
  | [], [], w, h, _ => by simp [ordZ] at h
  | [], _ :: _, [], _, h => by simp [ordZ] at h
  | [], _ :: _, _ :: _, _, _ => by simp [ordZ]
  | _ :: _, [], _, h, _ => by simp [ordZ] at h
  | _ :: _, _ :: _, [], _, h => by simp [ordZ] at h
  | a :: u, b :: v, c :: w, h1, h2 => by
    simp only [ordZ] at h1 h2 ⊢
    by_cases e1 : (a - b).sign = 0
    · rw [if_pos e1] at h1
      have e1' := (sign_zero_iff a b).1 e1
      subst e1'
      by_cases e2 : (a - c).sign = 0
      · rw [if_pos e2] at h2 ⊢
        exact ordZ_trans h1 h2
      · rw [if_neg e2] at h2 ⊢
        exact h2
    · rw [if_neg e1] at h1
      have l1 := (sign_neg_iff a b).1 h1
      by_cases e2 : (b - c).sign = 0
      · have e2' := (sign_zero_iff b c).1 e2
        subst e2'
        rw [if_neg e1]; exact h1
      · rw [if_neg e2] at h2
        have l2 := (sign_neg_iff b c).1 h2
        have l3 : (a - c).sign < 0 := (sign_neg_iff a c).2 (by omega)
        rw [if_neg (by omega)]; exact l3
theorem zs_vec (n : Nat) (f : Nat → Int) : zs (vec n f) = (List.range n).map f := by
  simp only [zs, vec, List.map_map]
  exact List.map_congr_left fun i _ => canZ_z _

/-- The negative of a vector. -/
def negV (u : List ZI) : List ZI := vec u.length fun i => -1 * zg u i
theorem negV_len (u : List ZI) : (negV u).length = u.length := vec_length _ _
theorem zg_negV (u : List ZI) {i : Nat} (hi : i < u.length) : zg (negV u) i = -zg u i := by rw [negV, zg_vec hi]; omega
theorem lead_negV (u : List ZI) : leadI (negV u) = leadI u ∧ (∀ i, i < u.length → upS (negV u) * zg (negV u) i = upS u * zg u i) := by
  rcases lead_cases u with ⟨m, hm, h0, hz, hl, hu⟩ | ⟨hz, hl, hu⟩
  · have hlead := lead_at (v := negV u) (i := m) (by rw [negV_len]; exact hm) (by rw [zg_negV u hm]; omega) (fun j hj => by rw [zg_negV u (by omega), hz j hj]; rfl)
    refine ⟨by rw [leadI, hlead, hl], fun i hi => ?_⟩
    have hs : upS (negV u) = -upS u := by
      rw [upS, hlead, hu]
      simp only [zg_negV u hm]
      by_cases h : zg u m < 0
      · rw [if_pos h, if_neg (by omega)]; rfl
      · rw [if_neg h, if_pos (by omega)]
    rw [hs, zg_negV u hi, Int.neg_mul_neg]
  · have hn : ∀ j, j < (negV u).length → zg (negV u) j = 0 := fun j hj => by rw [negV_len] at hj; rw [zg_negV u hj, hz j hj]; rfl
    refine ⟨by rw [leadI, lead_none hn, hl], fun i hi => ?_⟩
    rw [hn i (by rw [negV_len]; exact hi), hz i hi]; simp

theorem wrap_small {n : Int} (h : n = -1 ∨ n = 0 ∨ n = 1) : IntKind.wrap .i64 n = n := by
  rcases h with rfl | rfl | rfl <;> decide

theorem matline_rest (u : List ZI) (hu : Vok 1048576 u) (H : Heap) : Safe ⟨Pr, fun _ _ => false, F_law04_MatLine, 91, [.tmp 6], H.length⟩ [.code (.seq (.region law04_MatLine_r5 false) (.seq (.region law04_MatLine_r6 false) (.seq (.seq (.region law04_MatLine_r7 false) (.cond (.t 73) (.seq (.region law04_MatLine_r8 false) (.ret)) (.skip))) (.seq (.seq (.region law04_MatLine_r9 false) (.cond (.t 75) (.seq (.region law04_MatLine_r10 false) (.ret)) (.skip))) (.seq (.region law04_MatLine_r11 false) (.seq (.region law04_MatLine_r12 false) (.ret)))))))]
      [(0, vecV u)] (hap H []) fun r' H' => r' = .bool true ∧ ∃ L, H' = hap H L := by
  have hu' := hu.mono (show 1048576 ≤ 17592186044416 by omega)
  have hneg : Vok 17592186044416 (negV u) := zok_vecm hu.len (fun i _ => mul_abs (show (-1 : Int).natAbs < LB ^ 1 by decide) (hu.abs i)) (by omega)
  have htm := mtimes_pure (canZ (-1)) u 1 1048576 (zok_can (by decide)) hu (by omega)
  rw [canZ_z, canZ_av] at htm
  obtain ⟨hl1, hl2⟩ := lead_negV u
  have hup : (vec (negV u).length fun i => upS (negV u) * zg (negV u) i) = vec u.length fun i => upS u * zg u i := by
    rw [negV_len]; exact vec_congr hl2
  have hupn := mupright_pure (negV u) hneg
  rw [hup] at hupn
  have hleadn := mlead_pure (negV u) hneg
  rw [hl1] at hleadn
  have hvu' := vok_up hu'
  have hoo := order_pure (vec u.length fun i => upS u * zg u i) (vec u.length fun i => upS u * zg u i) hvu' hvu'
  rw [ordZ_self] at hoo
  refine Safe.rg rfl ?_
  simp only [law04_MatLine_r5, E3, Nat.reduceLeDiff, Nat.reduceSub, Nat.reduceAdd, Nat.reduceEqDiff, reduceCtorEq, ↓reduceIte]
  first | refine (zof_pure (-1) (by omega) (by omega)).acall ?_ | refine (zof_pure (-1) (by omega) (by omega)).dcall ?_
  try simp only [E3, Nat.reduceLeDiff, Nat.reduceSub, Nat.reduceAdd, Nat.reduceEqDiff, reduceCtorEq, ↓reduceIte]
  first | refine (htm).acall ?_ | refine (htm).dcall ?_
  try simp only [E3, Nat.reduceLeDiff, Nat.reduceSub, Nat.reduceAdd, Nat.reduceEqDiff, reduceCtorEq, ↓reduceIte]
  refine Safe.rg rfl ?_
  simp only [law04_MatLine_r6, E3, Nat.reduceLeDiff, Nat.reduceSub, Nat.reduceAdd, Nat.reduceEqDiff, reduceCtorEq, ↓reduceIte]
  first | refine (mlead_pure u hu').acall ?_ | refine (mlead_pure u hu').dcall ?_
  try simp only [E3, Nat.reduceLeDiff, Nat.reduceSub, Nat.reduceAdd, Nat.reduceEqDiff, reduceCtorEq, ↓reduceIte]
  have hlen : ((vec u.length fun i => -1 * zg u i).length : Int) = (u.length : Int) := by rw [vec_length]
  refine Safe.rg rfl ?_
  simp only [law04_MatLine_r7, E3, Nat.reduceLeDiff, Nat.reduceSub, Nat.reduceAdd, Nat.reduceEqDiff, reduceCtorEq, ↓reduceIte]
  first | refine (mupright_pure u hu').acall ?_ | refine (mupright_pure u hu').dcall ?_
  try simp only [E3, Nat.reduceLeDiff, Nat.reduceSub, Nat.reduceAdd, Nat.reduceEqDiff, reduceCtorEq, ↓reduceIte]
  first | refine (hupn).acall ?_ | refine (hupn).dcall ?_
  try simp only [E3, Nat.reduceLeDiff, Nat.reduceSub, Nat.reduceAdd, Nat.reduceEqDiff, reduceCtorEq, ↓reduceIte]
  first | refine (hoo).acall ?_ | refine (hoo).dcall ?_
  try simp only [E3, Nat.reduceLeDiff, Nat.reduceSub, Nat.reduceAdd, Nat.reduceEqDiff, reduceCtorEq, ↓reduceIte]
  first | refine (hleadn).acall ?_ | refine (hleadn).dcall ?_
  try simp only [E3, Nat.reduceLeDiff, Nat.reduceSub, Nat.reduceAdd, Nat.reduceEqDiff, reduceCtorEq, ↓reduceIte]
  rcases lead_cases u with ⟨m, hm, h0, hz, hl, hs⟩ | ⟨hz, hl, hs⟩
  · have hge : ¬ (m : Int) ≥ (u.length : Int) := by omega
    have hlt : ¬ (m : Int) < 0 := by omega
    have hpos : (canZ (upS u * zg u m)).z.sign > 0 := by
      rw [canZ_z, hs]
      split
      · rw [Int.sign_eq_one_of_pos (by omega)]; decide
      · rw [Int.sign_eq_one_of_pos (by omega)]; decide
    have hml : m < (vec u.length fun i => upS u * zg u i).length := by rw [vec_length]; exact hm
    have hup2 : ((vec u.length fun i => upS u * zg u i).length : Int) = (u.length : Int) := by rw [vec_length]
    have hsg := r2sign_pure (canZ (upS u * zg u m)) (by have := hvu'.get hml; rwa [vec_get] at this)
    rw [hl]
    simp only [hge, hlen, E3, Nat.reduceLeDiff, Nat.reduceSub, Nat.reduceAdd, Nat.reduceEqDiff, reduceCtorEq, ↓reduceIte]
    refine Safe.cd rfl ?_
    simp only [E3, Nat.reduceLeDiff, Nat.reduceSub, Nat.reduceAdd, Nat.reduceEqDiff, reduceCtorEq, ↓reduceIte]
    refine Safe.rg rfl ?_
    simp only [law04_MatLine_r9, hlt, E3, Nat.reduceLeDiff, Nat.reduceSub, Nat.reduceAdd, Nat.reduceEqDiff, reduceCtorEq, ↓reduceIte]
    refine Safe.cd rfl ?_
    simp only [E3, Nat.reduceLeDiff, Nat.reduceSub, Nat.reduceAdd, Nat.reduceEqDiff, reduceCtorEq, ↓reduceIte]
    refine Safe.rg rfl ?_
    simp only [law04_MatLine_r11, E3, Nat.reduceLeDiff, Nat.reduceSub, Nat.reduceAdd, Nat.reduceEqDiff, reduceCtorEq, ↓reduceIte]
    first | refine (mupright_pure u hu').acall ?_ | refine (mupright_pure u hu').dcall ?_
    try simp only [E3, Nat.reduceLeDiff, Nat.reduceSub, Nat.reduceAdd, Nat.reduceEqDiff, reduceCtorEq, ↓reduceIte]
    refine Safe.rg rfl ?_
    simp only [law04_MatLine_r12, hup2, vec_idx _ (vec u.length fun i => upS u * zg u i) _ m hml, vec_get, E3, Nat.reduceLeDiff, Nat.reduceSub, Nat.reduceAdd, Nat.reduceEqDiff, reduceCtorEq, ↓reduceIte]
    first | refine (hsg).acall ?_ | refine (hsg).dcall ?_
    try simp only [E3, Nat.reduceLeDiff, Nat.reduceSub, Nat.reduceAdd, Nat.reduceEqDiff, reduceCtorEq, ↓reduceIte]
    simp only [hpos, E3, Nat.reduceLeDiff, Nat.reduceSub, Nat.reduceAdd, Nat.reduceEqDiff, reduceCtorEq, ↓reduceIte]
    refine Safe.rt rfl ?_
    simp only [E3, Nat.reduceLeDiff, Nat.reduceSub, Nat.reduceAdd, Nat.reduceEqDiff, reduceCtorEq, ↓reduceIte]
    first | exact ⟨rfl, _, rfl⟩ | exact ⟨_, rfl⟩ | exact ⟨trivial, _, rfl⟩
  · have hge : ¬ (-1 : Int) ≥ (u.length : Int) := by omega
    rw [hl]
    simp only [hge, hlen, E3, Nat.reduceLeDiff, Nat.reduceSub, Nat.reduceAdd, Nat.reduceEqDiff, reduceCtorEq, ↓reduceIte]
    refine Safe.cd rfl ?_
    simp only [E3, Nat.reduceLeDiff, Nat.reduceSub, Nat.reduceAdd, Nat.reduceEqDiff, reduceCtorEq, ↓reduceIte]
    refine Safe.rg rfl ?_
    simp only [law04_MatLine_r9, show (-1 : Int) < 0 by decide, E3, Nat.reduceLeDiff, Nat.reduceSub, Nat.reduceAdd, Nat.reduceEqDiff, reduceCtorEq, ↓reduceIte]
    refine Safe.cd rfl ?_
    simp only [E3, Nat.reduceLeDiff, Nat.reduceSub, Nat.reduceAdd, Nat.reduceEqDiff, reduceCtorEq, ↓reduceIte]
    refine Safe.rg rfl ?_
    simp only [law04_MatLine_r10, E3, Nat.reduceLeDiff, Nat.reduceSub, Nat.reduceAdd, Nat.reduceEqDiff, reduceCtorEq, ↓reduceIte]
    refine Safe.rt rfl ?_
    simp only [E3, Nat.reduceLeDiff, Nat.reduceSub, Nat.reduceAdd, Nat.reduceEqDiff, reduceCtorEq, ↓reduceIte]
    first | exact ⟨rfl, _, rfl⟩ | exact ⟨_, rfl⟩ | exact ⟨trivial, _, rfl⟩

theorem matline_pure (u v w : List ZI) (hu : Vok 1048576 u) (hv : Vok 1048576 v) (hw : Vok 1048576 w) : PureC Pr F_law04_MatLine [vecV u, vecV v, vecV w] (.bool true) := by
  have hu' := hu.mono (show 1048576 ≤ 17592186044416 by omega)
  have hv' := hv.mono (show 1048576 ≤ 17592186044416 by omega)
  have hw' := hw.mono (show 1048576 ≤ 17592186044416 by omega)
  have huu := order_pure u u hu' hu'
  rw [ordZ_self] at huu
  have hvu := order_pure v u hv' hu'
  have hsw : IntKind.wrap .i64 (0 - ordZ (zs v) (zs u)) = ordZ (zs u) (zs v) := by
    rw [ordZ_swap (zs u) (zs v), Int.zero_sub, Int.neg_neg, wrap_small (ordZ_small _ _)]
  refine PureC.intro law04_MatLine_fn law04_MatLine_ok (Nat.le_of_ble_eq_true rfl) (.bool _) fun H hH => ?_
  refine Safe.rg rfl ?_
  simp only [law04_MatLine_r0, E3, Nat.reduceLeDiff, Nat.reduceSub, Nat.reduceAdd, Nat.reduceEqDiff, reduceCtorEq, ↓reduceIte]
  refine Safe.rg rfl ?_
  simp only [law04_MatLine_r1, E3, Nat.reduceLeDiff, Nat.reduceSub, Nat.reduceAdd, Nat.reduceEqDiff, reduceCtorEq, ↓reduceIte]
  first | refine (alive_pure).acall ?_ | refine (alive_pure).dcall ?_
  try simp only [E3, Nat.reduceLeDiff, Nat.reduceSub, Nat.reduceAdd, Nat.reduceEqDiff, reduceCtorEq, ↓reduceIte]
  refine Safe.cd rfl ?_
  simp only [E3, Nat.reduceLeDiff, Nat.reduceSub, Nat.reduceAdd, Nat.reduceEqDiff, reduceCtorEq, ↓reduceIte]
  refine Safe.rg rfl ?_
  simp only [law04_MatLine_r3, E3, Nat.reduceLeDiff, Nat.reduceSub, Nat.reduceAdd, Nat.reduceEqDiff, reduceCtorEq, ↓reduceIte]
  first | refine (order_pure u v hu' hv').acall ?_ | refine (order_pure u v hu' hv').dcall ?_
  try simp only [E3, Nat.reduceLeDiff, Nat.reduceSub, Nat.reduceAdd, Nat.reduceEqDiff, reduceCtorEq, ↓reduceIte]
  refine hvu.acall ?_
  simp only [hsw, E3, Nat.reduceLeDiff, Nat.reduceSub, Nat.reduceAdd, Nat.reduceEqDiff, reduceCtorEq, ↓reduceIte]
  refine huu.acall ?_
  have rest := matline_rest u hu H
  by_cases h1 : ordZ (zs u) (zs v) < 0
  · simp only [h1, E3, Nat.reduceLeDiff, Nat.reduceSub, Nat.reduceAdd, Nat.reduceEqDiff, reduceCtorEq, ↓reduceIte]
    refine (order_pure u v hu' hv').acall ?_
    simp only [h1, E3, Nat.reduceLeDiff, Nat.reduceSub, Nat.reduceAdd, Nat.reduceEqDiff, reduceCtorEq, ↓reduceIte]
    by_cases h2 : ordZ (zs v) (zs w) < 0
    · have h3 : ¬ ordZ (zs u) (zs w) ≥ 0 := by have := ordZ_trans h1 h2; omega
      refine (order_pure v w hv' hw').acall ?_
      simp only [h2, E3, Nat.reduceLeDiff, Nat.reduceSub, Nat.reduceAdd, Nat.reduceEqDiff, reduceCtorEq, ↓reduceIte]
      refine (order_pure u w hu' hw').acall ?_
      simp only [h3, E3, Nat.reduceLeDiff, Nat.reduceSub, Nat.reduceAdd, Nat.reduceEqDiff, reduceCtorEq, ↓reduceIte]
      refine Safe.cd rfl ?_
      simp only [E3, Nat.reduceLeDiff, Nat.reduceSub, Nat.reduceAdd, Nat.reduceEqDiff, reduceCtorEq, ↓reduceIte]
      refine Safe.skip ?_
      refine Safe.keep [0] ?_
      simp only [E3, Nat.reduceLeDiff, Nat.reduceSub, Nat.reduceAdd, Nat.reduceEqDiff, reduceCtorEq, ↓reduceIte]
      exact rest
    · refine (order_pure v w hv' hw').acall ?_
      simp only [h2, E3, Nat.reduceLeDiff, Nat.reduceSub, Nat.reduceAdd, Nat.reduceEqDiff, reduceCtorEq, ↓reduceIte]
      refine Safe.cd rfl ?_
      simp only [E3, Nat.reduceLeDiff, Nat.reduceSub, Nat.reduceAdd, Nat.reduceEqDiff, reduceCtorEq, ↓reduceIte]
      refine Safe.skip ?_
      refine Safe.keep [0] ?_
      simp only [E3, Nat.reduceLeDiff, Nat.reduceSub, Nat.reduceAdd, Nat.reduceEqDiff, reduceCtorEq, ↓reduceIte]
      exact rest
  · simp only [h1, E3, Nat.reduceLeDiff, Nat.reduceSub, Nat.reduceAdd, Nat.reduceEqDiff, reduceCtorEq, ↓reduceIte]
    refine (order_pure u v hu' hv').acall ?_
    simp only [h1, E3, Nat.reduceLeDiff, Nat.reduceSub, Nat.reduceAdd, Nat.reduceEqDiff, reduceCtorEq, ↓reduceIte]
    refine Safe.cd rfl ?_
    simp only [E3, Nat.reduceLeDiff, Nat.reduceSub, Nat.reduceAdd, Nat.reduceEqDiff, reduceCtorEq, ↓reduceIte]
    refine Safe.skip ?_
    refine Safe.keep [0] ?_
    simp only [E3, Nat.reduceLeDiff, Nat.reduceSub, Nat.reduceAdd, Nat.reduceEqDiff, reduceCtorEq, ↓reduceIte]
    exact rest
end Go.Abs

/- The walks: trammellaw04, mat, trammelref04. -/
import Derived.Test.YtofbhhncpjegfaaW3
set_option linter.unusedVariables false
set_option linter.unusedSimpArgs false
namespace Go.Abs

theorem own_pure (x : ZI) (hx : Zok 17592186044416 x) : PureC Pr F_law04_own [x.av] x.av := by
  obtain ⟨n, m⟩ := x
  have hm : Nt m := ⟨hx.lim, hx.len⟩
  have hml := hm.len
  simp only [ZI.av]
  refine PureC.intro law04_own_fn law04_own_ok (by simp only [List.length_cons, List.length_nil]; omega) (ZI.cl ⟨n, m⟩) fun H hH => ?_
  refine Safe.seq (Safe.region ?_)
  simp only [law04_own_r0, E2, Nat.reduceLeDiff, Nat.reduceSub, Nat.reduceAdd, Nat.reduceEqDiff, reduceCtorEq, ↓reduceIte]
  refine Safe.seq (Safe.region ?_)
  simp only [law04_own_r1, E2, Nat.reduceLeDiff, Nat.reduceSub, Nat.reduceAdd, Nat.reduceEqDiff, reduceCtorEq, ↓reduceIte]
  refine Safe.seq (Safe.region ?_)
  simp only [law04_own_r2, E2, Nat.reduceLeDiff, Nat.reduceSub, Nat.reduceAdd, Nat.reduceEqDiff, reduceCtorEq, ↓reduceIte, app_nil_nat _ _ H [some ⟨2, [.agg [.bool n, natV m]]⟩, some ⟨2, [.agg [.bool false, .nil]]⟩] m hml]
  refine Safe.seq (Safe.region ?_)
  have happ : ∀ (n0 : Nat) (env : Env), n0 ≤ lid H 2 → appV n0 1 4 false (.mu (lid H 2) 0 m.length none) (.sl 1 [.int .u32 77, .int .u32 78, .int .u32 79, .int .u32 80, .int .u32 81, .int .u32 82, .int .u32 83, .int .u32 84, .int .u32 85]) env
      (hap H [some ⟨2, [.agg [.bool n, natV m]]⟩, some ⟨2, [.agg [.bool false, .nil]]⟩, some ⟨1, u32s m⟩]) = some (.mu (lid H 2) 0 (m.length + 9) none, scrub (lid H 2) env, hap H [some ⟨2, [.agg [.bool n, natV m]]⟩, some ⟨2, [.agg [.bool false, .nil]]⟩, some ⟨1, u32s (m ++ [77, 78, 79, 80, 81, 82, 83, 84, 85])⟩]) := by
    intro n0 env hn0
    have := app_own_nat n0 env H [some ⟨2, [.agg [.bool n, natV m]]⟩, some ⟨2, [.agg [.bool false, .nil]]⟩, some ⟨1, u32s m⟩] 2 m.length none (.sl 1 [.int .u32 77, .int .u32 78, .int .u32 79, .int .u32 80, .int .u32 81, .int .u32 82, .int .u32 83, .int .u32 84, .int .u32 85]) m [77, 78, 79, 80, 81, 82, 83, 84, 85] hH rfl rfl hn0 (aside_cl fun b hb a ha => by
      simp only [List.mem_cons, Option.some.injEq, List.not_mem_nil, or_false] at hb
      rcases hb with rfl | rfl | rfl
      · exact clcells (ZI.cl ⟨n, m⟩) a (by simpa [Blk.flat, ZI.av] using ha)
      · simp [Blk.flat, AV.cells] at ha; rcases ha with rfl | rfl; exact .bool _; exact .nil
      · exact blk_u32 m a ha) (srcEls_sl _ 1 _) (by simp; omega)
    exact this
  simp only [law04_own_r3, E2, Nat.reduceLeDiff, Nat.reduceSub, Nat.reduceAdd, Nat.reduceEqDiff, reduceCtorEq, ↓reduceIte, happ _ _ (lid_ge H 2)]
  refine Safe.seq (Safe.regionD ?_)
  have hslc : slcV (hap H [some ⟨2, [.agg [.bool n, natV m]]⟩, some ⟨2, [.agg [.bool false, .nil]]⟩, some ⟨1, u32s (m ++ [77, 78, 79, 80, 81, 82, 83, 84, 85])⟩]) 1 (.mu (lid H 2) 0 (m.length + 9) none) none (some (.int .i64 m.length)) none = some (.mu (lid H 2) 0 m.length none) := by
    simp only [slcV, hrow_hap, E2, Nat.reduceLeDiff, Nat.reduceSub, Nat.reduceAdd, Nat.reduceEqDiff, reduceCtorEq, ↓reduceIte, boundV]
    rw [if_pos ⟨by omega, by omega, by omega⟩]
    simp
  simp only [law04_own_r4, E2, Nat.reduceLeDiff, Nat.reduceSub, Nat.reduceAdd, Nat.reduceEqDiff, reduceCtorEq, ↓reduceIte, hslc]
  refine Safe.freeze 2 (b := ⟨1, u32s (m ++ [77, 78, 79, 80, 81, 82, 83, 84, 85])⟩) hH rfl rfl (blk_u32 _) ?_
  have hf : frz (lid H 2) ⟨1, u32s (m ++ [77, 78, 79, 80, 81, 82, 83, 84, 85])⟩ (.mu (lid H 2) 0 m.length none) = natV m := by
    rw [frz_mu_part _ _ _ _ _ _ (by simp [u32s_len])]
    simp [natV, u32s_append, List.take_append, u32s_len]
  refine Safe.keep [2] ?_
  simp only [E2, Nat.reduceLeDiff, Nat.reduceSub, Nat.reduceAdd, Nat.reduceEqDiff, reduceCtorEq, ↓reduceIte, hf, frz_loc_other H 2 1 _ 0 0 (by decide)]
  refine Safe.retn ?_
  simp only [E2, Nat.reduceLeDiff, Nat.reduceSub, Nat.reduceAdd, Nat.reduceEqDiff, reduceCtorEq, ↓reduceIte]
  first | exact ⟨rfl, _, rfl⟩ | exact ⟨_, rfl⟩ | exact ⟨trivial, _, rfl⟩

theorem owns_pure (v : List ZI) (hv : Vok 17592186044416 v) : PureC Pr F_law04_owns [vecV v] (vecV v) := by
  have hvl := hv.len
  refine PureC.intro law04_owns_fn law04_owns_ok (by simp only [List.length_cons, List.length_nil]; omega) (vecV_cl v) fun H hH => ?_
  refine Safe.seq (Safe.region ?_)
  simp only [law04_owns_r0, E3, Nat.reduceLeDiff, Nat.reduceSub, Nat.reduceAdd, Nat.reduceEqDiff, reduceCtorEq, ↓reduceIte]
  refine Safe.seq (Safe.region ?_)
  simp only [law04_owns_r1, E3, Nat.reduceLeDiff, Nat.reduceSub, Nat.reduceAdd, Nat.reduceEqDiff, reduceCtorEq, ↓reduceIte]
  refine Safe.seq (Safe.seq (Safe.region ?_))
  simp only [law04_owns_r2, E3, Nat.reduceLeDiff, Nat.reduceSub, Nat.reduceAdd, Nat.reduceEqDiff, reduceCtorEq, ↓reduceIte]
  refine Safe.nilrow 3 2 (by decide) (by simp only [E3, Nat.reduceLeDiff, Nat.reduceSub, Nat.reduceAdd, Nat.reduceEqDiff, reduceCtorEq, ↓reduceIte]) ?_
  refine Safe.block (Safe.loop ?_)
  have key : ∀ (k i : Nat), i + k = v.length → Safe ⟨Pr, fun _ _ => false, F_law04_owns, 20, [.tmp 2], H.length⟩ [.inLoop law04_owns_l0, .inBlock 0, .code ((ACode.region law04_owns_r6 false).seq .ret)]
      [(0, vecV v), (3, .mu (lid H 0) 0 (v.take i).length none), (4, .int .i64 i)] (hap H [some ⟨2, (v.take i).map ZI.av⟩]) fun r' H' => r' = vecV v ∧ ∃ L, H' = hap H L := by
    intro k
    induction k with
    | zero =>
      intro i hi
      have hi' : i = v.length := by omega
      subst hi'
      refine Safe.inLoop (Safe.seq (Safe.seq (Safe.region ?_)))
      simp only [law04_owns_r3, E3, Nat.reduceLeDiff, Nat.reduceSub, Nat.reduceAdd, Nat.reduceEqDiff, reduceCtorEq, ↓reduceIte, Int.lt_irrefl]
      refine Safe.cond ?_
      simp only [E3, Nat.reduceLeDiff, Nat.reduceSub, Nat.reduceAdd, Nat.reduceEqDiff, reduceCtorEq, ↓reduceIte]
      refine Safe.exit rfl ?_
      rw [List.take_length]
      refine Safe.freeze 0 (b := ⟨2, v.map ZI.av⟩) hH rfl rfl (blk_map 2 ZI.av v ZI.cl) ?_
      refine Safe.seq (Safe.region ?_)
      simp only [law04_owns_r6, E3, Nat.reduceLeDiff, Nat.reduceSub, Nat.reduceAdd, Nat.reduceEqDiff, reduceCtorEq, ↓reduceIte, frz_mu_map]
      refine Safe.retn ?_
      simp only [E3, Nat.reduceLeDiff, Nat.reduceSub, Nat.reduceAdd, Nat.reduceEqDiff, reduceCtorEq, ↓reduceIte]
      first | exact ⟨rfl, _, rfl⟩ | exact ⟨_, rfl⟩ | exact ⟨trivial, _, rfl⟩
    | succ k ih =>
      intro i hi
      refine Safe.inLoop (Safe.seq (Safe.seq (Safe.region ?_)))
      have hlt : (i : Int) < (v.length : Int) := by omega
      simp only [law04_owns_r3, E3, Nat.reduceLeDiff, Nat.reduceSub, Nat.reduceAdd, Nat.reduceEqDiff, reduceCtorEq, ↓reduceIte, hlt]
      refine Safe.cond ?_
      simp only [E3, Nat.reduceLeDiff, Nat.reduceSub, Nat.reduceAdd, Nat.reduceEqDiff, reduceCtorEq, ↓reduceIte]
      refine Safe.skip (Safe.seq (Safe.block (Safe.region ?_)))
      simp only [law04_owns_r4, E3, Nat.reduceLeDiff, Nat.reduceSub, Nat.reduceAdd, Nat.reduceEqDiff, reduceCtorEq, ↓reduceIte, vec_idx _ v _ i (by omega)]
      refine (own_pure v[i] (hv.get (by omega))).acall ?_
      have hl : (v.take i).length = i := by rw [List.length_take]; omega
      simp only [E3, Nat.reduceLeDiff, Nat.reduceSub, Nat.reduceAdd, Nat.reduceEqDiff, reduceCtorEq, ↓reduceIte, app_map1 H hH _ (lid_ge H 0) _ 2 32 ZI.av ZI.cl (v.take i) v[i] (by omega) (by omega), natV_clb, clb_bool]
      refine Safe.inBlock (Safe.region ?_)
      have hiw : IntKind.wrap .i64 ((i : Int) + 1) = ((i + 1 : Nat) : Int) := by rw [wrap_i64] <;> omega
      simp only [law04_owns_r5, E3, Nat.reduceLeDiff, Nat.reduceSub, Nat.reduceAdd, Nat.reduceEqDiff, reduceCtorEq, ↓reduceIte, hiw]
      refine Safe.keep [0, 3, 4] ?_
      simp only [E3, Nat.reduceLeDiff, Nat.reduceSub, Nat.reduceAdd, Nat.reduceEqDiff, reduceCtorEq, ↓reduceIte]
      have := ih (i + 1) (by omega)
      rw [List.take_succ_eq_append_getElem (by omega)] at this
      simpa only [List.length_append, List.length_cons, List.length_nil] using this
  refine Safe.keep [0, 3, 4] ?_
  simp only [E3, Nat.reduceLeDiff, Nat.reduceSub, Nat.reduceAdd, Nat.reduceEqDiff, reduceCtorEq, ↓reduceIte]
  exact key v.length 0 (by omega)

theorem ownm_pure (v : List (List ZI)) (hv : Mok 17592186044416 v) : PureC Pr F_law04_ownm [matV v] (matV v) := by
  have hvl := hv.len
  refine PureC.intro law04_ownm_fn law04_ownm_ok (by simp only [List.length_cons, List.length_nil]; omega) (matV_cl v) fun H hH => ?_
  refine Safe.seq (Safe.region ?_)
  simp only [law04_ownm_r0, E3, Nat.reduceLeDiff, Nat.reduceSub, Nat.reduceAdd, Nat.reduceEqDiff, reduceCtorEq, ↓reduceIte]
  refine Safe.seq (Safe.region ?_)
  simp only [law04_ownm_r1, E3, Nat.reduceLeDiff, Nat.reduceSub, Nat.reduceAdd, Nat.reduceEqDiff, reduceCtorEq, ↓reduceIte]
  refine Safe.seq (Safe.seq (Safe.region ?_))
  simp only [law04_ownm_r2, E3, Nat.reduceLeDiff, Nat.reduceSub, Nat.reduceAdd, Nat.reduceEqDiff, reduceCtorEq, ↓reduceIte]
  refine Safe.nilrow 3 1 (by decide) (by simp only [E3, Nat.reduceLeDiff, Nat.reduceSub, Nat.reduceAdd, Nat.reduceEqDiff, reduceCtorEq, ↓reduceIte]) ?_
  refine Safe.block (Safe.loop ?_)
  have key : ∀ (k i : Nat), i + k = v.length → Safe ⟨Pr, fun _ _ => false, F_law04_ownm, 20, [.tmp 2], H.length⟩ [.inLoop law04_ownm_l0, .inBlock 0, .code ((ACode.region law04_ownm_r6 false).seq .ret)]
      [(0, matV v), (3, .mu (lid H 0) 0 (v.take i).length none), (4, .int .i64 i)] (hap H [some ⟨1, (v.take i).map vecV⟩]) fun r' H' => r' = matV v ∧ ∃ L, H' = hap H L := by
    intro k
    induction k with
    | zero =>
      intro i hi
      have hi' : i = v.length := by omega
      subst hi'
      refine Safe.inLoop (Safe.seq (Safe.seq (Safe.region ?_)))
      simp only [law04_ownm_r3, E3, Nat.reduceLeDiff, Nat.reduceSub, Nat.reduceAdd, Nat.reduceEqDiff, reduceCtorEq, ↓reduceIte, Int.lt_irrefl]
      refine Safe.cond ?_
      simp only [E3, Nat.reduceLeDiff, Nat.reduceSub, Nat.reduceAdd, Nat.reduceEqDiff, reduceCtorEq, ↓reduceIte]
      refine Safe.exit rfl ?_
      rw [List.take_length]
      refine Safe.freeze 0 (b := ⟨1, v.map vecV⟩) hH rfl rfl (blk_map 1 vecV v vecV_cl) ?_
      refine Safe.seq (Safe.region ?_)
      simp only [law04_ownm_r6, E3, Nat.reduceLeDiff, Nat.reduceSub, Nat.reduceAdd, Nat.reduceEqDiff, reduceCtorEq, ↓reduceIte, frz_mu_map]
      refine Safe.retn ?_
      simp only [E3, Nat.reduceLeDiff, Nat.reduceSub, Nat.reduceAdd, Nat.reduceEqDiff, reduceCtorEq, ↓reduceIte]
      first | exact ⟨rfl, _, rfl⟩ | exact ⟨_, rfl⟩ | exact ⟨trivial, _, rfl⟩
    | succ k ih =>
      intro i hi
      refine Safe.inLoop (Safe.seq (Safe.seq (Safe.region ?_)))
      have hlt : (i : Int) < (v.length : Int) := by omega
      simp only [law04_ownm_r3, E3, Nat.reduceLeDiff, Nat.reduceSub, Nat.reduceAdd, Nat.reduceEqDiff, reduceCtorEq, ↓reduceIte, hlt]
      refine Safe.cond ?_
      simp only [E3, Nat.reduceLeDiff, Nat.reduceSub, Nat.reduceAdd, Nat.reduceEqDiff, reduceCtorEq, ↓reduceIte]
      refine Safe.skip (Safe.seq (Safe.block (Safe.region ?_)))
      simp only [law04_ownm_r4, E3, Nat.reduceLeDiff, Nat.reduceSub, Nat.reduceAdd, Nat.reduceEqDiff, reduceCtorEq, ↓reduceIte, mat_idx _ v _ i (by omega)]
      refine (owns_pure v[i] (hv.get (by omega))).acall ?_
      have hl : (v.take i).length = i := by rw [List.length_take]; omega
      simp only [E3, Nat.reduceLeDiff, Nat.reduceSub, Nat.reduceAdd, Nat.reduceEqDiff, reduceCtorEq, ↓reduceIte, app_map1 H hH _ (lid_ge H 0) _ 1 24 vecV vecV_cl (v.take i) v[i] (by omega) (by omega), natV_clb, clb_bool]
      refine Safe.inBlock (Safe.region ?_)
      have hiw : IntKind.wrap .i64 ((i : Int) + 1) = ((i + 1 : Nat) : Int) := by rw [wrap_i64] <;> omega
      simp only [law04_ownm_r5, E3, Nat.reduceLeDiff, Nat.reduceSub, Nat.reduceAdd, Nat.reduceEqDiff, reduceCtorEq, ↓reduceIte, hiw]
      refine Safe.keep [0, 3, 4] ?_
      simp only [E3, Nat.reduceLeDiff, Nat.reduceSub, Nat.reduceAdd, Nat.reduceEqDiff, reduceCtorEq, ↓reduceIte]
      have := ih (i + 1) (by omega)
      rw [List.take_succ_eq_append_getElem (by omega)] at this
      simpa only [List.length_append, List.length_cons, List.length_nil] using this
  refine Safe.keep [0, 3, 4] ?_
  simp only [E3, Nat.reduceLeDiff, Nat.reduceSub, Nat.reduceAdd, Nat.reduceEqDiff, reduceCtorEq, ↓reduceIte]
  exact key v.length 0 (by omega)

theorem zs_drop (v : List ZI) (i : Nat) : (zs v).drop i = zs (v.drop i) := by simp [zs, List.map_drop]
theorem zs_len (v : List ZI) : (zs v).length = v.length := by simp [zs]
theorem ord_step {u v : List ZI} {i : Nat} (hu : i < u.length) (hv : i < v.length) : ordZ (zs (u.drop i)) (zs (v.drop i)) = if (u[i].z - v[i].z).sign = 0 then ordZ (zs (u.drop (i + 1))) (zs (v.drop (i + 1))) else (u[i].z - v[i].z).sign := by
  rw [List.drop_eq_getElem_cons hu, List.drop_eq_getElem_cons hv]; rfl
theorem ord_end {u v : List ZI} {i : Nat} (h : i = min u.length v.length) : ordZ (zs (u.drop i)) (zs (v.drop i)) = if u.length < v.length then -1 else if v.length < u.length then 1 else 0 := by
  subst h
  rcases Nat.lt_trichotomy u.length v.length with h | h | h
  · rw [if_pos h, Nat.min_eq_left (by omega), List.drop_length, List.drop_eq_getElem_cons h]; rfl
  · rw [if_neg (by omega), if_neg (by omega), Nat.min_eq_left (by omega), List.drop_length, h, List.drop_length]; rfl
  · rw [if_neg (by omega), if_pos h, Nat.min_eq_right (by omega), List.drop_length, List.drop_eq_getElem_cons h]; rfl
theorem ordZ_small : ∀ u v : List Int, ordZ u v = -1 ∨ ordZ u v = 0 ∨ ordZ u v = 1
  | [], [] => .inr (.inl rfl)
  | [], _ :: _ => .inl rfl
  | _ :: _, [] => .inr (.inr rfl)
  | a :: u, b :: v => by
    simp only [ordZ]
    split
    · exact ordZ_small u v
    · rename_i h
      rcases Int.lt_trichotomy (a - b) 0 with h' | h' | h'
      · exact .inl (Int.sign_eq_neg_one_of_neg h')
      · rw [h'] at h; exact absurd rfl h
      · exact .inr (.inr (Int.sign_eq_one_of_pos h'))

theorem order_pure (u v : List ZI) (hu : Vok 17592186044416 u) (hv : Vok 17592186044416 v) : PureC Pr F_mat_Order [vecV u, vecV v] (.int .i64 (ordZ (zs u) (zs v))) := by
  have hul := hu.len
  have hvl := hv.len
  refine PureC.intro mat_Order_fn mat_Order_ok (by simp only [List.length_cons, List.length_nil]; omega) (.int _ _) fun H hH => ?_
  refine Safe.seq (Safe.region ?_)
  simp only [mat_Order_r0, E3, Nat.reduceLeDiff, Nat.reduceSub, Nat.reduceAdd, Nat.reduceEqDiff, reduceCtorEq, ↓reduceIte]
  refine Safe.seq (Safe.seq (Safe.region ?_))
  have hmin : (if (v.length : Int) < (u.length : Int) then (v.length : Int) else (u.length : Int)) = ((min u.length v.length : Nat) : Int) := by
    split
    · rw [Nat.min_eq_right (by omega)]
    · rw [Nat.min_eq_left (by omega)]
  simp only [mat_Order_r1, E3, Nat.reduceLeDiff, Nat.reduceSub, Nat.reduceAdd, Nat.reduceEqDiff, reduceCtorEq, ↓reduceIte, hmin]
  have m1 := Nat.min_le_left u.length v.length
  have m2 := Nat.min_le_right u.length v.length
  generalize hm : min u.length v.length = m at m1 m2 ⊢
  refine Safe.block (Safe.loop ?_)
  have key : ∀ (k i : Nat), i + k = m → ordZ (zs u) (zs v) = ordZ (zs (u.drop i)) (zs (v.drop i)) → Safe ⟨Pr, fun _ _ => false, F_mat_Order, 40, [.tmp 4], H.length⟩ [.inLoop mat_Order_l0, .inBlock 0, .code ((ACode.block 2 ((ACode.region mat_Order_r8 false).seq (.cond (.t 28) ((ACode.region mat_Order_r9 false).seq .ret) ((ACode.region mat_Order_r10 false).seq (.cond (.t 34) ((ACode.region mat_Order_r11 false).seq .ret) .skip))))).seq ((ACode.region mat_Order_r12 false).seq .ret))]
      [(0, vecV u), (1, vecV v), (11, .int .i64 m), (12, .int .i64 i)] (hap H []) fun r' H' => r' = .int .i64 (ordZ (zs u) (zs v)) ∧ ∃ L, H' = hap H L := by
    intro k
    induction k with
    | zero =>
      intro i hi ho
      have hi' : i = m := by omega
      subst hi'
      refine Safe.inLoop (Safe.seq (Safe.region ?_))
      simp only [mat_Order_r2, E3, Nat.reduceLeDiff, Nat.reduceSub, Nat.reduceAdd, Nat.reduceEqDiff, reduceCtorEq, ↓reduceIte, Int.lt_irrefl]
      refine Safe.seq (Safe.cond ?_)
      simp only [E3, Nat.reduceLeDiff, Nat.reduceSub, Nat.reduceAdd, Nat.reduceEqDiff, reduceCtorEq, ↓reduceIte]
      refine Safe.exit rfl ?_
      rw [ord_end hm.symm] at ho
      refine Safe.seq (Safe.block (Safe.seq (Safe.region ?_)))
      simp only [mat_Order_r8, E3, Nat.reduceLeDiff, Nat.reduceSub, Nat.reduceAdd, Nat.reduceEqDiff, reduceCtorEq, ↓reduceIte]
      refine Safe.cond ?_
      simp only [E3, Nat.reduceLeDiff, Nat.reduceSub, Nat.reduceAdd, Nat.reduceEqDiff, reduceCtorEq, ↓reduceIte]
      by_cases h1 : u.length < v.length
      · have h1' : (u.length : Int) < (v.length : Int) := by omega
        simp only [h1', E3, Nat.reduceLeDiff, Nat.reduceSub, Nat.reduceAdd, Nat.reduceEqDiff, reduceCtorEq, ↓reduceIte]
        refine Safe.seq (Safe.region ?_)
        simp only [mat_Order_r9, E3, Nat.reduceLeDiff, Nat.reduceSub, Nat.reduceAdd, Nat.reduceEqDiff, reduceCtorEq, ↓reduceIte]
        refine Safe.retn ?_
        rw [ho, if_pos h1]
        simp only [E3, Nat.reduceLeDiff, Nat.reduceSub, Nat.reduceAdd, Nat.reduceEqDiff, reduceCtorEq, ↓reduceIte]
        first | exact ⟨rfl, _, rfl⟩ | exact ⟨_, rfl⟩ | exact ⟨trivial, _, rfl⟩
      · have h1' : ¬ (u.length : Int) < (v.length : Int) := by omega
        simp only [h1', E3, Nat.reduceLeDiff, Nat.reduceSub, Nat.reduceAdd, Nat.reduceEqDiff, reduceCtorEq, ↓reduceIte]
        refine Safe.seq (Safe.region ?_)
        simp only [mat_Order_r10, E3, Nat.reduceLeDiff, Nat.reduceSub, Nat.reduceAdd, Nat.reduceEqDiff, reduceCtorEq, ↓reduceIte]
        refine Safe.cond ?_
        simp only [E3, Nat.reduceLeDiff, Nat.reduceSub, Nat.reduceAdd, Nat.reduceEqDiff, reduceCtorEq, ↓reduceIte]
        by_cases h2 : v.length < u.length
        · have h2' : (v.length : Int) < (u.length : Int) := by omega
          simp only [h2', E3, Nat.reduceLeDiff, Nat.reduceSub, Nat.reduceAdd, Nat.reduceEqDiff, reduceCtorEq, ↓reduceIte]
          refine Safe.seq (Safe.region ?_)
          simp only [mat_Order_r11, E3, Nat.reduceLeDiff, Nat.reduceSub, Nat.reduceAdd, Nat.reduceEqDiff, reduceCtorEq, ↓reduceIte]
          refine Safe.retn ?_
          rw [ho, if_neg h1, if_pos h2]
          simp only [E3, Nat.reduceLeDiff, Nat.reduceSub, Nat.reduceAdd, Nat.reduceEqDiff, reduceCtorEq, ↓reduceIte]
          first | exact ⟨rfl, _, rfl⟩ | exact ⟨_, rfl⟩ | exact ⟨trivial, _, rfl⟩
        · have h2' : ¬ (v.length : Int) < (u.length : Int) := by omega
          simp only [h2', E3, Nat.reduceLeDiff, Nat.reduceSub, Nat.reduceAdd, Nat.reduceEqDiff, reduceCtorEq, ↓reduceIte]
          refine Safe.skip (Safe.inBlock (Safe.seq (Safe.region ?_)))
          simp only [mat_Order_r12, E3, Nat.reduceLeDiff, Nat.reduceSub, Nat.reduceAdd, Nat.reduceEqDiff, reduceCtorEq, ↓reduceIte]
          refine Safe.retn ?_
          rw [ho, if_neg h1, if_neg h2]
          simp only [E3, Nat.reduceLeDiff, Nat.reduceSub, Nat.reduceAdd, Nat.reduceEqDiff, reduceCtorEq, ↓reduceIte]
          first | exact ⟨rfl, _, rfl⟩ | exact ⟨_, rfl⟩ | exact ⟨trivial, _, rfl⟩
    | succ k ih =>
      intro i hi ho
      refine Safe.inLoop (Safe.seq (Safe.region ?_))
      have hlt : (i : Int) < (m : Int) := by omega
      simp only [mat_Order_r2, E3, Nat.reduceLeDiff, Nat.reduceSub, Nat.reduceAdd, Nat.reduceEqDiff, reduceCtorEq, ↓reduceIte, hlt]
      refine Safe.seq (Safe.cond ?_)
      simp only [E3, Nat.reduceLeDiff, Nat.reduceSub, Nat.reduceAdd, Nat.reduceEqDiff, reduceCtorEq, ↓reduceIte]
      refine Safe.skip (Safe.seq (Safe.block (Safe.seq (Safe.region ?_))))
      simp only [mat_Order_r3, E3, Nat.reduceLeDiff, Nat.reduceSub, Nat.reduceAdd, Nat.reduceEqDiff, reduceCtorEq, ↓reduceIte]
      refine Safe.seq (Safe.regionD ?_)
      simp only [mat_Order_r4, E3, Nat.reduceLeDiff, Nat.reduceSub, Nat.reduceAdd, Nat.reduceEqDiff, reduceCtorEq, ↓reduceIte, vec_idx _ u _ i (by omega), vec_idx _ v _ i (by omega)]
      refine (zcmp_pure u[i] v[i] (hu.get (by omega)) (hv.get (by omega))).dcall ?_
      try simp only [E3, Nat.reduceLeDiff, Nat.reduceSub, Nat.reduceAdd, Nat.reduceEqDiff, reduceCtorEq, ↓reduceIte]
      refine Safe.seq (Safe.region ?_)
      simp only [mat_Order_r5, E3, Nat.reduceLeDiff, Nat.reduceSub, Nat.reduceAdd, Nat.reduceEqDiff, reduceCtorEq, ↓reduceIte]
      refine Safe.cond ?_
      simp only [E3, Nat.reduceLeDiff, Nat.reduceSub, Nat.reduceAdd, Nat.reduceEqDiff, reduceCtorEq, ↓reduceIte]
      rw [ord_step (by omega) (by omega)] at ho
      by_cases h0 : (u[i].z - v[i].z).sign = 0
      · rw [if_pos h0] at ho
        simp only [h0, E3, Nat.reduceLeDiff, Nat.reduceSub, Nat.reduceAdd, Nat.reduceEqDiff, reduceCtorEq, ↓reduceIte]
        refine Safe.skip (Safe.inBlock (Safe.region ?_))
        have hiw : IntKind.wrap .i64 ((i : Int) + 1) = ((i + 1 : Nat) : Int) := by rw [wrap_i64] <;> omega
        simp only [mat_Order_r7, E3, Nat.reduceLeDiff, Nat.reduceSub, Nat.reduceAdd, Nat.reduceEqDiff, reduceCtorEq, ↓reduceIte, hiw]
        refine Safe.keep [0, 1, 11, 12] ?_
        simp only [E3, Nat.reduceLeDiff, Nat.reduceSub, Nat.reduceAdd, Nat.reduceEqDiff, reduceCtorEq, ↓reduceIte]
        exact ih (i + 1) (by omega) ho
      · rw [if_neg h0] at ho
        simp only [h0, E3, Nat.reduceLeDiff, Nat.reduceSub, Nat.reduceAdd, Nat.reduceEqDiff, reduceCtorEq, ↓reduceIte]
        refine Safe.seq (Safe.region ?_)
        simp only [mat_Order_r6, E3, Nat.reduceLeDiff, Nat.reduceSub, Nat.reduceAdd, Nat.reduceEqDiff, reduceCtorEq, ↓reduceIte]
        refine Safe.retn ?_
        rw [ho]
        simp only [E3, Nat.reduceLeDiff, Nat.reduceSub, Nat.reduceAdd, Nat.reduceEqDiff, reduceCtorEq, ↓reduceIte]
        first | exact ⟨rfl, _, rfl⟩ | exact ⟨_, rfl⟩ | exact ⟨trivial, _, rfl⟩
  refine Safe.keep [0, 1, 11, 12] ?_
  simp only [E3, Nat.reduceLeDiff, Nat.reduceSub, Nat.reduceAdd, Nat.reduceEqDiff, reduceCtorEq, ↓reduceIte]
  exact key m 0 (by omega) rfl

theorem reforder_pure (u v : List ZI) (hu : Vok 17592186044415 u) (hv : Vok 17592186044415 v) : PureC Pr F_ref04_Order [vecV u, vecV v] (.int .i64 (ordZ (zs u) (zs v))) := by
  have hul := hu.len
  have hvl := hv.len
  refine PureC.intro ref04_Order_fn ref04_Order_ok (by simp only [List.length_cons, List.length_nil]; omega) (.int _ _) fun H hH => ?_
  refine Safe.seq (Safe.region ?_)
  simp only [ref04_Order_r0, E3, Nat.reduceLeDiff, Nat.reduceSub, Nat.reduceAdd, Nat.reduceEqDiff, reduceCtorEq, ↓reduceIte]
  refine Safe.seq (Safe.seq (Safe.region ?_))
  simp only [ref04_Order_r1, E3, Nat.reduceLeDiff, Nat.reduceSub, Nat.reduceAdd, Nat.reduceEqDiff, reduceCtorEq, ↓reduceIte]
  have m1 := Nat.min_le_left u.length v.length
  have m2 := Nat.min_le_right u.length v.length
  generalize hm : min u.length v.length = m at m1 m2
  refine Safe.block (Safe.loop ?_)
  have key : ∀ (k i : Nat), i + k = m → ordZ (zs u) (zs v) = ordZ (zs (u.drop i)) (zs (v.drop i)) → Safe ⟨Pr, fun _ _ => false, F_ref04_Order, 43, [.tmp 4], H.length⟩ [.inLoop ref04_Order_l0, .inBlock 0, .code ((ACode.block 2 ((ACode.region ref04_Order_r7 false).seq (.cond (.t 31) ((ACode.region ref04_Order_r8 false).seq .ret) ((ACode.region ref04_Order_r9 false).seq (.cond (.t 37) ((ACode.region ref04_Order_r10 false).seq .ret) .skip))))).seq ((ACode.region ref04_Order_r11 false).seq .ret))]
      [(0, vecV u), (1, vecV v), (5, .int .i64 i)] (hap H []) fun r' H' => r' = .int .i64 (ordZ (zs u) (zs v)) ∧ ∃ L, H' = hap H L := by
    intro k
    induction k with
    | zero =>
      intro i hi ho
      have hi' : i = m := by omega
      subst hi'
      refine Safe.inLoop (Safe.seq (Safe.seq (Safe.region ?_)))
      have step : ∀ env, look env 0 = vecV u → look env 1 = vecV v → Safe ⟨Pr, fun _ _ => false, F_ref04_Order, 43, [.tmp 4], H.length⟩ [.code ((ACode.block 2 ((ACode.region ref04_Order_r7 false).seq (.cond (.t 31) ((ACode.region ref04_Order_r8 false).seq .ret) ((ACode.region ref04_Order_r9 false).seq (.cond (.t 37) ((ACode.region ref04_Order_r10 false).seq .ret) .skip))))).seq ((ACode.region ref04_Order_r11 false).seq .ret))]
          env (hap H []) fun r' H' => r' = .int .i64 (ordZ (zs u) (zs v)) ∧ ∃ L, H' = hap H L := by
        intro env e0 e1
        rw [ord_end hm.symm] at ho
        refine Safe.seq (Safe.block (Safe.seq (Safe.region ?_)))
        simp only [ref04_Order_r7, E3, Nat.reduceLeDiff, Nat.reduceSub, Nat.reduceAdd, Nat.reduceEqDiff, reduceCtorEq, ↓reduceIte, e0, e1]
        refine Safe.cond ?_
        simp only [E3, Nat.reduceLeDiff, Nat.reduceSub, Nat.reduceAdd, Nat.reduceEqDiff, reduceCtorEq, ↓reduceIte]
        by_cases h1 : u.length < v.length
        · have h1' : (u.length : Int) < (v.length : Int) := by omega
          simp only [h1', E3, Nat.reduceLeDiff, Nat.reduceSub, Nat.reduceAdd, Nat.reduceEqDiff, reduceCtorEq, ↓reduceIte]
          refine Safe.seq (Safe.region ?_)
          simp only [ref04_Order_r8, E3, Nat.reduceLeDiff, Nat.reduceSub, Nat.reduceAdd, Nat.reduceEqDiff, reduceCtorEq, ↓reduceIte]
          refine Safe.retn ?_
          rw [ho, if_pos h1]
          simp only [E3, Nat.reduceLeDiff, Nat.reduceSub, Nat.reduceAdd, Nat.reduceEqDiff, reduceCtorEq, ↓reduceIte]
          first | exact ⟨rfl, _, rfl⟩ | exact ⟨_, rfl⟩ | exact ⟨trivial, _, rfl⟩
        · have h1' : ¬ (u.length : Int) < (v.length : Int) := by omega
          simp only [h1', E3, Nat.reduceLeDiff, Nat.reduceSub, Nat.reduceAdd, Nat.reduceEqDiff, reduceCtorEq, ↓reduceIte]
          refine Safe.seq (Safe.region ?_)
          simp only [ref04_Order_r9, E3, Nat.reduceLeDiff, Nat.reduceSub, Nat.reduceAdd, Nat.reduceEqDiff, reduceCtorEq, ↓reduceIte, e0, e1]
          refine Safe.cond ?_
          simp only [E3, Nat.reduceLeDiff, Nat.reduceSub, Nat.reduceAdd, Nat.reduceEqDiff, reduceCtorEq, ↓reduceIte]
          by_cases h2 : v.length < u.length
          · have h2' : (v.length : Int) < (u.length : Int) := by omega
            simp only [h2', E3, Nat.reduceLeDiff, Nat.reduceSub, Nat.reduceAdd, Nat.reduceEqDiff, reduceCtorEq, ↓reduceIte]
            refine Safe.seq (Safe.region ?_)
            simp only [ref04_Order_r10, E3, Nat.reduceLeDiff, Nat.reduceSub, Nat.reduceAdd, Nat.reduceEqDiff, reduceCtorEq, ↓reduceIte]
            refine Safe.retn ?_
            rw [ho, if_neg h1, if_pos h2]
            simp only [E3, Nat.reduceLeDiff, Nat.reduceSub, Nat.reduceAdd, Nat.reduceEqDiff, reduceCtorEq, ↓reduceIte]
            first | exact ⟨rfl, _, rfl⟩ | exact ⟨_, rfl⟩ | exact ⟨trivial, _, rfl⟩
          · have h2' : ¬ (v.length : Int) < (u.length : Int) := by omega
            simp only [h2', E3, Nat.reduceLeDiff, Nat.reduceSub, Nat.reduceAdd, Nat.reduceEqDiff, reduceCtorEq, ↓reduceIte]
            refine Safe.skip (Safe.inBlock (Safe.seq (Safe.region ?_)))
            simp only [ref04_Order_r11, E3, Nat.reduceLeDiff, Nat.reduceSub, Nat.reduceAdd, Nat.reduceEqDiff, reduceCtorEq, ↓reduceIte]
            refine Safe.retn ?_
            rw [ho, if_neg h1, if_neg h2]
            simp only [E3, Nat.reduceLeDiff, Nat.reduceSub, Nat.reduceAdd, Nat.reduceEqDiff, reduceCtorEq, ↓reduceIte]
            first | exact ⟨rfl, _, rfl⟩ | exact ⟨_, rfl⟩ | exact ⟨trivial, _, rfl⟩
      by_cases hiu : i < u.length
      · have hiu' : (i : Int) < (u.length : Int) := by omega
        have hiv' : ¬ (i : Int) < (v.length : Int) := by omega
        simp only [ref04_Order_r2, E3, Nat.reduceLeDiff, Nat.reduceSub, Nat.reduceAdd, Nat.reduceEqDiff, reduceCtorEq, ↓reduceIte, hiu', hiv', pickV_and]
        refine Safe.cond ?_
        simp only [E3, Nat.reduceLeDiff, Nat.reduceSub, Nat.reduceAdd, Nat.reduceEqDiff, reduceCtorEq, ↓reduceIte]
        exact Safe.exit rfl (step _ (by simp only [E3, Nat.reduceLeDiff, Nat.reduceSub, Nat.reduceAdd, Nat.reduceEqDiff, reduceCtorEq, ↓reduceIte]) (by simp only [E3, Nat.reduceLeDiff, Nat.reduceSub, Nat.reduceAdd, Nat.reduceEqDiff, reduceCtorEq, ↓reduceIte]))
      · have hiu' : ¬ (i : Int) < (u.length : Int) := by omega
        simp only [ref04_Order_r2, E3, Nat.reduceLeDiff, Nat.reduceSub, Nat.reduceAdd, Nat.reduceEqDiff, reduceCtorEq, ↓reduceIte, hiu']
        refine Safe.cond ?_
        simp only [E3, Nat.reduceLeDiff, Nat.reduceSub, Nat.reduceAdd, Nat.reduceEqDiff, reduceCtorEq, ↓reduceIte]
        exact Safe.exit rfl (step _ (by simp only [E3, Nat.reduceLeDiff, Nat.reduceSub, Nat.reduceAdd, Nat.reduceEqDiff, reduceCtorEq, ↓reduceIte]) (by simp only [E3, Nat.reduceLeDiff, Nat.reduceSub, Nat.reduceAdd, Nat.reduceEqDiff, reduceCtorEq, ↓reduceIte]))
    | succ k ih =>
      intro i hi ho
      refine Safe.inLoop (Safe.seq (Safe.seq (Safe.region ?_)))
      have hiu' : (i : Int) < (u.length : Int) := by omega
      have hiv' : (i : Int) < (v.length : Int) := by omega
      simp only [ref04_Order_r2, E3, Nat.reduceLeDiff, Nat.reduceSub, Nat.reduceAdd, Nat.reduceEqDiff, reduceCtorEq, ↓reduceIte, hiu', hiv', pickV_and]
      refine Safe.cond ?_
      simp only [E3, Nat.reduceLeDiff, Nat.reduceSub, Nat.reduceAdd, Nat.reduceEqDiff, reduceCtorEq, ↓reduceIte]
      refine Safe.skip (Safe.seq (Safe.block (Safe.seq (Safe.regionD ?_))))
      simp only [ref04_Order_r3, E3, Nat.reduceLeDiff, Nat.reduceSub, Nat.reduceAdd, Nat.reduceEqDiff, reduceCtorEq, ↓reduceIte, vec_idx _ u _ i (by omega), vec_idx _ v _ i (by omega)]
      refine (r2cmp_pure u[i] v[i] 17592186044415 (hu.get (by omega)) (hv.get (by omega)) (by omega)).dcall ?_
      try simp only [E3, Nat.reduceLeDiff, Nat.reduceSub, Nat.reduceAdd, Nat.reduceEqDiff, reduceCtorEq, ↓reduceIte]
      refine Safe.seq (Safe.region ?_)
      simp only [ref04_Order_r4, E3, Nat.reduceLeDiff, Nat.reduceSub, Nat.reduceAdd, Nat.reduceEqDiff, reduceCtorEq, ↓reduceIte]
      refine Safe.cond ?_
      simp only [E3, Nat.reduceLeDiff, Nat.reduceSub, Nat.reduceAdd, Nat.reduceEqDiff, reduceCtorEq, ↓reduceIte]
      rw [ord_step (by omega) (by omega)] at ho
      by_cases h0 : (u[i].z - v[i].z).sign = 0
      · rw [if_pos h0] at ho
        simp only [h0, E3, Nat.reduceLeDiff, Nat.reduceSub, Nat.reduceAdd, Nat.reduceEqDiff, reduceCtorEq, ↓reduceIte]
        refine Safe.skip (Safe.inBlock (Safe.region ?_))
        have hiw : IntKind.wrap .i64 ((i : Int) + 1) = ((i + 1 : Nat) : Int) := by rw [wrap_i64] <;> omega
        simp only [ref04_Order_r6, E3, Nat.reduceLeDiff, Nat.reduceSub, Nat.reduceAdd, Nat.reduceEqDiff, reduceCtorEq, ↓reduceIte, hiw]
        refine Safe.keep [0, 1, 5] ?_
        simp only [E3, Nat.reduceLeDiff, Nat.reduceSub, Nat.reduceAdd, Nat.reduceEqDiff, reduceCtorEq, ↓reduceIte]
        exact ih (i + 1) (by omega) ho
      · rw [if_neg h0] at ho
        simp only [h0, E3, Nat.reduceLeDiff, Nat.reduceSub, Nat.reduceAdd, Nat.reduceEqDiff, reduceCtorEq, ↓reduceIte]
        refine Safe.seq (Safe.region ?_)
        simp only [ref04_Order_r5, E3, Nat.reduceLeDiff, Nat.reduceSub, Nat.reduceAdd, Nat.reduceEqDiff, reduceCtorEq, ↓reduceIte]
        refine Safe.retn ?_
        rw [ho]
        simp only [E3, Nat.reduceLeDiff, Nat.reduceSub, Nat.reduceAdd, Nat.reduceEqDiff, reduceCtorEq, ↓reduceIte]
        first | exact ⟨rfl, _, rfl⟩ | exact ⟨_, rfl⟩ | exact ⟨trivial, _, rfl⟩
  refine Safe.keep [0, 1, 5] ?_
  simp only [E3, Nat.reduceLeDiff, Nat.reduceSub, Nat.reduceAdd, Nat.reduceEqDiff, reduceCtorEq, ↓reduceIte]
  exact key m 0 (by omega) rfl

/-- The same numbers. -/
def sameZ (a b : List (List Int)) : Bool := decide (a = b)
theorem zss_len (a : List (List ZI)) : (zss a).length = a.length := by simp [zss]
theorem zss_drop (a : List (List ZI)) (i : Nat) : (zss a).drop i = zss (a.drop i) := by simp [zss, List.map_drop]
theorem same_drop {a b : List (List ZI)} {i : Nat} (ha : i < a.length) (hb : i < b.length) : sameZ (zss (a.drop i)) (zss (b.drop i)) = (decide (ordZ (zs a[i]) (zs b[i]) = 0) && sameZ (zss (a.drop (i + 1))) (zss (b.drop (i + 1)))) := by
  rw [List.drop_eq_getElem_cons ha, List.drop_eq_getElem_cons hb]
  simp only [sameZ, zss, List.map_cons, List.cons.injEq, ordZ_zero]
  by_cases h : zs a[i] = zs b[i] <;> simp [h]
theorem same_len {a b : List (List ZI)} (h : a.length ≠ b.length) : sameZ (zss a) (zss b) = false := by
  simp only [sameZ, decide_eq_false_iff_not]
  intro h'
  have := congrArg List.length h'
  rw [zss_len, zss_len] at this
  exact h this
theorem ord_len {u v : List ZI} (h : ordZ (zs u) (zs v) = 0) : u.length = v.length := by
  have := congrArg List.length (ordZ_zero.1 h)
  rwa [zs_len, zs_len] at this

theorem same_pure (a b : List (List ZI)) (ha : Mok 17592186044416 a) (hb : Mok 17592186044416 b) : PureC Pr F_mat_Same [matV a, matV b] (.bool (sameZ (zss a) (zss b))) := by
  have hal := ha.len
  have hbl := hb.len
  refine PureC.intro mat_Same_fn mat_Same_ok (by simp only [List.length_cons, List.length_nil]; omega) (.bool _) fun H hH => ?_
  refine Safe.seq (Safe.region ?_)
  simp only [mat_Same_r0, E3, Nat.reduceLeDiff, Nat.reduceSub, Nat.reduceAdd, Nat.reduceEqDiff, reduceCtorEq, ↓reduceIte]
  refine Safe.seq (Safe.seq (Safe.region ?_))
  simp only [mat_Same_r1, E3, Nat.reduceLeDiff, Nat.reduceSub, Nat.reduceAdd, Nat.reduceEqDiff, reduceCtorEq, ↓reduceIte]
  refine Safe.cond ?_
  simp only [E3, Nat.reduceLeDiff, Nat.reduceSub, Nat.reduceAdd, Nat.reduceEqDiff, reduceCtorEq, ↓reduceIte]
  by_cases hl : a.length = b.length
  · have hl' : (a.length : Int) = (b.length : Int) := by omega
    simp only [hl', E3, Nat.reduceLeDiff, Nat.reduceSub, Nat.reduceAdd, Nat.reduceEqDiff, reduceCtorEq, ↓reduceIte]
    refine Safe.skip (Safe.seq (Safe.seq (Safe.region ?_)))
    simp only [mat_Same_r3, E3, Nat.reduceLeDiff, Nat.reduceSub, Nat.reduceAdd, Nat.reduceEqDiff, reduceCtorEq, ↓reduceIte]
    refine Safe.block (Safe.loop ?_)
    have key : ∀ (k i : Nat), i + k = a.length → sameZ (zss a) (zss b) = sameZ (zss (a.drop i)) (zss (b.drop i)) → Safe ⟨Pr, fun _ _ => false, F_mat_Same, 40, [.tmp 4], H.length⟩ [.inLoop mat_Same_l0, .inBlock 0, .code ((ACode.region mat_Same_r9 false).seq .ret)]
        [(0, matV a), (1, matV b), (12, .int .i64 a.length), (13, .int .i64 i)] (hap H []) fun r' H' => r' = .bool (sameZ (zss a) (zss b)) ∧ ∃ L, H' = hap H L := by
      intro k
      induction k with
      | zero =>
        intro i hi ho
        have hi' : i = a.length := by omega
        subst hi'
        refine Safe.inLoop (Safe.seq (Safe.region ?_))
        simp only [mat_Same_r4, E3, Nat.reduceLeDiff, Nat.reduceSub, Nat.reduceAdd, Nat.reduceEqDiff, reduceCtorEq, ↓reduceIte, Int.lt_irrefl]
        refine Safe.seq (Safe.cond ?_)
        simp only [E3, Nat.reduceLeDiff, Nat.reduceSub, Nat.reduceAdd, Nat.reduceEqDiff, reduceCtorEq, ↓reduceIte]
        refine Safe.exit rfl (Safe.seq (Safe.region ?_))
        simp only [mat_Same_r9, E3, Nat.reduceLeDiff, Nat.reduceSub, Nat.reduceAdd, Nat.reduceEqDiff, reduceCtorEq, ↓reduceIte]
        refine Safe.retn ?_
        rw [ho, List.drop_length, hl, List.drop_length]
        simp only [E3, Nat.reduceLeDiff, Nat.reduceSub, Nat.reduceAdd, Nat.reduceEqDiff, reduceCtorEq, ↓reduceIte]
        first | exact ⟨rfl, _, rfl⟩ | exact ⟨_, rfl⟩ | exact ⟨trivial, _, rfl⟩
      | succ k ih =>
        intro i hi ho
        refine Safe.inLoop (Safe.seq (Safe.region ?_))
        have hlt : (i : Int) < (a.length : Int) := by omega
        simp only [mat_Same_r4, E3, Nat.reduceLeDiff, Nat.reduceSub, Nat.reduceAdd, Nat.reduceEqDiff, reduceCtorEq, ↓reduceIte, hlt]
        refine Safe.seq (Safe.cond ?_)
        simp only [E3, Nat.reduceLeDiff, Nat.reduceSub, Nat.reduceAdd, Nat.reduceEqDiff, reduceCtorEq, ↓reduceIte]
        refine Safe.skip (Safe.seq (Safe.block (Safe.seq (Safe.region ?_))))
        simp only [mat_Same_r5, E3, Nat.reduceLeDiff, Nat.reduceSub, Nat.reduceAdd, Nat.reduceEqDiff, reduceCtorEq, ↓reduceIte]
        refine Safe.seq (Safe.regionD ?_)
        rw [same_drop (by omega) (by omega)] at ho
        by_cases hr : a[i].length = b[i].length
        · have hr' : (a[i].length : Int) = (b[i].length : Int) := by omega
          simp only [mat_Same_r6, E3, Nat.reduceLeDiff, Nat.reduceSub, Nat.reduceAdd, Nat.reduceEqDiff, reduceCtorEq, ↓reduceIte, mat_idx _ a _ i (by omega), mat_idx _ b _ i (by omega), hr']
          refine (order_pure a[i] b[i] (ha.get (by omega)) (hb.get (by omega))).dcall ?_
          simp only [E3, Nat.reduceLeDiff, Nat.reduceSub, Nat.reduceAdd, Nat.reduceEqDiff, reduceCtorEq, ↓reduceIte]
          refine Safe.cond ?_
          simp only [E3, Nat.reduceLeDiff, Nat.reduceSub, Nat.reduceAdd, Nat.reduceEqDiff, reduceCtorEq, ↓reduceIte]
          by_cases h0 : ordZ (zs a[i]) (zs b[i]) = 0
          · simp only [h0, E3, Nat.reduceLeDiff, Nat.reduceSub, Nat.reduceAdd, Nat.reduceEqDiff, reduceCtorEq, ↓reduceIte] at ho ⊢
            refine Safe.skip (Safe.inBlock (Safe.region ?_))
            have hiw : IntKind.wrap .i64 ((i : Int) + 1) = ((i + 1 : Nat) : Int) := by rw [wrap_i64] <;> omega
            simp only [mat_Same_r8, E3, Nat.reduceLeDiff, Nat.reduceSub, Nat.reduceAdd, Nat.reduceEqDiff, reduceCtorEq, ↓reduceIte, hiw]
            refine Safe.keep [0, 1, 12, 13] ?_
            simp only [E3, Nat.reduceLeDiff, Nat.reduceSub, Nat.reduceAdd, Nat.reduceEqDiff, reduceCtorEq, ↓reduceIte]
            exact ih (i + 1) (by omega) ho
          · simp only [h0, E3, Nat.reduceLeDiff, Nat.reduceSub, Nat.reduceAdd, Nat.reduceEqDiff, reduceCtorEq, ↓reduceIte, Bool.false_and] at ho ⊢
            refine Safe.seq (Safe.region ?_)
            simp only [mat_Same_r7, E3, Nat.reduceLeDiff, Nat.reduceSub, Nat.reduceAdd, Nat.reduceEqDiff, reduceCtorEq, ↓reduceIte]
            refine Safe.retn ?_
            simp only [E3, Nat.reduceLeDiff, Nat.reduceSub, Nat.reduceAdd, Nat.reduceEqDiff, reduceCtorEq, ↓reduceIte, ho]
            first | exact ⟨rfl, _, rfl⟩ | exact ⟨_, rfl⟩ | exact ⟨trivial, _, rfl⟩
        · have hr' : ¬ (a[i].length : Int) = (b[i].length : Int) := by omega
          have h0 : ¬ ordZ (zs a[i]) (zs b[i]) = 0 := fun h => hr (ord_len h)
          simp only [mat_Same_r6, E3, Nat.reduceLeDiff, Nat.reduceSub, Nat.reduceAdd, Nat.reduceEqDiff, reduceCtorEq, ↓reduceIte, mat_idx _ a _ i (by omega), mat_idx _ b _ i (by omega), hr']
          refine Safe.cond ?_
          simp only [h0, E3, Nat.reduceLeDiff, Nat.reduceSub, Nat.reduceAdd, Nat.reduceEqDiff, reduceCtorEq, ↓reduceIte, Bool.false_and] at ho ⊢
          refine Safe.seq (Safe.region ?_)
          simp only [mat_Same_r7, E3, Nat.reduceLeDiff, Nat.reduceSub, Nat.reduceAdd, Nat.reduceEqDiff, reduceCtorEq, ↓reduceIte]
          refine Safe.retn ?_
          simp only [E3, Nat.reduceLeDiff, Nat.reduceSub, Nat.reduceAdd, Nat.reduceEqDiff, reduceCtorEq, ↓reduceIte, ho]
          first | exact ⟨rfl, _, rfl⟩ | exact ⟨_, rfl⟩ | exact ⟨trivial, _, rfl⟩
    refine Safe.keep [0, 1, 12, 13] ?_
    simp only [E3, Nat.reduceLeDiff, Nat.reduceSub, Nat.reduceAdd, Nat.reduceEqDiff, reduceCtorEq, ↓reduceIte]
    exact key a.length 0 (by omega) rfl
  · have hl' : ¬ (a.length : Int) = (b.length : Int) := by omega
    simp only [hl', E3, Nat.reduceLeDiff, Nat.reduceSub, Nat.reduceAdd, Nat.reduceEqDiff, reduceCtorEq, ↓reduceIte]
    refine Safe.seq (Safe.region ?_)
    simp only [mat_Same_r2, E3, Nat.reduceLeDiff, Nat.reduceSub, Nat.reduceAdd, Nat.reduceEqDiff, reduceCtorEq, ↓reduceIte]
    refine Safe.retn ?_
    simp only [E3, Nat.reduceLeDiff, Nat.reduceSub, Nat.reduceAdd, Nat.reduceEqDiff, reduceCtorEq, ↓reduceIte, same_len hl]
    first | exact ⟨rfl, _, rfl⟩ | exact ⟨_, rfl⟩ | exact ⟨trivial, _, rfl⟩

theorem refsame_pure (a b : List (List ZI)) (ha : Mok 17592186044415 a) (hb : Mok 17592186044415 b) : PureC Pr F_ref04_Same [matV a, matV b] (.bool (sameZ (zss a) (zss b))) := by
  have hal := ha.len
  have hbl := hb.len
  refine PureC.intro ref04_Same_fn ref04_Same_ok (by simp only [List.length_cons, List.length_nil]; omega) (.bool _) fun H hH => ?_
  refine Safe.seq (Safe.region ?_)
  simp only [ref04_Same_r0, E3, Nat.reduceLeDiff, Nat.reduceSub, Nat.reduceAdd, Nat.reduceEqDiff, reduceCtorEq, ↓reduceIte]
  refine Safe.seq (Safe.seq (Safe.region ?_))
  simp only [ref04_Same_r1, E3, Nat.reduceLeDiff, Nat.reduceSub, Nat.reduceAdd, Nat.reduceEqDiff, reduceCtorEq, ↓reduceIte]
  refine Safe.cond ?_
  simp only [E3, Nat.reduceLeDiff, Nat.reduceSub, Nat.reduceAdd, Nat.reduceEqDiff, reduceCtorEq, ↓reduceIte]
  by_cases hl : a.length = b.length
  · have hl' : (a.length : Int) = (b.length : Int) := by omega
    simp only [hl', E3, Nat.reduceLeDiff, Nat.reduceSub, Nat.reduceAdd, Nat.reduceEqDiff, reduceCtorEq, ↓reduceIte]
    refine Safe.skip (Safe.seq (Safe.seq (Safe.region ?_)))
    simp only [ref04_Same_r3, E3, Nat.reduceLeDiff, Nat.reduceSub, Nat.reduceAdd, Nat.reduceEqDiff, reduceCtorEq, ↓reduceIte]
    refine Safe.block (Safe.loop ?_)
    have key : ∀ (k i : Nat), i + k = a.length → sameZ (zss a) (zss b) = sameZ (zss (a.drop i)) (zss (b.drop i)) → Safe ⟨Pr, fun _ _ => false, F_ref04_Same, 27, [.tmp 4], H.length⟩ [.inLoop ref04_Same_l0, .inBlock 0, .code ((ACode.region ref04_Same_r8 false).seq .ret)]
        [(0, matV a), (1, matV b), (5, .int .i64 i)] (hap H []) fun r' H' => r' = .bool (sameZ (zss a) (zss b)) ∧ ∃ L, H' = hap H L := by
      intro k
      induction k with
      | zero =>
        intro i hi ho
        have hi' : i = a.length := by omega
        subst hi'
        refine Safe.inLoop (Safe.seq (Safe.seq (Safe.region ?_)))
        simp only [ref04_Same_r4, E3, Nat.reduceLeDiff, Nat.reduceSub, Nat.reduceAdd, Nat.reduceEqDiff, reduceCtorEq, ↓reduceIte, Int.lt_irrefl]
        refine Safe.cond ?_
        simp only [E3, Nat.reduceLeDiff, Nat.reduceSub, Nat.reduceAdd, Nat.reduceEqDiff, reduceCtorEq, ↓reduceIte]
        refine Safe.exit rfl (Safe.seq (Safe.region ?_))
        simp only [ref04_Same_r8, E3, Nat.reduceLeDiff, Nat.reduceSub, Nat.reduceAdd, Nat.reduceEqDiff, reduceCtorEq, ↓reduceIte]
        refine Safe.retn ?_
        rw [ho, List.drop_length, hl, List.drop_length]
        simp only [E3, Nat.reduceLeDiff, Nat.reduceSub, Nat.reduceAdd, Nat.reduceEqDiff, reduceCtorEq, ↓reduceIte]
        first | exact ⟨rfl, _, rfl⟩ | exact ⟨_, rfl⟩ | exact ⟨trivial, _, rfl⟩
      | succ k ih =>
        intro i hi ho
        refine Safe.inLoop (Safe.seq (Safe.seq (Safe.region ?_)))
        have hlt : (i : Int) < (a.length : Int) := by omega
        simp only [ref04_Same_r4, E3, Nat.reduceLeDiff, Nat.reduceSub, Nat.reduceAdd, Nat.reduceEqDiff, reduceCtorEq, ↓reduceIte, hlt]
        refine Safe.cond ?_
        simp only [E3, Nat.reduceLeDiff, Nat.reduceSub, Nat.reduceAdd, Nat.reduceEqDiff, reduceCtorEq, ↓reduceIte]
        refine Safe.skip (Safe.seq (Safe.block (Safe.seq (Safe.regionD ?_))))
        rw [same_drop (by omega) (by omega)] at ho
        simp only [ref04_Same_r5, E3, Nat.reduceLeDiff, Nat.reduceSub, Nat.reduceAdd, Nat.reduceEqDiff, reduceCtorEq, ↓reduceIte, mat_idx _ a _ i (by omega), mat_idx _ b _ i (by omega)]
        refine (reforder_pure a[i] b[i] (ha.get (by omega)) (hb.get (by omega))).dcall ?_
        simp only [E3, Nat.reduceLeDiff, Nat.reduceSub, Nat.reduceAdd, Nat.reduceEqDiff, reduceCtorEq, ↓reduceIte]
        refine Safe.cond ?_
        simp only [E3, Nat.reduceLeDiff, Nat.reduceSub, Nat.reduceAdd, Nat.reduceEqDiff, reduceCtorEq, ↓reduceIte]
        by_cases h0 : ordZ (zs a[i]) (zs b[i]) = 0
        · simp only [h0, E3, Nat.reduceLeDiff, Nat.reduceSub, Nat.reduceAdd, Nat.reduceEqDiff, reduceCtorEq, ↓reduceIte] at ho ⊢
          refine Safe.skip (Safe.inBlock (Safe.region ?_))
          have hiw : IntKind.wrap .i64 ((i : Int) + 1) = ((i + 1 : Nat) : Int) := by rw [wrap_i64] <;> omega
          simp only [ref04_Same_r7, E3, Nat.reduceLeDiff, Nat.reduceSub, Nat.reduceAdd, Nat.reduceEqDiff, reduceCtorEq, ↓reduceIte, hiw]
          refine Safe.keep [0, 1, 5] ?_
          simp only [E3, Nat.reduceLeDiff, Nat.reduceSub, Nat.reduceAdd, Nat.reduceEqDiff, reduceCtorEq, ↓reduceIte]
          exact ih (i + 1) (by omega) ho
        · simp only [h0, E3, Nat.reduceLeDiff, Nat.reduceSub, Nat.reduceAdd, Nat.reduceEqDiff, reduceCtorEq, ↓reduceIte, Bool.false_and] at ho ⊢
          refine Safe.seq (Safe.region ?_)
          simp only [ref04_Same_r6, E3, Nat.reduceLeDiff, Nat.reduceSub, Nat.reduceAdd, Nat.reduceEqDiff, reduceCtorEq, ↓reduceIte]
          refine Safe.retn ?_
          simp only [E3, Nat.reduceLeDiff, Nat.reduceSub, Nat.reduceAdd, Nat.reduceEqDiff, reduceCtorEq, ↓reduceIte, ho]
          first | exact ⟨rfl, _, rfl⟩ | exact ⟨_, rfl⟩ | exact ⟨trivial, _, rfl⟩
    refine Safe.keep [0, 1, 5] ?_
    simp only [E3, Nat.reduceLeDiff, Nat.reduceSub, Nat.reduceAdd, Nat.reduceEqDiff, reduceCtorEq, ↓reduceIte]
    exact key a.length 0 (by omega) rfl
  · have hl' : ¬ (a.length : Int) = (b.length : Int) := by omega
    simp only [hl', E3, Nat.reduceLeDiff, Nat.reduceSub, Nat.reduceAdd, Nat.reduceEqDiff, reduceCtorEq, ↓reduceIte]
    refine Safe.seq (Safe.region ?_)
    simp only [ref04_Same_r2, E3, Nat.reduceLeDiff, Nat.reduceSub, Nat.reduceAdd, Nat.reduceEqDiff, reduceCtorEq, ↓reduceIte]
    refine Safe.retn ?_
    simp only [E3, Nat.reduceLeDiff, Nat.reduceSub, Nat.reduceAdd, Nat.reduceEqDiff, reduceCtorEq, ↓reduceIte, same_len hl]
    first | exact ⟨rfl, _, rfl⟩ | exact ⟨_, rfl⟩ | exact ⟨trivial, _, rfl⟩

/-- Numbers in their one form. -/
def cans (v : List Int) : List ZI := v.map canZ
theorem cans_cl (v : List Int) : Cl (vecV (cans v)) := vecV_cl _

theorem times_pure (k : ZI) (v : List ZI) (p q : Nat) (hk : Zok p k) (hv : Vok q v) (hpq : p + q ≤ 17592186044416) : PureC Pr F_ref04_Times [k.av, vecV v] (vecV (cans (v.map fun x => k.z * x.z))) := by
  have hvl := hv.len
  obtain ⟨kn, km⟩ := k
  simp only [ZI.av]
  refine PureC.intro ref04_Times_fn ref04_Times_ok (by simp only [List.length_cons, List.length_nil]; omega) (vecV_cl _) fun H hH => ?_
  refine Safe.seq (Safe.region ?_)
  simp only [ref04_Times_r0, E3, Nat.reduceLeDiff, Nat.reduceSub, Nat.reduceAdd, Nat.reduceEqDiff, reduceCtorEq, ↓reduceIte]
  refine Safe.seq (Safe.region ?_)
  simp only [ref04_Times_r1, E3, Nat.reduceLeDiff, Nat.reduceSub, Nat.reduceAdd, Nat.reduceEqDiff, reduceCtorEq, ↓reduceIte]
  refine Safe.seq (Safe.seq (Safe.region ?_))
  simp only [ref04_Times_r2, E3, Nat.reduceLeDiff, Nat.reduceSub, Nat.reduceAdd, Nat.reduceEqDiff, reduceCtorEq, ↓reduceIte]
  refine Safe.nilrow 5 2 (by decide) (by simp only [E3, Nat.reduceLeDiff, Nat.reduceSub, Nat.reduceAdd, Nat.reduceEqDiff, reduceCtorEq, ↓reduceIte]) ?_
  refine Safe.block (Safe.loop ?_)
  have key : ∀ (m i : Nat), i + m = v.length → Safe ⟨Pr, fun _ _ => false, F_ref04_Times, 23, [.tmp 4], H.length⟩ [.inLoop ref04_Times_l0, .inBlock 0, .code ((ACode.region ref04_Times_r6 false).seq .ret)]
      [(1, vecV v), (2, .loc (lid H 0) 0 0), (5, .mu (lid H 1) 0 (cans ((v.take i).map fun x => (ZI.mk kn km).z * x.z)).length none), (6, .int .i64 i)] (hap H [some ⟨2, [.agg [.bool kn, natV km]]⟩, some ⟨2, (cans ((v.take i).map fun x => (ZI.mk kn km).z * x.z)).map ZI.av⟩])
        fun r' H' => r' = vecV (cans (v.map fun x => (ZI.mk kn km).z * x.z)) ∧ ∃ L, H' = hap H L := by
    intro m
    induction m with
    | zero =>
      intro i hi
      have hi' : i = v.length := by omega
      subst hi'
      refine Safe.inLoop (Safe.seq (Safe.seq (Safe.region ?_)))
      simp only [ref04_Times_r3, E3, Nat.reduceLeDiff, Nat.reduceSub, Nat.reduceAdd, Nat.reduceEqDiff, reduceCtorEq, ↓reduceIte, Int.lt_irrefl]
      refine Safe.cond ?_
      simp only [E3, Nat.reduceLeDiff, Nat.reduceSub, Nat.reduceAdd, Nat.reduceEqDiff, reduceCtorEq, ↓reduceIte]
      refine Safe.exit rfl ?_
      rw [List.take_length]
      refine Safe.freeze 1 (b := ⟨2, (cans (v.map fun x => (ZI.mk kn km).z * x.z)).map ZI.av⟩) hH rfl rfl (blk_map 2 ZI.av _ ZI.cl) ?_
      refine Safe.keep [5] ?_
      simp only [E3, Nat.reduceLeDiff, Nat.reduceSub, Nat.reduceAdd, Nat.reduceEqDiff, reduceCtorEq, ↓reduceIte, frz_mu_map]
      refine Safe.seq (Safe.region ?_)
      simp only [ref04_Times_r6, E3, Nat.reduceLeDiff, Nat.reduceSub, Nat.reduceAdd, Nat.reduceEqDiff, reduceCtorEq, ↓reduceIte]
      refine Safe.retn ?_
      simp only [E3, Nat.reduceLeDiff, Nat.reduceSub, Nat.reduceAdd, Nat.reduceEqDiff, reduceCtorEq, ↓reduceIte]
      first | exact ⟨rfl, _, rfl⟩ | exact ⟨_, rfl⟩ | exact ⟨trivial, _, rfl⟩
    | succ m ih =>
      intro i hi
      refine Safe.inLoop (Safe.seq (Safe.seq (Safe.region ?_)))
      have hlt : (i : Int) < (v.length : Int) := by omega
      simp only [ref04_Times_r3, E3, Nat.reduceLeDiff, Nat.reduceSub, Nat.reduceAdd, Nat.reduceEqDiff, reduceCtorEq, ↓reduceIte, hlt]
      refine Safe.cond ?_
      simp only [E3, Nat.reduceLeDiff, Nat.reduceSub, Nat.reduceAdd, Nat.reduceEqDiff, reduceCtorEq, ↓reduceIte]
      refine Safe.skip (Safe.seq (Safe.block (Safe.regionD ?_)))
      simp only [ref04_Times_r4, E3, Nat.reduceLeDiff, Nat.reduceSub, Nat.reduceAdd, Nat.reduceEqDiff, reduceCtorEq, ↓reduceIte, vec_idx _ v _ i (by omega)]
      refine (r2mul_pure ⟨kn, km⟩ v[i] p q hk (hv.get (by omega)) hpq).dcall ?_
      have hl : (cans ((v.take i).map fun x => (ZI.mk kn km).z * x.z)).length = i := by simp [cans]; omega
      have happ := fun env => app_map H hH [some ⟨2, [.agg [.bool kn, natV km]]⟩, some ⟨2, (cans ((v.take i).map fun x => (ZI.mk kn km).z * x.z)).map ZI.av⟩] 1 _ (lid_ge H 1) env 2 32 ZI.av ZI.cl (cans ((v.take i).map fun x => (ZI.mk kn km).z * x.z)) (canZ ((ZI.mk kn km).z * v[i].z)) rfl (by
        intro b hb
        simp only [List.mem_cons, Option.some.injEq, List.not_mem_nil, or_false] at hb
        rcases hb with rfl | rfl
        · exact fun a ha => clcells (ZI.cl ⟨kn, km⟩) a (by simpa [Blk.flat, ZI.av] using ha)
        · exact blk_map 2 ZI.av _ ZI.cl) (by omega) (by omega)
      rw [canZ_av] at happ
      simp only [E3, Nat.reduceLeDiff, Nat.reduceSub, Nat.reduceAdd, Nat.reduceEqDiff, reduceCtorEq, ↓reduceIte, happ, natV_clb, clb_bool]
      refine Safe.inBlock (Safe.region ?_)
      have hiw : IntKind.wrap .i64 ((i : Int) + 1) = ((i + 1 : Nat) : Int) := by rw [wrap_i64] <;> omega
      simp only [ref04_Times_r5, E3, Nat.reduceLeDiff, Nat.reduceSub, Nat.reduceAdd, Nat.reduceEqDiff, reduceCtorEq, ↓reduceIte, hiw]
      refine Safe.keep [1, 2, 5, 6] ?_
      simp only [E3, Nat.reduceLeDiff, Nat.reduceSub, Nat.reduceAdd, Nat.reduceEqDiff, reduceCtorEq, ↓reduceIte]
      have := ih (i + 1) (by omega)
      rw [List.take_succ_eq_append_getElem (by omega), List.map_append] at this
      simpa only [cans, List.map_append, List.map_cons, List.map_nil, List.length_append, List.length_cons, List.length_nil] using this
  refine Safe.keep [1, 2, 5, 6] ?_
  simp only [E3, Nat.reduceLeDiff, Nat.reduceSub, Nat.reduceAdd, Nat.reduceEqDiff, reduceCtorEq, ↓reduceIte]
  exact key v.length 0 (by omega)

theorem zs_cans (v : List Int) : zs (cans v) = v := by
  simp only [zs, cans, List.map_map]
  have : (ZI.z ∘ canZ) = id := funext canZ_z
  rw [this]; simp
theorem of_one : PureC Pr F_ref02_Of [.int .i64 1] (canZ 1).av := r2of_pure 1 (by omega) (by omega)
theorem zok_small {z : Int} (h : z.natAbs < 4294967296) : Zok 1 (canZ z) := zok_can (by simpa using h)

theorem refform_pure (b : List (List ZI)) (hb : Mok 17592186044415 b) : PureC Pr F_ref04_Form [matV b] (matV (b.map fun v => cans (v.map ZI.z))) := by
  have hbl := hb.len
  refine PureC.intro ref04_Form_fn ref04_Form_ok (by simp only [List.length_cons, List.length_nil]; omega) (matV_cl _) fun H hH => ?_
  refine Safe.seq (Safe.region ?_)
  simp only [ref04_Form_r0, E3, Nat.reduceLeDiff, Nat.reduceSub, Nat.reduceAdd, Nat.reduceEqDiff, reduceCtorEq, ↓reduceIte]
  refine Safe.seq (Safe.region ?_)
  simp only [ref04_Form_r1, E3, Nat.reduceLeDiff, Nat.reduceSub, Nat.reduceAdd, Nat.reduceEqDiff, reduceCtorEq, ↓reduceIte]
  refine Safe.seq (Safe.seq (Safe.region ?_))
  simp only [ref04_Form_r2, E3, Nat.reduceLeDiff, Nat.reduceSub, Nat.reduceAdd, Nat.reduceEqDiff, reduceCtorEq, ↓reduceIte]
  refine Safe.nilrow 3 1 (by decide) (by simp only [E3, Nat.reduceLeDiff, Nat.reduceSub, Nat.reduceAdd, Nat.reduceEqDiff, reduceCtorEq, ↓reduceIte]) ?_
  refine Safe.block (Safe.loop ?_)
  have key : ∀ (m i : Nat), i + m = b.length → Safe ⟨Pr, fun _ _ => false, F_ref04_Form, 21, [.tmp 2], H.length⟩ [.inLoop ref04_Form_l0, .inBlock 0, .code ((ACode.region ref04_Form_r6 false).seq .ret)]
      [(0, matV b), (3, .mu (lid H 0) 0 ((b.take i).map fun v => cans (v.map ZI.z)).length none), (4, .int .i64 i)] (hap H [some ⟨1, ((b.take i).map fun v => cans (v.map ZI.z)).map vecV⟩])
        fun r' H' => r' = matV (b.map fun v => cans (v.map ZI.z)) ∧ ∃ L, H' = hap H L := by
    intro m
    induction m with
    | zero =>
      intro i hi
      have hi' : i = b.length := by omega
      subst hi'
      refine Safe.inLoop (Safe.seq (Safe.seq (Safe.region ?_)))
      simp only [ref04_Form_r3, E3, Nat.reduceLeDiff, Nat.reduceSub, Nat.reduceAdd, Nat.reduceEqDiff, reduceCtorEq, ↓reduceIte, Int.lt_irrefl]
      refine Safe.cond ?_
      simp only [E3, Nat.reduceLeDiff, Nat.reduceSub, Nat.reduceAdd, Nat.reduceEqDiff, reduceCtorEq, ↓reduceIte]
      refine Safe.exit rfl ?_
      rw [List.take_length]
      refine Safe.freeze 0 (b := ⟨1, (b.map fun v => cans (v.map ZI.z)).map vecV⟩) hH rfl rfl (blk_map 1 vecV _ vecV_cl) ?_
      refine Safe.keep [3] ?_
      simp only [E3, Nat.reduceLeDiff, Nat.reduceSub, Nat.reduceAdd, Nat.reduceEqDiff, reduceCtorEq, ↓reduceIte, frz_mu_map]
      refine Safe.seq (Safe.region ?_)
      simp only [ref04_Form_r6, E3, Nat.reduceLeDiff, Nat.reduceSub, Nat.reduceAdd, Nat.reduceEqDiff, reduceCtorEq, ↓reduceIte]
      refine Safe.retn ?_
      simp only [E3, Nat.reduceLeDiff, Nat.reduceSub, Nat.reduceAdd, Nat.reduceEqDiff, reduceCtorEq, ↓reduceIte]
      first | exact ⟨rfl, _, rfl⟩ | exact ⟨_, rfl⟩ | exact ⟨trivial, _, rfl⟩
    | succ m ih =>
      intro i hi
      refine Safe.inLoop (Safe.seq (Safe.seq (Safe.region ?_)))
      have hlt : (i : Int) < (b.length : Int) := by omega
      simp only [ref04_Form_r3, E3, Nat.reduceLeDiff, Nat.reduceSub, Nat.reduceAdd, Nat.reduceEqDiff, reduceCtorEq, ↓reduceIte, hlt]
      refine Safe.cond ?_
      simp only [E3, Nat.reduceLeDiff, Nat.reduceSub, Nat.reduceAdd, Nat.reduceEqDiff, reduceCtorEq, ↓reduceIte]
      refine Safe.skip (Safe.seq (Safe.block (Safe.regionD ?_)))
      simp only [ref04_Form_r4, E3, Nat.reduceLeDiff, Nat.reduceSub, Nat.reduceAdd, Nat.reduceEqDiff, reduceCtorEq, ↓reduceIte, mat_idx _ b _ i (by omega)]
      refine of_one.dcall ?_
      try simp only [E3, Nat.reduceLeDiff, Nat.reduceSub, Nat.reduceAdd, Nat.reduceEqDiff, reduceCtorEq, ↓reduceIte, mat_idx _ b _ i (show i < b.length by omega)]
      have ht := times_pure (canZ 1) b[i] 1 17592186044415 (zok_small (by decide)) (hb.get (by omega)) (by omega)
      have he : (b[i].map fun x => (canZ 1).z * x.z) = b[i].map ZI.z := List.map_congr_left fun x _ => by rw [canZ_z, Int.one_mul]
      rw [he] at ht
      refine ht.dcall ?_
      have hl : ((b.take i).map fun v => cans (v.map ZI.z)).length = i := by simp; omega
      simp only [E3, Nat.reduceLeDiff, Nat.reduceSub, Nat.reduceAdd, Nat.reduceEqDiff, reduceCtorEq, ↓reduceIte, app_map1 H hH _ (lid_ge H 0) _ 1 24 vecV vecV_cl ((b.take i).map fun v => cans (v.map ZI.z)) (cans (b[i].map ZI.z)) (by omega) (by omega)]
      refine Safe.inBlock (Safe.region ?_)
      have hiw : IntKind.wrap .i64 ((i : Int) + 1) = ((i + 1 : Nat) : Int) := by rw [wrap_i64] <;> omega
      simp only [ref04_Form_r5, E3, Nat.reduceLeDiff, Nat.reduceSub, Nat.reduceAdd, Nat.reduceEqDiff, reduceCtorEq, ↓reduceIte, hiw]
      refine Safe.keep [0, 3, 4] ?_
      simp only [E3, Nat.reduceLeDiff, Nat.reduceSub, Nat.reduceAdd, Nat.reduceEqDiff, reduceCtorEq, ↓reduceIte]
      have := ih (i + 1) (by omega)
      rw [List.take_succ_eq_append_getElem (by omega), List.map_append] at this
      simpa only [List.map_cons, List.map_nil, List.length_append, List.length_cons, List.length_nil] using this
  refine Safe.keep [0, 3, 4] ?_
  simp only [E3, Nat.reduceLeDiff, Nat.reduceSub, Nat.reduceAdd, Nat.reduceEqDiff, reduceCtorEq, ↓reduceIte]
  exact key b.length 0 (by omega)

theorem vok_cans {k : Nat} {v : List ZI} (h : Vok k v) : Vok k (cans (v.map ZI.z)) := by
  refine ⟨by simp only [cans, List.length_map]; exact h.len, fun x hx => ?_⟩
  simp only [cans, List.map_map, List.mem_map, Function.comp] at hx
  obtain ⟨y, hy, rfl⟩ := hx
  exact zok_can (h.el y hy).abs
theorem mok_cans {k : Nat} {b : List (List ZI)} (h : Mok k b) : Mok k (b.map fun v => cans (v.map ZI.z)) := by
  refine ⟨by rw [List.length_map]; exact h.len, fun v hv => ?_⟩
  obtain ⟨w, hw, rfl⟩ := List.mem_map.1 hv
  exact vok_cans (h.el w hw)
theorem zss_cans (b : List (List ZI)) : zss (b.map fun v => cans (v.map ZI.z)) = zss b := by
  simp only [zss, List.map_map]
  exact List.map_congr_left fun v _ => zs_cans _

theorem matsames_pure (a b : List (List ZI)) (ha : Mok 17592186044415 a) (hb : Mok 17592186044415 b) : PureC Pr F_law04_MatSames [matV a, matV b] (.bool true) := by
  refine PureC.intro law04_MatSames_fn law04_MatSames_ok (by simp only [List.length_cons, List.length_nil]; omega) (.bool _) fun H hH => ?_
  refine Safe.seq (Safe.region ?_)
  simp only [law04_MatSames_r0, E3, Nat.reduceLeDiff, Nat.reduceSub, Nat.reduceAdd, Nat.reduceEqDiff, reduceCtorEq, ↓reduceIte]
  refine Safe.seq (Safe.region ?_)
  simp only [law04_MatSames_r1, E3, Nat.reduceLeDiff, Nat.reduceSub, Nat.reduceAdd, Nat.reduceEqDiff, reduceCtorEq, ↓reduceIte]
  refine (ownm_pure a (ha.mono (by omega))).acall ?_
  try simp only [E3, Nat.reduceLeDiff, Nat.reduceSub, Nat.reduceAdd, Nat.reduceEqDiff, reduceCtorEq, ↓reduceIte]
  refine (ownm_pure b (hb.mono (by omega))).acall ?_
  try simp only [E3, Nat.reduceLeDiff, Nat.reduceSub, Nat.reduceAdd, Nat.reduceEqDiff, reduceCtorEq, ↓reduceIte]
  refine (same_pure a b (ha.mono (by omega)) (hb.mono (by omega))).acall ?_
  try simp only [E3, Nat.reduceLeDiff, Nat.reduceSub, Nat.reduceAdd, Nat.reduceEqDiff, reduceCtorEq, ↓reduceIte]
  refine (refsame_pure a b ha hb).acall ?_
  try simp only [E3, Nat.reduceLeDiff, Nat.reduceSub, Nat.reduceAdd, Nat.reduceEqDiff, reduceCtorEq, ↓reduceIte, beq_self_eq_true]
  refine (ownm_pure a (ha.mono (by omega))).acall ?_
  try simp only [E3, Nat.reduceLeDiff, Nat.reduceSub, Nat.reduceAdd, Nat.reduceEqDiff, reduceCtorEq, ↓reduceIte]
  refine (refform_pure a ha).acall ?_
  try simp only [E3, Nat.reduceLeDiff, Nat.reduceSub, Nat.reduceAdd, Nat.reduceEqDiff, reduceCtorEq, ↓reduceIte]
  refine (same_pure a _ (ha.mono (by omega)) (mok_cans (ha.mono (by omega)))).acall ?_
  try simp only [E3, Nat.reduceLeDiff, Nat.reduceSub, Nat.reduceAdd, Nat.reduceEqDiff, reduceCtorEq, ↓reduceIte]
  refine Safe.retn ?_
  simp only [E3, Nat.reduceLeDiff, Nat.reduceSub, Nat.reduceAdd, Nat.reduceEqDiff, reduceCtorEq, ↓reduceIte, zss_cans, sameZ]
  first | exact ⟨rfl, _, rfl⟩ | exact ⟨_, rfl⟩ | exact ⟨trivial, _, rfl⟩

end Go.Abs

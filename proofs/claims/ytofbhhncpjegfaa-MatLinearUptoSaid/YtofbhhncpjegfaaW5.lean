/- The walks: products, norms, sums of vectors. -/
import Derived.Test.YtofbhhncpjegfaaW4
import Derived.Test.YtofbhhncpjegfaaD4
set_option linter.unusedVariables false
set_option linter.unusedSimpArgs false
namespace Go.Abs

theorem eq_pure (x : ZI) (hx : Zok 17592186044416 x) : PureC Pr F_law04_eq [x.av, x.av] (.bool true) := by
  obtain ⟨n, m⟩ := x
  have hml : m.length ≤ 17592186044416 := hx.len
  simp only [ZI.av]
  refine PureC.intro law04_eq_fn law04_eq_ok (Nat.le_of_ble_eq_true rfl) (.bool _) fun H hH => ?_
  refine Safe.rg rfl ?_
  simp only [law04_eq_r0, E3, Nat.reduceLeDiff, Nat.reduceSub, Nat.reduceAdd, Nat.reduceEqDiff, reduceCtorEq, ↓reduceIte]
  refine Safe.rg rfl ?_
  simp only [law04_eq_r1, beq_self_eq_true, E3, Nat.reduceLeDiff, Nat.reduceSub, Nat.reduceAdd, Nat.reduceEqDiff, reduceCtorEq, ↓reduceIte]
  refine Safe.cd rfl ?_
  simp only [E3, Nat.reduceLeDiff, Nat.reduceSub, Nat.reduceAdd, Nat.reduceEqDiff, reduceCtorEq, ↓reduceIte]
  refine Safe.rg rfl ?_
  simp only [law04_eq_r3, E3, Nat.reduceLeDiff, Nat.reduceSub, Nat.reduceAdd, Nat.reduceEqDiff, reduceCtorEq, ↓reduceIte]
  refine Safe.lp rfl ?_
  refine Safe.keep [2, 3, 5] ?_
  try simp only [E3, Nat.reduceLeDiff, Nat.reduceSub, Nat.reduceAdd, Nat.reduceEqDiff, reduceCtorEq, ↓reduceIte]
  refine Safe.loopN (m.length) (fun i => [(2, .loc (lid H 0) 0 0), (3, .loc (lid H 1) 0 0), (5, .int .i64 i)]) (fun i => hap H [some ⟨2, [.agg [.bool n, natV m]]⟩, some ⟨2, [.agg [.bool n, natV m]]⟩]) rfl rfl (fun i hi ih => ?_) ?_
  · have hlt : (i : Int) < (m.length : Int) := by omega
    have hiw : IntKind.wrap .i64 ((i : Int) + 1) = ((i + 1 : Nat) : Int) := by rw [wrap_i64] <;> omega
    refine Safe.inLoop ?_
    refine Safe.rg rfl ?_
    simp only [law04_eq_r4, hlt, E3, Nat.reduceLeDiff, Nat.reduceSub, Nat.reduceAdd, Nat.reduceEqDiff, reduceCtorEq, ↓reduceIte]
    refine Safe.cd rfl ?_
    simp only [E3, Nat.reduceLeDiff, Nat.reduceSub, Nat.reduceAdd, Nat.reduceEqDiff, reduceCtorEq, ↓reduceIte]
    refine Safe.rg rfl ?_
    simp only [law04_eq_r5, natV_idx _ m _ i (by omega), E3, Nat.reduceLeDiff, Nat.reduceSub, Nat.reduceAdd, Nat.reduceEqDiff, reduceCtorEq, ↓reduceIte]
    refine Safe.cd rfl ?_
    simp only [E3, Nat.reduceLeDiff, Nat.reduceSub, Nat.reduceAdd, Nat.reduceEqDiff, reduceCtorEq, ↓reduceIte]
    refine Safe.rg rfl ?_
    simp only [law04_eq_r7, hiw, E3, Nat.reduceLeDiff, Nat.reduceSub, Nat.reduceAdd, Nat.reduceEqDiff, reduceCtorEq, ↓reduceIte]
    refine Safe.keep [2, 3, 5] ?_
    simp only [E3, Nat.reduceLeDiff, Nat.reduceSub, Nat.reduceAdd, Nat.reduceEqDiff, reduceCtorEq, ↓reduceIte]
    exact ih
  · refine Safe.inLoop ?_
    refine Safe.rg rfl ?_
    simp only [law04_eq_r4, Int.lt_irrefl, E3, Nat.reduceLeDiff, Nat.reduceSub, Nat.reduceAdd, Nat.reduceEqDiff, reduceCtorEq, ↓reduceIte]
    refine Safe.cd rfl ?_
    simp only [E3, Nat.reduceLeDiff, Nat.reduceSub, Nat.reduceAdd, Nat.reduceEqDiff, reduceCtorEq, ↓reduceIte]
    refine Safe.rg rfl ?_
    simp only [law04_eq_r8, E3, Nat.reduceLeDiff, Nat.reduceSub, Nat.reduceAdd, Nat.reduceEqDiff, reduceCtorEq, ↓reduceIte]
    refine Safe.rt rfl ?_
    simp only [E3, Nat.reduceLeDiff, Nat.reduceSub, Nat.reduceAdd, Nat.reduceEqDiff, reduceCtorEq, ↓reduceIte]
    first | exact ⟨rfl, _, rfl⟩ | exact ⟨_, rfl⟩ | exact ⟨trivial, _, rfl⟩

theorem each_II (g : FuncId) (caps : List AV) (v : List ZI) (f : Nat → Int) (hv : v.length ≤ 2097152) (hc : ∀ c ∈ caps, Cl c) (hf : ∀ (i : Nat) (h : i < v.length), PureC Pr g (v[i].av :: caps) (Z (f i))) : PureC Pr F_mat_each_I_I [vecV v, .fn g caps] (vecV (vec v.length f)) := by
  have hcl : ∀ id, caps.all (nref id) = true := fun id => List.all_eq_true.2 fun c h => nref_cl (hc c h)
  refine PureC.intro mat_each_I_I_fn mat_each_I_I_ok (Nat.le_of_ble_eq_true rfl) (vecV_cl _) fun H hH => ?_
  refine Safe.rg rfl ?_
  simp only [mat_each_I_I_r0, E3, Nat.reduceLeDiff, Nat.reduceSub, Nat.reduceAdd, Nat.reduceEqDiff, reduceCtorEq, ↓reduceIte]
  refine Safe.rg rfl ?_
  simp only [mat_each_I_I_r1, mksl_row _ _ 2 32 _ _ _ v.length (by decide) (by omega) (by omega), E3, Nat.reduceLeDiff, Nat.reduceSub, Nat.reduceAdd, Nat.reduceEqDiff, reduceCtorEq, ↓reduceIte]
  refine Safe.rg rfl ?_
  simp only [mat_each_I_I_r2, E3, Nat.reduceLeDiff, Nat.reduceSub, Nat.reduceAdd, Nat.reduceEqDiff, reduceCtorEq, ↓reduceIte]
  refine Safe.lp rfl ?_
  refine Safe.keep [1, 5, 11, 12, 13] ?_
  try simp only [E3, Nat.reduceLeDiff, Nat.reduceSub, Nat.reduceAdd, Nat.reduceEqDiff, reduceCtorEq, ↓reduceIte]
  refine Safe.loopN (v.length) (fun i => [(1, .fn g caps), (5, .mu (lid H 0) 0 i (some v.length)), (11, vecV v), (12, .int .i64 v.length), (13, .int .i64 i)]) (fun i => hap H [some ⟨2, (vec i f).map ZI.av⟩]) rfl rfl (fun i hi ih => ?_) ?_
  · have hlt : (i : Int) < (v.length : Int) := by omega
    have hiw : IntKind.wrap .i64 ((i : Int) + 1) = ((i + 1 : Nat) : Int) := by rw [wrap_i64] <;> omega
    refine Safe.inLoop ?_
    refine Safe.rg rfl ?_
    simp only [mat_each_I_I_r3, hlt, E3, Nat.reduceLeDiff, Nat.reduceSub, Nat.reduceAdd, Nat.reduceEqDiff, reduceCtorEq, ↓reduceIte]
    refine Safe.cd rfl ?_
    simp only [E3, Nat.reduceLeDiff, Nat.reduceSub, Nat.reduceAdd, Nat.reduceEqDiff, reduceCtorEq, ↓reduceIte]
    refine Safe.rg rfl ?_
    simp only [mat_each_I_I_r4, vec_idx _ v _ i (by omega), E3, Nat.reduceLeDiff, Nat.reduceSub, Nat.reduceAdd, Nat.reduceEqDiff, reduceCtorEq, ↓reduceIte]
    refine Safe.rg rfl ?_
    simp only [mat_each_I_I_r5, E3, Nat.reduceLeDiff, Nat.reduceSub, Nat.reduceAdd, Nat.reduceEqDiff, reduceCtorEq, ↓reduceIte]
    first | refine (hf i hi).acall ?_ | refine (hf i hi).dcall ?_
    try simp only [E3, Nat.reduceLeDiff, Nat.reduceSub, Nat.reduceAdd, Nat.reduceEqDiff, reduceCtorEq, ↓reduceIte]
    rw [app_room (H := H) 0 (lid_ge H 0) (f := ZI.av) (vec i f) (canZ (f i)) (vec (i + 1) f) ?hlen ?hl ?hy ?hl2 ?hc]
    case hlen => first | rfl | (simp only [vec_length, mat_length, List.length_map, List.length_take]; done) | (simp only [vec_length, mat_length, List.length_map, List.length_take]; omega)
    case hl => rfl
    case hy => rfl
    case hl2 => first | exact vec_succ _ _ | exact mat_succ _ _ | exact take_succ _ (by omega) | exact take_map_succ _ _ (by omega)
    case hc => omega
    simp only [hcl, E3, Nat.reduceLeDiff, Nat.reduceSub, Nat.reduceAdd, Nat.reduceEqDiff, reduceCtorEq, ↓reduceIte]
    refine Safe.rg rfl ?_
    simp only [mat_each_I_I_r6, hiw, E3, Nat.reduceLeDiff, Nat.reduceSub, Nat.reduceAdd, Nat.reduceEqDiff, reduceCtorEq, ↓reduceIte]
    refine Safe.keep [1, 5, 11, 12, 13] ?_
    simp only [E3, Nat.reduceLeDiff, Nat.reduceSub, Nat.reduceAdd, Nat.reduceEqDiff, reduceCtorEq, ↓reduceIte]
    refine Safe.drop1 hH rfl (by simp only [List.all_cons, List.all_nil, hcl, E3, Nat.reduceLeDiff, Nat.reduceSub, Nat.reduceAdd, Nat.reduceEqDiff, reduceCtorEq, ↓reduceIte]) (by repeat (first | exact RC.nil | refine RC.none ?_ | refine RC.row ZI.cl ?_ | refine RC.row vecV_cl ?_ | refine RC.emp ?_ | refine RC.zero ?_ | refine RC.one (Z_cl _) ?_ | refine RC.one (ZI.cl _) ?_ | refine RC.one (vecV_cl _) ?_)) ?_
    exact ih
  · refine Safe.inLoop ?_
    refine Safe.rg rfl ?_
    simp only [mat_each_I_I_r3, Int.lt_irrefl, E3, Nat.reduceLeDiff, Nat.reduceSub, Nat.reduceAdd, Nat.reduceEqDiff, reduceCtorEq, ↓reduceIte]
    refine Safe.cd rfl ?_
    simp only [E3, Nat.reduceLeDiff, Nat.reduceSub, Nat.reduceAdd, Nat.reduceEqDiff, reduceCtorEq, ↓reduceIte]
    refine Safe.freeze 0 hH rfl rfl (blk_map 2 ZI.av _ ZI.cl) ?_
    refine Safe.keep [5] ?_
    simp only [frz_row 0 2 ZI.av (vec v.length f) v.length (some v.length) (vec_length _ _).symm, E3, Nat.reduceLeDiff, Nat.reduceSub, Nat.reduceAdd, Nat.reduceEqDiff, reduceCtorEq, ↓reduceIte]
    refine Safe.rg rfl ?_
    simp only [mat_each_I_I_r7, E3, Nat.reduceLeDiff, Nat.reduceSub, Nat.reduceAdd, Nat.reduceEqDiff, reduceCtorEq, ↓reduceIte]
    refine Safe.rt rfl ?_
    simp only [E3, Nat.reduceLeDiff, Nat.reduceSub, Nat.reduceAdd, Nat.reduceEqDiff, reduceCtorEq, ↓reduceIte]
    first | exact ⟨rfl, _, rfl⟩ | exact ⟨_, rfl⟩ | exact ⟨trivial, _, rfl⟩

theorem each_VV (g : FuncId) (caps : List AV) (v : List (List ZI)) (f : Nat → List ZI) (hv : v.length ≤ 2097152) (hc : ∀ c ∈ caps, Cl c) (hf : ∀ (i : Nat) (h : i < v.length), PureC Pr g (vecV v[i] :: caps) (vecV (f i))) : PureC Pr F_mat_each_V_V [matV v, .fn g caps] (matV (mat v.length f)) := by
  have hcl : ∀ id, caps.all (nref id) = true := fun id => List.all_eq_true.2 fun c h => nref_cl (hc c h)
  refine PureC.intro mat_each_V_V_fn mat_each_V_V_ok (Nat.le_of_ble_eq_true rfl) (matV_cl _) fun H hH => ?_
  refine Safe.rg rfl ?_
  simp only [mat_each_V_V_r0, E3, Nat.reduceLeDiff, Nat.reduceSub, Nat.reduceAdd, Nat.reduceEqDiff, reduceCtorEq, ↓reduceIte]
  refine Safe.rg rfl ?_
  simp only [mat_each_V_V_r1, mksl_row _ _ 1 24 _ _ _ v.length (by decide) (by omega) (by omega), E3, Nat.reduceLeDiff, Nat.reduceSub, Nat.reduceAdd, Nat.reduceEqDiff, reduceCtorEq, ↓reduceIte]
  refine Safe.rg rfl ?_
  simp only [mat_each_V_V_r2, E3, Nat.reduceLeDiff, Nat.reduceSub, Nat.reduceAdd, Nat.reduceEqDiff, reduceCtorEq, ↓reduceIte]
  refine Safe.lp rfl ?_
  refine Safe.keep [1, 5, 11, 12, 13] ?_
  try simp only [E3, Nat.reduceLeDiff, Nat.reduceSub, Nat.reduceAdd, Nat.reduceEqDiff, reduceCtorEq, ↓reduceIte]
  refine Safe.loopN (v.length) (fun i => [(1, .fn g caps), (5, .mu (lid H 0) 0 i (some v.length)), (11, matV v), (12, .int .i64 v.length), (13, .int .i64 i)]) (fun i => hap H [some ⟨1, (mat i f).map vecV⟩]) rfl rfl (fun i hi ih => ?_) ?_
  · have hlt : (i : Int) < (v.length : Int) := by omega
    have hiw : IntKind.wrap .i64 ((i : Int) + 1) = ((i + 1 : Nat) : Int) := by rw [wrap_i64] <;> omega
    refine Safe.inLoop ?_
    refine Safe.rg rfl ?_
    simp only [mat_each_V_V_r3, hlt, E3, Nat.reduceLeDiff, Nat.reduceSub, Nat.reduceAdd, Nat.reduceEqDiff, reduceCtorEq, ↓reduceIte]
    refine Safe.cd rfl ?_
    simp only [E3, Nat.reduceLeDiff, Nat.reduceSub, Nat.reduceAdd, Nat.reduceEqDiff, reduceCtorEq, ↓reduceIte]
    refine Safe.rg rfl ?_
    simp only [mat_each_V_V_r4, mat_idx _ v _ i (by omega), E3, Nat.reduceLeDiff, Nat.reduceSub, Nat.reduceAdd, Nat.reduceEqDiff, reduceCtorEq, ↓reduceIte]
    refine Safe.rg rfl ?_
    simp only [mat_each_V_V_r5, E3, Nat.reduceLeDiff, Nat.reduceSub, Nat.reduceAdd, Nat.reduceEqDiff, reduceCtorEq, ↓reduceIte]
    first | refine (hf i hi).acall ?_ | refine (hf i hi).dcall ?_
    try simp only [E3, Nat.reduceLeDiff, Nat.reduceSub, Nat.reduceAdd, Nat.reduceEqDiff, reduceCtorEq, ↓reduceIte]
    rw [app_room (H := H) 0 (lid_ge H 0) (f := vecV) (mat i f) (f i) (mat (i + 1) f) ?hlen ?hl ?hy ?hl2 ?hc]
    case hlen => first | rfl | (simp only [vec_length, mat_length, List.length_map, List.length_take]; done) | (simp only [vec_length, mat_length, List.length_map, List.length_take]; omega)
    case hl => rfl
    case hy => rfl
    case hl2 => first | exact vec_succ _ _ | exact mat_succ _ _ | exact take_succ _ (by omega) | exact take_map_succ _ _ (by omega)
    case hc => omega
    simp only [hcl, E3, Nat.reduceLeDiff, Nat.reduceSub, Nat.reduceAdd, Nat.reduceEqDiff, reduceCtorEq, ↓reduceIte]
    refine Safe.rg rfl ?_
    simp only [mat_each_V_V_r6, hiw, E3, Nat.reduceLeDiff, Nat.reduceSub, Nat.reduceAdd, Nat.reduceEqDiff, reduceCtorEq, ↓reduceIte]
    refine Safe.keep [1, 5, 11, 12, 13] ?_
    simp only [E3, Nat.reduceLeDiff, Nat.reduceSub, Nat.reduceAdd, Nat.reduceEqDiff, reduceCtorEq, ↓reduceIte]
    exact ih
  · refine Safe.inLoop ?_
    refine Safe.rg rfl ?_
    simp only [mat_each_V_V_r3, Int.lt_irrefl, E3, Nat.reduceLeDiff, Nat.reduceSub, Nat.reduceAdd, Nat.reduceEqDiff, reduceCtorEq, ↓reduceIte]
    refine Safe.cd rfl ?_
    simp only [E3, Nat.reduceLeDiff, Nat.reduceSub, Nat.reduceAdd, Nat.reduceEqDiff, reduceCtorEq, ↓reduceIte]
    refine Safe.freeze 0 hH rfl rfl (blk_map 1 vecV _ vecV_cl) ?_
    refine Safe.keep [5] ?_
    simp only [frz_row 0 1 vecV (mat v.length f) v.length (some v.length) (mat_length _ _).symm, E3, Nat.reduceLeDiff, Nat.reduceSub, Nat.reduceAdd, Nat.reduceEqDiff, reduceCtorEq, ↓reduceIte]
    refine Safe.rg rfl ?_
    simp only [mat_each_V_V_r7, E3, Nat.reduceLeDiff, Nat.reduceSub, Nat.reduceAdd, Nat.reduceEqDiff, reduceCtorEq, ↓reduceIte]
    refine Safe.rt rfl ?_
    simp only [E3, Nat.reduceLeDiff, Nat.reduceSub, Nat.reduceAdd, Nat.reduceEqDiff, reduceCtorEq, ↓reduceIte]
    first | exact ⟨rfl, _, rfl⟩ | exact ⟨_, rfl⟩ | exact ⟨trivial, _, rfl⟩

theorem each_VI (g : FuncId) (caps : List AV) (v : List (List ZI)) (f : Nat → Int) (hv : v.length ≤ 2097152) (hc : ∀ c ∈ caps, Cl c) (hf : ∀ (i : Nat) (h : i < v.length), PureC Pr g (vecV v[i] :: caps) (Z (f i))) : PureC Pr F_mat_each_V_I [matV v, .fn g caps] (vecV (vec v.length f)) := by
  have hcl : ∀ id, caps.all (nref id) = true := fun id => List.all_eq_true.2 fun c h => nref_cl (hc c h)
  refine PureC.intro mat_each_V_I_fn mat_each_V_I_ok (Nat.le_of_ble_eq_true rfl) (vecV_cl _) fun H hH => ?_
  refine Safe.rg rfl ?_
  simp only [mat_each_V_I_r0, E3, Nat.reduceLeDiff, Nat.reduceSub, Nat.reduceAdd, Nat.reduceEqDiff, reduceCtorEq, ↓reduceIte]
  refine Safe.rg rfl ?_
  simp only [mat_each_V_I_r1, mksl_row _ _ 2 32 _ _ _ v.length (by decide) (by omega) (by omega), E3, Nat.reduceLeDiff, Nat.reduceSub, Nat.reduceAdd, Nat.reduceEqDiff, reduceCtorEq, ↓reduceIte]
  refine Safe.rg rfl ?_
  simp only [mat_each_V_I_r2, E3, Nat.reduceLeDiff, Nat.reduceSub, Nat.reduceAdd, Nat.reduceEqDiff, reduceCtorEq, ↓reduceIte]
  refine Safe.lp rfl ?_
  refine Safe.keep [1, 5, 11, 12, 13] ?_
  try simp only [E3, Nat.reduceLeDiff, Nat.reduceSub, Nat.reduceAdd, Nat.reduceEqDiff, reduceCtorEq, ↓reduceIte]
  refine Safe.loopN (v.length) (fun i => [(1, .fn g caps), (5, .mu (lid H 0) 0 i (some v.length)), (11, matV v), (12, .int .i64 v.length), (13, .int .i64 i)]) (fun i => hap H [some ⟨2, (vec i f).map ZI.av⟩]) rfl rfl (fun i hi ih => ?_) ?_
  · have hlt : (i : Int) < (v.length : Int) := by omega
    have hiw : IntKind.wrap .i64 ((i : Int) + 1) = ((i + 1 : Nat) : Int) := by rw [wrap_i64] <;> omega
    refine Safe.inLoop ?_
    refine Safe.rg rfl ?_
    simp only [mat_each_V_I_r3, hlt, E3, Nat.reduceLeDiff, Nat.reduceSub, Nat.reduceAdd, Nat.reduceEqDiff, reduceCtorEq, ↓reduceIte]
    refine Safe.cd rfl ?_
    simp only [E3, Nat.reduceLeDiff, Nat.reduceSub, Nat.reduceAdd, Nat.reduceEqDiff, reduceCtorEq, ↓reduceIte]
    refine Safe.rg rfl ?_
    simp only [mat_each_V_I_r4, mat_idx _ v _ i (by omega), E3, Nat.reduceLeDiff, Nat.reduceSub, Nat.reduceAdd, Nat.reduceEqDiff, reduceCtorEq, ↓reduceIte]
    refine Safe.rg rfl ?_
    simp only [mat_each_V_I_r5, E3, Nat.reduceLeDiff, Nat.reduceSub, Nat.reduceAdd, Nat.reduceEqDiff, reduceCtorEq, ↓reduceIte]
    first | refine (hf i hi).acall ?_ | refine (hf i hi).dcall ?_
    try simp only [E3, Nat.reduceLeDiff, Nat.reduceSub, Nat.reduceAdd, Nat.reduceEqDiff, reduceCtorEq, ↓reduceIte]
    rw [app_room (H := H) 0 (lid_ge H 0) (f := ZI.av) (vec i f) (canZ (f i)) (vec (i + 1) f) ?hlen ?hl ?hy ?hl2 ?hc]
    case hlen => first | rfl | (simp only [vec_length, mat_length, List.length_map, List.length_take]; done) | (simp only [vec_length, mat_length, List.length_map, List.length_take]; omega)
    case hl => rfl
    case hy => rfl
    case hl2 => first | exact vec_succ _ _ | exact mat_succ _ _ | exact take_succ _ (by omega) | exact take_map_succ _ _ (by omega)
    case hc => omega
    simp only [hcl, E3, Nat.reduceLeDiff, Nat.reduceSub, Nat.reduceAdd, Nat.reduceEqDiff, reduceCtorEq, ↓reduceIte]
    refine Safe.rg rfl ?_
    simp only [mat_each_V_I_r6, hiw, E3, Nat.reduceLeDiff, Nat.reduceSub, Nat.reduceAdd, Nat.reduceEqDiff, reduceCtorEq, ↓reduceIte]
    refine Safe.keep [1, 5, 11, 12, 13] ?_
    simp only [E3, Nat.reduceLeDiff, Nat.reduceSub, Nat.reduceAdd, Nat.reduceEqDiff, reduceCtorEq, ↓reduceIte]
    exact ih
  · refine Safe.inLoop ?_
    refine Safe.rg rfl ?_
    simp only [mat_each_V_I_r3, Int.lt_irrefl, E3, Nat.reduceLeDiff, Nat.reduceSub, Nat.reduceAdd, Nat.reduceEqDiff, reduceCtorEq, ↓reduceIte]
    refine Safe.cd rfl ?_
    simp only [E3, Nat.reduceLeDiff, Nat.reduceSub, Nat.reduceAdd, Nat.reduceEqDiff, reduceCtorEq, ↓reduceIte]
    refine Safe.freeze 0 hH rfl rfl (blk_map 2 ZI.av _ ZI.cl) ?_
    refine Safe.keep [5] ?_
    simp only [frz_row 0 2 ZI.av (vec v.length f) v.length (some v.length) (vec_length _ _).symm, E3, Nat.reduceLeDiff, Nat.reduceSub, Nat.reduceAdd, Nat.reduceEqDiff, reduceCtorEq, ↓reduceIte]
    refine Safe.rg rfl ?_
    simp only [mat_each_V_I_r7, E3, Nat.reduceLeDiff, Nat.reduceSub, Nat.reduceAdd, Nat.reduceEqDiff, reduceCtorEq, ↓reduceIte]
    refine Safe.rt rfl ?_
    simp only [E3, Nat.reduceLeDiff, Nat.reduceSub, Nat.reduceAdd, Nat.reduceEqDiff, reduceCtorEq, ↓reduceIte]
    first | exact ⟨rfl, _, rfl⟩ | exact ⟨_, rfl⟩ | exact ⟨trivial, _, rfl⟩

section
variable {a b : Int} {k l : Nat} (ha : a.natAbs < LB ^ k)
include ha
theorem zadd_can (hb : b.natAbs < LB ^ k) (hk : k < 17592186044416) : PureC Pr F_zint_Add [Z a, Z b] (Z (a + b)) := by
  have := zadd_pure (canZ a) (canZ b) k (zok_can ha) (zok_can hb) hk
  rwa [canZ_z, canZ_z] at this
theorem zsub_can (hb : b.natAbs < LB ^ k) (hk : k < 17592186044416) : PureC Pr F_zint_Sub [Z a, Z b] (Z (a - b)) := by
  have := zsub_pure (canZ a) (canZ b) k (zok_can ha) (zok_can hb) hk
  rwa [canZ_z, canZ_z] at this
theorem zmul_can (hb : b.natAbs < LB ^ l) (hk : k + l ≤ 17592186044416) : PureC Pr F_zint_Mul [Z a, Z b] (Z (a * b)) := by
  have := zmul_pure (canZ a) (canZ b) k l (zok_can ha) (zok_can hb) hk
  rwa [canZ_z, canZ_z] at this
theorem r2add_can (hb : b.natAbs < LB ^ k) (hk : k < 17592186044416) : PureC Pr F_ref02_Add [Z a, Z b] (Z (a + b)) := by
  have := r2add_pure (canZ a) (canZ b) k (zok_can ha) (zok_can hb) hk
  rwa [canZ_z, canZ_z] at this
theorem r2sub_can (hb : b.natAbs < LB ^ k) (hk : k < 17592186044416) : PureC Pr F_ref02_Sub [Z a, Z b] (Z (a - b)) := by
  have := r2sub_pure (canZ a) (canZ b) k (zok_can ha) (zok_can hb) hk
  rwa [canZ_z, canZ_z] at this
theorem r2mul_can (hb : b.natAbs < LB ^ l) (hk : k + l ≤ 17592186044416) : PureC Pr F_ref02_Mul [Z a, Z b] (Z (a * b)) := by
  have := r2mul_pure (canZ a) (canZ b) k l (zok_can ha) (zok_can hb) hk
  rwa [canZ_z, canZ_z] at this
end
section
variable (u v : List ZI) {p : Nat} {i : Nat} (hu : Vok p u) (hv : Vok p v) (hp : p + p ≤ 17592186044416) (hi : i < u.length) (hj : i < v.length)
include hu hv hp
theorem zmul_at : PureC Pr F_zint_Mul [u[i].av, v[i].av] (Z (zg u i * zg v i)) := by
  have := zmul_pure u[i] v[i] p p (hu.get hi) (hv.get hj) hp
  rwa [← zg_lt hi, ← zg_lt hj] at this
theorem r2mul_at : PureC Pr F_ref02_Mul [u[i].av, v[i].av] (Z (zg u i * zg v i)) := by
  have := r2mul_pure u[i] v[i] p p (hu.get hi) (hv.get hj) hp
  rwa [← zg_lt hi, ← zg_lt hj] at this
end

def dotZ (u v : List ZI) : Int := sumTo (fun i => zg u i * zg v i) u.length
theorem mul_at_abs {u v : List ZI} {p : Nat} (hu : Vok p u) (hv : Vok p v) (i : Nat) : (zg u i * zg v i).natAbs < LB ^ (p + p) := mul_abs (hu.abs i) (hv.abs i)
theorem dot_abs {u v : List ZI} {p : Nat} (hu : Vok p u) (hv : Vok p v) {i : Nat} (hi : i ≤ u.length) : (sumTo (fun i => zg u i * zg v i) i).natAbs < LB ^ (p + p + 2) :=
  sumTo_abs (Nat.le_trans hi hu.len) fun j _ => mul_at_abs hu hv j

theorem dot_pure (u v : List ZI) (p : Nat) (hu : Vok p u) (hv : Vok p v) (hp : p + p + 2 < 17592186044416) (hl : u.length = v.length) : PureC Pr F_mat_dot [vecV u, vecV v] (Z (dotZ u v)) := by
  have hul := hu.len
  refine PureC.intro mat_dot_fn mat_dot_ok (Nat.le_of_ble_eq_true rfl) (Z_cl _) fun H hH => ?_
  refine Safe.rg rfl ?_
  simp only [mat_dot_r0, E3, Nat.reduceLeDiff, Nat.reduceSub, Nat.reduceAdd, Nat.reduceEqDiff, reduceCtorEq, ↓reduceIte]
  refine Safe.rg rfl ?_
  simp only [mat_dot_r1, E3, Nat.reduceLeDiff, Nat.reduceSub, Nat.reduceAdd, Nat.reduceEqDiff, reduceCtorEq, ↓reduceIte]
  refine Safe.told0 1 rfl ?_
  refine Safe.rg rfl ?_
  simp only [mat_dot_r2, E3, Nat.reduceLeDiff, Nat.reduceSub, Nat.reduceAdd, Nat.reduceEqDiff, reduceCtorEq, ↓reduceIte]
  refine Safe.lp rfl ?_
  refine Safe.keep [0, 1, 4, 5, 8, 9, 7] ?_
  try simp only [E3, Nat.reduceLeDiff, Nat.reduceSub, Nat.reduceAdd, Nat.reduceEqDiff, reduceCtorEq, ↓reduceIte]
  refine Safe.loopN (u.length) (fun i => [(0, vecV u), (1, vecV v), (4, .loc (lid H 0) 0 0), (5, .loc (lid H 1) 0 0), (8, .int .i64 u.length), (9, .int .i64 i), (7, vecV u)]) (fun i => hap H [some ⟨2, [.agg [.bool false, .nil]]⟩, some ⟨2, [Z (sumTo (fun i => zg u i * zg v i) i)]⟩]) rfl rfl (fun i hi ih => ?_) ?_
  · have hlt : (i : Int) < (u.length : Int) := by omega
    have hiw : IntKind.wrap .i64 ((i : Int) + 1) = ((i + 1 : Nat) : Int) := by rw [wrap_i64] <;> omega
    refine Safe.inLoop ?_
    refine Safe.rg rfl ?_
    simp only [mat_dot_r3, hlt, E3, Nat.reduceLeDiff, Nat.reduceSub, Nat.reduceAdd, Nat.reduceEqDiff, reduceCtorEq, ↓reduceIte]
    refine Safe.cd rfl ?_
    simp only [E3, Nat.reduceLeDiff, Nat.reduceSub, Nat.reduceAdd, Nat.reduceEqDiff, reduceCtorEq, ↓reduceIte]
    refine Safe.rg rfl ?_
    simp only [mat_dot_r4, E3, Nat.reduceLeDiff, Nat.reduceSub, Nat.reduceAdd, Nat.reduceEqDiff, reduceCtorEq, ↓reduceIte]
    refine Safe.rg rfl ?_
    simp only [mat_dot_r5, vec_idx _ u _ i (by omega), vec_idx _ v _ i (by omega), E3, Nat.reduceLeDiff, Nat.reduceSub, Nat.reduceAdd, Nat.reduceEqDiff, reduceCtorEq, ↓reduceIte]
    first | refine (zmul_at u v hu hv (by omega) hi (by omega)).acall ?_ | refine (zmul_at u v hu hv (by omega) hi (by omega)).dcall ?_
    try simp only [E3, Nat.reduceLeDiff, Nat.reduceSub, Nat.reduceAdd, Nat.reduceEqDiff, reduceCtorEq, ↓reduceIte]
    first | refine (zadd_can (dot_abs hu hv (Nat.le_of_lt hi)) (Nat.lt_of_lt_of_le (mul_at_abs hu hv i) (lb_mono (by omega))) hp).acall ?_ | refine (zadd_can (dot_abs hu hv (Nat.le_of_lt hi)) (Nat.lt_of_lt_of_le (mul_at_abs hu hv i) (lb_mono (by omega))) hp).dcall ?_
    try simp only [E3, Nat.reduceLeDiff, Nat.reduceSub, Nat.reduceAdd, Nat.reduceEqDiff, reduceCtorEq, ↓reduceIte]
    refine Safe.rg rfl ?_
    simp only [mat_dot_r6, hiw, E3, Nat.reduceLeDiff, Nat.reduceSub, Nat.reduceAdd, Nat.reduceEqDiff, reduceCtorEq, ↓reduceIte]
    refine Safe.keep [0, 1, 4, 5, 8, 9, 7] ?_
    simp only [E3, Nat.reduceLeDiff, Nat.reduceSub, Nat.reduceAdd, Nat.reduceEqDiff, reduceCtorEq, ↓reduceIte]
    exact ih
  · refine Safe.inLoop ?_
    refine Safe.rg rfl ?_
    simp only [mat_dot_r3, Int.lt_irrefl, E3, Nat.reduceLeDiff, Nat.reduceSub, Nat.reduceAdd, Nat.reduceEqDiff, reduceCtorEq, ↓reduceIte]
    refine Safe.cd rfl ?_
    simp only [E3, Nat.reduceLeDiff, Nat.reduceSub, Nat.reduceAdd, Nat.reduceEqDiff, reduceCtorEq, ↓reduceIte]
    refine Safe.rg rfl ?_
    simp only [mat_dot_r7, E3, Nat.reduceLeDiff, Nat.reduceSub, Nat.reduceAdd, Nat.reduceEqDiff, reduceCtorEq, ↓reduceIte]
    refine Safe.rt rfl ?_
    simp only [E3, Nat.reduceLeDiff, Nat.reduceSub, Nat.reduceAdd, Nat.reduceEqDiff, reduceCtorEq, ↓reduceIte]
    first | exact ⟨rfl, _, rfl⟩ | exact ⟨_, rfl⟩ | exact ⟨trivial, _, rfl⟩

theorem dot_eq (u v : List ZI) (p : Nat) (hu : Vok p u) (hv : Vok p v) (hp : p + p + 2 < 17592186044416) (hl : u.length = v.length) : PureC Pr F_mat_Dot [vecV u, vecV v] (.tup [Z (dotZ u v), .int .i64 0]) := by
  have hl' : (u.length : Int) = (v.length : Int) := by omega
  refine PureC.intro mat_Dot_fn mat_Dot_ok (Nat.le_of_ble_eq_true rfl) (.tup _ (by simp only [List.mem_cons, List.not_mem_nil, or_false, forall_eq_or_imp, forall_eq]; exact ⟨Z_cl _, .int _ _⟩)) fun H hH => ?_
  refine Safe.rg rfl ?_
  simp only [mat_Dot_r0, E3, Nat.reduceLeDiff, Nat.reduceSub, Nat.reduceAdd, Nat.reduceEqDiff, reduceCtorEq, ↓reduceIte]
  refine Safe.rg rfl ?_
  simp only [mat_Dot_r1, hl', E3, Nat.reduceLeDiff, Nat.reduceSub, Nat.reduceAdd, Nat.reduceEqDiff, reduceCtorEq, ↓reduceIte]
  refine Safe.cd rfl ?_
  simp only [E3, Nat.reduceLeDiff, Nat.reduceSub, Nat.reduceAdd, Nat.reduceEqDiff, reduceCtorEq, ↓reduceIte]
  refine Safe.rg rfl ?_
  simp only [mat_Dot_r3, E3, Nat.reduceLeDiff, Nat.reduceSub, Nat.reduceAdd, Nat.reduceEqDiff, reduceCtorEq, ↓reduceIte]
  first | refine (dot_pure u v p hu hv hp hl).acall ?_ | refine (dot_pure u v p hu hv hp hl).dcall ?_
  try simp only [E3, Nat.reduceLeDiff, Nat.reduceSub, Nat.reduceAdd, Nat.reduceEqDiff, reduceCtorEq, ↓reduceIte]
  refine Safe.rt rfl ?_
  simp only [E3, Nat.reduceLeDiff, Nat.reduceSub, Nat.reduceAdd, Nat.reduceEqDiff, reduceCtorEq, ↓reduceIte]
  first | exact ⟨rfl, _, rfl⟩ | exact ⟨_, rfl⟩ | exact ⟨trivial, _, rfl⟩

theorem dot_ne (u v : List ZI) (hl : u.length ≠ v.length) : PureC Pr F_mat_Dot [vecV u, vecV v] (.tup [Z 0, .int .i64 8]) := by
  have hl' : ¬ (u.length : Int) = (v.length : Int) := by omega
  refine PureC.introL mat_Dot_fn mat_Dot_ok (Nat.le_of_ble_eq_true rfl) (.tup _ (by simp only [List.mem_cons, List.not_mem_nil, or_false, forall_eq_or_imp, forall_eq]; exact ⟨Z_cl _, .int _ _⟩)) fun H hH => ?_
  refine Safe.rg rfl ?_
  simp only [mat_Dot_r0, E3, Nat.reduceLeDiff, Nat.reduceSub, Nat.reduceAdd, Nat.reduceEqDiff, reduceCtorEq, ↓reduceIte]
  refine Safe.rg rfl ?_
  simp only [mat_Dot_r1, hl', E3, Nat.reduceLeDiff, Nat.reduceSub, Nat.reduceAdd, Nat.reduceEqDiff, reduceCtorEq, ↓reduceIte]
  refine Safe.cd rfl ?_
  simp only [E3, Nat.reduceLeDiff, Nat.reduceSub, Nat.reduceAdd, Nat.reduceEqDiff, reduceCtorEq, ↓reduceIte]
  refine Safe.rg rfl ?_
  simp only [mat_Dot_r2, E3, Nat.reduceLeDiff, Nat.reduceSub, Nat.reduceAdd, Nat.reduceEqDiff, reduceCtorEq, ↓reduceIte]
  refine Safe.rt rfl ?_
  simp only [E3, Nat.reduceLeDiff, Nat.reduceSub, Nat.reduceAdd, Nat.reduceEqDiff, reduceCtorEq, ↓reduceIte]
  exact ⟨Le.tup2 le_zero (Le.refl _), _, rfl⟩

theorem norm_vec (v : List ZI) (p : Nat) (hv : Vok p v) (hp : p + p + 2 < 17592186044416) : PureC Pr F_mat_Norm [vecV v] (Z (dotZ v v)) := by
  refine PureC.intro mat_Norm_fn mat_Norm_ok (Nat.le_of_ble_eq_true rfl) (Z_cl _) fun H hH => ?_
  refine Safe.rg rfl ?_
  simp only [mat_Norm_r0, E3, Nat.reduceLeDiff, Nat.reduceSub, Nat.reduceAdd, Nat.reduceEqDiff, reduceCtorEq, ↓reduceIte]
  refine Safe.rg rfl ?_
  simp only [mat_Norm_r1, E3, Nat.reduceLeDiff, Nat.reduceSub, Nat.reduceAdd, Nat.reduceEqDiff, reduceCtorEq, ↓reduceIte]
  first | refine (dot_pure v v p hv hv hp rfl).acall ?_ | refine (dot_pure v v p hv hv hp rfl).dcall ?_
  try simp only [E3, Nat.reduceLeDiff, Nat.reduceSub, Nat.reduceAdd, Nat.reduceEqDiff, reduceCtorEq, ↓reduceIte]
  refine Safe.rt rfl ?_
  simp only [E3, Nat.reduceLeDiff, Nat.reduceSub, Nat.reduceAdd, Nat.reduceEqDiff, reduceCtorEq, ↓reduceIte]
  first | exact ⟨rfl, _, rfl⟩ | exact ⟨_, rfl⟩ | exact ⟨trivial, _, rfl⟩

theorem rdot_eq (u v : List ZI) (p : Nat) (hu : Vok p u) (hv : Vok p v) (hp : p + p + 2 < 17592186044416) (hl : u.length = v.length) : PureC Pr F_ref04_Dot [vecV u, vecV v] (.tup [Z (dotZ u v), .int .i64 0]) := by
  have hul := hu.len
  have hl' : (u.length : Int) = (v.length : Int) := by omega
  refine PureC.intro ref04_Dot_fn ref04_Dot_ok (Nat.le_of_ble_eq_true rfl) (.tup _ (by simp only [List.mem_cons, List.not_mem_nil, or_false, forall_eq_or_imp, forall_eq]; exact ⟨Z_cl _, .int _ _⟩)) fun H hH => ?_
  refine Safe.rg rfl ?_
  simp only [ref04_Dot_r0, E3, Nat.reduceLeDiff, Nat.reduceSub, Nat.reduceAdd, Nat.reduceEqDiff, reduceCtorEq, ↓reduceIte]
  refine Safe.rg rfl ?_
  simp only [ref04_Dot_r1, hl', E3, Nat.reduceLeDiff, Nat.reduceSub, Nat.reduceAdd, Nat.reduceEqDiff, reduceCtorEq, ↓reduceIte]
  refine Safe.cd rfl ?_
  simp only [E3, Nat.reduceLeDiff, Nat.reduceSub, Nat.reduceAdd, Nat.reduceEqDiff, reduceCtorEq, ↓reduceIte]
  refine Safe.rg rfl ?_
  simp only [ref04_Dot_r3, E3, Nat.reduceLeDiff, Nat.reduceSub, Nat.reduceAdd, Nat.reduceEqDiff, reduceCtorEq, ↓reduceIte]
  first | refine (r2of_pure 0 (by omega) (by omega)).acall ?_ | refine (r2of_pure 0 (by omega) (by omega)).dcall ?_
  try simp only [E3, Nat.reduceLeDiff, Nat.reduceSub, Nat.reduceAdd, Nat.reduceEqDiff, reduceCtorEq, ↓reduceIte]
  refine Safe.rg rfl ?_
  simp only [ref04_Dot_r4, E3, Nat.reduceLeDiff, Nat.reduceSub, Nat.reduceAdd, Nat.reduceEqDiff, reduceCtorEq, ↓reduceIte]
  refine Safe.lp rfl ?_
  refine Safe.keep [0, 1, 4, 6, 7] ?_
  try simp only [E3, Nat.reduceLeDiff, Nat.reduceSub, Nat.reduceAdd, Nat.reduceEqDiff, reduceCtorEq, ↓reduceIte]
  refine Safe.loopN (u.length) (fun i => [(0, vecV u), (1, vecV v), (4, .loc (lid H 0) 0 0), (6, .loc (lid H 1) 0 0), (7, .int .i64 i)]) (fun i => hap H [some ⟨2, [.agg [.bool false, .nil]]⟩, some ⟨2, [Z (sumTo (fun i => zg u i * zg v i) i)]⟩]) rfl rfl (fun i hi ih => ?_) ?_
  · have hlt : (i : Int) < (u.length : Int) := by omega
    have hiw : IntKind.wrap .i64 ((i : Int) + 1) = ((i + 1 : Nat) : Int) := by rw [wrap_i64] <;> omega
    refine Safe.inLoop ?_
    refine Safe.rg rfl ?_
    simp only [ref04_Dot_r5, hlt, E3, Nat.reduceLeDiff, Nat.reduceSub, Nat.reduceAdd, Nat.reduceEqDiff, reduceCtorEq, ↓reduceIte]
    refine Safe.cd rfl ?_
    simp only [E3, Nat.reduceLeDiff, Nat.reduceSub, Nat.reduceAdd, Nat.reduceEqDiff, reduceCtorEq, ↓reduceIte]
    refine Safe.rg rfl ?_
    simp only [ref04_Dot_r6, vec_idx _ u _ i (by omega), vec_idx _ v _ i (by omega), E3, Nat.reduceLeDiff, Nat.reduceSub, Nat.reduceAdd, Nat.reduceEqDiff, reduceCtorEq, ↓reduceIte]
    first | refine (r2mul_at u v hu hv (by omega) hi (by omega)).acall ?_ | refine (r2mul_at u v hu hv (by omega) hi (by omega)).dcall ?_
    try simp only [E3, Nat.reduceLeDiff, Nat.reduceSub, Nat.reduceAdd, Nat.reduceEqDiff, reduceCtorEq, ↓reduceIte]
    first | refine (r2add_can (dot_abs hu hv (Nat.le_of_lt hi)) (Nat.lt_of_lt_of_le (mul_at_abs hu hv i) (lb_mono (by omega))) hp).acall ?_ | refine (r2add_can (dot_abs hu hv (Nat.le_of_lt hi)) (Nat.lt_of_lt_of_le (mul_at_abs hu hv i) (lb_mono (by omega))) hp).dcall ?_
    try simp only [E3, Nat.reduceLeDiff, Nat.reduceSub, Nat.reduceAdd, Nat.reduceEqDiff, reduceCtorEq, ↓reduceIte]
    refine Safe.rg rfl ?_
    simp only [ref04_Dot_r7, hiw, E3, Nat.reduceLeDiff, Nat.reduceSub, Nat.reduceAdd, Nat.reduceEqDiff, reduceCtorEq, ↓reduceIte]
    refine Safe.keep [0, 1, 4, 6, 7] ?_
    simp only [E3, Nat.reduceLeDiff, Nat.reduceSub, Nat.reduceAdd, Nat.reduceEqDiff, reduceCtorEq, ↓reduceIte]
    exact ih
  · refine Safe.inLoop ?_
    refine Safe.rg rfl ?_
    simp only [ref04_Dot_r5, Int.lt_irrefl, E3, Nat.reduceLeDiff, Nat.reduceSub, Nat.reduceAdd, Nat.reduceEqDiff, reduceCtorEq, ↓reduceIte]
    refine Safe.cd rfl ?_
    simp only [E3, Nat.reduceLeDiff, Nat.reduceSub, Nat.reduceAdd, Nat.reduceEqDiff, reduceCtorEq, ↓reduceIte]
    refine Safe.rg rfl ?_
    simp only [ref04_Dot_r8, E3, Nat.reduceLeDiff, Nat.reduceSub, Nat.reduceAdd, Nat.reduceEqDiff, reduceCtorEq, ↓reduceIte]
    refine Safe.rt rfl ?_
    simp only [E3, Nat.reduceLeDiff, Nat.reduceSub, Nat.reduceAdd, Nat.reduceEqDiff, reduceCtorEq, ↓reduceIte]
    first | exact ⟨rfl, _, rfl⟩ | exact ⟨_, rfl⟩ | exact ⟨trivial, _, rfl⟩

theorem rdot_ne (u v : List ZI) (hl : u.length ≠ v.length) : PureC Pr F_ref04_Dot [vecV u, vecV v] (.tup [Z 0, .int .i64 8]) := by
  have hl' : ¬ (u.length : Int) = (v.length : Int) := by omega
  refine PureC.introL ref04_Dot_fn ref04_Dot_ok (Nat.le_of_ble_eq_true rfl) (.tup _ (by simp only [List.mem_cons, List.not_mem_nil, or_false, forall_eq_or_imp, forall_eq]; exact ⟨Z_cl _, .int _ _⟩)) fun H hH => ?_
  refine Safe.rg rfl ?_
  simp only [ref04_Dot_r0, E3, Nat.reduceLeDiff, Nat.reduceSub, Nat.reduceAdd, Nat.reduceEqDiff, reduceCtorEq, ↓reduceIte]
  refine Safe.rg rfl ?_
  simp only [ref04_Dot_r1, hl', E3, Nat.reduceLeDiff, Nat.reduceSub, Nat.reduceAdd, Nat.reduceEqDiff, reduceCtorEq, ↓reduceIte]
  refine Safe.cd rfl ?_
  simp only [E3, Nat.reduceLeDiff, Nat.reduceSub, Nat.reduceAdd, Nat.reduceEqDiff, reduceCtorEq, ↓reduceIte]
  refine Safe.rg rfl ?_
  simp only [ref04_Dot_r2, E3, Nat.reduceLeDiff, Nat.reduceSub, Nat.reduceAdd, Nat.reduceEqDiff, reduceCtorEq, ↓reduceIte]
  refine Safe.rt rfl ?_
  simp only [E3, Nat.reduceLeDiff, Nat.reduceSub, Nat.reduceAdd, Nat.reduceEqDiff, reduceCtorEq, ↓reduceIte]
  exact ⟨Le.tup2 le_zero (Le.refl _), _, rfl⟩

theorem rnorm_vec (v : List ZI) (p : Nat) (hv : Vok p v) (hp : p + p + 2 < 17592186044416) : PureC Pr F_ref04_Norm [vecV v] (Z (dotZ v v)) := by
  refine PureC.intro ref04_Norm_fn ref04_Norm_ok (Nat.le_of_ble_eq_true rfl) (Z_cl _) fun H hH => ?_
  refine Safe.rg rfl ?_
  simp only [ref04_Norm_r0, E3, Nat.reduceLeDiff, Nat.reduceSub, Nat.reduceAdd, Nat.reduceEqDiff, reduceCtorEq, ↓reduceIte]
  refine Safe.rg rfl ?_
  simp only [ref04_Norm_r1, E3, Nat.reduceLeDiff, Nat.reduceSub, Nat.reduceAdd, Nat.reduceEqDiff, reduceCtorEq, ↓reduceIte]
  first | refine (rdot_eq v v p hv hv hp rfl).acall ?_ | refine (rdot_eq v v p hv hv hp rfl).dcall ?_
  try simp only [E3, Nat.reduceLeDiff, Nat.reduceSub, Nat.reduceAdd, Nat.reduceEqDiff, reduceCtorEq, ↓reduceIte]
  refine Safe.rg rfl ?_
  simp only [ref04_Norm_r2, E3, Nat.reduceLeDiff, Nat.reduceSub, Nat.reduceAdd, Nat.reduceEqDiff, reduceCtorEq, ↓reduceIte]
  refine Safe.rt rfl ?_
  simp only [E3, Nat.reduceLeDiff, Nat.reduceSub, Nat.reduceAdd, Nat.reduceEqDiff, reduceCtorEq, ↓reduceIte]
  first | exact ⟨rfl, _, rfl⟩ | exact ⟨_, rfl⟩ | exact ⟨trivial, _, rfl⟩

theorem times1_pure (k x : ZI) (p q : Nat) (hk : Zok p k) (hx : Zok q x) (hpq : p + q ≤ 17592186044416) : PureC Pr F_mat_Times_1 [x.av, .ro k.av 0] (Z (k.z * x.z)) := by
  have hm := zmul_pure k x p q hk hx hpq
  obtain ⟨n, m⟩ := k
  obtain ⟨n', m'⟩ := x
  simp only [ZI.av] at hm ⊢
  refine PureC.intro mat_Times_1_fn mat_Times_1_ok (Nat.le_of_ble_eq_true rfl) (Z_cl _) fun H hH => ?_
  refine Safe.rg rfl ?_
  simp only [mat_Times_1_r0, E3, Nat.reduceLeDiff, Nat.reduceSub, Nat.reduceAdd, Nat.reduceEqDiff, reduceCtorEq, ↓reduceIte]
  refine Safe.rg rfl ?_
  simp only [mat_Times_1_r1, E3, Nat.reduceLeDiff, Nat.reduceSub, Nat.reduceAdd, Nat.reduceEqDiff, reduceCtorEq, ↓reduceIte]
  first | refine (hm).acall ?_ | refine (hm).dcall ?_
  try simp only [E3, Nat.reduceLeDiff, Nat.reduceSub, Nat.reduceAdd, Nat.reduceEqDiff, reduceCtorEq, ↓reduceIte]
  refine Safe.rt rfl ?_
  simp only [E3, Nat.reduceLeDiff, Nat.reduceSub, Nat.reduceAdd, Nat.reduceEqDiff, reduceCtorEq, ↓reduceIte]
  first | exact ⟨rfl, _, rfl⟩ | exact ⟨_, rfl⟩ | exact ⟨trivial, _, rfl⟩

theorem cl_tup2 {a b : AV} (ha : Cl a) (hb : Cl b) : Cl (.tup [a, b]) := .tup _ (by
  intro c hc
  simp only [List.mem_cons, List.not_mem_nil, or_false] at hc
  rcases hc with rfl | rfl
  · exact ha
  · exact hb)
theorem cl_tup3 {a b d : AV} (ha : Cl a) (hb : Cl b) (hd : Cl d) : Cl (.tup [a, b, d]) := .tup _ (by
  intro c hc
  simp only [List.mem_cons, List.not_mem_nil, or_false] at hc
  rcases hc with rfl | rfl | rfl
  · exact ha
  · exact hb
  · exact hd)
theorem cl_one {a : AV} (ha : Cl a) : ∀ c ∈ [a], Cl c := by
  intro c hc
  simp only [List.mem_cons, List.not_mem_nil, or_false] at hc
  subst hc; exact ha

theorem mtimes_pure (k : ZI) (v : List ZI) (p q : Nat) (hk : Zok p k) (hv : Vok q v) (hpq : p + q ≤ 17592186044416) : PureC Pr F_mat_Times [k.av, vecV v] (vecV (vec v.length fun i => k.z * zg v i)) := by
  have hvl := hv.len
  have hcl := ZI.cl k
  have he := each_II F_mat_Times_1 [.ro k.av 0] v (fun i => k.z * zg v i) hv.len (cl_one (.ro _ _ (clcells hcl))) fun i h => by
    have := times1_pure k v[i] p q hk (hv.get h) hpq
    rwa [← zg_lt h] at this
  obtain ⟨n, m⟩ := k
  simp only [ZI.av] at he hcl ⊢
  refine PureC.intro mat_Times_fn mat_Times_ok (Nat.le_of_ble_eq_true rfl) (vecV_cl _) fun H hH => ?_
  refine Safe.rg rfl ?_
  simp only [mat_Times_r0, E3, Nat.reduceLeDiff, Nat.reduceSub, Nat.reduceAdd, Nat.reduceEqDiff, reduceCtorEq, ↓reduceIte]
  refine Safe.freeze 0 (b := ⟨2, [.agg [.bool n, natV m]]⟩) hH rfl rfl (by simpa only [Blk.flat, List.flatMap_cons, List.flatMap_nil, List.append_nil] using clcells hcl) ?_
  simp only [frz_loc_same, E3, Nat.reduceLeDiff, Nat.reduceSub, Nat.reduceAdd, Nat.reduceEqDiff, reduceCtorEq, ↓reduceIte]
  refine Safe.rg rfl ?_
  simp only [mat_Times_r1, E3, Nat.reduceLeDiff, Nat.reduceSub, Nat.reduceAdd, Nat.reduceEqDiff, reduceCtorEq, ↓reduceIte]
  first | refine (he).acall ?_ | refine (he).dcall ?_
  try simp only [E3, Nat.reduceLeDiff, Nat.reduceSub, Nat.reduceAdd, Nat.reduceEqDiff, reduceCtorEq, ↓reduceIte]
  refine Safe.rt rfl ?_
  simp only [E3, Nat.reduceLeDiff, Nat.reduceSub, Nat.reduceAdd, Nat.reduceEqDiff, reduceCtorEq, ↓reduceIte]
  first | exact ⟨rfl, _, rfl⟩ | exact ⟨_, rfl⟩ | exact ⟨trivial, _, rfl⟩

theorem Le.nilvec : Le .nil (vecV []) := Le.nil 2 (by decide)
theorem Le.nilmat : Le .nil (matV []) := Le.nil 1 (by decide)

theorem pairs_eq (g : FuncId) (u v : List ZI) (f : Nat → Int) (hu : u.length ≤ 2097152) (hl : u.length = v.length) (hf : ∀ (i : Nat) (h : i < u.length) (h' : i < v.length), PureC Pr g [u[i].av, v[i].av] (Z (f i))) : PureC Pr F_mat_pairs [vecV u, vecV v, .fn g []] (.tup [vecV (vec u.length f), .int .i64 0]) := by
  have hl' : (u.length : Int) = (v.length : Int) := by omega
  refine PureC.intro mat_pairs_fn mat_pairs_ok (Nat.le_of_ble_eq_true rfl) (cl_tup2 (vecV_cl _) (.int _ _)) fun H hH => ?_
  refine Safe.rg rfl ?_
  simp only [mat_pairs_r0, E3, Nat.reduceLeDiff, Nat.reduceSub, Nat.reduceAdd, Nat.reduceEqDiff, reduceCtorEq, ↓reduceIte]
  refine Safe.rg rfl ?_
  simp only [mat_pairs_r1, hl', E3, Nat.reduceLeDiff, Nat.reduceSub, Nat.reduceAdd, Nat.reduceEqDiff, reduceCtorEq, ↓reduceIte]
  refine Safe.cd rfl ?_
  simp only [E3, Nat.reduceLeDiff, Nat.reduceSub, Nat.reduceAdd, Nat.reduceEqDiff, reduceCtorEq, ↓reduceIte]
  refine Safe.rg rfl ?_
  simp only [mat_pairs_r3, E3, Nat.reduceLeDiff, Nat.reduceSub, Nat.reduceAdd, Nat.reduceEqDiff, reduceCtorEq, ↓reduceIte]
  refine Safe.rg rfl ?_
  simp only [mat_pairs_r4, E3, Nat.reduceLeDiff, Nat.reduceSub, Nat.reduceAdd, Nat.reduceEqDiff, reduceCtorEq, ↓reduceIte]
  refine Safe.nilrow 8 2 (by decide) (by simp only [E3, Nat.reduceLeDiff, Nat.reduceSub, Nat.reduceAdd, Nat.reduceEqDiff, reduceCtorEq, ↓reduceIte]) ?_
  refine Safe.lp rfl ?_
  refine Safe.keep [0, 1, 2, 8, 16, 17] ?_
  try simp only [E3, Nat.reduceLeDiff, Nat.reduceSub, Nat.reduceAdd, Nat.reduceEqDiff, reduceCtorEq, ↓reduceIte]
  refine Safe.loopN (u.length) (fun i => [(0, vecV u), (1, vecV v), (2, .fn g []), (8, .mu (lid H 0) 0 i none), (16, .int .i64 u.length), (17, .int .i64 i)]) (fun i => hap H [some ⟨2, (vec i f).map ZI.av⟩]) rfl rfl (fun i hi ih => ?_) ?_
  · have hlt : (i : Int) < (u.length : Int) := by omega
    have hiw : IntKind.wrap .i64 ((i : Int) + 1) = ((i + 1 : Nat) : Int) := by rw [wrap_i64] <;> omega
    refine Safe.inLoop ?_
    refine Safe.rg rfl ?_
    simp only [mat_pairs_r5, hlt, E3, Nat.reduceLeDiff, Nat.reduceSub, Nat.reduceAdd, Nat.reduceEqDiff, reduceCtorEq, ↓reduceIte]
    refine Safe.cd rfl ?_
    simp only [E3, Nat.reduceLeDiff, Nat.reduceSub, Nat.reduceAdd, Nat.reduceEqDiff, reduceCtorEq, ↓reduceIte]
    refine Safe.rg rfl ?_
    simp only [mat_pairs_r6, E3, Nat.reduceLeDiff, Nat.reduceSub, Nat.reduceAdd, Nat.reduceEqDiff, reduceCtorEq, ↓reduceIte]
    refine Safe.rg rfl ?_
    simp only [mat_pairs_r7, vec_idx _ u _ i (by omega), vec_idx _ v _ i (by omega), E3, Nat.reduceLeDiff, Nat.reduceSub, Nat.reduceAdd, Nat.reduceEqDiff, reduceCtorEq, ↓reduceIte]
    first | refine (hf i hi (by omega)).acall ?_ | refine (hf i hi (by omega)).dcall ?_
    try simp only [E3, Nat.reduceLeDiff, Nat.reduceSub, Nat.reduceAdd, Nat.reduceEqDiff, reduceCtorEq, ↓reduceIte]
    rw [app_row hH 0 (lid_ge H 0) ZI.cl (vec i f) (canZ (f i)) (vec (i + 1) f) ?hlen ?hl ?hL ?hy ?hl2 ?hb ?hbb]
    case hlen => first | rfl | (simp only [vec_length, mat_length, List.length_map, List.length_take]; done) | (simp only [vec_length, mat_length, List.length_map, List.length_take]; omega)
    case hl => rfl
    case hL => repeat (first | exact RC.nil | refine RC.none ?_ | refine RC.row ZI.cl ?_ | refine RC.row vecV_cl ?_ | refine RC.emp ?_ | refine RC.zero ?_ | refine RC.one (Z_cl _) ?_ | refine RC.one (ZI.cl _) ?_ | refine RC.one (vecV_cl _) ?_)
    case hy => rfl
    case hl2 => first | exact vec_succ _ _ | exact mat_succ _ _ | exact take_succ _ (by omega) | exact take_map_succ _ _ (by omega)
    case hb => omega
    case hbb => omega
    simp only [E3, Nat.reduceLeDiff, Nat.reduceSub, Nat.reduceAdd, Nat.reduceEqDiff, reduceCtorEq, ↓reduceIte]
    refine Safe.rg rfl ?_
    simp only [mat_pairs_r8, hiw, E3, Nat.reduceLeDiff, Nat.reduceSub, Nat.reduceAdd, Nat.reduceEqDiff, reduceCtorEq, ↓reduceIte]
    refine Safe.keep [0, 1, 2, 8, 16, 17] ?_
    simp only [E3, Nat.reduceLeDiff, Nat.reduceSub, Nat.reduceAdd, Nat.reduceEqDiff, reduceCtorEq, ↓reduceIte]
    exact ih
  · refine Safe.inLoop ?_
    refine Safe.rg rfl ?_
    simp only [mat_pairs_r5, Int.lt_irrefl, E3, Nat.reduceLeDiff, Nat.reduceSub, Nat.reduceAdd, Nat.reduceEqDiff, reduceCtorEq, ↓reduceIte]
    refine Safe.cd rfl ?_
    simp only [E3, Nat.reduceLeDiff, Nat.reduceSub, Nat.reduceAdd, Nat.reduceEqDiff, reduceCtorEq, ↓reduceIte]
    refine Safe.freeze 0 hH rfl rfl (blk_map 2 ZI.av _ ZI.cl) ?_
    refine Safe.keep [8] ?_
    simp only [frz_row 0 2 ZI.av (vec u.length f) u.length none (vec_length _ _).symm, E3, Nat.reduceLeDiff, Nat.reduceSub, Nat.reduceAdd, Nat.reduceEqDiff, reduceCtorEq, ↓reduceIte]
    refine Safe.rg rfl ?_
    simp only [mat_pairs_r9, E3, Nat.reduceLeDiff, Nat.reduceSub, Nat.reduceAdd, Nat.reduceEqDiff, reduceCtorEq, ↓reduceIte]
    refine Safe.rt rfl ?_
    simp only [E3, Nat.reduceLeDiff, Nat.reduceSub, Nat.reduceAdd, Nat.reduceEqDiff, reduceCtorEq, ↓reduceIte]
    first | exact ⟨rfl, _, rfl⟩ | exact ⟨_, rfl⟩ | exact ⟨trivial, _, rfl⟩

theorem pairs_ne (g : FuncId) (u v : List ZI) (hl : u.length ≠ v.length) : PureC Pr F_mat_pairs [vecV u, vecV v, .fn g []] (.tup [vecV [], .int .i64 8]) := by
  have hl' : ¬ (u.length : Int) = (v.length : Int) := by omega
  refine PureC.introL mat_pairs_fn mat_pairs_ok (Nat.le_of_ble_eq_true rfl) (cl_tup2 (vecV_cl _) (.int _ _)) fun H hH => ?_
  refine Safe.rg rfl ?_
  simp only [mat_pairs_r0, E3, Nat.reduceLeDiff, Nat.reduceSub, Nat.reduceAdd, Nat.reduceEqDiff, reduceCtorEq, ↓reduceIte]
  refine Safe.rg rfl ?_
  simp only [mat_pairs_r1, hl', E3, Nat.reduceLeDiff, Nat.reduceSub, Nat.reduceAdd, Nat.reduceEqDiff, reduceCtorEq, ↓reduceIte]
  refine Safe.cd rfl ?_
  simp only [E3, Nat.reduceLeDiff, Nat.reduceSub, Nat.reduceAdd, Nat.reduceEqDiff, reduceCtorEq, ↓reduceIte]
  refine Safe.rg rfl ?_
  simp only [mat_pairs_r2, E3, Nat.reduceLeDiff, Nat.reduceSub, Nat.reduceAdd, Nat.reduceEqDiff, reduceCtorEq, ↓reduceIte]
  refine Safe.rt rfl ?_
  simp only [E3, Nat.reduceLeDiff, Nat.reduceSub, Nat.reduceAdd, Nat.reduceEqDiff, reduceCtorEq, ↓reduceIte]
  exact ⟨Le.tup2 Le.nilvec (Le.refl _), _, rfl⟩

section
variable (u v : List ZI) (p : Nat) (hu : Vok p u) (hv : Vok p v) (hp : p < 17592186044416)
include hu hv hp
theorem plus_eq (hl : u.length = v.length) : PureC Pr F_mat_Plus [vecV u, vecV v] (.tup [vecV (vec u.length fun i => zg u i + zg v i), .int .i64 0]) := by
  have hc := pairs_eq F_zint_Add u v (fun i => zg u i + zg v i) hu.len hl fun i h h' => by
    have := zadd_pure u[i] v[i] p (hu.get h) (hv.get h') hp
    rwa [← zg_lt h, ← zg_lt h'] at this
  refine PureC.intro mat_Plus_fn mat_Plus_ok (Nat.le_of_ble_eq_true rfl) (cl_tup2 (vecV_cl _) (.int _ _)) fun H hH => ?_
  refine Safe.rg rfl ?_
  simp only [mat_Plus_r0, E3, Nat.reduceLeDiff, Nat.reduceSub, Nat.reduceAdd, Nat.reduceEqDiff, reduceCtorEq, ↓reduceIte]
  refine Safe.rg rfl ?_
  simp only [mat_Plus_r1, E3, Nat.reduceLeDiff, Nat.reduceSub, Nat.reduceAdd, Nat.reduceEqDiff, reduceCtorEq, ↓reduceIte]
  first | refine (hc).acall ?_ | refine (hc).dcall ?_
  try simp only [E3, Nat.reduceLeDiff, Nat.reduceSub, Nat.reduceAdd, Nat.reduceEqDiff, reduceCtorEq, ↓reduceIte]
  refine Safe.rt rfl ?_
  simp only [E3, Nat.reduceLeDiff, Nat.reduceSub, Nat.reduceAdd, Nat.reduceEqDiff, reduceCtorEq, ↓reduceIte]
  first | exact ⟨rfl, _, rfl⟩ | exact ⟨_, rfl⟩ | exact ⟨trivial, _, rfl⟩
theorem minus_eq (hl : u.length = v.length) : PureC Pr F_mat_Minus [vecV u, vecV v] (.tup [vecV (vec u.length fun i => zg u i - zg v i), .int .i64 0]) := by
  have hc := pairs_eq F_zint_Sub u v (fun i => zg u i - zg v i) hu.len hl fun i h h' => by
    have := zsub_pure u[i] v[i] p (hu.get h) (hv.get h') hp
    rwa [← zg_lt h, ← zg_lt h'] at this
  refine PureC.intro mat_Minus_fn mat_Minus_ok (Nat.le_of_ble_eq_true rfl) (cl_tup2 (vecV_cl _) (.int _ _)) fun H hH => ?_
  refine Safe.rg rfl ?_
  simp only [mat_Minus_r0, E3, Nat.reduceLeDiff, Nat.reduceSub, Nat.reduceAdd, Nat.reduceEqDiff, reduceCtorEq, ↓reduceIte]
  refine Safe.rg rfl ?_
  simp only [mat_Minus_r1, E3, Nat.reduceLeDiff, Nat.reduceSub, Nat.reduceAdd, Nat.reduceEqDiff, reduceCtorEq, ↓reduceIte]
  first | refine (hc).acall ?_ | refine (hc).dcall ?_
  try simp only [E3, Nat.reduceLeDiff, Nat.reduceSub, Nat.reduceAdd, Nat.reduceEqDiff, reduceCtorEq, ↓reduceIte]
  refine Safe.rt rfl ?_
  simp only [E3, Nat.reduceLeDiff, Nat.reduceSub, Nat.reduceAdd, Nat.reduceEqDiff, reduceCtorEq, ↓reduceIte]
  first | exact ⟨rfl, _, rfl⟩ | exact ⟨_, rfl⟩ | exact ⟨trivial, _, rfl⟩
theorem rplus_eq (hl : u.length = v.length) : PureC Pr F_ref04_Plus [vecV u, vecV v] (.tup [vecV (vec u.length fun i => zg u i + zg v i), .int .i64 0]) := by
  have hul := hu.len
  have hl' : (u.length : Int) = (v.length : Int) := by omega
  refine PureC.intro ref04_Plus_fn ref04_Plus_ok (Nat.le_of_ble_eq_true rfl) (cl_tup2 (vecV_cl _) (.int _ _)) fun H hH => ?_
  refine Safe.rg rfl ?_
  simp only [ref04_Plus_r0, E3, Nat.reduceLeDiff, Nat.reduceSub, Nat.reduceAdd, Nat.reduceEqDiff, reduceCtorEq, ↓reduceIte]
  refine Safe.rg rfl ?_
  simp only [ref04_Plus_r1, hl', E3, Nat.reduceLeDiff, Nat.reduceSub, Nat.reduceAdd, Nat.reduceEqDiff, reduceCtorEq, ↓reduceIte]
  refine Safe.cd rfl ?_
  simp only [E3, Nat.reduceLeDiff, Nat.reduceSub, Nat.reduceAdd, Nat.reduceEqDiff, reduceCtorEq, ↓reduceIte]
  refine Safe.rg rfl ?_
  simp only [ref04_Plus_r3, E3, Nat.reduceLeDiff, Nat.reduceSub, Nat.reduceAdd, Nat.reduceEqDiff, reduceCtorEq, ↓reduceIte]
  refine Safe.rg rfl ?_
  simp only [ref04_Plus_r4, E3, Nat.reduceLeDiff, Nat.reduceSub, Nat.reduceAdd, Nat.reduceEqDiff, reduceCtorEq, ↓reduceIte]
  refine Safe.nilrow 6 2 (by decide) (by simp only [E3, Nat.reduceLeDiff, Nat.reduceSub, Nat.reduceAdd, Nat.reduceEqDiff, reduceCtorEq, ↓reduceIte]) ?_
  refine Safe.lp rfl ?_
  refine Safe.keep [0, 1, 6, 7] ?_
  try simp only [E3, Nat.reduceLeDiff, Nat.reduceSub, Nat.reduceAdd, Nat.reduceEqDiff, reduceCtorEq, ↓reduceIte]
  refine Safe.loopN (u.length) (fun i => [(0, vecV u), (1, vecV v), (6, .mu (lid H 0) 0 i none), (7, .int .i64 i)]) (fun i => hap H [some ⟨2, (vec i fun i => zg u i + zg v i).map ZI.av⟩]) rfl rfl (fun i hi ih => ?_) ?_
  · have hlt : (i : Int) < (v.length : Int) := by omega
    have hadd := r2add_pure u[i] v[i] p (hu.get hi) (hv.get (by omega)) hp
    rw [← zg_lt hi, ← zg_lt (show i < v.length by omega)] at hadd
    have hiw : IntKind.wrap .i64 ((i : Int) + 1) = ((i + 1 : Nat) : Int) := by rw [wrap_i64] <;> omega
    refine Safe.inLoop ?_
    refine Safe.rg rfl ?_
    simp only [ref04_Plus_r5, hl', hlt, E3, Nat.reduceLeDiff, Nat.reduceSub, Nat.reduceAdd, Nat.reduceEqDiff, reduceCtorEq, ↓reduceIte]
    refine Safe.cd rfl ?_
    simp only [E3, Nat.reduceLeDiff, Nat.reduceSub, Nat.reduceAdd, Nat.reduceEqDiff, reduceCtorEq, ↓reduceIte]
    refine Safe.rg rfl ?_
    simp only [ref04_Plus_r6, vec_idx _ u _ i (by omega), vec_idx _ v _ i (by omega), E3, Nat.reduceLeDiff, Nat.reduceSub, Nat.reduceAdd, Nat.reduceEqDiff, reduceCtorEq, ↓reduceIte]
    first | refine (hadd).acall ?_ | refine (hadd).dcall ?_
    try simp only [E3, Nat.reduceLeDiff, Nat.reduceSub, Nat.reduceAdd, Nat.reduceEqDiff, reduceCtorEq, ↓reduceIte]
    rw [app_row hH 0 (lid_ge H 0) ZI.cl (vec i fun i => zg u i + zg v i) (canZ (zg u i + zg v i)) (vec (i + 1) fun i => zg u i + zg v i) ?hlen ?hl ?hL ?hy ?hl2 ?hb ?hbb]
    case hlen => first | rfl | (simp only [vec_length, mat_length, List.length_map, List.length_take]; done) | (simp only [vec_length, mat_length, List.length_map, List.length_take]; omega)
    case hl => rfl
    case hL => repeat (first | exact RC.nil | refine RC.none ?_ | refine RC.row ZI.cl ?_ | refine RC.row vecV_cl ?_ | refine RC.emp ?_ | refine RC.zero ?_ | refine RC.one (Z_cl _) ?_ | refine RC.one (ZI.cl _) ?_ | refine RC.one (vecV_cl _) ?_)
    case hy => rfl
    case hl2 => first | exact vec_succ _ _ | exact mat_succ _ _ | exact take_succ _ (by omega) | exact take_map_succ _ _ (by omega)
    case hb => omega
    case hbb => omega
    simp only [E3, Nat.reduceLeDiff, Nat.reduceSub, Nat.reduceAdd, Nat.reduceEqDiff, reduceCtorEq, ↓reduceIte]
    refine Safe.rg rfl ?_
    simp only [ref04_Plus_r7, hiw, E3, Nat.reduceLeDiff, Nat.reduceSub, Nat.reduceAdd, Nat.reduceEqDiff, reduceCtorEq, ↓reduceIte]
    refine Safe.keep [0, 1, 6, 7] ?_
    simp only [E3, Nat.reduceLeDiff, Nat.reduceSub, Nat.reduceAdd, Nat.reduceEqDiff, reduceCtorEq, ↓reduceIte]
    exact ih
  · refine Safe.inLoop ?_
    refine Safe.rg rfl ?_
    simp only [ref04_Plus_r5, hl', Int.lt_irrefl, E3, Nat.reduceLeDiff, Nat.reduceSub, Nat.reduceAdd, Nat.reduceEqDiff, reduceCtorEq, ↓reduceIte]
    refine Safe.cd rfl ?_
    simp only [E3, Nat.reduceLeDiff, Nat.reduceSub, Nat.reduceAdd, Nat.reduceEqDiff, reduceCtorEq, ↓reduceIte]
    refine Safe.freeze 0 hH rfl rfl (blk_map 2 ZI.av _ ZI.cl) ?_
    refine Safe.keep [6] ?_
    simp only [frz_row 0 2 ZI.av (vec u.length fun i => zg u i + zg v i) u.length none (vec_length _ _).symm, E3, Nat.reduceLeDiff, Nat.reduceSub, Nat.reduceAdd, Nat.reduceEqDiff, reduceCtorEq, ↓reduceIte]
    refine Safe.rg rfl ?_
    simp only [ref04_Plus_r8, E3, Nat.reduceLeDiff, Nat.reduceSub, Nat.reduceAdd, Nat.reduceEqDiff, reduceCtorEq, ↓reduceIte]
    refine Safe.rt rfl ?_
    simp only [E3, Nat.reduceLeDiff, Nat.reduceSub, Nat.reduceAdd, Nat.reduceEqDiff, reduceCtorEq, ↓reduceIte]
    first | exact ⟨rfl, _, rfl⟩ | exact ⟨_, rfl⟩ | exact ⟨trivial, _, rfl⟩
end
theorem plus_ne (u v : List ZI) (hl : u.length ≠ v.length) : PureC Pr F_mat_Plus [vecV u, vecV v] (.tup [vecV [], .int .i64 8]) := by
  refine PureC.intro mat_Plus_fn mat_Plus_ok (Nat.le_of_ble_eq_true rfl) (cl_tup2 (vecV_cl _) (.int _ _)) fun H hH => ?_
  refine Safe.rg rfl ?_
  simp only [mat_Plus_r0, E3, Nat.reduceLeDiff, Nat.reduceSub, Nat.reduceAdd, Nat.reduceEqDiff, reduceCtorEq, ↓reduceIte]
  refine Safe.rg rfl ?_
  simp only [mat_Plus_r1, E3, Nat.reduceLeDiff, Nat.reduceSub, Nat.reduceAdd, Nat.reduceEqDiff, reduceCtorEq, ↓reduceIte]
  first | refine (pairs_ne F_zint_Add u v hl).acall ?_ | refine (pairs_ne F_zint_Add u v hl).dcall ?_
  try simp only [E3, Nat.reduceLeDiff, Nat.reduceSub, Nat.reduceAdd, Nat.reduceEqDiff, reduceCtorEq, ↓reduceIte]
  refine Safe.rt rfl ?_
  simp only [E3, Nat.reduceLeDiff, Nat.reduceSub, Nat.reduceAdd, Nat.reduceEqDiff, reduceCtorEq, ↓reduceIte]
  first | exact ⟨rfl, _, rfl⟩ | exact ⟨_, rfl⟩ | exact ⟨trivial, _, rfl⟩
theorem minus_ne (u v : List ZI) (hl : u.length ≠ v.length) : PureC Pr F_mat_Minus [vecV u, vecV v] (.tup [vecV [], .int .i64 8]) := by
  refine PureC.intro mat_Minus_fn mat_Minus_ok (Nat.le_of_ble_eq_true rfl) (cl_tup2 (vecV_cl _) (.int _ _)) fun H hH => ?_
  refine Safe.rg rfl ?_
  simp only [mat_Minus_r0, E3, Nat.reduceLeDiff, Nat.reduceSub, Nat.reduceAdd, Nat.reduceEqDiff, reduceCtorEq, ↓reduceIte]
  refine Safe.rg rfl ?_
  simp only [mat_Minus_r1, E3, Nat.reduceLeDiff, Nat.reduceSub, Nat.reduceAdd, Nat.reduceEqDiff, reduceCtorEq, ↓reduceIte]
  first | refine (pairs_ne F_zint_Sub u v hl).acall ?_ | refine (pairs_ne F_zint_Sub u v hl).dcall ?_
  try simp only [E3, Nat.reduceLeDiff, Nat.reduceSub, Nat.reduceAdd, Nat.reduceEqDiff, reduceCtorEq, ↓reduceIte]
  refine Safe.rt rfl ?_
  simp only [E3, Nat.reduceLeDiff, Nat.reduceSub, Nat.reduceAdd, Nat.reduceEqDiff, reduceCtorEq, ↓reduceIte]
  first | exact ⟨rfl, _, rfl⟩ | exact ⟨_, rfl⟩ | exact ⟨trivial, _, rfl⟩
theorem rplus_ne (u v : List ZI) (hl : u.length ≠ v.length) : PureC Pr F_ref04_Plus [vecV u, vecV v] (.tup [vecV [], .int .i64 8]) := by
  have hl' : ¬ (u.length : Int) = (v.length : Int) := by omega
  refine PureC.introL ref04_Plus_fn ref04_Plus_ok (Nat.le_of_ble_eq_true rfl) (cl_tup2 (vecV_cl _) (.int _ _)) fun H hH => ?_
  refine Safe.rg rfl ?_
  simp only [ref04_Plus_r0, E3, Nat.reduceLeDiff, Nat.reduceSub, Nat.reduceAdd, Nat.reduceEqDiff, reduceCtorEq, ↓reduceIte]
  refine Safe.rg rfl ?_
  simp only [ref04_Plus_r1, hl', E3, Nat.reduceLeDiff, Nat.reduceSub, Nat.reduceAdd, Nat.reduceEqDiff, reduceCtorEq, ↓reduceIte]
  refine Safe.cd rfl ?_
  simp only [E3, Nat.reduceLeDiff, Nat.reduceSub, Nat.reduceAdd, Nat.reduceEqDiff, reduceCtorEq, ↓reduceIte]
  refine Safe.rg rfl ?_
  simp only [ref04_Plus_r2, E3, Nat.reduceLeDiff, Nat.reduceSub, Nat.reduceAdd, Nat.reduceEqDiff, reduceCtorEq, ↓reduceIte]
  refine Safe.rt rfl ?_
  simp only [E3, Nat.reduceLeDiff, Nat.reduceSub, Nat.reduceAdd, Nat.reduceEqDiff, reduceCtorEq, ↓reduceIte]
  exact ⟨Le.tup2 Le.nilvec (Le.refl _), _, rfl⟩

theorem cans_eq_vec (v : List ZI) (f : Int → Int) : cans (v.map fun x => f x.z) = vec v.length fun i => f (zg v i) := by
  apply List.ext_getElem
  · simp [cans, vec_length]
  · intro i h1 h2
    simp only [cans, List.getElem_map, vec_get]
    rw [zg_lt (by simpa [vec_length] using h2)]
theorem rtimes_vec (k : ZI) (v : List ZI) (p q : Nat) (hk : Zok p k) (hv : Vok q v) (hpq : p + q ≤ 17592186044416) : PureC Pr F_ref04_Times [k.av, vecV v] (vecV (vec v.length fun i => k.z * zg v i)) := by
  have := times_pure k v p q hk hv hpq
  rwa [cans_eq_vec v fun x => k.z * x] at this
theorem vok_neg {p : Nat} {v : List ZI} (hv : Vok p v) : Vok p (vec v.length fun i => -zg v i) := zok_vec hv.len fun i _ => by rw [Int.natAbs_neg]; exact hv.abs i

theorem rneg_vec (v : List ZI) (p : Nat) (hv : Vok p v) (hp : p + 1 < 17592186044416) : PureC Pr F_ref04_Times [Z (-1), vecV v] (vecV (vec v.length fun i => -zg v i)) := by
  have := rtimes_vec (canZ (-1)) v 1 p (zok_can (by decide)) hv (by omega)
  rw [canZ_z] at this
  have e : (vec v.length fun i => -1 * zg v i) = vec v.length fun i => -zg v i := vec_congr fun i _ => by omega
  rwa [e] at this
section
variable (u v : List ZI) (p : Nat) (hu : Vok p u) (hv : Vok p v) (hp : p + 1 < 17592186044416)
include hu hv hp
theorem rminus_eq (hl : u.length = v.length) : PureC Pr F_ref04_Minus [vecV u, vecV v] (.tup [vecV (vec u.length fun i => zg u i - zg v i), .int .i64 0]) := by
  have hadd := rplus_eq u _ p hu (vok_neg hv) (by omega) (by rw [vec_length]; exact hl)
  have e : (vec u.length fun i => zg u i + zg (vec v.length fun i => -zg v i) i) = vec u.length fun i => zg u i - zg v i := vec_congr fun i hi => by rw [zg_vec (by omega)]; omega
  rw [e] at hadd
  refine PureC.intro ref04_Minus_fn ref04_Minus_ok (Nat.le_of_ble_eq_true rfl) (cl_tup2 (vecV_cl _) (.int _ _)) fun H hH => ?_
  refine Safe.rg rfl ?_
  simp only [ref04_Minus_r0, E3, Nat.reduceLeDiff, Nat.reduceSub, Nat.reduceAdd, Nat.reduceEqDiff, reduceCtorEq, ↓reduceIte]
  refine Safe.rg rfl ?_
  simp only [ref04_Minus_r1, E3, Nat.reduceLeDiff, Nat.reduceSub, Nat.reduceAdd, Nat.reduceEqDiff, reduceCtorEq, ↓reduceIte]
  first | refine (r2of_pure (-1) (by omega) (by omega)).acall ?_ | refine (r2of_pure (-1) (by omega) (by omega)).dcall ?_
  try simp only [E3, Nat.reduceLeDiff, Nat.reduceSub, Nat.reduceAdd, Nat.reduceEqDiff, reduceCtorEq, ↓reduceIte]
  first | refine (rneg_vec v p hv hp).acall ?_ | refine (rneg_vec v p hv hp).dcall ?_
  try simp only [E3, Nat.reduceLeDiff, Nat.reduceSub, Nat.reduceAdd, Nat.reduceEqDiff, reduceCtorEq, ↓reduceIte]
  first | refine (hadd).acall ?_ | refine (hadd).dcall ?_
  try simp only [E3, Nat.reduceLeDiff, Nat.reduceSub, Nat.reduceAdd, Nat.reduceEqDiff, reduceCtorEq, ↓reduceIte]
  refine Safe.rt rfl ?_
  simp only [E3, Nat.reduceLeDiff, Nat.reduceSub, Nat.reduceAdd, Nat.reduceEqDiff, reduceCtorEq, ↓reduceIte]
  first | exact ⟨rfl, _, rfl⟩ | exact ⟨_, rfl⟩ | exact ⟨trivial, _, rfl⟩
end
theorem rminus_ne (u v : List ZI) (p : Nat) (hv : Vok p v) (hp : p + 1 < 17592186044416) (hl : u.length ≠ v.length) : PureC Pr F_ref04_Minus [vecV u, vecV v] (.tup [vecV [], .int .i64 8]) := by
  refine PureC.intro ref04_Minus_fn ref04_Minus_ok (Nat.le_of_ble_eq_true rfl) (cl_tup2 (vecV_cl _) (.int _ _)) fun H hH => ?_
  refine Safe.rg rfl ?_
  simp only [ref04_Minus_r0, E3, Nat.reduceLeDiff, Nat.reduceSub, Nat.reduceAdd, Nat.reduceEqDiff, reduceCtorEq, ↓reduceIte]
  refine Safe.rg rfl ?_
  simp only [ref04_Minus_r1, E3, Nat.reduceLeDiff, Nat.reduceSub, Nat.reduceAdd, Nat.reduceEqDiff, reduceCtorEq, ↓reduceIte]
  first | refine (r2of_pure (-1) (by omega) (by omega)).acall ?_ | refine (r2of_pure (-1) (by omega) (by omega)).dcall ?_
  try simp only [E3, Nat.reduceLeDiff, Nat.reduceSub, Nat.reduceAdd, Nat.reduceEqDiff, reduceCtorEq, ↓reduceIte]
  first | refine (rneg_vec v p hv hp).acall ?_ | refine (rneg_vec v p hv hp).dcall ?_
  try simp only [E3, Nat.reduceLeDiff, Nat.reduceSub, Nat.reduceAdd, Nat.reduceEqDiff, reduceCtorEq, ↓reduceIte]
  first | refine (rplus_ne u (vec v.length fun i => -zg v i) (by rw [vec_length]; exact hl)).acall ?_ | refine (rplus_ne u (vec v.length fun i => -zg v i) (by rw [vec_length]; exact hl)).dcall ?_
  try simp only [E3, Nat.reduceLeDiff, Nat.reduceSub, Nat.reduceAdd, Nat.reduceEqDiff, reduceCtorEq, ↓reduceIte]
  refine Safe.rt rfl ?_
  simp only [E3, Nat.reduceLeDiff, Nat.reduceSub, Nat.reduceAdd, Nat.reduceEqDiff, reduceCtorEq, ↓reduceIte]
  first | exact ⟨rfl, _, rfl⟩ | exact ⟨_, rfl⟩ | exact ⟨trivial, _, rfl⟩

theorem eqs_pure (v : List ZI) (hv : Vok 17592186044416 v) : PureC Pr F_law04_eqs [vecV v, vecV v] (.bool true) := by
  have hvl := hv.len
  refine PureC.intro law04_eqs_fn law04_eqs_ok (Nat.le_of_ble_eq_true rfl) (.bool _) fun H hH => ?_
  refine Safe.rg rfl ?_
  simp only [law04_eqs_r0, E3, Nat.reduceLeDiff, Nat.reduceSub, Nat.reduceAdd, Nat.reduceEqDiff, reduceCtorEq, ↓reduceIte]
  refine Safe.rg rfl ?_
  simp only [law04_eqs_r1, E3, Nat.reduceLeDiff, Nat.reduceSub, Nat.reduceAdd, Nat.reduceEqDiff, reduceCtorEq, ↓reduceIte]
  refine Safe.cd rfl ?_
  simp only [E3, Nat.reduceLeDiff, Nat.reduceSub, Nat.reduceAdd, Nat.reduceEqDiff, reduceCtorEq, ↓reduceIte]
  refine Safe.rg rfl ?_
  simp only [law04_eqs_r3, E3, Nat.reduceLeDiff, Nat.reduceSub, Nat.reduceAdd, Nat.reduceEqDiff, reduceCtorEq, ↓reduceIte]
  refine Safe.lp rfl ?_
  refine Safe.keep [0, 1, 5] ?_
  try simp only [E3, Nat.reduceLeDiff, Nat.reduceSub, Nat.reduceAdd, Nat.reduceEqDiff, reduceCtorEq, ↓reduceIte]
  refine Safe.loopN (v.length) (fun i => [(0, vecV v), (1, vecV v), (5, .int .i64 i)]) (fun i => hap H []) rfl rfl (fun i hi ih => ?_) ?_
  · have hlt : (i : Int) < (v.length : Int) := by omega
    have hiw : IntKind.wrap .i64 ((i : Int) + 1) = ((i + 1 : Nat) : Int) := by rw [wrap_i64] <;> omega
    refine Safe.inLoop ?_
    refine Safe.rg rfl ?_
    simp only [law04_eqs_r4, hlt, E3, Nat.reduceLeDiff, Nat.reduceSub, Nat.reduceAdd, Nat.reduceEqDiff, reduceCtorEq, ↓reduceIte]
    refine Safe.cd rfl ?_
    simp only [E3, Nat.reduceLeDiff, Nat.reduceSub, Nat.reduceAdd, Nat.reduceEqDiff, reduceCtorEq, ↓reduceIte]
    refine Safe.rg rfl ?_
    simp only [law04_eqs_r5, vec_idx _ v _ i (by omega), E3, Nat.reduceLeDiff, Nat.reduceSub, Nat.reduceAdd, Nat.reduceEqDiff, reduceCtorEq, ↓reduceIte]
    first | refine (eq_pure v[i] (hv.get hi)).acall ?_ | refine (eq_pure v[i] (hv.get hi)).dcall ?_
    try simp only [E3, Nat.reduceLeDiff, Nat.reduceSub, Nat.reduceAdd, Nat.reduceEqDiff, reduceCtorEq, ↓reduceIte]
    refine Safe.cd rfl ?_
    simp only [E3, Nat.reduceLeDiff, Nat.reduceSub, Nat.reduceAdd, Nat.reduceEqDiff, reduceCtorEq, ↓reduceIte]
    refine Safe.rg rfl ?_
    simp only [law04_eqs_r7, hiw, E3, Nat.reduceLeDiff, Nat.reduceSub, Nat.reduceAdd, Nat.reduceEqDiff, reduceCtorEq, ↓reduceIte]
    refine Safe.keep [0, 1, 5] ?_
    simp only [E3, Nat.reduceLeDiff, Nat.reduceSub, Nat.reduceAdd, Nat.reduceEqDiff, reduceCtorEq, ↓reduceIte]
    exact ih
  · refine Safe.inLoop ?_
    refine Safe.rg rfl ?_
    simp only [law04_eqs_r4, Int.lt_irrefl, E3, Nat.reduceLeDiff, Nat.reduceSub, Nat.reduceAdd, Nat.reduceEqDiff, reduceCtorEq, ↓reduceIte]
    refine Safe.cd rfl ?_
    simp only [E3, Nat.reduceLeDiff, Nat.reduceSub, Nat.reduceAdd, Nat.reduceEqDiff, reduceCtorEq, ↓reduceIte]
    refine Safe.rg rfl ?_
    simp only [law04_eqs_r8, E3, Nat.reduceLeDiff, Nat.reduceSub, Nat.reduceAdd, Nat.reduceEqDiff, reduceCtorEq, ↓reduceIte]
    refine Safe.rt rfl ?_
    simp only [E3, Nat.reduceLeDiff, Nat.reduceSub, Nat.reduceAdd, Nat.reduceEqDiff, reduceCtorEq, ↓reduceIte]
    first | exact ⟨rfl, _, rfl⟩ | exact ⟨_, rfl⟩ | exact ⟨trivial, _, rfl⟩
theorem eqm_pure (v : List (List ZI)) (hv : Mok 17592186044416 v) : PureC Pr F_law04_eqm [matV v, matV v] (.bool true) := by
  have hvl := hv.len
  refine PureC.intro law04_eqm_fn law04_eqm_ok (Nat.le_of_ble_eq_true rfl) (.bool _) fun H hH => ?_
  refine Safe.rg rfl ?_
  simp only [law04_eqm_r0, E3, Nat.reduceLeDiff, Nat.reduceSub, Nat.reduceAdd, Nat.reduceEqDiff, reduceCtorEq, ↓reduceIte]
  refine Safe.rg rfl ?_
  simp only [law04_eqm_r1, E3, Nat.reduceLeDiff, Nat.reduceSub, Nat.reduceAdd, Nat.reduceEqDiff, reduceCtorEq, ↓reduceIte]
  refine Safe.cd rfl ?_
  simp only [E3, Nat.reduceLeDiff, Nat.reduceSub, Nat.reduceAdd, Nat.reduceEqDiff, reduceCtorEq, ↓reduceIte]
  refine Safe.rg rfl ?_
  simp only [law04_eqm_r3, E3, Nat.reduceLeDiff, Nat.reduceSub, Nat.reduceAdd, Nat.reduceEqDiff, reduceCtorEq, ↓reduceIte]
  refine Safe.lp rfl ?_
  refine Safe.keep [0, 1, 5] ?_
  try simp only [E3, Nat.reduceLeDiff, Nat.reduceSub, Nat.reduceAdd, Nat.reduceEqDiff, reduceCtorEq, ↓reduceIte]
  refine Safe.loopN (v.length) (fun i => [(0, matV v), (1, matV v), (5, .int .i64 i)]) (fun i => hap H []) rfl rfl (fun i hi ih => ?_) ?_
  · have hlt : (i : Int) < (v.length : Int) := by omega
    have hiw : IntKind.wrap .i64 ((i : Int) + 1) = ((i + 1 : Nat) : Int) := by rw [wrap_i64] <;> omega
    refine Safe.inLoop ?_
    refine Safe.rg rfl ?_
    simp only [law04_eqm_r4, hlt, E3, Nat.reduceLeDiff, Nat.reduceSub, Nat.reduceAdd, Nat.reduceEqDiff, reduceCtorEq, ↓reduceIte]
    refine Safe.cd rfl ?_
    simp only [E3, Nat.reduceLeDiff, Nat.reduceSub, Nat.reduceAdd, Nat.reduceEqDiff, reduceCtorEq, ↓reduceIte]
    refine Safe.rg rfl ?_
    simp only [law04_eqm_r5, mat_idx _ v _ i (by omega), E3, Nat.reduceLeDiff, Nat.reduceSub, Nat.reduceAdd, Nat.reduceEqDiff, reduceCtorEq, ↓reduceIte]
    first | refine (eqs_pure v[i] (hv.get hi)).acall ?_ | refine (eqs_pure v[i] (hv.get hi)).dcall ?_
    try simp only [E3, Nat.reduceLeDiff, Nat.reduceSub, Nat.reduceAdd, Nat.reduceEqDiff, reduceCtorEq, ↓reduceIte]
    refine Safe.cd rfl ?_
    simp only [E3, Nat.reduceLeDiff, Nat.reduceSub, Nat.reduceAdd, Nat.reduceEqDiff, reduceCtorEq, ↓reduceIte]
    refine Safe.rg rfl ?_
    simp only [law04_eqm_r7, hiw, E3, Nat.reduceLeDiff, Nat.reduceSub, Nat.reduceAdd, Nat.reduceEqDiff, reduceCtorEq, ↓reduceIte]
    refine Safe.keep [0, 1, 5] ?_
    simp only [E3, Nat.reduceLeDiff, Nat.reduceSub, Nat.reduceAdd, Nat.reduceEqDiff, reduceCtorEq, ↓reduceIte]
    exact ih
  · refine Safe.inLoop ?_
    refine Safe.rg rfl ?_
    simp only [law04_eqm_r4, Int.lt_irrefl, E3, Nat.reduceLeDiff, Nat.reduceSub, Nat.reduceAdd, Nat.reduceEqDiff, reduceCtorEq, ↓reduceIte]
    refine Safe.cd rfl ?_
    simp only [E3, Nat.reduceLeDiff, Nat.reduceSub, Nat.reduceAdd, Nat.reduceEqDiff, reduceCtorEq, ↓reduceIte]
    refine Safe.rg rfl ?_
    simp only [law04_eqm_r8, E3, Nat.reduceLeDiff, Nat.reduceSub, Nat.reduceAdd, Nat.reduceEqDiff, reduceCtorEq, ↓reduceIte]
    refine Safe.rt rfl ?_
    simp only [E3, Nat.reduceLeDiff, Nat.reduceSub, Nat.reduceAdd, Nat.reduceEqDiff, reduceCtorEq, ↓reduceIte]
    first | exact ⟨rfl, _, rfl⟩ | exact ⟨_, rfl⟩ | exact ⟨trivial, _, rfl⟩

theorem matvectors_any (u v : List ZI) (k : ZI) (p : Nat) (hu : Vok p u) (hv : Vok p v) (hk : Zok p k) (hp : p ≤ 1048576) (d e : Int) (s t : List ZI)
    (hD : PureC Pr F_mat_Dot [vecV u, vecV v] (.tup [Z d, .int .i64 e])) (hRD : PureC Pr F_ref04_Dot [vecV u, vecV v] (.tup [Z d, .int .i64 e]))
    (hP : PureC Pr F_mat_Plus [vecV u, vecV v] (.tup [vecV s, .int .i64 e])) (hRP : PureC Pr F_ref04_Plus [vecV u, vecV v] (.tup [vecV s, .int .i64 e]))
    (hM : PureC Pr F_mat_Minus [vecV u, vecV v] (.tup [vecV t, .int .i64 e])) (hRM : PureC Pr F_ref04_Minus [vecV u, vecV v] (.tup [vecV t, .int .i64 e]))
    (hd : Zok 17592186044416 (canZ d)) (hs : Vok 17592186044416 s) (ht : Vok 17592186044416 t) : PureC Pr F_law04_MatVectors [vecV u, vecV v, k.av] (.bool true) := by
  have hu' := hu.mono (show p ≤ 17592186044416 by omega)
  have hv' := hv.mono (show p ≤ 17592186044416 by omega)
  have hown := own_pure k (hk.mono (by omega))
  have htm := mtimes_pure k u p p hk hu (by omega)
  have hrt := rtimes_vec k u p p hk hu (by omega)
  have hkt : Vok 17592186044416 (vec u.length fun i => k.z * zg u i) := zok_vecm hu.len (fun i _ => mul_abs hk.abs (hu.abs i)) (by omega)
  have hn : Zok 17592186044416 (canZ (dotZ u u)) := zok_canm (dot_abs hu hu (Nat.le_refl _)) (by omega)
  obtain ⟨kn, km⟩ := k
  simp only [ZI.av] at hown htm hrt ⊢
  refine PureC.intro law04_MatVectors_fn law04_MatVectors_ok (Nat.le_of_ble_eq_true rfl) (.bool _) fun H hH => ?_
  refine Safe.rg rfl ?_
  simp only [law04_MatVectors_r0, E3, Nat.reduceLeDiff, Nat.reduceSub, Nat.reduceAdd, Nat.reduceEqDiff, reduceCtorEq, ↓reduceIte]
  refine Safe.rg rfl ?_
  simp only [law04_MatVectors_r1, E3, Nat.reduceLeDiff, Nat.reduceSub, Nat.reduceAdd, Nat.reduceEqDiff, reduceCtorEq, ↓reduceIte]
  first | refine (owns_pure u hu').acall ?_ | refine (owns_pure u hu').dcall ?_
  try simp only [E3, Nat.reduceLeDiff, Nat.reduceSub, Nat.reduceAdd, Nat.reduceEqDiff, reduceCtorEq, ↓reduceIte]
  first | refine (owns_pure v hv').acall ?_ | refine (owns_pure v hv').dcall ?_
  try simp only [E3, Nat.reduceLeDiff, Nat.reduceSub, Nat.reduceAdd, Nat.reduceEqDiff, reduceCtorEq, ↓reduceIte]
  refine Safe.rg rfl ?_
  simp only [law04_MatVectors_r2, E3, Nat.reduceLeDiff, Nat.reduceSub, Nat.reduceAdd, Nat.reduceEqDiff, reduceCtorEq, ↓reduceIte]
  first | refine (hD).acall ?_ | refine (hD).dcall ?_
  try simp only [E3, Nat.reduceLeDiff, Nat.reduceSub, Nat.reduceAdd, Nat.reduceEqDiff, reduceCtorEq, ↓reduceIte]
  refine Safe.rg rfl ?_
  simp only [law04_MatVectors_r3, E3, Nat.reduceLeDiff, Nat.reduceSub, Nat.reduceAdd, Nat.reduceEqDiff, reduceCtorEq, ↓reduceIte]
  first | refine (hRD).acall ?_ | refine (hRD).dcall ?_
  try simp only [E3, Nat.reduceLeDiff, Nat.reduceSub, Nat.reduceAdd, Nat.reduceEqDiff, reduceCtorEq, ↓reduceIte]
  refine Safe.rg rfl ?_
  simp only [law04_MatVectors_r4, E3, Nat.reduceLeDiff, Nat.reduceSub, Nat.reduceAdd, Nat.reduceEqDiff, reduceCtorEq, ↓reduceIte]
  first | refine (eq_pure (canZ d) hd).acall ?_ | refine (eq_pure (canZ d) hd).dcall ?_
  try simp only [E3, Nat.reduceLeDiff, Nat.reduceSub, Nat.reduceAdd, Nat.reduceEqDiff, reduceCtorEq, ↓reduceIte]
  first | refine (norm_vec u p hu (by omega)).acall ?_ | refine (norm_vec u p hu (by omega)).dcall ?_
  try simp only [E3, Nat.reduceLeDiff, Nat.reduceSub, Nat.reduceAdd, Nat.reduceEqDiff, reduceCtorEq, ↓reduceIte]
  first | refine (rnorm_vec u p hu (by omega)).acall ?_ | refine (rnorm_vec u p hu (by omega)).dcall ?_
  try simp only [E3, Nat.reduceLeDiff, Nat.reduceSub, Nat.reduceAdd, Nat.reduceEqDiff, reduceCtorEq, ↓reduceIte]
  first | refine (eq_pure (canZ (dotZ u u)) hn).acall ?_ | refine (eq_pure (canZ (dotZ u u)) hn).dcall ?_
  try simp only [E3, Nat.reduceLeDiff, Nat.reduceSub, Nat.reduceAdd, Nat.reduceEqDiff, reduceCtorEq, ↓reduceIte]
  first | refine (hown).acall ?_ | refine (hown).dcall ?_
  try simp only [E3, Nat.reduceLeDiff, Nat.reduceSub, Nat.reduceAdd, Nat.reduceEqDiff, reduceCtorEq, ↓reduceIte]
  first | refine (htm).acall ?_ | refine (htm).dcall ?_
  try simp only [E3, Nat.reduceLeDiff, Nat.reduceSub, Nat.reduceAdd, Nat.reduceEqDiff, reduceCtorEq, ↓reduceIte]
  first | refine (hrt).acall ?_ | refine (hrt).dcall ?_
  try simp only [E3, Nat.reduceLeDiff, Nat.reduceSub, Nat.reduceAdd, Nat.reduceEqDiff, reduceCtorEq, ↓reduceIte]
  first | refine (eqs_pure _ hkt).acall ?_ | refine (eqs_pure _ hkt).dcall ?_
  try simp only [E3, Nat.reduceLeDiff, Nat.reduceSub, Nat.reduceAdd, Nat.reduceEqDiff, reduceCtorEq, ↓reduceIte]
  refine Safe.cd rfl ?_
  simp only [E3, Nat.reduceLeDiff, Nat.reduceSub, Nat.reduceAdd, Nat.reduceEqDiff, reduceCtorEq, ↓reduceIte]
  refine Safe.rg rfl ?_
  simp only [law04_MatVectors_r6, E3, Nat.reduceLeDiff, Nat.reduceSub, Nat.reduceAdd, Nat.reduceEqDiff, reduceCtorEq, ↓reduceIte]
  first | refine (hP).acall ?_ | refine (hP).dcall ?_
  try simp only [E3, Nat.reduceLeDiff, Nat.reduceSub, Nat.reduceAdd, Nat.reduceEqDiff, reduceCtorEq, ↓reduceIte]
  refine Safe.rg rfl ?_
  simp only [law04_MatVectors_r7, E3, Nat.reduceLeDiff, Nat.reduceSub, Nat.reduceAdd, Nat.reduceEqDiff, reduceCtorEq, ↓reduceIte]
  first | refine (hRP).acall ?_ | refine (hRP).dcall ?_
  try simp only [E3, Nat.reduceLeDiff, Nat.reduceSub, Nat.reduceAdd, Nat.reduceEqDiff, reduceCtorEq, ↓reduceIte]
  refine Safe.rg rfl ?_
  simp only [law04_MatVectors_r8, E3, Nat.reduceLeDiff, Nat.reduceSub, Nat.reduceAdd, Nat.reduceEqDiff, reduceCtorEq, ↓reduceIte]
  first | refine (eqs_pure _ hs).acall ?_ | refine (eqs_pure _ hs).dcall ?_
  try simp only [E3, Nat.reduceLeDiff, Nat.reduceSub, Nat.reduceAdd, Nat.reduceEqDiff, reduceCtorEq, ↓reduceIte]
  refine Safe.cd rfl ?_
  simp only [E3, Nat.reduceLeDiff, Nat.reduceSub, Nat.reduceAdd, Nat.reduceEqDiff, reduceCtorEq, ↓reduceIte]
  refine Safe.rg rfl ?_
  simp only [law04_MatVectors_r10, E3, Nat.reduceLeDiff, Nat.reduceSub, Nat.reduceAdd, Nat.reduceEqDiff, reduceCtorEq, ↓reduceIte]
  first | refine (hM).acall ?_ | refine (hM).dcall ?_
  try simp only [E3, Nat.reduceLeDiff, Nat.reduceSub, Nat.reduceAdd, Nat.reduceEqDiff, reduceCtorEq, ↓reduceIte]
  refine Safe.rg rfl ?_
  simp only [law04_MatVectors_r11, E3, Nat.reduceLeDiff, Nat.reduceSub, Nat.reduceAdd, Nat.reduceEqDiff, reduceCtorEq, ↓reduceIte]
  first | refine (hRM).acall ?_ | refine (hRM).dcall ?_
  try simp only [E3, Nat.reduceLeDiff, Nat.reduceSub, Nat.reduceAdd, Nat.reduceEqDiff, reduceCtorEq, ↓reduceIte]
  refine Safe.rg rfl ?_
  simp only [law04_MatVectors_r12, E3, Nat.reduceLeDiff, Nat.reduceSub, Nat.reduceAdd, Nat.reduceEqDiff, reduceCtorEq, ↓reduceIte]
  first | refine (eqs_pure _ ht).acall ?_ | refine (eqs_pure _ ht).dcall ?_
  try simp only [E3, Nat.reduceLeDiff, Nat.reduceSub, Nat.reduceAdd, Nat.reduceEqDiff, reduceCtorEq, ↓reduceIte]
  first | refine (eqs_pure u hu').acall ?_ | refine (eqs_pure u hu').dcall ?_
  try simp only [E3, Nat.reduceLeDiff, Nat.reduceSub, Nat.reduceAdd, Nat.reduceEqDiff, reduceCtorEq, ↓reduceIte]
  first | refine (eqs_pure v hv').acall ?_ | refine (eqs_pure v hv').dcall ?_
  try simp only [E3, Nat.reduceLeDiff, Nat.reduceSub, Nat.reduceAdd, Nat.reduceEqDiff, reduceCtorEq, ↓reduceIte]
  refine Safe.rt rfl ?_
  simp only [E3, Nat.reduceLeDiff, Nat.reduceSub, Nat.reduceAdd, Nat.reduceEqDiff, reduceCtorEq, ↓reduceIte]
  first | exact ⟨rfl, _, rfl⟩ | exact ⟨_, rfl⟩ | exact ⟨trivial, _, rfl⟩
theorem vok_nil (k : Nat) : Vok k [] := ⟨by simp, by simp⟩
theorem zok_zero (k : Nat) : Zok k (canZ 0) := zok_can (by have := lb_pos k; simpa using this)
theorem matvectors_pure (u v : List ZI) (k : ZI) (hu : Vok 1048576 u) (hv : Vok 1048576 v) (hk : Zok 1048576 k) : PureC Pr F_law04_MatVectors [vecV u, vecV v, k.av] (.bool true) := by
  by_cases hl : u.length = v.length
  · refine matvectors_any u v k 1048576 hu hv hk (by omega) (dotZ u v) 0 _ _ (dot_eq u v _ hu hv (by omega) hl) (rdot_eq u v _ hu hv (by omega) hl) (plus_eq u v _ hu hv (by omega) hl) (rplus_eq u v _ hu hv (by omega) hl) (minus_eq u v _ hu hv (by omega) hl) (rminus_eq u v _ hu hv (by omega) hl) ?_ ?_ ?_
    · exact zok_canm (dot_abs hu hv (Nat.le_refl _)) (by omega)
    · exact zok_vecm hu.len (fun i _ => add_abs (hu.abs i) (hv.abs i)) (by omega)
    · exact zok_vecm hu.len (fun i _ => sub_abs (hu.abs i) (hv.abs i)) (by omega)
  · exact matvectors_any u v k 1048576 hu hv hk (by omega) 0 8 [] [] (dot_ne u v hl) (rdot_ne u v hl) (plus_ne u v hl) (rplus_ne u v hl) (minus_ne u v hl) (rminus_ne u v _ hv (by omega) hl) (zok_zero _) (vok_nil _) (vok_nil _)

end Go.Abs

/- Entries of rows; products. -/
import Derived.Test.YtofbhhncpjegfaaD5
set_option linter.unusedVariables false
set_option linter.unusedSimpArgs false
set_option linter.defProp false
namespace Go.Abs
section
variable {H L : Heap} {a b : Option Blk} {wd len j n : Nat} {X : List AV} {oc : Option Nat} {k : IntKind} {f : Nat → Int} {z : Int} {env : Env}
theorem idx_r0 (h : j < len) : idxV (hap H (some ⟨wd, X⟩ :: L)) wd (.mu (lid H 0) 0 len oc) (.int k j) = some (.loc (lid H 0) j 0) := by
  rw [mu_idx H _ wd 0 0 len oc k j rfl rfl h, Nat.zero_add]
theorem idx_r1 (h : j < len) : idxV (hap H (a :: some ⟨wd, X⟩ :: L)) wd (.mu (lid H 1) 0 len oc) (.int k j) = some (.loc (lid H 1) j 0) := by
  rw [mu_idx H _ wd 1 0 len oc k j rfl rfl h, Nat.zero_add]
theorem idx_r2 (h : j < len) : idxV (hap H (a :: b :: some ⟨wd, X⟩ :: L)) wd (.mu (lid H 2) 0 len oc) (.int k j) = some (.loc (lid H 2) j 0) := by
  rw [mu_idx H _ wd 2 0 len oc k j rfl rfl h, Nat.zero_add]
theorem vec_getD (h : j < n) : ((vec n f).map ZI.av).getD j .top = Z (f j) := by
  rw [List.getD_eq_getElem?_getD, List.getElem?_map, List.getElem?_eq_getElem (by rw [vec_length]; exact h), vec_get]
  rfl
theorem at_r0 (h : j < n) : atV (hap H (some ⟨2, (vec n f).map ZI.av⟩ :: L)) (.loc (lid H 0) j 0) = some (Z (f j)).cells := by
  rw [loc_load H _ 0 j rfl (by rw [List.length_map, vec_length]; exact h), vec_getD h]
theorem at_r1 (h : j < n) : atV (hap H (a :: some ⟨2, (vec n f).map ZI.av⟩ :: L)) (.loc (lid H 1) j 0) = some (Z (f j)).cells := by
  rw [loc_load H _ 1 j rfl (by rw [List.length_map, vec_length]; exact h), vec_getD h]
theorem at_r2 (h : j < n) : atV (hap H (a :: b :: some ⟨2, (vec n f).map ZI.av⟩ :: L)) (.loc (lid H 2) j 0) = some (Z (f j)).cells := by
  rw [loc_load H _ 2 j rfl (by rw [List.length_map, vec_length]; exact h), vec_getD h]
theorem st_r0 (h : j < n) : storeV 2 (.loc (lid H 0) j 0) (Z z) env (hap H (some ⟨2, (vec n f).map ZI.av⟩ :: L)) = some (.top, env, hap H (some ⟨2, (vec n (updF f j z)).map ZI.av⟩ :: L)) := by
  rw [storeV_loc env H _ 2 0 j 0 (Z z) rfl (by rw [List.length_map, vec_length]; exact h) rfl rfl (Nat.le_refl 2)]
  rw [← vec_set]; rfl
theorem st_r1 (h : j < n) : storeV 2 (.loc (lid H 1) j 0) (Z z) env (hap H (a :: some ⟨2, (vec n f).map ZI.av⟩ :: L)) = some (.top, env, hap H (a :: some ⟨2, (vec n (updF f j z)).map ZI.av⟩ :: L)) := by
  rw [storeV_loc env H _ 2 1 j 0 (Z z) rfl (by rw [List.length_map, vec_length]; exact h) rfl rfl (Nat.le_refl 2)]
  rw [← vec_set]; rfl
end

/-- Sums of rows. -/
def cmbS (x : List ZI) (b : List (List ZI)) (k i : Nat) : Int := sumTo (fun l => zg x l * zg (mg b l) k) i
def combV (x : List ZI) (b : List (List ZI)) : List ZI := vec (wid b) fun k => cmbS x b k b.length
def prodM (a b : List (List ZI)) : List (List ZI) := mat a.length fun i => combV (mg a i) b
def turnM (b : List (List ZI)) : List (List ZI) := mat (wid b) fun k => vec b.length fun i => zg (mg b i) k
/-- Row i being added: the first j entries are done. -/
def cmbF (x : List ZI) (b : List (List ZI)) (i j : Nat) : Nat → Int := fun k => if k < j then cmbS x b k (i + 1) else cmbS x b k i
theorem cmbF_zero (x : List ZI) (b : List (List ZI)) (i : Nat) : cmbF x b i 0 = fun k => cmbS x b k i := by
  funext k; simp [cmbF]
theorem cmbF_step (x : List ZI) (b : List (List ZI)) (i j n : Nat) : vec n (updF (cmbF x b i j) j (cmbF x b i j j + zg x i * zg (mg b i) j)) = vec n (cmbF x b i (j + 1)) := by
  refine vec_congr fun k _ => ?_
  simp only [updF, cmbF, Nat.lt_irrefl, if_false]
  by_cases h : k = j
  · subst h
    rw [if_pos rfl, if_pos (by omega)]; rfl
  · rw [if_neg h]
    by_cases h2 : k < j
    · rw [if_pos h2, if_pos (by omega)]
    · rw [if_neg h2, if_neg (by omega)]
theorem cmbF_all (x : List ZI) (b : List (List ZI)) (i n : Nat) : vec n (cmbF x b i n) = vec n fun k => cmbS x b k (i + 1) := by
  refine vec_congr fun k hk => ?_
  simp [cmbF, hk]
theorem cmbS_abs {x : List ZI} {b : List (List ZI)} {p q : Nat} (hx : Vok p x) (hb : Mok q b) (k : Nat) {i : Nat} (hi : i ≤ b.length) : (cmbS x b k i).natAbs < LB ^ (p + q + 2) :=
  sumTo_abs (Nat.le_trans hi (Nat.le_trans hb.len (by decide))) fun l _ => mul_abs (hx.abs l) ((hb.row l).abs k)
theorem cmbF_abs {x : List ZI} {b : List (List ZI)} {p q : Nat} (hx : Vok p x) (hb : Mok q b) {i j : Nat} (hi : i < b.length) (k : Nat) : (cmbF x b i j k).natAbs < LB ^ (p + q + 2) := by
  unfold cmbF
  split
  · exact cmbS_abs hx hb k (by omega)
  · exact cmbS_abs hx hb k (by omega)
theorem comb_ok {x : List ZI} {b : List (List ZI)} {p q : Nat} (hx : Vok p x) (hb : Mok q b) : Vok (p + q + 2) (combV x b) :=
  zok_vec (hb.row 0).len fun k _ => cmbS_abs hx hb k (Nat.le_refl _)
theorem prod_ok {a b : List (List ZI)} {p q : Nat} (ha : Mok p a) (hb : Mok q b) : Mok (p + q + 2) (prodM a b) := mok_mat ha.len fun i _ => comb_ok (ha.row i) hb
theorem turn_ok {b : List (List ZI)} {p : Nat} (hb : Mok p b) : Mok p (turnM b) := mok_mat (hb.row 0).len fun k _ => zok_vec hb.len fun i _ => (hb.row i).abs k
theorem mgz {b : List (List ZI)} {i j : Nat} (hi : i < b.length) (hj : j < b[i].length) : b[i][j].z = zg (mg b i) j := by rw [mg_lt hi, zg_lt hj]
theorem rect_w {b : List (List ZI)} (hr : Rect b) {i : Nat} (hi : i < b.length) : b[i].length = wid b := by
  have := hr i hi
  rwa [mg_lt hi] at this
end Go.Abs

/- Products go over one another; turned twice is the same. -/
import Derived.Test.YtofbhhncpjegfaaD6
set_option linter.unusedVariables false
set_option linter.unusedSimpArgs false
namespace Go.Abs
theorem sumTo_mul (c : Int) (f : Nat → Int) : ∀ n, sumTo (fun i => c * f i) n = c * sumTo f n
  | 0 => by simp [sumTo]
  | n + 1 => by rw [sumTo, sumTo, sumTo_mul c f n, Int.mul_add]
theorem sumTo_mul' (c : Int) (f : Nat → Int) : ∀ n, sumTo (fun i => f i * c) n = sumTo f n * c
  | 0 => by simp [sumTo]
  | n + 1 => by rw [sumTo, sumTo, sumTo_mul' c f n, Int.add_mul]
theorem sumTo_add (f g : Nat → Int) : ∀ n, sumTo (fun i => f i + g i) n = sumTo f n + sumTo g n
  | 0 => rfl
  | n + 1 => by simp only [sumTo, sumTo_add f g n]; omega
theorem sumTo_zero : ∀ n, sumTo (fun _ => 0) n = 0
  | 0 => rfl
  | n + 1 => by rw [sumTo, sumTo_zero n]; rfl
theorem sumTo_swap (F : Nat → Nat → Int) (m : Nat) : ∀ n, sumTo (fun i => sumTo (fun j => F i j) m) n = sumTo (fun j => sumTo (fun i => F i j) n) m
  | 0 => by simp only [sumTo]; rw [sumTo_zero]
  | n + 1 => by simp only [sumTo]; rw [sumTo_swap F m n, ← sumTo_add]

theorem comb_assoc (x : List ZI) (b c : List (List ZI)) (hw : wid b = c.length) {k : Nat} (hk : k < wid c) : cmbS (combV x b) c k c.length = cmbS x (prodM b c) k b.length := by
  unfold cmbS
  have e1 : sumTo (fun l => zg (combV x b) l * zg (mg c l) k) c.length = sumTo (fun l => sumTo (fun i => zg x i * (zg (mg b i) l * zg (mg c l) k)) b.length) c.length := by
    refine sumTo_congr fun l hl => ?_
    rw [combV, zg_vec (by omega), cmbS, ← sumTo_mul']
    exact sumTo_congr fun i _ => Int.mul_assoc _ _ _
  have e2 : sumTo (fun i => zg x i * zg (mg (prodM b c) i) k) b.length = sumTo (fun i => sumTo (fun l => zg x i * (zg (mg b i) l * zg (mg c l) k)) c.length) b.length := by
    refine sumTo_congr fun i hi => ?_
    rw [prodM, mg_mat hi, combV, zg_vec hk, cmbS, sumTo_mul]
  rw [e1, e2, sumTo_swap]
theorem mat_wid {n : Nat} {f : Nat → List ZI} (h : 0 < n) : wid (mat n f) = (f 0).length := by rw [wid, mg_mat h]
theorem prod_wid {a b : List (List ZI)} (h : 0 < a.length) : wid (prodM a b) = wid b := by rw [prodM, mat_wid h, combV, vec_length]
theorem prod_length (a b : List (List ZI)) : (prodM a b).length = a.length := mat_length _ _
theorem prod_rect (a b : List (List ZI)) : Rect (prodM a b) := by
  intro i hi
  rw [prod_length] at hi
  rw [prodM, mg_mat hi, mg_mat (by omega), combV, combV, vec_length, vec_length]
theorem comb_comb (x : List ZI) (b c : List (List ZI)) (hw : wid b = c.length) (hc : wid (prodM b c) = wid c) : combV (combV x b) c = combV x (prodM b c) := by
  show (vec (wid c) fun k => cmbS (combV x b) c k c.length) = vec (wid (prodM b c)) fun k => cmbS x (prodM b c) k (prodM b c).length
  rw [hc, prod_length]
  exact vec_congr fun k hk => comb_assoc x b c hw hk
theorem wid_prod {b c : List (List ZI)} (hw : wid b = c.length) : wid (prodM b c) = wid c := by
  rcases Nat.eq_zero_or_pos b.length with h | h
  · have : b = [] := List.length_eq_zero_iff.1 h
    subst this
    have : c = [] := List.length_eq_zero_iff.1 hw.symm
    subst this; rfl
  · exact prod_wid h
theorem prod_assoc (a b c : List (List ZI)) (hw : wid b = c.length) : prodM (prodM a b) c = prodM a (prodM b c) := by
  show (mat (prodM a b).length fun i => combV (mg (prodM a b) i) c) = mat a.length fun i => combV (mg a i) (prodM b c)
  rw [prod_length]
  refine mat_congr fun i hi => ?_
  rw [show mg (prodM a b) i = combV (mg a i) b by rw [prodM, mg_mat hi]]
  exact comb_comb _ b c hw (wid_prod hw)

theorem turn_length (b : List (List ZI)) : (turnM b).length = wid b := mat_length _ _
theorem turn_wid {b : List (List ZI)} (h : 0 < wid b) : wid (turnM b) = b.length := by rw [turnM, mat_wid h, vec_length]
theorem turn_isrect (b : List (List ZI)) : Rect (turnM b) := by
  intro i hi
  rw [turn_length] at hi
  rw [turnM, mg_mat hi, mg_mat (by omega), vec_length, vec_length]
theorem zs_ext {u v : List ZI} (hl : u.length = v.length) (h : ∀ i, i < v.length → zg u i = zg v i) : zs u = zs v := by
  apply List.ext_getElem
  · simp [zs, hl]
  · intro i h1 h2
    have hu : i < u.length := by simpa [zs] using h1
    have hv : i < v.length := by simpa [zs] using h2
    simp only [zs, List.getElem_map]
    rw [← zg_lt hu, ← zg_lt hv, h i hv]
theorem zss_ext {a b : List (List ZI)} (hl : a.length = b.length) (h : ∀ i, i < b.length → zs (mg a i) = zs (mg b i)) : zss a = zss b := by
  apply List.ext_getElem
  · simp [zss, hl]
  · intro i h1 h2
    have ha : i < a.length := by simpa [zss] using h1
    have hb : i < b.length := by simpa [zss] using h2
    simp only [zss, List.getElem_map]
    rw [← mg_lt ha, ← mg_lt hb, h i hb]
theorem turn_turn {b : List (List ZI)} (hr : Rect b) (h : 0 < wid b) : zss (turnM (turnM b)) = zss b := by
  refine zss_ext (by rw [turn_length, turn_wid h]) fun i hi => ?_
  have hw : (mg b i).length = wid b := hr i hi
  rw [turnM, mg_mat (by rw [turn_wid h]; exact hi), turn_length]
  refine zs_ext (by rw [vec_length, hw]) fun k hk => ?_
  rw [hw] at hk
  rw [zg_vec hk, turnM, mg_mat hk, zg_vec hi]
end Go.Abs

/- Part 3 of the proof of ElimProducts: D2, D3, D4, D5, D6, D9, D10, D11, L1, L2, L3, L4, L5, L6, L7, L8, L9, L10, L11, Num. -/
import Derived.Test.YtkljokmnimblnaaElimProductsK2
import Derived.Test.YtkljokmnimblnaaProg
set_option linter.unusedVariables false
set_option linter.unusedSimpArgs false
set_option linter.defProp false
namespace Go.Abs
def sgn (neg : Bool) (n : Nat) : Int := if neg then -(n : Int) else n
/-- A number as it is handed round: a sign, limbs. -/
structure ZI where
  neg : Bool
  mag : List Nat
def ZI.av (x : ZI) : AV := .agg [.bool x.neg, natV x.mag]
def ZI.z (x : ZI) : Int := sgn x.neg (val x.mag)
/-- The number in its one form. -/
def canZ (z : Int) : ZI := ⟨decide (z < 0), limbs z.natAbs⟩
def Z (z : Int) : AV := .agg [.bool (decide (z < 0)), natV (limbs z.natAbs)]
theorem canZ_av (z : Int) : (canZ z).av = Z z := rfl
theorem canZ_z (z : Int) : (canZ z).z = z := by
  unfold canZ ZI.z sgn
  simp only [val_limbs, decide_eq_true_eq]
  split <;> omega
theorem Z_sgn (neg : Bool) (n : Nat) : .agg [.bool (neg && decide (0 < n)), natV (limbs n)] = Z (sgn neg n) := by
  unfold Z sgn
  cases neg
  · simp <;> omega
  · rcases Nat.eq_zero_or_pos n with h | h
    · subst h; simp
    · simp [h]
theorem sgn_zero (neg : Bool) : sgn neg 0 = 0 := by cases neg <;> rfl
theorem sgn_abs (neg : Bool) (n : Nat) : (sgn neg n).natAbs = n := by cases neg <;> simp [sgn]
theorem Z_cl (z : Int) : Cl (Z z) := .agg _ (by intro c hc; simp at hc; rcases hc with rfl | rfl; exact .bool _; exact natV_cl _)
theorem ZI.cl (x : ZI) : Cl x.av := .agg _ (by intro c hc; simp at hc; rcases hc with rfl | rfl; exact .bool _; exact natV_cl _)
theorem Z_zero : Z 0 = .agg [.bool false, natV []] := by unfold Z; simp [limbs_zero]
theorem le_zero : Le (.agg [.bool false, .nil]) (Z 0) := by rw [Z_zero]; exact Le.agg2 (Le.refl _) (Le.nil 1 (by decide))
/-- The number's limbs. -/
structure Zok (k : Nat) (x : ZI) : Prop where
  lim : Lim x.mag
  len : x.mag.length ≤ k
theorem Zok.mono {k m : Nat} {x : ZI} (h : Zok k x) (hk : k ≤ m) : Zok m x := ⟨h.lim, Nat.le_trans h.len hk⟩
theorem Zok.lt {k : Nat} {x : ZI} (h : Zok k x) : val x.mag < LB ^ k := by
  have h1 := val_lt h.lim
  have h2 : LB ^ x.mag.length ≤ LB ^ k := Nat.pow_le_pow_right (by decide) h.len
  omega
theorem Zok.abs {k : Nat} {x : ZI} (h : Zok k x) : x.z.natAbs < LB ^ k := by unfold ZI.z; rw [sgn_abs]; exact h.lt
theorem zok_can {k : Nat} {z : Int} (h : z.natAbs < LB ^ k) : Zok k (canZ z) := ⟨lim_limbs _, limbs_len_le h⟩
section
variable (n0 : Nat) (env : Env) (H L : Heap)
def cpyV (wd : Nat) (x y : AV) (env : Env) (H : Heap) : Option (AV × Env × Heap) := (srcEls H wd false y).bind fun ys => match x with
      | .mu id off len _ => (hrow H id).bind fun r =>
          if r.wd = wd ∧ off + len ≤ r.xs.length then
            some (.int .i64 (min ys.length len : Nat), env, H.set id (some ⟨wd, r.xs.take off ++ ys.take (min ys.length len) ++ r.xs.drop (off + min ys.length len)⟩)) else none
      | _ => none
theorem ev_cpy (wd : Nat) (a b : Src) : ev n0 (.cpy wd a b) env H = cpyV wd (a.ev env) (b.ev env) env H := by
  simp only [ev, cpyV]; cases srcEls H wd false (b.ev env) <;> simp only [Option.bind_none, Option.bind_some]; split <;> simp_all
theorem cpyV_row (wd i len : Nat) (oc : Option Nat) (y : AV) (xs ys : List AV) (hl : L[i]? = some (some ⟨wd, xs⟩)) (hlen : len = xs.length) (hy : srcEls (hap H L) wd false y = some ys) (hle : len ≤ ys.length) :
    cpyV wd (.mu (lid H i) 0 len oc) y env (hap H L) = some (.int .i64 len, env, hap H (L.set i (some ⟨wd, ys.take len⟩))) := by
  subst hlen
  simp only [cpyV, hy, Option.bind_some, hrow_hap, hl, Option.join_some, set_hap]
  rw [if_pos ⟨trivial, by omega⟩]
  simp [Nat.min_eq_right hle]
end
def EI := @ev_cpy
def E2 := And.intro @EV2 (And.intro @EI @E1)
end Go.Abs
set_option linter.unusedVariables false
set_option linter.unusedSimpArgs false
set_option linter.defProp false
namespace Go.Abs
theorem ZI.av_fit (x : ZI) : x.av.fit = true := rfl
theorem ZI.av_cells (x : ZI) : x.av.cells = [.bool x.neg, natV x.mag] := rfl
theorem ZI.av_nref (id : Nat) (x : ZI) : nref id x.av = true := nref_cl x.cl
theorem ZI.av_frz (id : Nat) (b : Blk) (x : ZI) : frz id b x.av = x.av := frz_cl x.cl
theorem Z_cells (z : Int) : (Z z).cells = [.bool (decide (z < 0)), natV (limbs z.natAbs)] := rfl
theorem Z_fit (z : Int) : (Z z).fit = true := rfl
theorem Z_nref (id : Nat) (z : Int) : nref id (Z z) = true := nref_cl (Z_cl z)
theorem Z_frz (id : Nat) (b : Blk) (z : Int) : frz id b (Z z) = Z z := frz_cl (Z_cl z)
def vecV (v : List ZI) : AV := .sl 2 (v.map ZI.av)
def matV (b : List (List ZI)) : AV := .sl 1 (b.map vecV)
theorem clcells {a : AV} (h : Cl a) : ∀ c ∈ a.cells, Cl c := by
  intro c hc
  cases a with
  | agg cs => cases h with | agg _ h => exact h c hc
  | _ => simp [AV.cells] at hc; subst hc; exact h
theorem cl_sl {α : Type} (wd : Nat) (f : α → AV) (l : List α) (h : ∀ x, Cl (f x)) : Cl (.sl wd (l.map f)) := by
  refine .sl wd _ fun c hc => ?_
  obtain ⟨x, hx, hc⟩ := List.mem_flatMap.1 hc
  obtain ⟨y, _, rfl⟩ := List.mem_map.1 hx
  exact clcells (h y) c hc
theorem vecV_cl (v : List ZI) : Cl (vecV v) := cl_sl 2 _ v ZI.cl
theorem matV_cl (b : List (List ZI)) : Cl (matV b) := cl_sl 1 _ b vecV_cl
theorem vecV_cells (v : List ZI) : (vecV v).cells = [vecV v] := rfl
theorem vecV_fit (v : List ZI) : (vecV v).fit = true := rfl
theorem vecV_nref (id : Nat) (v : List ZI) : nref id (vecV v) = true := nref_cl (vecV_cl v)
theorem vecV_clb (v : List ZI) : clb (vecV v) = true := clb_cl (vecV_cl v)
theorem vecV_frz (id : Nat) (b : Blk) (v : List ZI) : frz id b (vecV v) = vecV v := frz_cl (vecV_cl v)
theorem matV_cells (v : List (List ZI)) : (matV v).cells = [matV v] := rfl
theorem matV_fit (v : List (List ZI)) : (matV v).fit = true := rfl
theorem matV_nref (id : Nat) (v : List (List ZI)) : nref id (matV v) = true := nref_cl (matV_cl v)
theorem matV_clb (v : List (List ZI)) : clb (matV v) = true := clb_cl (matV_cl v)
theorem matV_frz (id : Nat) (b : Blk) (v : List (List ZI)) : frz id b (matV v) = matV v := frz_cl (matV_cl v)
section
variable (H : Heap)
theorem sl_len {α : Type} (wd : Nat) (f : α → AV) (l : List α) : lenV H (.sl wd (l.map f)) = some (.int .i64 l.length) := by rw [lenV_sl, List.length_map]
theorem sl_idx {α : Type} (wd : Nat) (f : α → AV) (l : List α) (k : IntKind) (i : Nat) (h : i < l.length) : idxV H wd (.sl wd (l.map f)) (.int k i) = some (.ro (f l[i]) 0) := by
  rw [idxV_sl _ _ _ _ _ (by omega) (by rw [List.length_map]; omega)]
  simp [h]
theorem vec_len (v : List ZI) : lenV H (vecV v) = some (.int .i64 v.length) := sl_len H 2 _ v
theorem vec_idx (v : List ZI) (k : IntKind) (i : Nat) (h : i < v.length) : idxV H 2 (vecV v) (.int k i) = some (.ro v[i].av 0) := sl_idx H 2 _ v k i h
theorem mat_len (v : List (List ZI)) : lenV H (matV v) = some (.int .i64 v.length) := sl_len H 1 _ v
theorem mat_idx (v : List (List ZI)) (k : IntKind) (i : Nat) (h : i < v.length) : idxV H 1 (matV v) (.int k i) = some (.ro (vecV v[i]) 0) := sl_idx H 1 _ v k i h
/-- The elements of a row of the call's own, each closed. -/
theorem blk_map {α : Type} (wd : Nat) (f : α → AV) (l : List α) (h : ∀ x, Cl (f x)) : ∀ a ∈ (Blk.mk wd (l.map f)).flat, Cl a := by
  intro a ha
  obtain ⟨x, hx, hc⟩ := List.mem_flatMap.1 ha
  obtain ⟨y, _, rfl⟩ := List.mem_map.1 hx
  exact clcells (h y) a hc
theorem frz_map {α : Type} (id : Nat) (b : Blk) (f : α → AV) (l : List α) (h : ∀ x, Cl (f x)) : (l.map f).map (frz id b) = l.map f := by
  rw [List.map_map]
  exact List.map_congr_left fun x _ => frz_cl (h x)
theorem frz_mu_map {α : Type} (i : Nat) (wd : Nat) (f : α → AV) (l : List α) (oc : Option Nat) : frz (lid H i) ⟨wd, l.map f⟩ (.mu (lid H i) 0 l.length oc) = .sl wd (l.map f) := by
  rw [frz_mu_same _ _ _ _ _ (by rw [List.length_map])]
theorem app_map {α : Type} (hH : HRefs H) (L : Heap) (i : Nat) (n0 : Nat) (hn : n0 ≤ lid H i) (env : Env) (wd bytes : Nat) (f : α → AV) (hf : ∀ x, Cl (f x)) (l : List α) (x : α) (hl : L[i]? = some (some ⟨wd, l.map f⟩)) (hL : ∀ b, some b ∈ L → ∀ a ∈ b.flat, Cl a)
    (hb : (l.length + 1) * bytes ≤ 140737488355328) (hb' : l.length + 1 ≤ 9223372036854775807) :
    appV n0 wd bytes false (.mu (lid H i) 0 l.length none) (.sl wd [f x]) env (hap H L) = some (.mu (lid H i) 0 (l.length + 1) none, scrub (lid H i) env, hap H (L.set i (some ⟨wd, (l ++ [x]).map f⟩))) := by
  have := appV_own n0 env H L wd bytes false i l.length none (.sl wd [f x]) (l.map f) [f x] hH hl (by rw [List.length_map]) hn (srcEls_sl _ wd _) (aside_cl hL) (by
    intro a ha
    simp at ha
    exact (clcells (hf x) a ha).ref) (by simpa using hb) (by simpa using hb') rfl
  simpa [capAfter] using this
end
structure Vok (k : Nat) (v : List ZI) : Prop where
  len : v.length ≤ 2097152
  el : ∀ x ∈ v, Zok k x
structure Mok (k : Nat) (b : List (List ZI)) : Prop where
  len : b.length ≤ 2097152
  el : ∀ v ∈ b, Vok k v
theorem Vok.mono {k m : Nat} {v : List ZI} (h : Vok k v) (hk : k ≤ m) : Vok m v := ⟨h.len, fun x hx => (h.el x hx).mono hk⟩
theorem Mok.mono {k m : Nat} {b : List (List ZI)} (h : Mok k b) (hk : k ≤ m) : Mok m b := ⟨h.len, fun x hx => (h.el x hx).mono hk⟩
theorem Vok.get {k : Nat} {v : List ZI} (h : Vok k v) {i : Nat} (hi : i < v.length) : Zok k v[i] := h.el _ (List.getElem_mem hi)
theorem Mok.get {k : Nat} {v : List (List ZI)} (h : Mok k v) {i : Nat} (hi : i < v.length) : Vok k v[i] := h.el _ (List.getElem_mem hi)
theorem zero_lt_two' : (0 < 2) = True := by decide
/-- The rules for vectors. -/
def EM := And.intro zero_lt_two' <| And.intro @vec_len (And.intro @mat_len (And.intro @vecV_cells (And.intro @vecV_fit (And.intro @vecV_nref (And.intro @vecV_clb (And.intro @vecV_frz (And.intro @matV_cells (And.intro @matV_fit (And.intro @matV_nref (And.intro @matV_clb (And.intro @matV_frz
  (And.intro @ZI.av_fit (And.intro @ZI.av_cells (And.intro @ZI.av_nref (And.intro @ZI.av_frz (And.intro @Z_cells (And.intro @Z_fit (And.intro @Z_nref @Z_frz))))))))))))))))))
def zs (v : List ZI) : List Int := v.map ZI.z
def E3 := And.intro EM @E2
end Go.Abs
set_option linter.unusedVariables false
set_option linter.unusedSimpArgs false
set_option linter.defProp false
namespace Go.Abs
/-- The i-th entry of a vector, a matrix. -/
def zg (v : List ZI) (i : Nat) : Int := (v.getD i ⟨false, []⟩).z
def mg (b : List (List ZI)) (i : Nat) : List ZI := b.getD i []
theorem zg_lt {v : List ZI} {i : Nat} (h : i < v.length) : zg v i = v[i].z := by simp [zg, h]
theorem mg_lt {b : List (List ZI)} {i : Nat} (h : i < b.length) : mg b i = b[i] := by simp [mg, h]
/-- The vector in the one form of these entries. -/
def vec (n : Nat) (f : Nat → Int) : List ZI := (List.range n).map fun i => canZ (f i)
def mat (n : Nat) (f : Nat → List ZI) : List (List ZI) := (List.range n).map f
theorem vec_length (n : Nat) (f : Nat → Int) : (vec n f).length = n := by simp [vec]
theorem mat_length (n : Nat) (f : Nat → List ZI) : (mat n f).length = n := by simp [mat]
theorem vec_succ (n : Nat) (f : Nat → Int) : vec (n + 1) f = vec n f ++ [canZ (f n)] := by simp [vec, List.range_succ]
theorem mat_succ (n : Nat) (f : Nat → List ZI) : mat (n + 1) f = mat n f ++ [f n] := by simp [mat, List.range_succ]
theorem vec_get {n : Nat} {f : Nat → Int} {i : Nat} (h : i < (vec n f).length) : (vec n f)[i] = canZ (f i) := by simp [vec]
theorem mat_get {n : Nat} {f : Nat → List ZI} {i : Nat} (h : i < (mat n f).length) : (mat n f)[i] = f i := by simp [mat]
theorem vec_congr {n : Nat} {f g : Nat → Int} (h : ∀ i, i < n → f i = g i) : vec n f = vec n g :=
  List.map_congr_left fun i hi => by rw [h i (List.mem_range.1 hi)]
theorem zg_vec {n : Nat} {f : Nat → Int} {i : Nat} (h : i < n) : zg (vec n f) i = f i := by
  rw [zg_lt (by rw [vec_length]; exact h), vec_get, canZ_z]
theorem mg_mat {n : Nat} {f : Nat → List ZI} {i : Nat} (h : i < n) : mg (mat n f) i = f i := by
  rw [mg_lt (by rw [mat_length]; exact h), mat_get]
theorem zok_vec {k n : Nat} {f : Nat → Int} (hn : n ≤ 2097152) (h : ∀ i, i < n → (f i).natAbs < LB ^ k) : Vok k (vec n f) := by
  refine ⟨by rw [vec_length]; exact hn, fun x hx => ?_⟩
  obtain ⟨i, hi, rfl⟩ := List.mem_map.1 hx
  exact zok_can (h i (List.mem_range.1 hi))
theorem mok_mat {k n : Nat} {f : Nat → List ZI} (hn : n ≤ 2097152) (h : ∀ i, i < n → Vok k (f i)) : Mok k (mat n f) := by
  refine ⟨by rw [mat_length]; exact hn, fun x hx => ?_⟩
  obtain ⟨i, hi, rfl⟩ := List.mem_map.1 hx
  exact h i (List.mem_range.1 hi)
theorem Vok.abs {k : Nat} {v : List ZI} (h : Vok k v) (i : Nat) : (zg v i).natAbs < LB ^ k := by
  rcases Nat.lt_or_ge i v.length with hi | hi
  · rw [zg_lt hi]; exact (h.get hi).abs
  · simp [zg, hi, ZI.z, sgn, val]
    exact Nat.pow_pos (by decide)
theorem Mok.row {k : Nat} {b : List (List ZI)} (h : Mok k b) (i : Nat) : Vok k (mg b i) := by
  rcases Nat.lt_or_ge i b.length with hi | hi
  · rw [mg_lt hi]; exact h.get hi
  · simp [mg, hi]
    exact ⟨by simp, by simp⟩
theorem lb_add (a b : Nat) : LB ^ (a + b) = LB ^ a * LB ^ b := Nat.pow_add _ _ _
theorem lb_pos (a : Nat) : 0 < LB ^ a := Nat.pow_pos (by decide)
theorem lb_mono {a b : Nat} (h : a ≤ b) : LB ^ a ≤ LB ^ b := Nat.pow_le_pow_right (by decide) h
theorem mul_abs {x y : Int} {k l : Nat} (hx : x.natAbs < LB ^ k) (hy : y.natAbs < LB ^ l) : (x * y).natAbs < LB ^ (k + l) := by
  rw [Int.natAbs_mul, lb_add]
  exact Nat.mul_lt_mul'' hx hy
theorem add_abs {x y : Int} {k : Nat} (hx : x.natAbs < LB ^ k) (hy : y.natAbs < LB ^ k) : (x + y).natAbs < LB ^ (k + 1) := by
  have h := Int.natAbs_add_le x y
  rw [lb_add]
  have : LB = 4294967296 := rfl
  have := lb_pos k
  rw [Nat.pow_one]
  generalize LB ^ k = c at *
  calc (x + y).natAbs ≤ x.natAbs + y.natAbs := h
    _ < c * 2 := by omega
    _ ≤ c * LB := Nat.mul_le_mul_left _ (by decide)
theorem sub_abs {x y : Int} {k : Nat} (hx : x.natAbs < LB ^ k) (hy : y.natAbs < LB ^ k) : (x - y).natAbs < LB ^ (k + 1) := by
  rw [Int.sub_eq_add_neg]
  exact add_abs hx (by rwa [Int.natAbs_neg])
/-- Sums. -/
def sumTo (f : Nat → Int) : Nat → Int
  | 0 => 0
  | n + 1 => sumTo f n + f n
theorem sumTo_le {f : Nat → Int} {B : Nat} : ∀ (n : Nat), (∀ i, i < n → (f i).natAbs < B) → (sumTo f n).natAbs ≤ n * B
  | 0, _ => by simp [sumTo]
  | n + 1, h => by
    have h1 := sumTo_le n fun i hi => h i (by omega)
    have h2 := h n (by omega)
    have h3 := Int.natAbs_add_le (sumTo f n) (f n)
    rw [sumTo, Nat.add_mul]
    omega
/-- A sum of so many, each of k limbs, has two limbs more. -/
theorem sumTo_abs {f : Nat → Int} {k n : Nat} (hn : n ≤ 2097152) (h : ∀ i, i < n → (f i).natAbs < LB ^ k) : (sumTo f n).natAbs < LB ^ (k + 2) := by
  have h1 := sumTo_le n h
  rw [lb_add]
  have hp := lb_pos k
  generalize LB ^ k = c at *
  have h2 : n * c ≤ 2097152 * c := Nat.mul_le_mul_right _ hn
  have h3 : c * LB ^ 2 = 18446744073709551616 * c := by rw [Nat.mul_comm]; rfl
  omega
section
variable {H : Heap}
/-- Closed rows. -/
def RC (L : Heap) : Prop := ∀ b, some b ∈ L → ∀ a ∈ b.flat, Cl a
theorem RC.nil : RC [] := fun b h => by cases h
theorem RC.none {L : Heap} (h : RC L) : RC (none :: L) := fun b hb a ha => by
  rcases List.mem_cons.1 hb with e | e
  · cases e
  · exact h b e a ha
theorem RC.cons {b : Blk} {L : Heap} (hb : ∀ a ∈ b.flat, Cl a) (h : RC L) : RC (some b :: L) := fun c hc a ha => by
  rcases List.mem_cons.1 hc with e | e
  · cases e; exact hb a ha
  · exact h c e a ha
theorem RC.row {α : Type} {wd : Nat} {f : α → AV} {l : List α} {L : Heap} (hf : ∀ x, Cl (f x)) (h : RC L) : RC (some ⟨wd, l.map f⟩ :: L) := .cons (blk_map wd f l hf) h
theorem RC.one {wd : Nat} {x : AV} {L : Heap} (hx : Cl x) (h : RC L) : RC (some ⟨wd, [x]⟩ :: L) := .cons (fun a ha => by
  simp only [Blk.flat, List.flatMap_cons, List.flatMap_nil, List.append_nil] at ha
  exact clcells hx a ha) h
theorem RC.emp {wd : Nat} {L : Heap} (h : RC L) : RC (some ⟨wd, []⟩ :: L) := .cons (fun a ha => by cases ha) h
theorem RC.zero {L : Heap} (h : RC L) : RC (some ⟨2, [.agg [.bool false, .nil]]⟩ :: L) := .one (.agg _ (by
  intro c hc
  simp only [List.mem_cons, List.not_mem_nil, or_false] at hc
  rcases hc with rfl | rfl
  · exact .bool _
  · exact .nil)) h
theorem app_row {α : Type} (hH : HRefs H) {L : Heap} (i : Nat) {n0 : Nat} (hn : n0 ≤ lid H i) {env : Env} {wd bytes : Nat} {f : α → AV} (hf : ∀ x, Cl (f x)) (l : List α) (x : α) (l' : List α) {y : AV} {len : Nat}
    (hlen : len = l.length) (hl : L[i]? = some (some ⟨wd, l.map f⟩)) (hL : RC L) (hy : y = f x) (hl' : l' = l ++ [x]) (hb : (len + 1) * bytes ≤ 140737488355328) (hbb : len + 1 ≤ 9223372036854775807) :
    appV n0 wd bytes false (.mu (lid H i) 0 len none) (.sl wd [y]) env (hap H L) = some (.mu (lid H i) 0 (len + 1) none, scrub (lid H i) env, hap H (L.set i (some ⟨wd, l'.map f⟩))) := by
  subst hy
  subst hl'
  have := appV_own n0 env H L wd bytes false i len none (.sl wd [f x]) (l.map f) [f x] hH hl (by rw [List.length_map]; exact hlen) hn (srcEls_sl _ wd _) (aside_cl hL) (by
    intro a ha
    simp at ha
    exact (clcells (hf x) a ha).ref) (by simpa using hb) (by simpa using hbb) rfl
  simpa [capAfter] using this
theorem app_room {α : Type} {L : Heap} (i : Nat) {n0 : Nat} (hn : n0 ≤ lid H i) {env : Env} {wd bytes : Nat} {f : α → AV} (l : List α) (x : α) (l' : List α) {y : AV} {len c : Nat}
    (hlen : len = l.length) (hl : L[i]? = some (some ⟨wd, l.map f⟩)) (hy : y = f x) (hl' : l' = l ++ [x]) (hc : len + 1 ≤ c) :
    appV n0 wd bytes false (.mu (lid H i) 0 len (some c)) (.sl wd [y]) env (hap H L) = some (.mu (lid H i) 0 (len + 1) (some c), env, hap H (L.set i (some ⟨wd, l'.map f⟩))) := by
  subst hy
  subst hl'
  have := appV_room n0 env H L wd bytes false i len c (.sl wd [f x]) (l.map f) [f x] hl (by rw [List.length_map]; exact hlen) hn (srcEls_sl _ wd _) (by simp) (by simpa using hc)
  simpa using this
theorem mksl_row (env : Env) (L : Heap) (wd bytes : Nat) (z : AV) (k k' : IntKind) (c : Nat) (h0 : 0 < wd) (h2 : bytes * c ≤ 281474976710656) (h3 : c ≤ 9223372036854775807) :
    mkslV wd bytes z (.int k 0) (.int k' c) env (hap H L) = some (.mu (lid H L.length) 0 0 (some c), env, hap H (L ++ [some ⟨wd, []⟩])) := by
  have := mkslV_int env H L wd bytes z k k' 0 c h0 (Nat.zero_le _) h2 h3
  simpa using this
theorem frz_row {α : Type} (i wd : Nat) (f : α → AV) (l : List α) (len : Nat) (oc : Option Nat) (h : len = l.length) : frz (lid H i) ⟨wd, l.map f⟩ (.mu (lid H i) 0 len oc) = .sl wd (l.map f) := by
  subst h; exact frz_mu_map H i wd f l oc
section
variable {x : Cx} {todo : List AItem} {env : Env} {R : AV → Heap → Prop} {a b c d e : Option Blk}
theorem Safe.drop1 (hH : HRefs H) (hx : x.n0 = H.length) (he : env.all (fun p => nref (lid H 1) p.2) = true) (hL : RC [a]) (h : Safe x todo env (hap H [a]) R) : Safe x todo env (hap H [a, b]) R := Safe.dropC (L := [a]) hH hx he hL h
theorem Safe.drop2 (hH : HRefs H) (hx : x.n0 = H.length) (he : env.all (fun p => nref (lid H 2) p.2) = true) (hL : RC [a, b]) (h : Safe x todo env (hap H [a, b]) R) : Safe x todo env (hap H [a, b, c]) R := Safe.dropC (L := [a, b]) hH hx he hL h
theorem Safe.drop3 (hH : HRefs H) (hx : x.n0 = H.length) (he : env.all (fun p => nref (lid H 3) p.2) = true) (hL : RC [a, b, c]) (h : Safe x todo env (hap H [a, b, c]) R) : Safe x todo env (hap H [a, b, c, d]) R := Safe.dropC (L := [a, b, c]) hH hx he hL h
end
end
end Go.Abs
set_option linter.unusedVariables false
set_option linter.unusedSimpArgs false
set_option linter.defProp false
namespace Go.Abs
section
variable {x : Cx} {todo : List AItem} {env : Env} {R : AV → Heap → Prop} {H : Heap} {b : Option Blk}
theorem Safe.drop0 (hH : HRefs H) (hx : x.n0 = H.length) (he : env.all (fun p => nref (lid H 0) p.2) = true) (hL : RC []) (h : Safe x todo env (hap H []) R) : Safe x todo env (hap H [b]) R := Safe.dropC (L := []) hH hx he hL h
theorem flat_map_rep {n : Nat} {a : AV} {k : Nat} {c : AV} (h : ((List.replicate n a).flatMap AV.cells)[k]? = some c) : ∃ j, a.cells[j]? = some c ∧ j = k % a.cells.length ∧ k / a.cells.length < n := by
  induction n generalizing k with
  | zero => simp at h
  | succ n ih =>
    rw [List.replicate_succ, List.flatMap_cons] at h
    rcases Nat.lt_or_ge k a.cells.length with hk | hk
    · rw [List.getElem?_append_left hk] at h
      exact ⟨k, h, (Nat.mod_eq_of_lt hk).symm, by rw [Nat.div_eq_of_lt hk]; omega⟩
    · rw [List.getElem?_append_right hk] at h
      obtain ⟨j, h1, h2, h3⟩ := ih h
      have hp : 0 < a.cells.length := by
        rcases Nat.eq_zero_or_pos a.cells.length with h0 | h0
        · have := lt_of_live' h1; omega
        · exact h0
      refine ⟨j, h1, ?_, ?_⟩
      · rw [h2, Nat.mod_eq_sub_mod hk]
      · rw [Nat.div_eq_sub_div hp hk]; omega
theorem rep_flat_len {n wd : Nat} {a : AV} (h : a.cells.length = wd) : ((List.replicate n a).flatMap AV.cells).length = n * wd := by
  rw [cells_len_flat (wd := wd)]
  · simp
  · intro x hx; rw [List.eq_of_mem_replicate hx]; exact h
/-- Numbers not yet written are told as 0. -/
theorem Safe.toldRep (i n : Nat) {L : Heap} (hl : L[i]? = some (some ⟨2, List.replicate n (.agg [.bool false, .nil])⟩)) (h : Safe x todo env (hap H (L.set i (some ⟨2, (vec n fun _ => 0).map ZI.av⟩))) R) : Safe x todo env (hap H L) R := by
  have e : (vec n fun _ => 0).map ZI.av = List.replicate n (.agg [.bool false, natV []]) := by
    apply List.ext_getElem
    · simp [vec_length]
    · intro j h1 h2
      simp only [List.getElem_map, vec_get, canZ_av, Z_zero, List.getElem_replicate]
  rw [e] at h
  refine Safe.toldRow (b' := ⟨2, List.replicate n (.agg [.bool false, natV []])⟩) i hl rfl (by intro y hy; rw [List.eq_of_mem_replicate hy]; rfl) ?_ (by simp) ?_ h
  · show ((List.replicate n _).flatMap AV.cells).length = ((List.replicate n _).flatMap AV.cells).length
    rw [rep_flat_len (wd := 2) rfl, rep_flat_len (wd := 2) rfl]
  · intro k a c ha hc
    obtain ⟨j, h1, h2, _⟩ := flat_map_rep ha
    obtain ⟨j', h1', h2', _⟩ := flat_map_rep hc
    have : j' = j := by rw [h2, h2']; rfl
    subst this
    match j' with
    | 0 => cases h1; cases h1'; exact Le.refl _
    | 1 => cases h1; cases h1'; exact Le.nil 1 (by decide)
    | j + 2 => simp [AV.cells] at h1
end
/-- One entry written. -/
def updF (f : Nat → Int) (i : Nat) (z : Int) : Nat → Int := fun k => if k = i then z else f k
theorem vec_set (n : Nat) (f : Nat → Int) (i : Nat) (z : Int) : ((vec n f).map ZI.av).set i (Z z) = (vec n (updF f i z)).map ZI.av := by
  apply List.ext_getElem
  · simp [vec_length]
  · intro j h1 h2
    rw [List.getElem_set]
    simp only [List.getElem_map, vec_get, updF]
    by_cases h : i = j
    · subst h; simp [canZ_av]
    · rw [if_neg h, if_neg (fun e => h e.symm)]
theorem first_bad (p : Nat → Prop) [DecidablePred p] : ∀ (n : Nat), (∀ i, i < n → p i) ∨ ∃ i, i < n ∧ ¬ p i ∧ ∀ j, j < i → p j
  | 0 => .inl fun i hi => absurd hi (by omega)
  | n + 1 => by
    rcases first_bad p n with h | ⟨i, hi, h1, h2⟩
    · by_cases hp : p n
      · exact .inl fun i hi => by
          rcases Nat.lt_or_ge i n with h' | h'
          · exact h i h'
          · rw [show i = n by omega]; exact hp
      · exact .inr ⟨n, by omega, hp, h⟩
    · exact .inr ⟨i, by omega, h1, h2⟩
def Rect (b : List (List ZI)) : Prop := ∀ i, i < b.length → (mg b i).length = (mg b 0).length
def wid (b : List (List ZI)) : Nat := (mg b 0).length
theorem rect_cases (b : List (List ZI)) : Rect b ∨ ∃ i, i < b.length ∧ (mg b i).length ≠ (mg b 0).length ∧ ∀ j, j < i → (mg b j).length = (mg b 0).length :=
  first_bad (fun i => (mg b i).length = (mg b 0).length) b.length
theorem mat_idx0 (H : Heap) (v : List (List ZI)) (k : IntKind) (h : 0 < v.length) : idxV H 1 (matV v) (.int k 0) = some (.ro (vecV v[0]) 0) := mat_idx H v k 0 h
/-- The matrix, each entry in one form. -/
def formM (b : List (List ZI)) : List (List ZI) := mat b.length fun i => vec (mg b i).length fun k => zg (mg b i) k
theorem frz_vec (H : Heap) (i : Nat) (v : List ZI) (len : Nat) (oc : Option Nat) (h : len = v.length) : frz (lid H i) ⟨2, v.map ZI.av⟩ (.mu (lid H i) 0 len oc) = vecV v := frz_row i 2 ZI.av v len oc h
theorem frz_mat (H : Heap) (i : Nat) (v : List (List ZI)) (len : Nat) (oc : Option Nat) (h : len = v.length) : frz (lid H i) ⟨1, v.map vecV⟩ (.mu (lid H i) 0 len oc) = matV v := frz_row i 1 vecV v len oc h
theorem map_frz_vec (id : Nat) (b : Blk) (v : List ZI) : (v.map ZI.av).map (frz id b) = v.map ZI.av := frz_map id b ZI.av v ZI.cl
theorem map_frz_mat (id : Nat) (b : Blk) (v : List (List ZI)) : (v.map vecV).map (frz id b) = v.map vecV := frz_map id b vecV v vecV_cl
end Go.Abs
set_option linter.unusedVariables false
set_option linter.unusedSimpArgs false
set_option linter.defProp false
namespace Go.Abs
section
variable {H L : Heap} {a b : Option Blk} {wd len j n : Nat} {X : List AV} {oc : Option Nat} {k : IntKind} {f : Nat → Int} {z : Int} {env : Env}
theorem idx_r0 (h : j < len) : idxV (hap H (some ⟨wd, X⟩ :: L)) wd (.mu (lid H 0) 0 len oc) (.int k j) = some (.loc (lid H 0) j 0) := by
  rw [mu_idx H _ wd 0 0 len oc k j rfl rfl h, Nat.zero_add]
theorem idx_r2 (h : j < len) : idxV (hap H (a :: b :: some ⟨wd, X⟩ :: L)) wd (.mu (lid H 2) 0 len oc) (.int k j) = some (.loc (lid H 2) j 0) := by
  rw [mu_idx H _ wd 2 0 len oc k j rfl rfl h, Nat.zero_add]
theorem vec_getD (h : j < n) : ((vec n f).map ZI.av).getD j .top = Z (f j) := by
  rw [List.getD_eq_getElem?_getD, List.getElem?_map, List.getElem?_eq_getElem (by rw [vec_length]; exact h), vec_get]
  rfl
theorem at_r0 (h : j < n) : atV (hap H (some ⟨2, (vec n f).map ZI.av⟩ :: L)) (.loc (lid H 0) j 0) = some (Z (f j)).cells := by
  rw [loc_load H _ 0 j rfl (by rw [List.length_map, vec_length]; exact h), vec_getD h]
theorem st_r0 (h : j < n) : storeV 2 (.loc (lid H 0) j 0) (Z z) env (hap H (some ⟨2, (vec n f).map ZI.av⟩ :: L)) = some (.top, env, hap H (some ⟨2, (vec n (updF f j z)).map ZI.av⟩ :: L)) := by
  rw [storeV_loc env H _ 2 0 j 0 (Z z) rfl (by rw [List.length_map, vec_length]; exact h) rfl rfl (Nat.le_refl 2)]
  rw [← vec_set]; rfl
end
/-- Sums of rows. -/
def cmbS (x : List ZI) (b : List (List ZI)) (k i : Nat) : Int := sumTo (fun l => zg x l * zg (mg b l) k) i
def combV (x : List ZI) (b : List (List ZI)) : List ZI := vec (wid b) fun k => cmbS x b k b.length
def prodM (a b : List (List ZI)) : List (List ZI) := mat a.length fun i => combV (mg a i) b
def turnM (b : List (List ZI)) : List (List ZI) := mat (wid b) fun k => vec b.length fun i => zg (mg b i) k
/-- Row i being added: the first j entries are done. -/
def cmbF (x : List ZI) (b : List (List ZI)) (i j : Nat) : Nat → Int := fun k => if k < j then cmbS x b k (i + 1) else cmbS x b k i
theorem cmbF_zero (x : List ZI) (b : List (List ZI)) (i : Nat) : cmbF x b i 0 = fun k => cmbS x b k i := by
  funext k; simp [cmbF]
theorem cmbF_step (x : List ZI) (b : List (List ZI)) (i j n : Nat) : vec n (updF (cmbF x b i j) j (cmbF x b i j j + zg x i * zg (mg b i) j)) = vec n (cmbF x b i (j + 1)) := by
  refine vec_congr fun k _ => ?_
  simp only [updF, cmbF, Nat.lt_irrefl, if_false]
  by_cases h : k = j
  · subst h
    rw [if_pos rfl, if_pos (by omega)]; rfl
  · rw [if_neg h]
    by_cases h2 : k < j
    · rw [if_pos h2, if_pos (by omega)]
    · rw [if_neg h2, if_neg (by omega)]
theorem cmbF_all (x : List ZI) (b : List (List ZI)) (i n : Nat) : vec n (cmbF x b i n) = vec n fun k => cmbS x b k (i + 1) := by
  refine vec_congr fun k hk => ?_
  simp [cmbF, hk]
theorem cmbS_abs {x : List ZI} {b : List (List ZI)} {p q : Nat} (hx : Vok p x) (hb : Mok q b) (k : Nat) {i : Nat} (hi : i ≤ b.length) : (cmbS x b k i).natAbs < LB ^ (p + q + 2) :=
  sumTo_abs (Nat.le_trans hi (Nat.le_trans hb.len (by decide))) fun l _ => mul_abs (hx.abs l) ((hb.row l).abs k)
theorem cmbF_abs {x : List ZI} {b : List (List ZI)} {p q : Nat} (hx : Vok p x) (hb : Mok q b) {i j : Nat} (hi : i < b.length) (k : Nat) : (cmbF x b i j k).natAbs < LB ^ (p + q + 2) := by
  unfold cmbF
  split
  · exact cmbS_abs hx hb k (by omega)
  · exact cmbS_abs hx hb k (by omega)
theorem comb_ok {x : List ZI} {b : List (List ZI)} {p q : Nat} (hx : Vok p x) (hb : Mok q b) : Vok (p + q + 2) (combV x b) :=
  zok_vec (hb.row 0).len fun k _ => cmbS_abs hx hb k (Nat.le_refl _)
theorem prod_ok {a b : List (List ZI)} {p q : Nat} (ha : Mok p a) (hb : Mok q b) : Mok (p + q + 2) (prodM a b) := mok_mat ha.len fun i _ => comb_ok (ha.row i) hb
theorem turn_ok {b : List (List ZI)} {p : Nat} (hb : Mok p b) : Mok p (turnM b) := mok_mat (hb.row 0).len fun k _ => zok_vec hb.len fun i _ => (hb.row i).abs k
theorem mgz {b : List (List ZI)} {i j : Nat} (hi : i < b.length) (hj : j < b[i].length) : b[i][j].z = zg (mg b i) j := by rw [mg_lt hi, zg_lt hj]
theorem rect_w {b : List (List ZI)} (hr : Rect b) {i : Nat} (hi : i < b.length) : b[i].length = wid b := by
  have := hr i hi
  rwa [mg_lt hi] at this
end Go.Abs
set_option linter.unusedVariables false
set_option linter.unusedSimpArgs false
namespace Go.Abs
/-- The guess is not below the digit. -/
theorem guess_ge {u v : List Nat} {n : Nat} (hu : Lim u) (hv : Lim v) (hun : u.length = n + 1) (hvn : v.length = n) (hn : 0 < n) (hv0 : 0 < val v) (hlt : val u < LB * val v) (ht : 0 < v.getD (n - 1) 0) :
    val u / val v ≤ min ((u.getD n 0 * LB + u.getD (n - 1) 0) / v.getD (n - 1) 0) (LB - 1) := by
  have hq1 : val u / val v ≤ LB - 1 := by
    have : val u / val v < LB := by rw [Nat.div_lt_iff_lt_mul hv0]; exact hlt
    omega
  refine Nat.le_min.2 ⟨?_, hq1⟩
  rw [Nat.le_div_iff_mul_le ht]
  have hs := val_split u (n - 1)
  have hsv := val_split v (n - 1)
  have hdu : val (u.drop (n - 1)) = u.getD (n - 1) 0 + LB * u.getD n 0 := by
    have e : u.drop (n - 1) = [u.getD (n - 1) 0, u.getD n 0] := by
      apply List.ext_getElem
      · simp; omega
      · intro i h1 h2
        match i with
        | 0 => simp [List.getD_eq_getElem?_getD, List.getElem?_eq_getElem (show n - 1 < u.length by omega)]
        | 1 =>
          simp only [List.getElem_drop, List.getElem_cons_succ, List.getElem_cons_zero]
          rw [List.getD_eq_getElem?_getD, List.getElem?_eq_getElem (show n < u.length by omega)]
          simp only [show n - 1 + 1 = n by omega]; rfl
        | i + 2 => simp at h2; omega
    rw [e]; simp [val]
  have hdv : val (v.drop (n - 1)) = v.getD (n - 1) 0 := by
    have e : v.drop (n - 1) = [v.getD (n - 1) 0] := by
      apply List.ext_getElem
      · simp; omega
      · intro i h1 h2
        match i with
        | 0 => simp [List.getD_eq_getElem?_getD, List.getElem?_eq_getElem (show n - 1 < v.length by omega)]
        | i + 1 => simp at h2
    rw [e]; simp [val]
  have htu := val_take_lt hu (n - 1)
  have hle : val u / val v * val v ≤ val u := Nat.div_mul_le_self _ _
  generalize val u / val v = q at *
  generalize hP : LB ^ (n - 1) = P at *
  have hPp : 0 < P := by rw [← hP]; exact Nat.pow_pos (by decide)
  rw [hdu] at hs
  rw [hdv] at hsv
  generalize v.getD (n - 1) 0 = vt at *
  have e2 : LB * u.getD n 0 = u.getD n 0 * LB := Nat.mul_comm _ _
  generalize u.getD (n - 1) 0 = ua at *
  have hbig : q * vt * P < (u.getD n 0 * LB + ua + 1) * P := by
    have h1 : q * (P * vt) ≤ q * val v := Nat.mul_le_mul_left _ (by omega)
    have h2 : q * (P * vt) = q * vt * P := by rw [Nat.mul_comm P vt, Nat.mul_assoc]
    have h3 : (u.getD n 0 * LB + ua + 1) * P = P * (ua + LB * u.getD n 0) + P := by
      rw [Nat.add_mul, Nat.one_mul, Nat.mul_comm _ P, e2, Nat.add_comm ua]
    omega
  have := Nat.lt_of_mul_lt_mul_right hbig
  omega
end Go.Abs
set_option linter.unusedVariables false
set_option linter.unusedSimpArgs false
namespace Go.Abs
def fl (n : Nat) (f : Nat → Nat) : List Nat := (List.range n).map f
/-- A digit. -/
def dig (M i : Nat) : Nat := M / LB ^ i % LB
theorem dig_lt (M i : Nat) : dig M i < LB := Nat.mod_lt _ (by decide)
theorem fl_len (n : Nat) (f : Nat → Nat) : (fl n f).length = n := by simp [fl]
theorem fl_get {n : Nat} {f : Nat → Nat} {i : Nat} (h : i < n) : (fl n f).getD i 0 = f i := by
  simp [fl, List.getD_eq_getElem?_getD, h]
theorem fl_congr {n : Nat} {f g : Nat → Nat} (h : ∀ i, i < n → f i = g i) : fl n f = fl n g := List.map_congr_left fun i hi => h i (List.mem_range.1 hi)
theorem fl_set (n : Nat) (f : Nat → Nat) (i v : Nat) : (fl n f).set i v = fl n fun j => if j = i then v else f j := by
  apply List.ext_getElem
  · simp [fl]
  · intro j h1 h2
    rw [List.getElem_set]
    simp only [fl, List.getElem_map, List.getElem_range]
    by_cases h : i = j
    · subst h; simp
    · rw [if_neg h, if_neg (fun e => h e.symm)]
theorem fl_lim {n : Nat} {f : Nat → Nat} (h : ∀ i, i < n → f i < LB) : Lim (fl n f) := by
  intro d hd
  obtain ⟨i, hi, rfl⟩ := List.mem_map.1 hd
  exact h i (List.mem_range.1 hi)
theorem fl_zero (n : Nat) : List.replicate n 0 = fl n fun _ => 0 := by
  apply List.ext_getElem <;> simp [fl]
theorem fl_succ (n : Nat) (f : Nat → Nat) : fl (n + 1) f = fl n f ++ [f n] := by simp [fl, List.range_succ]
theorem fl_eq {l : List Nat} {n : Nat} (h : l.length = n) : l = fl n fun i => l.getD i 0 := by
  subst h
  apply List.ext_getElem
  · simp [fl]
  · intro i h1 h2; simp [fl, List.getD_eq_getElem?_getD, h1]
theorem fl_take {n k : Nat} (f : Nat → Nat) (h : k ≤ n) : (fl n f).take k = fl k f := by
  apply List.ext_getElem
  · simp [fl]; omega
  · intro i h1 h2; simp [fl]
theorem val_fl (M : Nat) : ∀ n, val (fl n (dig M)) = M % LB ^ n
  | 0 => by simp [fl, val, Nat.mod_one]
  | n + 1 => by
    rw [fl_succ, val_snoc, val_fl M n, fl_len, Nat.pow_succ, Nat.mod_mul]; rfl
theorem val_fl_all {M n : Nat} (h : M < LB ^ n) : val (fl n (dig M)) = M := by rw [val_fl, Nat.mod_eq_of_lt h]
theorem lim_dig (M n : Nat) : Lim (fl n (dig M)) := fl_lim fun i _ => dig_lt M i
/-- A row's digits. -/
theorem dig_val {l : List Nat} (hl : Lim l) (i : Nat) : dig (val l) i = l.getD i 0 := by
  unfold dig
  rw [val_split l i]
  rcases Nat.lt_or_ge l.length i with h | h
  · have : l.drop i = [] := List.drop_eq_nil_of_le (by omega)
    rw [this, List.take_of_length_le (by omega), getD_out (by omega)]
    simp only [val, Nat.mul_zero, Nat.add_zero]
    have h2 : val l < LB ^ i := Nat.lt_of_lt_of_le (val_lt hl) (Nat.pow_le_pow_right (by decide) (by omega))
    rw [Nat.div_eq_of_lt h2]; rfl
  · have h1 := val_take_lt hl i
    rw [Nat.add_mul_div_left _ _ (pow_pos' i), Nat.div_eq_of_lt h1, Nat.zero_add]
    have : l.getD i 0 = (l.drop i).getD 0 0 := by rw [getD_drop, Nat.add_zero]
    rw [this]
    cases hd : l.drop i with
    | nil => rfl
    | cons d r =>
      have hlt : d < LB := (hl.drop i) d (by rw [hd]; simp)
      simp only [val, List.getD_cons_zero]
      rw [Nat.add_mul_mod_self_left, Nat.mod_eq_of_lt hlt]
theorem lim_fl_val {l : List Nat} (hl : Lim l) {n : Nat} (h : l.length = n) : l = fl n (dig (val l)) := by
  rw [fl_eq h]
  refine fl_congr fun i _ => ?_
  rw [← fl_eq h, dig_val hl]
theorem dig_high {M i : Nat} (h : M < LB ^ i) : dig M i = 0 := by unfold dig; rw [Nat.div_eq_of_lt h]; rfl
theorem dig_div (M a i : Nat) : dig (M / LB ^ a) i = dig M (a + i) := by
  unfold dig; rw [Nat.div_div_eq_div_mul, ← Nat.pow_add]
theorem dig_add_mul {M a i : Nat} (K : Nat) (h : i < a) : dig (M + LB ^ a * K) i = dig M i := by
  unfold dig
  have : LB ^ a * K = LB ^ i * (LB * (LB ^ (a - i - 1) * K)) := by
    rw [← Nat.mul_assoc LB, ← Nat.pow_succ', Nat.succ_eq_add_one, show a - i - 1 + 1 = a - i by omega, ← Nat.mul_assoc, ← Nat.pow_add, show i + (a - i) = a by omega]
  rw [this, Nat.add_mul_div_left _ _ (pow_pos' i), Nat.add_mul_mod_self_left]
/-- Words side by side. -/
theorem or_add {x y : Nat} (k : Nat) (hx : x < 2 ^ (64 - k)) (hk : k ≤ 64) (hy : y < 2 ^ k) : (BitVec.ofInt 64 ((x * 2 ^ k : Nat) : Int) ||| BitVec.ofInt 64 ((y : Nat) : Int)).toNat = x * 2 ^ k + y := by
  have e : 2 ^ 64 = 2 ^ (64 - k) * 2 ^ k := by rw [← Nat.pow_add]; congr 1; omega
  have hx2 : x * 2 ^ k < 2 ^ 64 := by rw [e]; exact Nat.mul_lt_mul_of_pos_right hx (Nat.pow_pos (by decide))
  have hy2 : y < 2 ^ 64 := Nat.lt_of_lt_of_le hy (Nat.pow_le_pow_right (by decide) hk)
  rw [BitVec.toNat_or]
  simp only [BitVec.ofInt_natCast, BitVec.toNat_ofNat]
  rw [Nat.mod_eq_of_lt hx2, Nat.mod_eq_of_lt hy2]
  have := Nat.shiftLeft_add_eq_or_of_lt hy x
  rw [Nat.shiftLeft_eq] at this
  exact this.symm
theorem or_add32 {x y : Nat} (k : Nat) (hx : x < 2 ^ (32 - k)) (hk : k ≤ 32) (hy : y < 2 ^ k) : (BitVec.ofInt 32 ((y : Nat) : Int) ||| BitVec.ofInt 32 ((x * 2 ^ k : Nat) : Int)).toNat = x * 2 ^ k + y := by
  have e : 2 ^ 32 = 2 ^ (32 - k) * 2 ^ k := by rw [← Nat.pow_add]; congr 1; omega
  have hx2 : x * 2 ^ k < 2 ^ 32 := by rw [e]; exact Nat.mul_lt_mul_of_pos_right hx (Nat.pow_pos (by decide))
  have hy2 : y < 2 ^ 32 := Nat.lt_of_lt_of_le hy (Nat.pow_le_pow_right (by decide) hk)
  rw [BitVec.toNat_or]
  simp only [BitVec.ofInt_natCast, BitVec.toNat_ofNat]
  rw [Nat.mod_eq_of_lt hx2, Nat.mod_eq_of_lt hy2, Nat.or_comm]
  have := Nat.shiftLeft_add_eq_or_of_lt hy x
  rw [Nat.shiftLeft_eq] at this
  exact this.symm
theorem sh_rest (B d L : Nat) : (B / L % d) * L + B % L = B - d * ((B / L / d) * L) ∧ d * ((B / L / d) * L) ≤ B := by
  have h1 := Nat.mod_add_div B L
  have h2 := Nat.mod_add_div (B / L) d
  have h3 : (B / L % d) * L + (d * (B / L / d)) * L = B / L * L := by rw [← Nat.add_mul, h2]
  have h4 : B / L * L = L * (B / L) := Nat.mul_comm _ _
  have h5 : d * (B / L / d * L) = (d * (B / L / d)) * L := (Nat.mul_assoc _ _ _).symm
  omega
theorem sh_mod (B d L : Nat) : ((B / L % d) * L + B % L) % d = B % d := by
  rw [(sh_rest B d L).1, Nat.sub_mul_mod (sh_rest B d L).2]
theorem sh_div (B d L : Nat) : ((B / L % d) * L + B % L) / d = B / d % L := by
  rw [(sh_rest B d L).1, Nat.sub_mul_div]
  have h2 : B / L / d = B / d / L := by rw [Nat.div_div_eq_div_mul, Nat.mul_comm, ← Nat.div_div_eq_div_mul]
  rw [h2]
  have h4 := Nat.mod_add_div (B / d) L
  have h5 : L * (B / d / L) = B / d / L * L := Nat.mul_comm _ _
  omega
theorem div_succ_pow (A i : Nat) : A / LB ^ (i + 1) = A / LB ^ i / LB := by rw [Nat.pow_succ, Nat.div_div_eq_div_mul]
theorem short_mod (A d i : Nat) : ((A / LB ^ (i + 1) % d) * LB + dig A i) % d = A / LB ^ i % d := by
  rw [div_succ_pow]; exact sh_mod _ _ _
theorem short_div (A d i : Nat) : ((A / LB ^ (i + 1) % d) * LB + dig A i) / d = dig (A / d) i := by
  rw [div_succ_pow]
  have e : dig (A / d) i = A / LB ^ i / d % LB := by unfold dig; rw [Nat.div_div_eq_div_mul, Nat.mul_comm d, ← Nat.div_div_eq_div_mul]
  rw [e]
  exact sh_div _ _ _
end Go.Abs
set_option linter.unusedVariables false
set_option linter.unusedSimpArgs false
set_option linter.defProp false
namespace Go.Abs
theorem wrap64 {x : Nat} (h : x < 18446744073709551616) : IntKind.wrap .u64 (x : Int) = (x : Int) := wrap_u64 (by omega) (by omega)
theorem wrap63 {x : Nat} (h : x < 9223372036854775808) : IntKind.wrap .i64 (x : Int) = (x : Int) := wrap_i64 (by omega) (by omega)
theorem quo_nat {x y : Nat} (h : 0 < y) (hx : x < 18446744073709551616) : binV .quo (.int .u64 (x : Int)) (.int .u64 (y : Int)) = some (.int .u64 ((x / y : Nat) : Int)) := by
  rw [binV_quo _ _ _ (by omega), Int.tdiv_eq_ediv_of_nonneg (by omega)]
  have h2 : x / y ≤ x := Nat.div_le_self _ _
  have : (x : Int) / (y : Int) = ((x / y : Nat) : Int) := rfl
  rw [this, wrap64 (by omega)]
theorem rem_nat {x y : Nat} (h : 0 < y) : binV .rem (.int .u64 (x : Int)) (.int .u64 (y : Int)) = some (.int .u64 ((x % y : Nat) : Int)) := by
  rw [binV_rem _ _ _ (by omega), Int.tmod_eq_emod_of_nonneg (by omega)]; rfl
theorem quo_i {x y : Nat} (h : 0 < y) (hx : x < 9223372036854775808) : binV .quo (.int .i64 (x : Int)) (.int .i64 (y : Int)) = some (.int .i64 ((x / y : Nat) : Int)) := by
  rw [binV_quo _ _ _ (by omega), Int.tdiv_eq_ediv_of_nonneg (by omega)]
  have h2 : x / y ≤ x := Nat.div_le_self _ _
  have : (x : Int) / (y : Int) = ((x / y : Nat) : Int) := rfl
  rw [this, wrap63 (by omega)]
theorem rem_i {x y : Nat} (h : 0 < y) : binV .rem (.int .i64 (x : Int)) (.int .i64 (y : Int)) = some (.int .i64 ((x % y : Nat) : Int)) := by
  rw [binV_rem _ _ _ (by omega), Int.tmod_eq_emod_of_nonneg (by omega)]; rfl
theorem wrap32 {x : Nat} (h : x < LB) : IntKind.wrap .u32 (x : Int) = (x : Int) := wrap_u32 (by omega) (by have : LB = 4294967296 := rfl; omega)
theorem wrap_add64 {x y : Nat} (h : x + y < 18446744073709551616) : IntKind.wrap .u64 ((x : Int) + (y : Int)) = ((x + y : Nat) : Int) := by rw [wrap_u64 (by omega) (by omega)]; omega
theorem wrap_mul64 {x y : Nat} (h : x * y < 18446744073709551616) : IntKind.wrap .u64 ((x : Int) * (y : Int)) = ((x * y : Nat) : Int) := by
  rw [← Int.natCast_mul]; exact wrap64 h
/-- Shifts by less than 32. -/
theorem shl64 {x n : Nat} (hx : x < LB) (hn : n < 33) : shBin .shl .u64 (x : Int) (n : Int) = some (.int .u64 ((x * 2 ^ n : Nat) : Int)) := by
  rw [shBin_shl _ _ _ (by omega)]
  have hm : min (Int.toNat (n : Int)) IntKind.u64.bits = n := by
    show min n 64 = n
    omega
  rw [hm]
  have h2 : x * 2 ^ n < 18446744073709551616 := by
    have h3 : 2 ^ n ≤ 2 ^ 32 := Nat.pow_le_pow_right (by decide) (by omega)
    have h4 : x * 2 ^ n ≤ x * 2 ^ 32 := Nat.mul_le_mul_left _ h3
    have : LB = 4294967296 := rfl
    have : (2 : Nat) ^ 32 = 4294967296 := by decide
    omega
  have : (x : Int) * 2 ^ n = ((x * 2 ^ n : Nat) : Int) := by simp
  rw [this, wrap64 h2]
theorem shl32 {x : Nat} (hx : x < LB) : shBin .shl .u64 (x : Int) 32 = some (.int .u64 ((x * LB : Nat) : Int)) := shl64 (n := 32) hx (by decide)
theorem shr64 {x n : Nat} (hn : n ≤ 64) : shBin .shr .u64 (x : Int) (n : Int) = some (.int .u64 ((x / 2 ^ n : Nat) : Int)) := by
  rw [shBin_shr _ _ _ (by omega)]
  have hm : min (Int.toNat (n : Int)) IntKind.u64.bits = n := by
    show min n 64 = n
    omega
  rw [hm, Int.fdiv_eq_ediv_of_nonneg _ (by exact Int.pow_nonneg (by decide))]
  have : (2 : Int) ^ n = ((2 ^ n : Nat) : Int) := by simp
  rw [this]; rfl
theorem shr_32 (x : Nat) : shBin .shr .u64 (x : Int) 32 = some (.int .u64 ((x / LB : Nat) : Int)) := shr64 (n := 32) (by decide)
theorem wrap_or64 {x y : Nat} (hx : x < LB) (hy : y < LB) : IntKind.wrap .u64 (((BitVec.ofInt (IntKind.bits .u64) ((x * LB : Nat) : Int) ||| BitVec.ofInt (IntKind.bits .u64) (y : Int)).toNat : Nat) : Int) = ((x * LB + y : Nat) : Int) := by
  have h := or_add (x := x) (y := y) 32 hx (by decide) hy
  have e : (2 : Nat) ^ 32 = LB := by decide
  rw [e] at h
  have h' : (BitVec.ofInt (IntKind.bits .u64) ((x * LB : Nat) : Int) ||| BitVec.ofInt (IntKind.bits .u64) (y : Int)).toNat = x * LB + y := h
  rw [h', wrap64 (by
    have : LB = 4294967296 := rfl
    have : x * LB ≤ 4294967295 * LB := Nat.mul_le_mul_right _ (by omega)
    omega)]
theorem wrap_or64' {x y : Nat} (hx : x < LB) (hy : y < LB) : IntKind.wrap .u64 (((BitVec.ofInt (IntKind.bits .u64) (y : Int) ||| BitVec.ofInt (IntKind.bits .u64) ((x * LB : Nat) : Int)).toNat : Nat) : Int) = ((x * LB + y : Nat) : Int) := by
  rw [BitVec.or_comm]; exact wrap_or64 hx hy
theorem wrap_or32 {x y : Nat} (k : Nat) (hx : x < 2 ^ (32 - k)) (hk : k ≤ 32) (hy : y < 2 ^ k) : IntKind.wrap .u32 (((BitVec.ofInt (IntKind.bits .u32) (y : Int) ||| BitVec.ofInt (IntKind.bits .u32) ((x * 2 ^ k : Nat) : Int)).toNat : Nat) : Int) = ((x * 2 ^ k + y : Nat) : Int) := by
  have h : (BitVec.ofInt (IntKind.bits .u32) (y : Int) ||| BitVec.ofInt (IntKind.bits .u32) ((x * 2 ^ k : Nat) : Int)).toNat = x * 2 ^ k + y := or_add32 k hx hk hy
  rw [h, wrap32]
  have e : 2 ^ 32 = 2 ^ (32 - k) * 2 ^ k := by rw [← Nat.pow_add]; congr 1; omega
  have h1 : (x + 1) * 2 ^ k ≤ 2 ^ (32 - k) * 2 ^ k := Nat.mul_le_mul_right _ hx
  rw [← e, Nat.add_mul] at h1
  have : LB = 2 ^ 32 := by decide
  omega
section
variable {H L : Heap} {n j len : Nat} {f : Nat → Nat} {oc : Option Nat} {k : IntKind} {env : Env}
theorem fidx0 (h : j < len) {X : List AV} : idxV (hap H (some ⟨1, X⟩ :: L)) 1 (.mu (lid H 0) 0 len oc) (.int k j) = some (.loc (lid H 0) j 0) := by
  rw [mu_idx H _ 1 0 0 len oc k j rfl rfl h, Nat.zero_add]
theorem fidx1 {a : Option Blk} (h : j < len) {X : List AV} : idxV (hap H (a :: some ⟨1, X⟩ :: L)) 1 (.mu (lid H 1) 0 len oc) (.int k j) = some (.loc (lid H 1) j 0) := by
  rw [mu_idx H _ 1 1 0 len oc k j rfl rfl h, Nat.zero_add]
theorem fat0 (h : j < n) : atV (hap H (some ⟨1, u32s (fl n f)⟩ :: L)) (.loc (lid H 0) j 0) = some [.int .u32 (f j : Nat)] := by
  rw [loc_load H _ 0 j rfl (by rw [u32s_len, fl_len]; exact h)]
  simp only [u32s_getD (l := fl n f) (i := j) (by rw [fl_len]; exact h), fl_get h, AV.cells]
theorem fst0 (h : j < n) (d : Nat) : storeV 1 (.loc (lid H 0) j 0) (.int .u32 (d : Int)) env (hap H (some ⟨1, u32s (fl n f)⟩ :: L)) = some (.top, env, hap H (some ⟨1, u32s (fl n fun i => if i = j then d else f i)⟩ :: L)) := by
  rw [storeV_loc env H _ 1 0 j 0 _ rfl (by rw [u32s_len, fl_len]; exact h) rfl rfl (Nat.le_refl 1)]
  simp only [upd_whole, u32s_set, List.set_cons_zero, fl_set]
theorem fst1 {a : Option Blk} (h : j < n) (d : Nat) : storeV 1 (.loc (lid H 1) j 0) (.int .u32 (d : Int)) env (hap H (a :: some ⟨1, u32s (fl n f)⟩ :: L)) = some (.top, env, hap H (a :: some ⟨1, u32s (fl n fun i => if i = j then d else f i)⟩ :: L)) := by
  rw [storeV_loc env H _ 1 1 j 0 _ rfl (by rw [u32s_len, fl_len]; exact h) rfl rfl (Nat.le_refl 1)]
  simp only [upd_whole, u32s_set, List.set_cons_succ, List.set_cons_zero, fl_set]
theorem mksl_fl {k' : IntKind} (h : n ≤ 35184372088832) : mkslV 1 4 (.int .u32 0) (.int k n) (.int k' n) env (hap H L) = some (.mu (lid H L.length) 0 n (some n), env, hap H (L ++ [some ⟨1, u32s (fl n fun _ => 0)⟩])) := by
  rw [mksl_nat env H L k k' n h, fl_zero]
theorem frz_fl (i : Nat) : frz (lid H i) ⟨1, u32s (fl n f)⟩ (.mu (lid H i) 0 n oc) = natV (fl n f) := by
  have := frz_mu_nat H i (fl n f) oc
  rwa [fl_len] at this
end
end Go.Abs
namespace Go.Abs
def sumR (f : Nat → Rat) : Nat → Rat
  | 0 => 0
  | n + 1 => sumR f n + f n
theorem sumR_congr {f g : Nat → Rat} : ∀ {n : Nat}, (∀ i, i < n → f i = g i) → sumR f n = sumR g n
  | 0, _ => rfl
  | n + 1, h => by rw [sumR, sumR, sumR_congr fun i hi => h i (by omega), h n (by omega)]
theorem sumR_lin (x y : Rat) (f g : Nat → Rat) : ∀ n, sumR (fun i => x * f i + y * g i) n = x * sumR f n + y * sumR g n
  | 0 => by simp only [sumR]; grind
  | n + 1 => by simp only [sumR, sumR_lin x y f g n]; grind
theorem sumR_zero {f : Nat → Rat} : ∀ {n : Nat}, (∀ i, i < n → f i = 0) → sumR f n = 0
  | 0, _ => rfl
  | n + 1, h => by rw [sumR, sumR_zero fun i hi => h i (by omega), h n (by omega)]; grind
theorem sumR_one {f : Nat → Rat} {t : Nat} : ∀ {n : Nat}, t < n → (∀ i, i < n → i ≠ t → f i = 0) → sumR f n = f t
  | 0, h, _ => absurd h (by omega)
  | n + 1, h, h0 => by
    rw [sumR]
    by_cases e : t = n
    · subst e
      rw [sumR_zero fun i hi => h0 i (by omega) (by omega)]; grind
    · rw [sumR_one (by omega) fun i hi he => h0 i (by omega) he, h0 n (by omega) (by omega)]; grind
theorem sumR_two {f : Nat → Rat} {t : Nat} : ∀ {n : Nat}, t + 1 < n → (∀ i, i < n → i ≠ t → i ≠ t + 1 → f i = 0) → sumR f n = f t + f (t + 1)
  | 0, h, _ => absurd h (by omega)
  | n + 1, h, h0 => by
    rw [sumR]
    by_cases e : t + 1 = n
    · subst e
      rw [sumR_one (t := t) (by omega) fun i hi he => h0 i (by omega) he (by omega)]
    · rw [sumR_two (t := t) (by omega) fun i hi h1 h2 => h0 i (by omega) h1 h2, h0 n (by omega) (by omega) (by omega)]; grind
def sg : Nat → Rat
  | 0 => 1
  | n + 1 => -sg n
def skip (i k : Nat) : Nat := if k < i then k else k + 1
def det : Nat → (Nat → Nat → Rat) → Rat
  | 0, _ => 1
  | n + 1, M => sumR (fun i => sg i * M i 0 * det n fun r c => M (skip i r) (c + 1)) (n + 1)
theorem skip_ne (i k : Nat) : skip i k ≠ i := by unfold skip; split <;> omega
theorem skip_lt {i k n : Nat} (hk : k < n) : skip i k < n + 1 := by unfold skip; split <;> omega
theorem det_congr : ∀ {n : Nat} {M N : Nat → Nat → Rat}, (∀ r c, r < n → c < n → M r c = N r c) → det n M = det n N
  | 0, _, _, _ => rfl
  | n + 1, M, N, h => by
    unfold det
    refine sumR_congr fun i hi => ?_
    rw [h i 0 hi (by omega), det_congr (n := n) fun r c hr hc => h (skip i r) (c + 1) (skip_lt hr) (by omega)]
def rowset (M : Nat → Nat → Rat) (t : Nat) (u : Nat → Rat) : Nat → Nat → Rat := fun r c => if r = t then u c else M r c
theorem rowset_self (M : Nat → Nat → Rat) (t : Nat) : rowset M t (M t) = M := by
  funext r c; unfold rowset; split
  · rename_i h; rw [h]
  · rfl
/-- Row t of the part without row i. -/
def under (i t : Nat) : Nat := if t < i then t else t - 1
theorem skip_under {i t r : Nat} (h : i ≠ t) : (skip i r = t) = (r = under i t) := by
  rw [eq_iff_iff]; unfold skip under
  split <;> split <;> omega
theorem rowset_minor {M : Nat → Nat → Rat} {t i : Nat} {u : Nat → Rat} (h : i ≠ t) : (fun r c => rowset M t u (skip i r) (c + 1)) = rowset (fun r c => M (skip i r) (c + 1)) (under i t) fun c => u (c + 1) := by
  funext r c
  unfold rowset
  simp only [skip_under h]
theorem rowset_minor_self {M : Nat → Nat → Rat} {t : Nat} {u : Nat → Rat} : (fun r c => rowset M t u (skip t r) (c + 1)) = fun r c => M (skip t r) (c + 1) := by
  funext r c
  unfold rowset
  rw [if_neg (skip_ne t r)]
theorem det_lin : ∀ {n : Nat} {M : Nat → Nat → Rat} {t : Nat} (x y : Rat) (u w : Nat → Rat), t < n → det n (rowset M t fun c => x * u c + y * w c) = x * det n (rowset M t u) + y * det n (rowset M t w)
  | 0, _, _, _, _, _, _, h => absurd h (by omega)
  | n + 1, M, t, x, y, u, w, h => by
    unfold det
    rw [← sumR_lin]
    refine sumR_congr fun i hi => ?_
    by_cases e : i = t
    · subst e
      rw [rowset_minor_self, rowset_minor_self, rowset_minor_self]
      simp only [rowset, if_true]
      grind
    · rw [rowset_minor e, rowset_minor e, rowset_minor e, det_lin x y _ _ (by unfold under; split <;> omega)]
      simp only [rowset, if_neg e]
      grind
theorem det_adj : ∀ {n : Nat} {M : Nat → Nat → Rat} {t : Nat}, t + 1 < n → (∀ c, M t c = M (t + 1) c) → det n M = 0
  | 0, _, _, h, _ => absurd h (by omega)
  | n + 1, M, t, h, he => by
    unfold det
    have hm : (fun r c => M (skip t r) (c + 1)) = fun r c => M (skip (t + 1) r) (c + 1) := by
      funext r c
      unfold skip
      by_cases h1 : r < t
      · rw [if_pos h1, if_pos (by omega)]
      · rw [if_neg h1]
        by_cases h2 : r = t
        · rw [if_pos (by omega), h2, he]
        · rw [if_neg (by omega)]
    rw [sumR_two (t := t) h fun i hi h1 h2 => by
      have hz : det n (fun r c => M (skip i r) (c + 1)) = 0 := by
        refine det_adj (t := if i < t then t - 1 else t) (by split <;> omega) fun c => ?_
        unfold skip
        by_cases h3 : i < t
        · rw [if_pos h3, if_neg (by omega), if_neg (by omega)]
          rw [show t - 1 + 1 = t by omega]
          exact he _
        · rw [if_neg h3, if_pos (by omega), if_pos (by omega)]
          exact he _
      rw [hz]; grind]
    rw [hm, he 0]
    simp only [sg]
    grind
/-- Two rows exchanged. -/
def swapR (s t : Nat) (M : Nat → Nat → Rat) : Nat → Nat → Rat := fun r c => if r = s then M t c else if r = t then M s c else M r c
theorem rowset_comm {M : Nat → Nat → Rat} {s t : Nat} {u w : Nat → Rat} (h : s ≠ t) : rowset (rowset M s u) t w = rowset (rowset M t w) s u := by
  funext r c; unfold rowset
  by_cases h1 : r = t
  · by_cases h2 : r = s
    · omega
    · simp [h1]; intro e; omega
  · by_cases h2 : r = s
    · simp [h2]; intro e; omega
    · simp [h1, h2]
theorem det_add {n : Nat} {M : Nat → Nat → Rat} {t : Nat} (u w : Nat → Rat) (h : t < n) : det n (rowset M t fun c => u c + w c) = det n (rowset M t u) + det n (rowset M t w) := by
  have := det_lin (M := M) 1 1 u w h
  have e : (fun c => (1 : Rat) * u c + 1 * w c) = fun c => u c + w c := by funext c; grind
  rw [e] at this
  grind
/-- If equal rows give 0, exchanged ones give the negative. -/
theorem det_swap_of {n : Nat} {M : Nat → Nat → Rat} {s t : Nat} (hst : s ≠ t) (hs : s < n) (ht : t < n) (heq : ∀ N : Nat → Nat → Rat, (∀ c, N s c = N t c) → det n N = 0) : det n (swapR s t M) = -det n M := by
  let u := M s
  let w := M t
  have A : ∀ p q : Nat → Rat, (∀ c, p c = q c) → det n (rowset (rowset M s p) t q) = 0 := fun p q h => heq _ fun c => by
    unfold rowset
    simp [hst, h c]
  have h0 := A (fun c => u c + w c) (fun c => u c + w c) fun _ => rfl
  rw [det_add _ _ ht, rowset_comm hst, rowset_comm hst, det_add _ _ hs, det_add _ _ hs, ← rowset_comm hst, ← rowset_comm hst, ← rowset_comm hst, ← rowset_comm hst, A u u fun _ => rfl, A w w fun _ => rfl] at h0
  have e1 : rowset (rowset M s u) t w = M := by
    show rowset (rowset M s (M s)) t (M t) = M
    rw [rowset_self]; exact rowset_self M t
  have e2 : rowset (rowset M s w) t u = swapR s t M := by
    funext r c; unfold rowset swapR
    by_cases h1 : r = s
    · subst h1; simp [hst]; rfl
    · by_cases h2 : r = t
      · subst h2; simp [h1]; rfl
      · simp [h1, h2]
  rw [e1, e2] at h0
  grind
theorem det_swap_adj {n : Nat} {M : Nat → Nat → Rat} {t : Nat} (h : t + 1 < n) : det n (swapR t (t + 1) M) = -det n M :=
  det_swap_of (by omega) (by omega) h fun N he => det_adj h he
theorem det_eq : ∀ (d : Nat) {n : Nat} {M : Nat → Nat → Rat} {s : Nat}, s + d + 1 < n → (∀ c, M s c = M (s + d + 1) c) → det n M = 0
  | 0, n, M, s, h, he => det_adj (t := s) h he
  | d + 1, n, M, s, h, he => by
    have hsw := det_swap_adj (M := M) (t := s + d + 1) (n := n) (by omega)
    have : det n (swapR (s + d + 1) (s + d + 1 + 1) M) = 0 := det_eq d (s := s) (by omega) fun c => by
      unfold swapR
      rw [if_neg (by omega), if_neg (by omega), if_pos rfl, he c]
      rfl
    rw [this] at hsw
    grind
theorem det_equal {n : Nat} {M : Nat → Nat → Rat} {s t : Nat} (hst : s ≠ t) (hs : s < n) (ht : t < n) (he : ∀ c, M s c = M t c) : det n M = 0 := by
  rcases Nat.lt_or_gt_of_ne hst with h | h
  · exact det_eq (t - s - 1) (s := s) (by omega) fun c => by rw [he c]; congr 1; omega
  · exact det_eq (s - t - 1) (s := t) (by omega) fun c => by rw [← he c]; congr 1; omega
theorem det_swap {n : Nat} {M : Nat → Nat → Rat} {s t : Nat} (hst : s ≠ t) (hs : s < n) (ht : t < n) : det n (swapR s t M) = -det n M :=
  det_swap_of hst hs ht fun N he => det_equal hst hs ht he
/-- So many times another row added. -/
theorem det_addrow {n : Nat} {M : Nat → Nat → Rat} {s t : Nat} (x : Rat) (hst : s ≠ t) (hs : s < n) (ht : t < n) : det n (rowset M t fun c => M t c + x * M s c) = det n M := by
  have h := det_lin (M := M) 1 x (M t) (M s) ht
  have e : (fun c => (1 : Rat) * M t c + x * M s c) = fun c => M t c + x * M s c := by funext c; grind
  rw [e, rowset_self] at h
  have h0 : det n (rowset M t (M s)) = 0 := det_equal hst hs ht fun c => by unfold rowset; simp [hst]
  rw [h, h0]
  grind
/-- What is left behind the first row and the first column. -/
def schur (M : Nat → Nat → Rat) : Nat → Nat → Rat := fun i k => M (i + 1) (k + 1) - M (i + 1) 0 / M 0 0 * M 0 (k + 1)
def elimTo (M : Nat → Nat → Rat) (k : Nat) : Nat → Nat → Rat := fun r c => if 0 < r ∧ r ≤ k then M r c + -(M r 0 / M 0 0) * M 0 c else M r c
theorem det_elim {n : Nat} (M : Nat → Nat → Rat) : ∀ k, k < n → det n (elimTo M k) = det n M
  | 0, _ => by congr 1; funext r c; unfold elimTo; rw [if_neg (by omega)]
  | k + 1, h => by
    rw [← det_elim M k (by omega), ← det_addrow (M := elimTo M k) (s := 0) (t := k + 1) (-(M (k + 1) 0 / M 0 0)) (by omega) (by omega) h]
    congr 1
    funext r c
    unfold rowset elimTo
    by_cases e : r = k + 1
    · subst e
      rw [if_pos ⟨by omega, Nat.le_refl _⟩, if_pos rfl]
      show _ = (if 0 < k + 1 ∧ k + 1 ≤ k then _ else _) + _ * (if 0 < 0 ∧ 0 ≤ k then _ else _)
      rw [if_neg (by omega), if_neg (by omega)]
    · by_cases h2 : 0 < r ∧ r ≤ k
      · rw [if_pos ⟨h2.1, by omega⟩, if_neg e, if_pos h2]
      · rw [if_neg (by omega), if_neg e, if_neg h2]
theorem det_schur {n : Nat} {M : Nat → Nat → Rat} (h : M 0 0 ≠ 0) : det (n + 1) M = M 0 0 * det n (schur M) := by
  rw [← det_elim M n (by omega)]
  rw [det, sumR_one (t := 0) (by omega) fun i hi h0 => by
    have : elimTo M n i 0 = 0 := by
      unfold elimTo
      rw [if_pos ⟨by omega, by omega⟩]
      grind
    rw [this]; grind]
  have e0 : elimTo M n 0 0 = M 0 0 := by unfold elimTo; rw [if_neg (by omega)]
  rw [e0]
  have : det n (fun r c => elimTo M n (skip 0 r) (c + 1)) = det n (schur M) := by
    refine det_congr fun r c hr hc => ?_
    have hs : skip 0 r = r + 1 := by unfold skip; rw [if_neg (by omega)]
    rw [hs]
    unfold elimTo schur
    rw [if_pos ⟨by omega, by omega⟩]
    generalize M (r + 1) 0 / M 0 0 = x
    grind
  rw [this]
  simp only [sg]
  grind
/-- A determinant of whole numbers is whole. -/
theorem det_int : ∀ {n : Nat} {M : Nat → Nat → Rat}, (∀ r c, ∃ z : Int, M r c = z) → ∃ z : Int, det n M = z
  | 0, _, _ => ⟨1, rfl⟩
  | n + 1, M, h => by
    unfold det
    have hs : ∀ i, ∃ z : Int, sg i = z := by
      intro i
      induction i with
      | zero => exact ⟨1, rfl⟩
      | succ i ih => obtain ⟨z, hz⟩ := ih; exact ⟨-z, by rw [sg, hz, Rat.intCast_neg]⟩
    have ht : ∀ i, ∃ z : Int, sg i * M i 0 * det n (fun r c => M (skip i r) (c + 1)) = z := fun i => by
      obtain ⟨a, ha⟩ := hs i
      obtain ⟨b, hb⟩ := h i 0
      obtain ⟨c, hc⟩ := det_int (n := n) (M := fun r c => M (skip i r) (c + 1)) fun r c => h _ _
      exact ⟨a * b * c, by rw [ha, hb, hc, Rat.intCast_mul, Rat.intCast_mul]⟩
    have : ∀ k, ∃ z : Int, sumR (fun i => sg i * M i 0 * det n fun r c => M (skip i r) (c + 1)) k = z := by
      intro k
      induction k with
      | zero => exact ⟨0, rfl⟩
      | succ k ih =>
        obtain ⟨z, hz⟩ := ih
        obtain ⟨y, hy⟩ := ht k
        exact ⟨z + y, by rw [sumR, hz, hy, Rat.intCast_add]⟩
    exact this (n + 1)
end Go.Abs
namespace Go.Abs
def SS : Nat → (Nat → Nat → Rat) → Nat → Nat → Rat
  | 0, M => M
  | r + 1, M => SS r (schur M)
def piv : Nat → (Nat → Nat → Rat) → Prop
  | 0, _ => True
  | r + 1, M => M 0 0 ≠ 0 ∧ piv r (schur M)
theorem SS_succ : ∀ (r : Nat) (M : Nat → Nat → Rat), SS (r + 1) M = schur (SS r M)
  | 0, _ => rfl
  | r + 1, M => SS_succ r (schur M)
theorem piv_succ : ∀ (r : Nat) (M : Nat → Nat → Rat), piv (r + 1) M ↔ piv r M ∧ SS r M 0 0 ≠ 0
  | 0, M => by simp [piv, SS]
  | r + 1, M => by
    have h := piv_succ r (schur M)
    show M 0 0 ≠ 0 ∧ piv (r + 1) (schur M) ↔ (M 0 0 ≠ 0 ∧ piv r (schur M)) ∧ SS r (schur M) 0 0 ≠ 0
    rw [h, and_assoc]
theorem det_SS : ∀ (r n : Nat) {M : Nat → Nat → Rat}, piv r M → det (r + n) M = det r M * det n (SS r M)
  | 0, n, M, _ => by simp only [Nat.zero_add, det, SS]; grind
  | r + 1, n, M, h => by
    rw [show r + 1 + n = (r + n) + 1 by omega, det_schur h.1, det_schur h.1, det_SS r n h.2]
    show _ = M 0 0 * det r (schur M) * det n (SS r (schur M))
    grind
theorem det_one (M : Nat → Nat → Rat) : det 1 M = M 0 0 := by
  simp only [det, sumR, sg]; grind
theorem det_piv (r : Nat) {M : Nat → Nat → Rat} (h : piv r M) : det (r + 1) M = det r M * SS r M 0 0 := by
  rw [det_SS r 1 h, det_one]
theorem det_ne : ∀ (r : Nat) {M : Nat → Nat → Rat}, piv r M → det r M ≠ 0
  | 0, _, _ => by simp only [det]; grind
  | r + 1, M, h => by
    have h' := (piv_succ r M).1 h
    rw [det_piv r h'.1]
    have := det_ne r h'.1
    have := h'.2
    grind
/-- What is left depends on the first rows and columns, and on its own row and column. -/
theorem SS_loc : ∀ (r : Nat) {M N : Nat → Nat → Rat} {i j k l : Nat}, (∀ a b, a < r → b < r → M a b = N a b) → (∀ b, b < r → M (r + i) b = N (r + j) b) → (∀ a, a < r → M a (r + k) = N a (r + l)) → M (r + i) (r + k) = N (r + j) (r + l) → SS r M i k = SS r N j l
  | 0, M, N, i, j, k, l, _, _, _, h => by simpa [SS] using h
  | r + 1, M, N, i, j, k, l, h1, h2, h3, h4 => by
    show SS r (schur M) i k = SS r (schur N) j l
    have e : ∀ x : Nat, r + 1 + x = r + x + 1 := fun x => by omega
    have h2' : ∀ b, b < r + 1 → M (r + i + 1) b = N (r + j + 1) b := fun b hb => by rw [← e, ← e]; exact h2 b hb
    have h3' : ∀ a, a < r + 1 → M a (r + k + 1) = N a (r + l + 1) := fun a ha => by rw [← e, ← e]; exact h3 a ha
    have h4' : M (r + i + 1) (r + k + 1) = N (r + j + 1) (r + l + 1) := by rw [← e, ← e, ← e, ← e]; exact h4
    refine SS_loc r (fun a b ha hb => ?_) (fun b hb => ?_) (fun a ha => ?_) ?_
    · simp only [schur]; rw [h1 (a + 1) (b + 1) (by omega) (by omega), h1 (a + 1) 0 (by omega) (by omega), h1 0 0 (by omega) (by omega), h1 0 (b + 1) (by omega) (by omega)]
    · simp only [schur]; rw [h2' (b + 1) (by omega), h2' 0 (by omega), h1 0 0 (by omega) (by omega), h1 0 (b + 1) (by omega) (by omega)]
    · simp only [schur]; rw [h3' (a + 1) (by omega), h1 (a + 1) 0 (by omega) (by omega), h1 0 0 (by omega) (by omega), h3' 0 (by omega)]
    · simp only [schur]; rw [h4', h2' 0 (by omega), h1 0 0 (by omega) (by omega), h3' 0 (by omega)]
theorem piv_loc : ∀ (r : Nat) {M N : Nat → Nat → Rat}, (∀ a b, a < r → b < r → M a b = N a b) → piv r M → piv r N
  | 0, _, _, _, _ => trivial
  | r + 1, M, N, h, hp => by
    rw [piv_succ] at hp ⊢
    refine ⟨piv_loc r (fun a b ha hb => h a b (by omega) (by omega)) hp.1, ?_⟩
    rw [← SS_loc r (M := M) (N := N) (i := 0) (j := 0) (k := 0) (l := 0) (fun a b ha hb => h a b (by omega) (by omega)) (fun b hb => h _ _ (by omega) (by omega)) (fun a ha => h _ _ (by omega) (by omega)) (h _ _ (by omega) (by omega))]
    exact hp.2
/-- The columns in their order: the heads' places first, then all. -/
def colm (cs : List Nat) (b : Nat) : Nat := if b < cs.length then cs.getD b 0 else b - cs.length
def heads (B : Nat → Nat → Rat) (cs : List Nat) : Nat → Nat → Rat := fun a b => B a (colm cs b)
/-- Row i, as it stands when the heads cs are done; i is not among their rows. -/
def gauss (B : Nat → Nat → Rat) (cs : List Nat) (i k : Nat) : Rat := SS cs.length (heads B cs) (i - cs.length) k
def lastD (B : Nat → Nat → Rat) (cs : List Nat) : Rat := det cs.length (heads B cs)
def Piv (B : Nat → Nat → Rat) (cs : List Nat) : Prop := piv cs.length (heads B cs)
theorem gauss_nil (B : Nat → Nat → Rat) (i k : Nat) : gauss B [] i k = B i k := by simp [gauss, SS, heads, colm]
theorem lastD_nil (B : Nat → Nat → Rat) : lastD B [] = 1 := rfl
theorem colm_old {cs : List Nat} {c b : Nat} (h : b < cs.length) : colm (cs ++ [c]) b = colm cs b := by
  simp only [colm, List.length_append, List.length_cons, List.length_nil]
  rw [if_pos (by omega), if_pos h]
  simp [List.getD_eq_getElem?_getD, List.getElem?_append_left h]
theorem colm_new {cs : List Nat} {c : Nat} : colm (cs ++ [c]) cs.length = c := by
  simp only [colm, List.length_append, List.length_cons, List.length_nil]
  rw [if_pos (by omega)]
  simp
theorem colm_rest (cs : List Nat) (k : Nat) : colm cs (cs.length + k) = k := by
  simp only [colm]; rw [if_neg (by omega)]; omega
theorem SS_new {B : Nat → Nat → Rat} {cs : List Nat} {c : Nat} (i : Nat) : SS cs.length (heads B (cs ++ [c])) i 0 = gauss B cs (cs.length + i) c := by
  unfold gauss
  rw [Nat.add_sub_cancel_left]
  refine SS_loc _ (fun a b _ hb => ?_) (fun b hb => ?_) (fun a _ => ?_) ?_
  · simp only [heads]; rw [colm_old hb]
  · simp only [heads]; rw [colm_old hb]
  · simp only [heads]; rw [Nat.add_zero, colm_new, colm_rest]
  · simp only [heads]; rw [Nat.add_zero, colm_new, colm_rest]
theorem SS_old {B : Nat → Nat → Rat} {cs : List Nat} {c : Nat} (i k : Nat) : SS cs.length (heads B (cs ++ [c])) i (k + 1) = gauss B cs (cs.length + i) k := by
  unfold gauss
  rw [Nat.add_sub_cancel_left]
  have e : colm (cs ++ [c]) (cs.length + (k + 1)) = k := by
    have := colm_rest (cs ++ [c]) k
    simp only [List.length_append, List.length_cons, List.length_nil] at this
    rw [show cs.length + (k + 1) = cs.length + (0 + 1) + k by omega]; exact this
  refine SS_loc _ (fun a b _ hb => ?_) (fun b hb => ?_) (fun a _ => ?_) ?_
  · simp only [heads]; rw [colm_old hb]
  · simp only [heads]; rw [colm_old hb]
  · simp only [heads]; rw [e, colm_rest]
  · simp only [heads]; rw [e, colm_rest]
theorem len_snoc (cs : List Nat) (c : Nat) : (cs ++ [c]).length = cs.length + 1 := by simp
/-- One more head. -/
theorem gauss_step (B : Nat → Nat → Rat) (cs : List Nat) (c : Nat) {i k : Nat} (hi : cs.length < i) : gauss B (cs ++ [c]) i k = gauss B cs i k - gauss B cs i c / gauss B cs cs.length c * gauss B cs cs.length k := by
  have h := SS_succ cs.length (heads B (cs ++ [c]))
  have e : gauss B (cs ++ [c]) i k = schur (SS cs.length (heads B (cs ++ [c]))) (i - (cs.length + 1)) k := by
    unfold gauss
    rw [len_snoc, h]
  rw [e]
  simp only [schur]
  rw [SS_old, SS_new, SS_new, SS_old, Nat.add_zero]
  rw [show cs.length + (i - (cs.length + 1) + 1) = i by omega]
  rfl
theorem lastD_step {B : Nat → Nat → Rat} {cs : List Nat} (hp : Piv B cs) (c : Nat) : lastD B (cs ++ [c]) = lastD B cs * gauss B cs cs.length c := by
  unfold lastD
  have hp' : piv cs.length (heads B (cs ++ [c])) := piv_loc _ (fun a b _ hb => by simp only [heads]; rw [colm_old hb]) hp
  rw [len_snoc, det_piv _ hp', SS_new, Nat.add_zero]
  congr 1
  exact det_congr fun a b _ hb => by simp only [heads]; rw [colm_old hb]
theorem piv_step {B : Nat → Nat → Rat} {cs : List Nat} (hp : Piv B cs) {c : Nat} (h : gauss B cs cs.length c ≠ 0) : Piv B (cs ++ [c]) := by
  unfold Piv
  rw [len_snoc, piv_succ]
  refine ⟨piv_loc _ (fun a b _ hb => by simp only [heads]; rw [colm_old hb]) hp, ?_⟩
  rw [SS_new, Nat.add_zero]; exact h
theorem lastD_ne {B : Nat → Nat → Rat} {cs : List Nat} (hp : Piv B cs) : lastD B cs ≠ 0 := det_ne _ hp
/-- Multiplied with the last head, what is left is whole. -/
theorem gauss_int {B : Nat → Nat → Rat} {cs : List Nat} (hp : Piv B cs) (hB : ∀ i k, ∃ z : Int, B i k = z) {i : Nat} (k : Nat) (hi : cs.length ≤ i) : ∃ z : Int, lastD B cs * gauss B cs i k = z := by
  let N : Nat → Nat → Rat := fun a b => B (if a = cs.length then i else a) (colm (cs ++ [k]) b)
  obtain ⟨z, hz⟩ := det_int (n := cs.length + 1) (M := N) fun r c => hB _ _
  refine ⟨z, ?_⟩
  have hN : ∀ a b, a < cs.length → b < cs.length → heads B cs a b = N a b := fun a b ha hb => by
    simp only [N, heads]
    rw [if_neg (by omega), colm_old hb]
  rw [← hz, det_piv _ (piv_loc _ hN hp)]
  unfold lastD gauss
  rw [det_congr hN]
  congr 1
  refine SS_loc _ hN (fun b hb => ?_) (fun a ha => ?_) ?_
  · simp only [N, heads]; rw [Nat.add_zero, if_pos rfl, colm_old hb]
    rw [show cs.length + (i - cs.length) = i by omega]
  · simp only [N, heads]; rw [if_neg (by omega), Nat.add_zero, colm_new, colm_rest]
  · simp only [N, heads]; rw [Nat.add_zero, if_pos rfl, colm_new, colm_rest, show cs.length + (i - cs.length) = i by omega]
/-- Rows below the heads exchanged. -/
theorem gauss_swap {B : Nat → Nat → Rat} {cs : List Nat} {s t : Nat} (hs : cs.length ≤ s) (ht : cs.length ≤ t) {i : Nat} (k : Nat) (hi : cs.length ≤ i) : gauss (swapR s t B) cs i k = gauss B cs (if i = s then t else if i = t then s else i) k := by
  unfold gauss
  have hj : cs.length ≤ (if i = s then t else if i = t then s else i) := by split; exact ht; split; exact hs; exact hi
  generalize hj' : (if i = s then t else if i = t then s else i) = j at hj
  have hr : ∀ c, swapR s t B i c = B j c := fun c => by
    unfold swapR; rw [← hj']
    split
    · rfl
    · split <;> rfl
  refine SS_loc _ (fun a b ha hb => ?_) (fun b hb => ?_) (fun a ha => ?_) ?_
  · simp only [heads, swapR]; rw [if_neg (by omega), if_neg (by omega)]
  · simp only [heads]; rw [show cs.length + (i - cs.length) = i by omega, show cs.length + (j - cs.length) = j by omega, hr]
  · simp only [heads, swapR]; rw [if_neg (by omega), if_neg (by omega)]
  · simp only [heads]; rw [show cs.length + (i - cs.length) = i by omega, show cs.length + (j - cs.length) = j by omega, hr]
theorem lastD_swap {B : Nat → Nat → Rat} {cs : List Nat} {s t : Nat} (hs : cs.length ≤ s) (ht : cs.length ≤ t) : lastD (swapR s t B) cs = lastD B cs := by
  unfold lastD
  exact det_congr fun a b ha _ => by simp only [heads, swapR]; rw [if_neg (by omega), if_neg (by omega)]
theorem piv_swap {B : Nat → Nat → Rat} {cs : List Nat} {s t : Nat} (hs : cs.length ≤ s) (ht : cs.length ≤ t) (hp : Piv B cs) : Piv (swapR s t B) cs := by
  unfold Piv at hp ⊢
  exact piv_loc _ (fun a b ha _ => by simp only [heads, swapR]; rw [if_neg (by omega), if_neg (by omega)]) hp
end Go.Abs
namespace Go.Abs
/-- The first row from r on that has an entry there. -/
def firstNZ (f : Nat → Rat) (r n : Nat) : Option Nat := (List.range n).find? fun p => decide (r ≤ p) && decide (f p ≠ 0)
theorem firstNZ_cases (f : Nat → Rat) (r n : Nat) : (∃ p, firstNZ f r n = some p ∧ r ≤ p ∧ p < n ∧ f p ≠ 0 ∧ ∀ j, r ≤ j → j < p → f j = 0) ∨ (firstNZ f r n = none ∧ ∀ j, r ≤ j → j < n → f j = 0) := by
  unfold firstNZ
  cases h : (List.range n).find? fun p => decide (r ≤ p) && decide (f p ≠ 0) with
  | none =>
    refine .inr ⟨rfl, fun j h1 h2 => ?_⟩
    rw [List.find?_eq_none] at h
    have := h j (List.mem_range.2 h2)
    simp [h1] at this
    exact this
  | some p =>
    refine .inl ⟨p, rfl, ?_⟩
    rw [List.find?_range_eq_some] at h
    obtain ⟨h1, h2, h3⟩ := h
    simp at h1
    refine ⟨h1.1, List.mem_range.1 h2, h1.2, fun j hj1 hj2 => ?_⟩
    have := h3 j hj2
    simp [hj1] at this
    exact this
structure GS where
  B : Nat → Nat → Rat
  cs : List Nat
  odd : Bool
def GS.g (s : GS) (i k : Nat) : Rat := gauss s.B s.cs i k
def GS.last (s : GS) : Rat := lastD s.B s.cs
def gstep (n : Nat) (s : GS) (c : Nat) : GS := match firstNZ (fun p => s.g p c) s.cs.length n with
  | none => s
  | some p => ⟨swapR p s.cs.length s.B, s.cs ++ [c], if p = s.cs.length then s.odd else !s.odd⟩
def gproc (n : Nat) (B : Nat → Nat → Rat) : Nat → GS
  | 0 => ⟨B, [], false⟩
  | c + 1 => gstep n (gproc n B c) c
structure GOk (n : Nat) (s : GS) : Prop where
  piv : Piv s.B s.cs
  int : ∀ i k, ∃ z : Int, s.B i k = z
  len : s.cs.length ≤ n
theorem swapR_self (r : Nat) (M : Nat → Nat → Rat) : swapR r r M = M := by
  funext i k; unfold swapR
  split
  · rename_i h; rw [h]
  · rfl
theorem swap_int {B : Nat → Nat → Rat} (h : ∀ i k, ∃ z : Int, B i k = z) (s t : Nat) : ∀ i k, ∃ z : Int, swapR s t B i k = z := by
  intro i k; unfold swapR
  split
  · exact h _ _
  · split <;> exact h _ _
theorem gstep_none {n c : Nat} {s : GS} (h : firstNZ (fun p => s.g p c) s.cs.length n = none) : gstep n s c = s := by unfold gstep; rw [h]
theorem gstep_some {n c p : Nat} {s : GS} (h : firstNZ (fun p => s.g p c) s.cs.length n = some p) : gstep n s c = ⟨swapR p s.cs.length s.B, s.cs ++ [c], if p = s.cs.length then s.odd else !s.odd⟩ := by unfold gstep; rw [h]
/-- The head as it stands behind the exchange. -/
theorem swapped_head {s : GS} {p : Nat} (hp : s.cs.length ≤ p) (k : Nat) : gauss (swapR p s.cs.length s.B) s.cs s.cs.length k = s.g p k := by
  rw [gauss_swap hp (Nat.le_refl _) k (Nat.le_refl _)]
  unfold GS.g
  by_cases h : s.cs.length = p
  · rw [if_pos h, ← h]
  · rw [if_neg h, if_pos rfl]
theorem gok_step {n c : Nat} {s : GS} (h : GOk n s) : GOk n (gstep n s c) := by
  rcases firstNZ_cases (fun p => s.g p c) s.cs.length n with ⟨p, hf, h1, h2, h3, _⟩ | ⟨hf, _⟩
  · rw [gstep_some hf]
    refine ⟨piv_step (piv_swap h1 (Nat.le_refl _) h.piv) ?_, swap_int h.int _ _, by rw [len_snoc]; omega⟩
    rw [swapped_head h1]; exact h3
  · rw [gstep_none hf]; exact h
theorem gok_proc {n : Nat} {B : Nat → Nat → Rat} (hB : ∀ i k, ∃ z : Int, B i k = z) : ∀ c, GOk n (gproc n B c)
  | 0 => ⟨trivial, hB, Nat.zero_le _⟩
  | c + 1 => gok_step (gok_proc hB c)
/-- Behind a step, for the rows below the new head. -/
theorem step_row {s : GS} {p : Nat} (hp : s.cs.length ≤ p) {i : Nat} (k c : Nat) (hi : s.cs.length < i) :
    gauss (swapR p s.cs.length s.B) (s.cs ++ [c]) i k = s.g (if i = p then s.cs.length else i) k - s.g (if i = p then s.cs.length else i) c / s.g p c * s.g p k := by
  rw [gauss_step _ _ _ hi, swapped_head hp, swapped_head hp, gauss_swap hp (Nat.le_refl _) k (by omega), gauss_swap hp (Nat.le_refl _) c (by omega)]
  unfold GS.g
  have e : (if i = p then s.cs.length else if i = s.cs.length then p else i) = if i = p then s.cs.length else i := by
    by_cases h : i = p
    · rw [if_pos h, if_pos h]
    · rw [if_neg h, if_neg h, if_neg (by omega)]
  rw [e]
theorem step_last {n : Nat} {s : GS} (h : GOk n s) {p : Nat} (hp : s.cs.length ≤ p) (c : Nat) : lastD (swapR p s.cs.length s.B) (s.cs ++ [c]) = s.last * s.g p c := by
  rw [lastD_step (piv_swap hp (Nat.le_refl _) h.piv), swapped_head hp, lastD_swap hp (Nat.le_refl _)]; rfl
/-- The cross product of whole rows is a multiple of the last head: the quotient is the next row. -/
theorem bareiss_exact {n : Nat} {s : GS} (h : GOk n s) {p c i k : Nat} (hp : s.cs.length ≤ p) (hf : s.g p c ≠ 0) (hi : s.cs.length < i) {last a b x y : Int} (hl : (last : Rat) = s.last)
    (ha : (a : Rat) = s.last * s.g p c) (hb : (b : Rat) = s.last * s.g (if i = p then s.cs.length else i) k) (hx : (x : Rat) = s.last * s.g (if i = p then s.cs.length else i) c) (hy : (y : Rat) = s.last * s.g p k) :
    ∃ z : Int, a * b - x * y = last * z ∧ (z : Rat) = (s.last * s.g p c) * gauss (swapR p s.cs.length s.B) (s.cs ++ [c]) i k := by
  have hok := gok_step (c := c) h
  have hpiv : Piv (swapR p s.cs.length s.B) (s.cs ++ [c]) := piv_step (piv_swap hp (Nat.le_refl _) h.piv) (by rw [swapped_head hp]; exact hf)
  obtain ⟨z, hz⟩ := gauss_int hpiv (swap_int h.int _ _) k (by rw [len_snoc]; omega : (s.cs ++ [c]).length ≤ i)
  rw [step_last h hp] at hz
  refine ⟨z, ?_, hz.symm⟩
  have hq : ((a * b - x * y : Int) : Rat) = ((last * z : Int) : Rat) := by
    rw [Rat.intCast_sub, Rat.intCast_mul, Rat.intCast_mul, Rat.intCast_mul, ha, hb, hx, hy, hl, ← hz, step_row hp k c hi]
    have hne := lastD_ne h.piv
    generalize s.g (if i = p then s.cs.length else i) k = u
    generalize s.g (if i = p then s.cs.length else i) c = v
    generalize s.last = l
    generalize s.g p k = w
    generalize s.g p c = t at *
    grind
  exact Rat.intCast_inj.1 hq
end Go.Abs
namespace Go.Abs
def colset (M : Nat → Nat → Rat) (t : Nat) (u : Nat → Rat) : Nat → Nat → Rat := fun r c => if c = t then u r else M r c
theorem colset_self (M : Nat → Nat → Rat) (t : Nat) : colset M t (fun r => M r t) = M := by
  funext r c; unfold colset; split
  · rename_i h; rw [h]
  · rfl
theorem colset_minor {M : Nat → Nat → Rat} {t i : Nat} {u : Nat → Rat} : (fun r c => colset M (t + 1) u (skip i r) (c + 1)) = colset (fun r c => M (skip i r) (c + 1)) t fun r => u (skip i r) := by
  funext r c; unfold colset
  by_cases h : c = t
  · rw [if_pos (by omega), if_pos h]
  · rw [if_neg (by omega), if_neg h]
theorem colset_minor0 {M : Nat → Nat → Rat} {i : Nat} {u : Nat → Rat} : (fun r c => colset M 0 u (skip i r) (c + 1)) = fun r c => M (skip i r) (c + 1) := by
  funext r c; unfold colset; rw [if_neg (by omega)]
theorem det_collin : ∀ {n : Nat} {M : Nat → Nat → Rat} {t : Nat} (x y : Rat) (u w : Nat → Rat), t < n → det n (colset M t fun r => x * u r + y * w r) = x * det n (colset M t u) + y * det n (colset M t w)
  | 0, _, _, _, _, _, _, h => absurd h (by omega)
  | n + 1, M, 0, x, y, u, w, h => by
    unfold det
    rw [← sumR_lin]
    refine sumR_congr fun i hi => ?_
    rw [colset_minor0, colset_minor0, colset_minor0]
    simp only [colset, if_true]
    grind
  | n + 1, M, t + 1, x, y, u, w, h => by
    unfold det
    rw [← sumR_lin]
    refine sumR_congr fun i hi => ?_
    rw [colset_minor, colset_minor, colset_minor, det_collin x y _ _ (by omega)]
    simp only [colset]
    rw [if_neg (by omega), if_neg (by omega), if_neg (by omega)]
    grind
theorem det_colzero {n t : Nat} {M : Nat → Nat → Rat} (ht : t < n) (h : ∀ r, M r t = 0) : det n M = 0 := by
  have := det_collin (n := n) (M := M) (t := t) 0 0 (fun r => M r t) (fun r => M r t) ht
  have e : (fun r => 0 * M r t + 0 * M r t) = fun r => M r t := by funext r; rw [h r]; grind
  rw [e, colset_self] at this
  grind
/-- A zero column below the first row's, told for the entries that count. -/
theorem det_colzero' {n t : Nat} {M : Nat → Nat → Rat} (ht : t < n) (h : ∀ r, r < n → M r t = 0) : det n M = 0 := by
  have e : det n M = det n (colset M t fun _ => 0) := det_congr fun r c hr _ => by
    unfold colset; split
    · rename_i hc; rw [hc, h r hr]
    · rfl
  rw [e]
  exact det_colzero ht fun r => by unfold colset; rw [if_pos rfl]
theorem det_coleq0 {n t : Nat} {M : Nat → Nat → Rat} (ht : t < n) (h : ∀ r, M r 0 = M r (t + 1)) : det (n + 1) M = 0 := by
  have key : ∀ N : Nat → Nat → Rat, (∀ r, N r 0 = N r (t + 1)) → N 0 0 ≠ 0 → det (n + 1) N = 0 := by
    intro N hN h0
    rw [det_schur h0, det_colzero (n := n) (t := t) ht (M := schur N) fun r => by
      unfold schur
      rw [← hN, ← hN]
      grind]
    grind
  by_cases hz : ∀ r, r < n + 1 → M r 0 = 0
  · exact det_colzero' (t := 0) (by omega) hz
  · have : ∃ p, p < n + 1 ∧ M p 0 ≠ 0 := Classical.byContradiction fun hc => hz fun r hr => Classical.byContradiction fun h1 => hc ⟨r, hr, h1⟩
    obtain ⟨p, hp, hp0⟩ := this
    by_cases h0 : p = 0
    · subst h0; exact key M h hp0
    · have hs := det_swap (M := M) (s := 0) (t := p) (Ne.symm h0) (by omega) hp
      have hk := key (swapR 0 p M) (fun r => by
        unfold swapR
        split
        · exact h p
        · split
          · exact h 0
          · exact h r) (by unfold swapR; rw [if_pos rfl]; exact hp0)
      rw [hk] at hs
      grind
theorem det_coleq : ∀ (s : Nat) {n t : Nat} {M : Nat → Nat → Rat}, s + t + 1 < n → (∀ r, M r s = M r (s + t + 1)) → det n M = 0
  | s, 0, t, M, h, _ => absurd h (by omega)
  | 0, n + 1, t, M, h, he => det_coleq0 (t := t) (by omega) fun r => by have := he r; rwa [Nat.zero_add] at this
  | s + 1, n + 1, t, M, h, he => by
    unfold det
    refine sumR_zero fun i hi => ?_
    rw [det_coleq s (t := t) (by omega) fun r => by
      have := he (skip i r)
      rwa [show s + 1 + t + 1 = s + t + 1 + 1 by omega] at this]
    grind
theorem det_coleq' {n s t : Nat} {M : Nat → Nat → Rat} (hs : s < n) (ht : t < n) (hst : s ≠ t) (he : ∀ r, M r s = M r t) : det n M = 0 := by
  rcases Nat.lt_or_gt_of_ne hst with h | h
  · exact det_coleq s (t := t - s - 1) (by omega) fun r => by rw [show s + (t - s - 1) + 1 = t by omega]; exact he r
  · exact det_coleq t (t := s - t - 1) (by omega) fun r => by rw [show t + (s - t - 1) + 1 = s by omega]; exact (he r).symm
theorem det_bound : ∀ {n e : Nat} {M : Nat → Nat → Rat}, n ≤ LB → (∀ r c, r < n → c < n → ∃ z : Int, M r c = z ∧ z.natAbs ≤ LB ^ e) → ∃ z : Int, det n M = z ∧ z.natAbs ≤ LB ^ (n * (e + 1))
  | 0, e, _, _, _ => ⟨1, rfl, by simp⟩
  | n + 1, e, M, hn, h => by
    unfold det
    have hs : ∀ i, ∃ z : Int, sg i = z ∧ z.natAbs = 1 := by
      intro i
      induction i with
      | zero => exact ⟨1, rfl, rfl⟩
      | succ i ih => obtain ⟨z, hz, ha⟩ := ih; exact ⟨-z, by rw [sg, hz, Rat.intCast_neg], by rw [Int.natAbs_neg]; exact ha⟩
    have ht : ∀ i, i < n + 1 → ∃ z : Int, sg i * M i 0 * det n (fun r c => M (skip i r) (c + 1)) = z ∧ z.natAbs ≤ LB ^ e * LB ^ (n * (e + 1)) := fun i hi => by
      obtain ⟨a, ha, ha1⟩ := hs i
      obtain ⟨b, hb, hb1⟩ := h i 0 hi (by omega)
      obtain ⟨c, hc, hc1⟩ := det_bound (n := n) (e := e) (M := fun r c => M (skip i r) (c + 1)) (by omega) fun r c hr hc => h _ _ (skip_lt hr) (by omega)
      refine ⟨a * b * c, by rw [ha, hb, hc, Rat.intCast_mul, Rat.intCast_mul], ?_⟩
      rw [Int.natAbs_mul, Int.natAbs_mul, ha1, Nat.one_mul]
      exact Nat.mul_le_mul hb1 hc1
    have : ∀ k, k ≤ n + 1 → ∃ z : Int, sumR (fun i => sg i * M i 0 * det n fun r c => M (skip i r) (c + 1)) k = z ∧ z.natAbs ≤ k * (LB ^ e * LB ^ (n * (e + 1))) := by
      intro k
      induction k with
      | zero => exact fun _ => ⟨0, rfl, by simp⟩
      | succ k ih =>
        intro hk
        obtain ⟨z, hz, hz1⟩ := ih (by omega)
        obtain ⟨y, hy, hy1⟩ := ht k (by omega)
        refine ⟨z + y, by rw [sumR, hz, hy, Rat.intCast_add], ?_⟩
        have := Int.natAbs_add_le z y
        rw [Nat.add_mul, Nat.one_mul]
        omega
    obtain ⟨z, hz, hz1⟩ := this (n + 1) (Nat.le_refl _)
    refine ⟨z, hz, Nat.le_trans hz1 ?_⟩
    rw [show (n + 1) * (e + 1) = 1 + (e + n * (e + 1)) by rw [Nat.add_mul]; omega, Nat.pow_add, Nat.pow_add, Nat.pow_one]
    exact Nat.mul_le_mul_right _ hn
end Go.Abs
namespace Go.Abs
structure JS where
  s : GS
  M : Nat → Nat → Rat
def JS.r (j : JS) : Nat := j.s.cs.length
/-- Row r by its entry at c; the others without it. -/
def jel (r c : Nat) (M : Nat → Nat → Rat) : Nat → Nat → Rat := fun i k => if i = r then M r k / M r c else M i k - M i c * (M r k / M r c)
def jstep (n : Nat) (j : JS) (c : Nat) : JS := match firstNZ (fun p => j.s.g p c) j.s.cs.length n with
  | none => j
  | some p => ⟨gstep n j.s c, jel j.s.cs.length c (swapR p j.s.cs.length j.M)⟩
def jproc (n : Nat) (B : Nat → Nat → Rat) : Nat → JS
  | 0 => ⟨⟨B, [], false⟩, B⟩
  | c + 1 => jstep n (jproc n B c) c
theorem jstep_s (n : Nat) (j : JS) (c : Nat) : (jstep n j c).s = gstep n j.s c := by
  unfold jstep
  cases h : firstNZ (fun p => j.s.g p c) j.s.cs.length n with
  | none => rw [gstep_none h]
  | some p => rfl
theorem jproc_s (n : Nat) (B : Nat → Nat → Rat) : ∀ c, (jproc n B c).s = gproc n B c
  | 0 => rfl
  | c + 1 => by rw [jproc, jstep_s, jproc_s n B c]; rfl
theorem jstep_none {n c : Nat} {j : JS} (h : firstNZ (fun p => j.s.g p c) j.s.cs.length n = none) : jstep n j c = j := by unfold jstep; rw [h]
theorem jstep_some {n c p : Nat} {j : JS} (h : firstNZ (fun p => j.s.g p c) j.s.cs.length n = some p) : jstep n j c = ⟨⟨swapR p j.s.cs.length j.s.B, j.s.cs ++ [c], if p = j.s.cs.length then j.s.odd else !j.s.odd⟩, jel j.s.cs.length c (swapR p j.s.cs.length j.M)⟩ := by
  have : jstep n j c = ⟨gstep n j.s c, jel j.s.cs.length c (swapR p j.s.cs.length j.M)⟩ := by unfold jstep; rw [h]
  rw [this, gstep_some h]
structure JOk (n : Nat) (j : JS) : Prop where
  g : GOk n j.s
  low : ∀ i k, j.s.cs.length ≤ i → j.M i k = j.s.g i k
  up : ∀ a k, j.s.B a k = sumR (fun i => j.s.B a (j.s.cs.getD i 0) * j.M i k) j.s.cs.length + if j.s.cs.length ≤ a then j.M a k else 0
theorem swapR_at (s t : Nat) (M : Nat → Nat → Rat) (a : Nat) : ∃ b, (∀ N : Nat → Nat → Rat, ∀ k, swapR s t N a k = N b k) ∧ ((s ≤ a ∨ t ≤ a) → True) ∧ (b = if a = s then t else if a = t then s else a) := by
  refine ⟨if a = s then t else if a = t then s else a, fun N k => ?_, fun _ => trivial, rfl⟩
  unfold swapR
  split
  · rfl
  · split <;> rfl
theorem jok_step {n c : Nat} {j : JS} (h : JOk n j) : JOk n (jstep n j c) := by
  rcases firstNZ_cases (fun p => j.s.g p c) j.s.cs.length n with ⟨p, hf, h1, h2, h3, _⟩ | ⟨hf, _⟩
  · have hg := gok_step (c := c) h.g
    rw [gstep_some hf] at hg
    rw [jstep_some hf]
    have hlow : ∀ i k, j.s.cs.length ≤ i → swapR p j.s.cs.length j.M i k = j.s.g (if i = p then j.s.cs.length else if i = j.s.cs.length then p else i) k := by
      intro i k hi
      unfold swapR
      split
      · exact h.low _ _ (Nat.le_refl _)
      · split
        · exact h.low _ _ h1
        · exact h.low _ _ hi
    have hr : ∀ k, swapR p j.s.cs.length j.M j.s.cs.length k = j.s.g p k := by
      intro k
      rw [hlow _ _ (Nat.le_refl _)]
      by_cases e : j.s.cs.length = p
      · rw [if_pos e, e]
      · rw [if_neg e, if_pos rfl]
    refine ⟨hg, fun i k hi => ?_, fun a k => ?_⟩
    · simp only [len_snoc] at hi
      show jel _ c _ i k = gauss (swapR p j.s.cs.length j.s.B) (j.s.cs ++ [c]) i k
      unfold jel
      rw [if_neg (by omega), step_row h1 k c (by omega), hr, hr, hlow _ _ (by omega), hlow _ _ (by omega)]
      have e : (if i = p then j.s.cs.length else if i = j.s.cs.length then p else i) = if i = p then j.s.cs.length else i := by
        by_cases h : i = p
        · rw [if_pos h, if_pos h]
        · rw [if_neg h, if_neg h, if_neg (by omega)]
      rw [e]
      generalize j.s.g (if i = p then j.s.cs.length else i) k = u
      generalize j.s.g (if i = p then j.s.cs.length else i) c = v
      generalize j.s.g p k = w
      generalize j.s.g p c = t at *
      grind
    · -- the rows are made of those above
      show swapR p j.s.cs.length j.s.B a k = sumR (fun i => swapR p j.s.cs.length j.s.B a ((j.s.cs ++ [c]).getD i 0) * jel j.s.cs.length c (swapR p j.s.cs.length j.M) i k) (j.s.cs ++ [c]).length +
        if (j.s.cs ++ [c]).length ≤ a then jel j.s.cs.length c (swapR p j.s.cs.length j.M) a k else 0
      rw [len_snoc]
      obtain ⟨b, hb, _, hbe⟩ := swapR_at p j.s.cs.length j.s.B a
      have hba : (j.s.cs.length ≤ a) = (j.s.cs.length ≤ b) := by
        rw [hbe, eq_iff_iff]
        split
        · constructor <;> intro _ <;> omega
        · split
          · constructor <;> intro _ <;> omega
          · exact Iff.rfl
      have hinv : ∀ k, swapR p j.s.cs.length j.s.B a k = sumR (fun i => swapR p j.s.cs.length j.s.B a (j.s.cs.getD i 0) * j.M i k) j.s.cs.length + if j.s.cs.length ≤ a then swapR p j.s.cs.length j.M a k else 0 := by
        intro k
        simp only [hb, hba]
        exact h.up b k
      have hq0 : swapR p j.s.cs.length j.M j.s.cs.length c ≠ 0 := by rw [hr]; exact h3
      have hold : ∀ i, i < j.s.cs.length → ∀ k, swapR p j.s.cs.length j.M i k = j.M i k := by
        intro i hi k; unfold swapR; rw [if_neg (by omega), if_neg (by omega)]
      generalize hB : swapR p j.s.cs.length j.s.B = B' at *
      generalize hM : swapR p j.s.cs.length j.M = M0 at *
      generalize hq : M0 j.s.cs.length k / M0 j.s.cs.length c = q
      rw [sumR]
      have hs : sumR (fun i => B' a ((j.s.cs ++ [c]).getD i 0) * jel j.s.cs.length c M0 i k) j.s.cs.length = 1 * sumR (fun i => B' a (j.s.cs.getD i 0) * j.M i k) j.s.cs.length + (-q) * sumR (fun i => B' a (j.s.cs.getD i 0) * j.M i c) j.s.cs.length := by
        rw [← sumR_lin]
        refine sumR_congr fun i hi => ?_
        have e : (j.s.cs ++ [c]).getD i 0 = j.s.cs.getD i 0 := by
          simp [List.getD_eq_getElem?_getD, List.getElem?_append_left hi]
        rw [e]
        unfold jel
        rw [if_neg (by omega), hq, hold i hi, hold i hi]
        grind
      rw [hs]
      have e2 : (j.s.cs ++ [c]).getD j.s.cs.length 0 = c := by simp [List.getD_eq_getElem?_getD]
      rw [e2]
      have e3 : jel j.s.cs.length c M0 j.s.cs.length k = q := by unfold jel; rw [if_pos rfl, hq]
      rw [e3]
      have i1 := hinv k
      have i2 := hinv c
      by_cases ha : j.s.cs.length ≤ a
      · rw [if_pos ha] at i1 i2
        by_cases ha2 : j.s.cs.length + 1 ≤ a
        · rw [if_pos ha2]
          have e4 : jel j.s.cs.length c M0 a k = M0 a k - M0 a c * q := by unfold jel; rw [if_neg (by omega), hq]
          rw [e4]
          grind
        · rw [if_neg ha2]
          have : a = j.s.cs.length := by omega
          subst this
          have e5 : q * M0 j.s.cs.length c = M0 j.s.cs.length k := by rw [← hq]; exact Rat.div_mul_cancel hq0
          grind
      · rw [if_neg ha] at i1 i2
        rw [if_neg (by omega)]
        grind
  · rw [jstep_none hf]; exact h
theorem jok_proc {n : Nat} {B : Nat → Nat → Rat} (hB : ∀ i k, ∃ z : Int, B i k = z) : ∀ c, JOk n (jproc n B c)
  | 0 => ⟨⟨trivial, hB, Nat.zero_le _⟩, fun i k _ => by simp [jproc, GS.g, gauss_nil], fun a k => by simp only [jproc, sumR, List.length_nil, Nat.zero_le, if_true]; grind⟩
  | c + 1 => jok_step (jok_proc hB c)
def Bd (e : Nat) (B : Nat → Nat → Rat) : Prop := ∀ i k, ∃ z : Int, B i k = z ∧ z.natAbs ≤ LB ^ e
theorem Bd.swap {e : Nat} {B : Nat → Nat → Rat} (h : Bd e B) (s t : Nat) : Bd e (swapR s t B) := by
  intro i k; unfold swapR
  split
  · exact h _ _
  · split <;> exact h _ _
theorem Bd.gproc {e n : Nat} {B : Nat → Nat → Rat} (h : Bd e B) : ∀ c, Bd e (gproc n B c).B
  | 0 => h
  | c + 1 => by
    have ih := Bd.gproc (n := n) h c
    show Bd e (gstep n (Abs.gproc n B c) c).B
    unfold gstep
    cases firstNZ (fun p => (Abs.gproc n B c).g p c) (Abs.gproc n B c).cs.length n with
    | none => exact ih
    | some p => exact ih.swap _ _
theorem lastD_bound {e : Nat} {B : Nat → Nat → Rat} (hB : Bd e B) (cs : List Nat) (hn : cs.length ≤ LB) : ∃ z : Int, lastD B cs = z ∧ z.natAbs ≤ LB ^ (cs.length * (e + 1)) :=
  det_bound hn fun _ _ _ _ => hB _ _
/-- What is left, times the last head, is a determinant. -/
theorem gauss_bound {e : Nat} {B : Nat → Nat → Rat} {cs : List Nat} (hp : Piv B cs) (hB : Bd e B) (hn : cs.length + 1 ≤ LB) {i : Nat} (k : Nat) (hi : cs.length ≤ i) : ∃ z : Int, lastD B cs * gauss B cs i k = z ∧ z.natAbs ≤ LB ^ ((cs.length + 1) * (e + 1)) := by
  let N : Nat → Nat → Rat := fun a b => B (if a = cs.length then i else a) (colm (cs ++ [k]) b)
  obtain ⟨z, hz, hz1⟩ := det_bound (n := cs.length + 1) (e := e) (M := N) hn fun r c _ _ => hB _ _
  refine ⟨z, ?_, hz1⟩
  have hN : ∀ a b, a < cs.length → b < cs.length → heads B cs a b = N a b := fun a b ha hb => by
    simp only [N, heads]
    rw [if_neg (by omega), colm_old hb]
  rw [← hz, det_piv _ (piv_loc _ hN hp)]
  unfold lastD gauss
  rw [det_congr hN]
  congr 1
  refine SS_loc _ hN (fun b hb => ?_) (fun a ha => ?_) ?_
  · simp only [N, heads]; rw [Nat.add_zero, if_pos rfl, colm_old hb]
    rw [show cs.length + (i - cs.length) = i by omega]
  · simp only [N, heads]; rw [if_neg (by omega), Nat.add_zero, colm_new, colm_rest]
  · simp only [N, heads]; rw [Nat.add_zero, if_pos rfl, colm_new, colm_rest, show cs.length + (i - cs.length) = i by omega]
def KB (e : Nat) : Nat := 65 * (e + 1)
theorem lbm {a b : Nat} (h : a ≤ b) : LB ^ a ≤ LB ^ b := Nat.pow_le_pow_right (by decide) h
theorem lastD_kb {e n : Nat} {j : JS} (h : JOk n j) (hn : n ≤ 64) (hB : Bd e j.s.B) : ∃ z : Int, lastD j.s.B j.s.cs = z ∧ z.natAbs ≤ LB ^ KB e := by
  have hl := h.g.len
  obtain ⟨z, hz, hz1⟩ := lastD_bound hB j.s.cs (by have : LB = 4294967296 := rfl; omega)
  exact ⟨z, hz, Nat.le_trans hz1 (lbm (Nat.mul_le_mul_right _ (by omega)))⟩
end Go.Abs
namespace Go.Abs
def dv (n : Nat) (B : Nat → Nat → Rat) (t : Nat) : Rat := if (gproc n B t).cs.length = t then (if (gproc n B t).odd then -(gproc n B t).last else (gproc n B t).last) else 0
theorem gproc_len (n : Nat) (B : Nat → Nat → Rat) : ∀ t, (gproc n B t).cs.length ≤ t
  | 0 => Nat.le_refl _
  | t + 1 => by
    have ih := gproc_len n B t
    show (gstep n (gproc n B t) t).cs.length ≤ t + 1
    unfold gstep
    cases firstNZ (fun p => (gproc n B t).g p t) (gproc n B t).cs.length n with
    | none => exact Nat.le_succ_of_le ih
    | some p => simp only [len_snoc]; omega
theorem lastD_gproc_kb {e n : Nat} {B : Nat → Nat → Rat} (hB : Bd e B) (hn : n ≤ 64) (t : Nat) : ∃ z : Int, (gproc n B t).last = z ∧ z.natAbs ≤ LB ^ KB e := by
  have hi : ∀ i k, ∃ z : Int, B i k = z := fun i k => by obtain ⟨z, h, _⟩ := hB i k; exact ⟨z, h⟩
  have := lastD_kb (e := e) (jok_proc (n := n) hi t) hn (by rw [jproc_s]; exact hB.gproc t)
  rwa [jproc_s] at this
theorem dv_kb {e n : Nat} {B : Nat → Nat → Rat} (hB : Bd e B) (hn : n ≤ 64) (t : Nat) : ∃ z : Int, dv n B t = z ∧ z.natAbs ≤ LB ^ KB e := by
  obtain ⟨z, hz, hz1⟩ := lastD_gproc_kb hB hn t
  unfold dv
  split
  · split
    · exact ⟨-z, by rw [hz, Rat.intCast_neg], by rw [Int.natAbs_neg]; exact hz1⟩
    · exact ⟨z, hz, hz1⟩
  · exact ⟨0, rfl, by simp⟩
end Go.Abs
namespace Go.Abs
/-- Row a as it stands: times the last head that was taken off it. -/
def Zg (s : GS) (a b : Nat) : Rat := lastD s.B (s.cs.take a) * gauss s.B (s.cs.take a) a b
theorem Zg_low {s : GS} {a : Nat} (b : Nat) (h : s.cs.length ≤ a) : Zg s a b = s.last * s.g a b := by
  unfold Zg; rw [List.take_of_length_le h]; rfl
theorem heads_take {B : Nat → Nat → Rat} {cs : List Nat} {m a b : Nat} (hb : b < (cs.take m).length) : heads B (cs.take m) a b = heads B cs a b := by
  rw [List.length_take] at hb
  simp only [heads, colm]
  rw [if_pos (by rw [List.length_take]; exact hb), if_pos (by omega)]
  congr 1
  simp [List.getD_eq_getElem?_getD, List.getElem?_take]
  rw [if_pos (by omega)]
theorem piv_take {B : Nat → Nat → Rat} : ∀ (m : Nat) {cs : List Nat}, Piv B cs → Piv B (cs.take m) := by
  intro m cs h
  have key : ∀ k, piv (k + (cs.take m).length) (heads B cs) → piv (cs.take m).length (heads B cs) := by
    intro k
    induction k with
    | zero => intro h; rwa [Nat.zero_add] at h
    | succ k ih => intro h; rw [show k + 1 + (cs.take m).length = (k + (cs.take m).length) + 1 by omega, piv_succ] at h; exact ih h.1
  have h1 := key (cs.length - (cs.take m).length) (by
    have : cs.length - (cs.take m).length + (cs.take m).length = cs.length := by rw [List.length_take]; omega
    rw [this]; exact h)
  exact piv_loc _ (fun a b _ hb => (heads_take hb).symm) h1
/-- Processed columns are empty below the heads. -/
theorem g_zero {n : Nat} {B : Nat → Nat → Rat} (hB : ∀ i k, ∃ z : Int, B i k = z) : ∀ t a b, (gproc n B t).cs.length ≤ a → a < n → b < t → (gproc n B t).g a b = 0
  | 0, _, _, _, _, h => absurd h (by omega)
  | t + 1, a, b, ha, han, hb => by
    have ih := g_zero (n := n) hB t
    rcases firstNZ_cases (fun p => (gproc n B t).g p t) (gproc n B t).cs.length n with ⟨p, hf, h1, h2, h3, _⟩ | ⟨hf, h4⟩
    · have e : gproc n B (t + 1) = _ := gstep_some hf
      rw [e] at ha ⊢
      simp only [len_snoc] at ha
      show gauss (swapR p (gproc n B t).cs.length (gproc n B t).B) ((gproc n B t).cs ++ [t]) a b = 0
      rw [step_row h1 b t (by omega)]
      have hj : (if a = p then (gproc n B t).cs.length else a) < n := by split <;> omega
      have hj2 : (gproc n B t).cs.length ≤ (if a = p then (gproc n B t).cs.length else a) := by split <;> omega
      generalize (if a = p then (gproc n B t).cs.length else a) = i at *
      by_cases hbt : b = t
      · subst hbt
        generalize (gproc n B b).g i b = u
        generalize (gproc n B b).g p b = v at *
        grind
      · rw [ih i b hj2 hj (by omega), ih p b h1 h2 (by omega)]
        grind
    · have e : gproc n B (t + 1) = _ := gstep_none hf
      rw [e] at ha ⊢
      by_cases hbt : b = t
      · subst hbt; exact h4 a ha han
      · exact ih a b ha han (by omega)
section
variable {n t p : Nat} {B : Nat → Nat → Rat} (hB : ∀ i k, ∃ z : Int, B i k = z) (hf : firstNZ (fun p => (gproc n B t).g p t) (gproc n B t).cs.length n = some p) (hp : (gproc n B t).cs.length ≤ p)
include hf hp
theorem Zg_above {a : Nat} (b : Nat) (ha : a < (gproc n B t).cs.length) : Zg (gproc n B (t + 1)) a b = Zg (gproc n B t) a b := by
  have e : gproc n B (t + 1) = _ := gstep_some hf
  rw [e]
  unfold Zg
  simp only
  have ht : ((gproc n B t).cs ++ [t]).take a = (gproc n B t).cs.take a := by rw [List.take_append_of_le_length (by omega)]
  have hl : ((gproc n B t).cs.take a).length = a := by rw [List.length_take]; omega
  rw [ht, lastD_swap (by omega) (by omega), gauss_swap (by omega) (by omega) b (by omega), if_neg (by omega), if_neg (by omega)]
theorem Zg_head (b : Nat) : Zg (gproc n B (t + 1)) (gproc n B t).cs.length b = (gproc n B t).last * (gproc n B t).g p b := by
  have e : gproc n B (t + 1) = _ := gstep_some hf
  rw [e]
  unfold Zg
  simp only
  rw [List.take_append_of_le_length (Nat.le_refl _), List.take_length, lastD_swap hp (Nat.le_refl _), swapped_head hp]; rfl
omit hp in
theorem Zg_below {a : Nat} (b : Nat) (ha : (gproc n B t).cs.length < a) : Zg (gproc n B (t + 1)) a b = (gproc n B (t + 1)).last * (gproc n B (t + 1)).g a b := by
  have e : gproc n B (t + 1) = _ := gstep_some hf
  exact Zg_low b (by rw [e]; simp only [len_snoc]; omega)
theorem last_succ (h : GOk n (gproc n B t)) : (gproc n B (t + 1)).last = (gproc n B t).last * (gproc n B t).g p t := by
  have e : gproc n B (t + 1) = _ := gstep_some hf
  rw [e]
  exact step_last h hp t
end
theorem Zg_bound {e n : Nat} {B : Nat → Nat → Rat} (hB : Bd e B) (hn : n ≤ 64) (t : Nat) {a : Nat} (b : Nat) (ha : a < n) : ∃ z : Int, Zg (gproc n B t) a b = z ∧ z.natAbs ≤ LB ^ KB e := by
  have hi : ∀ i k, ∃ z : Int, B i k = z := fun i k => by obtain ⟨z, h, _⟩ := hB i k; exact ⟨z, h⟩
  have hok := gok_proc (n := n) hi t
  have hl : ((gproc n B t).cs.take a).length ≤ a := by rw [List.length_take]; omega
  have hLB : LB = 4294967296 := rfl
  obtain ⟨z, hz, hz1⟩ := gauss_bound (piv_take a hok.piv) (hB.gproc t) (by omega) (i := a) b hl
  exact ⟨z, hz, Nat.le_trans hz1 (lbm (Nat.mul_le_mul_right _ (by omega)))⟩
end Go.Abs
namespace Go.Abs
def gcdTo (w : Nat → Int) : Nat → Nat
  | 0 => 0
  | n + 1 => Int.gcd (gcdTo w n) (w n)
/-- The sign of the first entry that is not 0. -/
def sgF (w : Nat → Int) : Nat → Int
  | 0 => 1
  | n + 1 => if (∀ i, i < n → w i = 0) ∧ w n < 0 then -1 else sgF w n
def primI (w : Nat → Int) (c : Nat) (i : Nat) : Int := w i / (sgF w c * (gcdTo w c : Int))
theorem gcdTo_congr {w v : Nat → Int} : ∀ {n : Nat}, (∀ i, i < n → w i = v i) → gcdTo w n = gcdTo v n
  | 0, _ => rfl
  | n + 1, h => by rw [gcdTo, gcdTo, gcdTo_congr fun i hi => h i (by omega), h n (by omega)]
theorem sgF_congr {w v : Nat → Int} : ∀ {n : Nat}, (∀ i, i < n → w i = v i) → sgF w n = sgF v n
  | 0, _ => rfl
  | n + 1, h => by
    have e : (∀ i, i < n → w i = 0) = (∀ i, i < n → v i = 0) := by
      rw [eq_iff_iff]
      exact ⟨fun q i hi => by rw [← h i (by omega)]; exact q i hi, fun q i hi => by rw [h i (by omega)]; exact q i hi⟩
    unfold sgF
    rw [sgF_congr fun i hi => h i (by omega), h n (by omega)]
    simp only [e]
theorem sgF_sq (w : Nat → Int) : ∀ n, sgF w n = 1 ∨ sgF w n = -1
  | 0 => .inl rfl
  | n + 1 => by
    unfold sgF; split
    · exact .inr rfl
    · exact sgF_sq w n
theorem gcdTo_dvd (w : Nat → Int) : ∀ {n i : Nat}, i < n → (gcdTo w n : Int) ∣ w i
  | 0, _, h => absurd h (by omega)
  | n + 1, i, h => by
    rw [gcdTo]
    by_cases e : i = n
    · subst e; exact Int.gcd_dvd_right ..
    · exact Int.dvd_trans (Int.gcd_dvd_left ..) (gcdTo_dvd w (by omega))
theorem gcdTo_zero {w : Nat → Int} : ∀ {n : Nat}, gcdTo w n = 0 ↔ ∀ i, i < n → w i = 0
  | 0 => ⟨fun _ i h => absurd h (by omega), fun _ => rfl⟩
  | n + 1 => by
    rw [gcdTo, Int.gcd_eq_zero_iff]
    constructor
    · rintro ⟨h1, h2⟩ i hi
      by_cases e : i = n
      · subst e; exact h2
      · exact (gcdTo_zero (n := n)).1 (by omega) i (by omega)
    · intro h
      exact ⟨by rw [(gcdTo_zero (n := n)).2 fun i hi => h i (by omega)]; rfl, h n (by omega)⟩
theorem gcdTo_smul (a : Int) (w : Nat → Int) : ∀ n, gcdTo (fun i => a * w i) n = a.natAbs * gcdTo w n
  | 0 => rfl
  | n + 1 => by
    rw [gcdTo, gcdTo, gcdTo_smul a w n]
    rw [Int.gcd, Int.gcd, Int.natAbs_mul, Int.natAbs_natCast, Int.natAbs_natCast, Nat.gcd_mul_left]
theorem sgF_smul {a : Int} (ha : a ≠ 0) {w : Nat → Int} : ∀ {n : Nat}, (∃ i, i < n ∧ w i ≠ 0) → sgF (fun i => a * w i) n = a.sign * sgF w n
  | 0, h => by obtain ⟨i, hi, _⟩ := h; omega
  | n + 1, h => by
    have e : (∀ i, i < n → a * w i = 0) = (∀ i, i < n → w i = 0) := by
      rw [eq_iff_iff]
      exact ⟨fun q i hi => by rcases Int.mul_eq_zero.1 (q i hi) with h | h; exact absurd h ha; exact h, fun q i hi => by rw [q i hi, Int.mul_zero]⟩
    by_cases h0 : ∀ i, i < n → w i = 0
    · have hn : w n ≠ 0 := by
        obtain ⟨i, hi, hw⟩ := h
        by_cases e : i = n
        · subst e; exact hw
        · exact absurd (h0 i (by omega)) hw
      have hs0 : ∀ (v : Nat → Int) (m : Nat), (∀ i, i < m → v i = 0) → sgF v m = 1 := by
        intro v m
        induction m with
        | zero => intro _; rfl
        | succ m ih => intro hv; unfold sgF; rw [if_neg (by intro h; have := h.2; rw [hv m (by omega)] at this; omega)]; exact ih fun i hi => hv i (by omega)
      unfold sgF
      rw [hs0 w n h0, hs0 (fun i => a * w i) n fun i hi => by rw [h0 i hi, Int.mul_zero]]
      simp only [e]
      rcases Int.lt_or_gt_of_ne ha with ha' | ha'
      · rw [Int.sign_eq_neg_one_of_neg ha']
        rcases Int.lt_or_gt_of_ne hn with hn' | hn'
        · rw [if_neg (by intro h; have := h.2; have := Int.mul_pos_of_neg_of_neg ha' hn'; omega), if_pos ⟨h0, hn'⟩]; rfl
        · rw [if_pos ⟨h0, Int.mul_neg_of_neg_of_pos ha' hn'⟩, if_neg (by intro h; have := h.2; omega)]; rfl
      · rw [Int.sign_eq_one_of_pos ha', Int.one_mul]
        rcases Int.lt_or_gt_of_ne hn with hn' | hn'
        · rw [if_pos ⟨h0, Int.mul_neg_of_pos_of_neg ha' hn'⟩, if_pos ⟨h0, hn'⟩]
        · rw [if_neg (by intro h; have := h.2; have := Int.mul_pos ha' hn'; omega), if_neg (by intro h; have := h.2; omega)]
    · have hex : ∃ i, i < n ∧ w i ≠ 0 := Classical.byContradiction fun hc => h0 fun i hi => Classical.byContradiction fun h1 => hc ⟨i, hi, h1⟩
      unfold sgF
      simp only [e]
      rw [if_neg (fun h => h0 h.1), if_neg (fun h => h0 h.1), sgF_smul ha hex]
def Nz (w : Nat → Int) (c : Nat) : Prop := ∃ i, i < c ∧ w i ≠ 0
theorem gcdTo_ne {w : Nat → Int} {c : Nat} (h : Nz w c) : gcdTo w c ≠ 0 := fun h0 => by
  obtain ⟨i, hi, hw⟩ := h
  exact hw (gcdTo_zero.1 h0 i hi)
theorem sg_ne {w : Nat → Int} {c : Nat} (h : Nz w c) : sgF w c * (gcdTo w c : Int) ≠ 0 := by
  have := gcdTo_ne h
  exact Int.mul_ne_zero (by rcases sgF_sq w c with h | h <;> omega) (by omega)
/-- A multiple of what is left. -/
theorem prim_mul {w : Nat → Int} {c i : Nat} (hi : i < c) : w i = (sgF w c * (gcdTo w c : Int)) * primI w c i := by
  obtain ⟨q, hq⟩ := gcdTo_dvd w hi
  unfold primI
  rcases Nat.eq_zero_or_pos (gcdTo w c) with h0 | h0
  · rw [h0] at hq; rw [h0]; simp at hq ⊢; exact hq
  · have hd : (sgF w c * (gcdTo w c : Int)) ∣ w i := by
      rcases sgF_sq w c with h | h
      · rw [h, Int.one_mul]; exact ⟨q, hq⟩
      · rw [h]; exact ⟨-q, by rw [hq, Int.neg_mul, Int.one_mul, Int.neg_mul_neg]⟩
    rw [Int.mul_ediv_cancel' hd]
theorem prim_smul {a : Int} (ha : a ≠ 0) {w : Nat → Int} {c : Nat} (h : Nz w c) {i : Nat} (hi : i < c) : primI (fun i => a * w i) c i = primI w c i := by
  have h1 := prim_mul (w := w) hi
  have hne := sg_ne h
  unfold primI
  rw [sgF_smul ha h, gcdTo_smul]
  have e : a.sign * sgF w c * ((a.natAbs * gcdTo w c : Nat) : Int) = a * (sgF w c * (gcdTo w c : Int)) := by
    rw [Int.natCast_mul]
    have key : ∀ t s m g : Int, t * s * (m * g) = t * m * (s * g) := by
      intro t s m g; rw [Int.mul_assoc, Int.mul_assoc, Int.mul_left_comm s m g]
    rw [key, Int.sign_mul_natAbs a]
  rw [e]
  show a * w i / _ = w i / _
  generalize primI w c i = p at *
  generalize sgF w c * (gcdTo w c : Int) = x at *
  rw [h1, ← Int.mul_assoc, Int.mul_ediv_cancel_left _ (Int.mul_ne_zero ha hne), Int.mul_ediv_cancel_left _ hne]
theorem prim_congr {w v : Nat → Int} {c : Nat} (h : ∀ i, i < c → w i = v i) {i : Nat} (hi : i < c) : primI w c i = primI v c i := by
  unfold primI; rw [gcdTo_congr h, sgF_congr h, h i hi]
/-- Parallel vectors have one such. -/
theorem prim_par {a b : Int} (ha : a ≠ 0) (hb : b ≠ 0) {w v : Nat → Int} {c : Nat} (hw : Nz w c) (h : ∀ i, i < c → a * w i = b * v i) {i : Nat} (hi : i < c) : primI w c i = primI v c i := by
  have hv : Nz v c := by
    obtain ⟨j, hj, hw⟩ := hw
    refine ⟨j, hj, fun h0 => ?_⟩
    have := h j hj
    rw [h0, Int.mul_zero] at this
    rcases Int.mul_eq_zero.1 this with h | h
    · exact ha h
    · exact hw h
  rw [← prim_smul ha hw hi, ← prim_smul hb hv hi]
  exact prim_congr h hi
end Go.Abs
namespace Go.Abs
/-- The heads are columns that were gone through. -/
theorem cs_lt {n : Nat} {B : Nat → Nat → Rat} : ∀ t c, c ∈ (gproc n B t).cs → c < t
  | 0, _, h => by simp [gproc] at h
  | t + 1, c, h => by
    have h' : c ∈ (gstep n (gproc n B t) t).cs := h
    unfold gstep at h'
    cases hf : firstNZ (fun p => (gproc n B t).g p t) (gproc n B t).cs.length n with
    | none => rw [hf] at h'; exact Nat.lt_succ_of_lt (cs_lt t c h')
    | some p =>
      rw [hf] at h'
      rcases List.mem_append.1 h' with h | h
      · exact Nat.lt_succ_of_lt (cs_lt t c h)
      · simp at h; omega
theorem cs_getD_lt {n : Nat} {B : Nat → Nat → Rat} {t i : Nat} (h : i < (gproc n B t).cs.length) : (gproc n B t).cs.getD i 0 < t := by
  refine cs_lt (n := n) (B := B) t _ ?_
  rw [List.getD_eq_getElem?_getD, List.getElem?_eq_getElem h]
  exact List.getElem_mem h
end Go.Abs
namespace Go.Abs
structure Alt (n : Nat) (F : (Nat → Nat → Rat) → Rat) : Prop where
  congr : ∀ M N, (∀ r c, r < n → c < n → M r c = N r c) → F M = F N
  eq0 : ∀ M s t, s ≠ t → s < n → t < n → (∀ c, M s c = M t c) → F M = 0
  lin : ∀ M t (x y : Rat) (u w : Nat → Rat), t < n → F (rowset M t fun c => x * u c + y * w c) = x * F (rowset M t u) + y * F (rowset M t w)
def oneR : Nat → Nat → Rat := fun i k => if i = k then 1 else 0
section
variable {n : Nat} {F : (Nat → Nat → Rat) → Rat} (h : Alt n F)
include h
theorem Alt.add {M : Nat → Nat → Rat} {t : Nat} (u w : Nat → Rat) (ht : t < n) : F (rowset M t fun c => u c + w c) = F (rowset M t u) + F (rowset M t w) := by
  have := h.lin M t 1 1 u w ht
  have e : (fun c => (1 : Rat) * u c + 1 * w c) = fun c => u c + w c := by funext c; grind
  rw [e] at this
  grind
theorem Alt.swap {M : Nat → Nat → Rat} {s t : Nat} (hst : s ≠ t) (hs : s < n) (ht : t < n) : F (swapR s t M) = -F M := by
  let u := M s
  let w := M t
  have A : ∀ p q : Nat → Rat, (∀ c, p c = q c) → F (rowset (rowset M s p) t q) = 0 := fun p q hpq => h.eq0 _ s t hst hs ht fun c => by
    unfold rowset
    simp [hst, hpq c]
  have h0 := A (fun c => u c + w c) (fun c => u c + w c) fun _ => rfl
  rw [h.add _ _ ht, rowset_comm hst, rowset_comm hst, h.add _ _ hs, h.add _ _ hs, ← rowset_comm hst, ← rowset_comm hst, ← rowset_comm hst, ← rowset_comm hst, A u u fun _ => rfl, A w w fun _ => rfl] at h0
  have e1 : rowset (rowset M s u) t w = M := by
    show rowset (rowset M s (M s)) t (M t) = M
    rw [rowset_self]; exact rowset_self M t
  have e2 : rowset (rowset M s w) t u = swapR s t M := by
    funext r c; unfold rowset swapR
    by_cases h1 : r = s
    · subst h1; simp [hst]; rfl
    · by_cases h2 : r = t
      · subst h2; simp [h1]; rfl
      · simp [h1, h2]
  rw [e1, e2] at h0
  grind
theorem Alt.addrow {M : Nat → Nat → Rat} {s t : Nat} (x : Rat) (hst : s ≠ t) (hs : s < n) (ht : t < n) : F (rowset M t fun c => M t c + x * M s c) = F M := by
  have h1 := h.lin M t 1 x (M t) (M s) ht
  have e : (fun c => (1 : Rat) * M t c + x * M s c) = fun c => M t c + x * M s c := by funext c; grind
  rw [e, rowset_self] at h1
  have h0 : F (rowset M t (M s)) = 0 := h.eq0 _ s t hst hs ht fun c => by unfold rowset; simp [hst]
  rw [h1, h0]
  grind
theorem Alt.elim (M : Nat → Nat → Rat) : ∀ k, k < n → F (elimTo M k) = F M
  | 0, _ => by congr 1; funext r c; unfold elimTo; rw [if_neg (by omega)]
  | k + 1, hk => by
    rw [← Alt.elim M k (by omega), ← h.addrow (M := elimTo M k) (s := 0) (t := k + 1) (-(M (k + 1) 0 / M 0 0)) (by omega) (by omega) hk]
    congr 1
    funext r c
    unfold rowset elimTo
    by_cases e : r = k + 1
    · subst e
      rw [if_pos ⟨by omega, Nat.le_refl _⟩, if_pos rfl]
      show _ = (if 0 < k + 1 ∧ k + 1 ≤ k then _ else _) + _ * (if 0 < 0 ∧ 0 ≤ k then _ else _)
      rw [if_neg (by omega), if_neg (by omega)]
    · by_cases h2 : 0 < r ∧ r ≤ k
      · rw [if_pos ⟨h2.1, by omega⟩, if_neg e, if_pos h2]
      · rw [if_neg (by omega), if_neg e, if_neg h2]
end
/-- A first row, and behind it a smaller matrix with nought ahead. -/
def und (u : Nat → Rat) (N : Nat → Nat → Rat) : Nat → Nat → Rat := fun r c => if r = 0 then u c else if c = 0 then 0 else N (r - 1) (c - 1)
def shR (v : Nat → Rat) : Nat → Rat := fun c => if c = 0 then 0 else v (c - 1)
theorem und_rowset (u v : Nat → Rat) (N : Nat → Nat → Rat) (t : Nat) : und u (rowset N t v) = rowset (und u N) (t + 1) (shR v) := by
  funext r c
  cases r with
  | zero => exact (if_neg (show ¬ 0 = t + 1 by omega)).symm
  | succ r =>
    cases c with
    | zero =>
      show (0 : Rat) = if r + 1 = t + 1 then 0 else 0
      split <;> rfl
    | succ c =>
      show (if r = t then v c else N r c) = if r + 1 = t + 1 then v c else N r c
      by_cases e : r = t
      · rw [if_pos e, if_pos (by omega)]
      · rw [if_neg e, if_neg (by omega)]
theorem Alt.und {n : Nat} {F : (Nat → Nat → Rat) → Rat} (h : Alt (n + 1) F) (u : Nat → Rat) : Alt n fun N => F (und u N) := by
  refine ⟨fun M N he => h.congr _ _ fun r c hr hc => ?_, fun M s t hst hs ht he => h.eq0 _ (s + 1) (t + 1) (by omega) (by omega) (by omega) fun c => ?_, fun M t x y v w ht => ?_⟩
  · cases r with
    | zero => rfl
    | succ r =>
      cases c with
      | zero => rfl
      | succ c => exact he r c (by omega) (by omega)
  · cases c with
    | zero => rfl
    | succ c => exact he c
  · show F (Abs.und u (rowset M t _)) = x * F (Abs.und u (rowset M t v)) + y * F (Abs.und u (rowset M t w))
    rw [und_rowset, und_rowset, und_rowset, ← h.lin _ _ _ _ _ _ (by omega)]
    congr 2
    funext c
    unfold shR
    split
    · grind
    · rfl
/-- The first row above the unit matrix. -/
theorem Alt.und_one {n : Nat} {F : (Nat → Nat → Rat) → Rat} (h : Alt (n + 1) F) (u : Nat → Rat) : F (Abs.und u oneR) = u 0 * F oneR := by
  have key : ∀ k, k ≤ n → F (Abs.und (fun c => if 0 < c ∧ c ≤ k then 0 else u c) oneR) = F (Abs.und u oneR) := by
    intro k
    induction k with
    | zero =>
      intro _
      congr 2
      funext c; rw [if_neg (by omega)]
    | succ k ih =>
      intro hk
      rw [← ih (by omega), ← h.addrow (M := Abs.und (fun c => if 0 < c ∧ c ≤ k then 0 else u c) oneR) (s := k + 1) (t := 0) (-(u (k + 1))) (by omega) (by omega) (by omega)]
      congr 1
      funext r c
      cases r with
      | zero =>
        cases c with
        | zero =>
          show (if 0 < 0 ∧ 0 ≤ k + 1 then 0 else u 0) = (if 0 < 0 ∧ 0 ≤ k then 0 else u 0) + -(u (k + 1)) * 0
          rw [if_neg (by omega), if_neg (by omega)]; grind
        | succ c =>
          show (if 0 < c + 1 ∧ c + 1 ≤ k + 1 then 0 else u (c + 1)) = (if 0 < c + 1 ∧ c + 1 ≤ k then 0 else u (c + 1)) + -(u (k + 1)) * (if k = c then 1 else 0)
          by_cases e : k = c
          · subst e; rw [if_pos ⟨by omega, Nat.le_refl _⟩, if_neg (by omega), if_pos rfl]; grind
          · rw [if_neg e]
            by_cases h2 : 0 < c + 1 ∧ c + 1 ≤ k
            · rw [if_pos ⟨h2.1, by omega⟩, if_pos h2]; grind
            · rw [if_neg (by omega), if_neg h2]; grind
      | succ r => rfl
  rw [← key n (Nat.le_refl n)]
  have e : ∀ r c, r < n + 1 → c < n + 1 → Abs.und (fun c => if 0 < c ∧ c ≤ n then 0 else u c) oneR r c = rowset oneR 0 (fun c => u 0 * oneR 0 c + 0 * oneR 0 c) r c := by
    intro r c hr hc
    cases r with
    | zero =>
      cases c with
      | zero =>
        show (if 0 < 0 ∧ 0 ≤ n then 0 else u 0) = u 0 * 1 + 0 * 1
        rw [if_neg (by omega)]; grind
      | succ c =>
        show (if 0 < c + 1 ∧ c + 1 ≤ n then 0 else u (c + 1)) = u 0 * 0 + 0 * 0
        rw [if_pos ⟨by omega, by omega⟩]; grind
    | succ r =>
      cases c with
      | zero => rfl
      | succ c =>
        show (if r = c then (1 : Rat) else 0) = if r + 1 = c + 1 then 1 else 0
        by_cases e : r = c
        · rw [if_pos e, if_pos (by omega)]
        · rw [if_neg e, if_neg (by omega)]
  rw [h.congr _ _ e, h.lin _ _ _ _ _ _ (by omega), rowset_self]
  grind
theorem Alt.uniq : ∀ {n : Nat} {F : (Nat → Nat → Rat) → Rat}, Alt n F → ∀ M, F M = F oneR * det n M
  | 0, F, h, M => by
    rw [h.congr M oneR fun r c hr => absurd hr (by omega)]
    simp only [det]; grind
  | n + 1, F, h, M => by
    have small : ∀ M : Nat → Nat → Rat, M 0 0 ≠ 0 → F M = F oneR * det (n + 1) M := by
      intro M h0
      have e : F M = F (Abs.und (M 0) (schur M)) := by
        rw [← h.elim M n (by omega)]
        refine h.congr _ _ fun r c hr hc => ?_
        cases r with
        | zero => exact if_neg (by omega)
        | succ r =>
          have e1 : elimTo M n (r + 1) c = M (r + 1) c + -(M (r + 1) 0 / M 0 0) * M 0 c := if_pos ⟨by omega, by omega⟩
          rw [e1]
          cases c with
          | zero => show _ = (0 : Rat); grind
          | succ c => show _ = M (r + 1) (c + 1) - M (r + 1) 0 / M 0 0 * M 0 (c + 1); grind
      have h1 := Alt.uniq (h.und (M 0)) (schur M)
      have h2 := h.und_one (M 0)
      rw [e, h1, h2, det_schur h0]
      grind
    by_cases h0 : ∀ r, r < n + 1 → M r 0 = 0
    · have e : F M = F (Abs.und (M 0) fun i k => M (i + 1) (k + 1)) := by
        refine h.congr _ _ fun r c hr hc => ?_
        cases r with
        | zero => rfl
        | succ r =>
          cases c with
          | zero => exact h0 (r + 1) hr
          | succ c => rfl
      have h1 := Alt.uniq (h.und (M 0)) fun i k => M (i + 1) (k + 1)
      have h2 := h.und_one (M 0)
      rw [e, h1, h2, h0 0 (by omega), det_colzero' (t := 0) (by omega) h0]
      grind
    · obtain ⟨p, hp, hne⟩ : ∃ p, p < n + 1 ∧ M p 0 ≠ 0 := by
        refine Classical.byContradiction fun hq => h0 fun r hr => Classical.byContradiction fun hz => hq ⟨r, hr, hz⟩
      by_cases hp0 : p = 0
      · subst hp0; exact small M hne
      · have hs := small (swapR 0 p M) (by unfold swapR; rw [if_pos rfl]; exact hne)
        rw [h.swap (by omega) (by omega) hp, det_swap (by omega) (by omega) hp] at hs
        grind
theorem det_oneR : ∀ n, det n oneR = 1
  | 0 => rfl
  | n + 1 => by
    have h0 : oneR 0 0 = 1 := if_pos rfl
    rw [det_schur (by rw [h0]; decide), h0]
    have : det n (schur oneR) = det n oneR := det_congr fun r c _ _ => by
      unfold schur oneR
      rw [if_neg (show ¬ r + 1 = 0 by omega)]
      by_cases e : r = c
      · rw [if_pos e, if_pos (by omega)]; grind
      · rw [if_neg e, if_neg (by omega)]; grind
    rw [this, det_oneR n]; grind
def mulR (n : Nat) (A B : Nat → Nat → Rat) : Nat → Nat → Rat := fun i k => sumR (fun j => A i j * B j k) n
theorem det_mul (n : Nat) (A B : Nat → Nat → Rat) : det n (mulR n A B) = det n A * det n B := by
  have h : Alt n fun A => det n (mulR n A B) := by
    refine ⟨fun M N he => det_congr fun r c hr hc => sumR_congr fun j hj => by rw [he r j hr hj], fun M s t hst hs ht he => det_equal hst hs ht fun c => sumR_congr fun j _ => by rw [he j], fun M t x y u w ht => ?_⟩
    have e : ∀ v : Nat → Rat, mulR n (rowset M t v) B = rowset (mulR n M B) t fun c => sumR (fun j => v j * B j c) n := fun v => by
      funext r c
      unfold mulR rowset
      split <;> rfl
    show det n (mulR n (rowset M t _) B) = _ * det n (mulR n (rowset M t u) B) + _ * det n (mulR n (rowset M t w) B)
    rw [e, e, e, ← det_lin _ _ _ _ ht]
    congr 2
    funext c
    rw [← sumR_lin]
    exact sumR_congr fun j _ => by grind
  have h1 := h.uniq A
  have h2 : det n (mulR n oneR B) = det n B := det_congr fun r c hr hc => by
    unfold mulR
    rw [sumR_one hr fun j _ hj => by unfold oneR; rw [if_neg (Ne.symm hj)]; grind]
    unfold oneR; rw [if_pos rfl]; grind
  show det n (mulR n A B) = _
  have h3 : det n (mulR n A B) = det n (mulR n oneR B) * det n A := h1
  rw [h3, h2]
  grind
theorem det_turn (n : Nat) (A : Nat → Nat → Rat) : det n (fun i k => A k i) = det n A := by
  have h : Alt n fun A => det n fun i k => A k i := by
    refine ⟨fun M N he => det_congr fun r c hr hc => he c r hc hr, fun M s t hst hs ht he => det_coleq' hs ht hst he, fun M t x y u w ht => ?_⟩
    have e : ∀ v : Nat → Rat, (fun i k => rowset M t v k i) = colset (fun i k => M k i) t v := fun v => by
      funext r c
      unfold rowset colset
      rfl
    show det n (fun i k => rowset M t _ k i) = _ * det n (fun i k => rowset M t u k i) + _ * det n (fun i k => rowset M t w k i)
    rw [e, e, e, ← det_collin _ _ _ _ ht]
  have h1 : det n (fun i k => A k i) = det n (fun i k => oneR k i) * det n A := h.uniq A
  have h2 : det n (fun i k => oneR k i) = det n oneR := det_congr fun r c _ _ => by unfold oneR; by_cases e : r = c <;> simp [e, eq_comm]
  rw [h1, h2, det_oneR]
  grind
end Go.Abs
namespace Go.Abs
/-- A row left behind is the row less a combination of the heads' rows. -/
theorem SS_comb : ∀ (r : Nat) (M : Nat → Nat → Rat) (i : Nat), ∃ l : Nat → Rat, ∀ k, SS r M i k = M (r + i) (r + k) + sumR (fun j => l j * M j (r + k)) r
  | 0, M, i => ⟨fun _ => 0, fun k => by simp only [SS, sumR, Nat.zero_add]; grind⟩
  | r + 1, M, i => by
    obtain ⟨l, hl⟩ := SS_comb r M (i + 1)
    obtain ⟨m, hm⟩ := SS_comb r M 0
    refine ⟨fun j => if j < r then l j - SS r M (i + 1) 0 / SS r M 0 0 * m j else -(SS r M (i + 1) 0 / SS r M 0 0), fun k => ?_⟩
    rw [SS_succ]
    unfold schur
    generalize SS r M (i + 1) 0 / SS r M 0 0 = c
    rw [hl, hm, sumR]
    show _ = M (r + 1 + i) (r + 1 + k) + (sumR (fun j => (if j < r then l j - c * m j else -c) * M j (r + 1 + k)) r + (if r < r then l r - c * m r else -c) * M r (r + 1 + k))
    rw [if_neg (Nat.lt_irrefl r)]
    have e : sumR (fun j => (if j < r then l j - c * m j else -c) * M j (r + 1 + k)) r = 1 * sumR (fun j => l j * M j (r + (k + 1))) r + (-c) * sumR (fun j => m j * M j (r + (k + 1))) r := by
      rw [← sumR_lin]
      refine sumR_congr fun j hj => ?_
      rw [if_pos hj, show r + 1 + k = r + (k + 1) by omega]; grind
    rw [e, show r + 1 + i = r + (i + 1) by omega, show r + 1 + k = r + (k + 1) by omega, Nat.add_zero]
    grind
theorem det_comb0 {n t : Nat} {M : Nat → Nat → Rat} (ht : t < n) (l : Nat → Rat) : ∀ m, m ≤ t → det n (rowset M t fun c => sumR (fun j => l j * M j c) m) = 0
  | 0, _ => by
    have h := det_lin (M := M) 0 0 (M t) (M t) ht
    have e : (fun c => (0 : Rat) * M t c + 0 * M t c) = fun c => sumR (fun j => l j * M j c) 0 := by funext c; simp only [sumR]; grind
    rw [e] at h
    rw [h]; grind
  | m + 1, hm => by
    have h := det_lin (M := M) 1 (l m) (fun c => sumR (fun j => l j * M j c) m) (M m) ht
    have e : (fun c => (1 : Rat) * sumR (fun j => l j * M j c) m + l m * M m c) = fun c => sumR (fun j => l j * M j c) (m + 1) := by funext c; simp only [sumR]; grind
    have h0 : det n (rowset M t (M m)) = 0 := det_equal (s := m) (t := t) (by omega) (by omega) ht fun c => by unfold rowset; rw [if_neg (by omega), if_pos rfl]
    rw [e, det_comb0 ht l m (by omega), h0] at h
    rw [h]; grind
theorem det_gauss0 {n : Nat} {B : Nat → Nat → Rat} {cs : List Nat} {i : Nat} (hi : i < n) (hc : cs.length ≤ i) (h0 : ∀ k, k < n → gauss B cs i k = 0) : det n B = 0 := by
  obtain ⟨l, hl⟩ := SS_comb cs.length (heads B cs) (i - cs.length)
  have hrow : ∀ k, k < n → B i k = sumR (fun j => -l j * B j k) cs.length := fun k hk => by
    have h1 := h0 k hk
    unfold gauss at h1
    rw [hl] at h1
    have e1 : heads B cs (cs.length + (i - cs.length)) (cs.length + k) = B i k := by
      unfold heads; rw [colm_rest, show cs.length + (i - cs.length) = i by omega]
    have e2 : sumR (fun j => l j * heads B cs j (cs.length + k)) cs.length = -1 * sumR (fun j => -l j * B j k) cs.length + 0 * sumR (fun j => -l j * B j k) cs.length := by
      rw [← sumR_lin]
      refine sumR_congr fun j _ => ?_
      unfold heads; rw [colm_rest]; grind
    rw [e1, e2] at h1
    grind
  rw [← det_comb0 hi (fun j => -l j) cs.length hc]
  refine det_congr fun r c hr hc => ?_
  unfold rowset
  by_cases e : r = i
  · rw [if_pos e, e]; exact hrow c hc
  · rw [if_neg e]
theorem gproc_det (n : Nat) (B : Nat → Nat → Rat) : ∀ t, det n (gproc n B t).B = if (gproc n B t).odd then -det n B else det n B
  | 0 => rfl
  | t + 1 => by
    have ih := gproc_det n B t
    rcases firstNZ_cases (fun p => (gproc n B t).g p t) (gproc n B t).cs.length n with ⟨p, hf, h1, h2, h3, _⟩ | ⟨hf, h4⟩
    · have e : gproc n B (t + 1) = _ := gstep_some hf
      rw [e]
      show det n (swapR p (gproc n B t).cs.length (gproc n B t).B) = if (if p = (gproc n B t).cs.length then (gproc n B t).odd else !(gproc n B t).odd) = true then -det n B else det n B
      by_cases hp : p = (gproc n B t).cs.length
      · rw [if_pos hp, hp, swapR_self]; exact ih
      · rw [if_neg hp, det_swap hp h2 (by omega), ih]
        cases (gproc n B t).odd <;> simp <;> grind
    · have e : gproc n B (t + 1) = _ := gstep_none hf
      rw [e]; exact ih
theorem gproc_full {n : Nat} {B : Nat → Nat → Rat} : ∀ t, (gproc n B t).cs.length = t → ∀ b, b < t → (gproc n B t).cs.getD b 0 = b
  | 0, _, _, h => absurd h (by omega)
  | t + 1, hl, b, hb => by
    rcases firstNZ_cases (fun p => (gproc n B t).g p t) (gproc n B t).cs.length n with ⟨p, hf, h1, h2, h3, _⟩ | ⟨hf, h4⟩
    · have e : gproc n B (t + 1) = _ := gstep_some hf
      rw [e] at hl ⊢
      simp only [len_snoc] at hl
      show ((gproc n B t).cs ++ [t]).getD b 0 = b
      have ht : (gproc n B t).cs.length = t := by omega
      by_cases hbt : b = t
      · subst hbt; simp [List.getD_eq_getElem?_getD, ht]
      · have := gproc_full t ht b (by omega)
        rw [List.getD_eq_getElem?_getD, List.getElem?_append_left (by omega), ← List.getD_eq_getElem?_getD]; exact this
    · have e : gproc n B (t + 1) = gproc n B t := gstep_none hf
      rw [e] at hl
      have := gproc_len n B t
      omega
theorem dv_det {n : Nat} {B : Nat → Nat → Rat} (hB : ∀ i k, ∃ z : Int, B i k = z) : dv n B n = det n B := by
  have hs := gproc_det n B n
  unfold dv
  by_cases h : (gproc n B n).cs.length = n
  · rw [if_pos h]
    have e : (gproc n B n).last = det n (gproc n B n).B := by
      unfold GS.last lastD
      rw [h]
      refine det_congr fun r c _ hc => ?_
      unfold heads colm
      rw [if_pos (by omega), gproc_full n h c hc]
    rw [e, hs]
    cases (gproc n B n).odd <;> simp
  · have hlt := gproc_len n B n
    rw [if_neg h]
    have h0 := det_gauss0 (n := n) (B := (gproc n B n).B) (cs := (gproc n B n).cs) (i := (gproc n B n).cs.length) (by omega) (Nat.le_refl _) fun k hk => g_zero hB n _ k (Nat.le_refl _) (by omega) hk
    rw [h0] at hs
    cases hodd : (gproc n B n).odd <;> rw [hodd] at hs <;> simp at hs <;> grind
end Go.Abs
namespace Go.Abs
open Go.Proofs
noncomputable abbrev Pr : Program := Try.prog
abbrev F_law06_ElimProducts : FuncId := 9
abbrev F_law06_eq : FuncId := 23
abbrev F_elim_Det : FuncId := 24
abbrev F_law06_alive : FuncId := 33
abbrev F_mat_Turn : FuncId := 34
abbrev F_ref04_Form : FuncId := 35
abbrev F_zint_Neg : FuncId := 36
abbrev F_mat_Product : FuncId := 37
abbrev F_zint_Mul : FuncId := 38
abbrev F_mat_Unit : FuncId := 43
abbrev F_zint_Sign : FuncId := 44
abbrev F_elim_asked : FuncId := 49
abbrev F_elim_bareiss : FuncId := 50
abbrev F_elim_square : FuncId := 55
abbrev F_elim_det : FuncId := 56
abbrev F_zint_Of : FuncId := 60
abbrev F_ref02_Of : FuncId := 63
abbrev F_mat_Shape : FuncId := 70
abbrev F_zint_Form : FuncId := 71
abbrev F_ref04_Times : FuncId := 72
abbrev F_zint_made : FuncId := 73
abbrev F_mat_each_V_V : FuncId := 74
abbrev F_mat_Product_1 : FuncId := 75
abbrev F_mat_combine : FuncId := 76
abbrev F_nat_Mul : FuncId := 77
abbrev F_zint_Floor : FuncId := 78
abbrev F_nat_Bits : FuncId := 82
abbrev F_elim_copied : FuncId := 85
abbrev F_zint_Sub : FuncId := 86
abbrev F_nat_Cmp : FuncId := 92
abbrev F_ref02_made : FuncId := 95
abbrev F_ref02_Mul : FuncId := 99
abbrev F_zint_Add : FuncId := 102
abbrev F_nat_trim : FuncId := 103
abbrev F_nat_Div : FuncId := 104
abbrev F_math_bits_Len32 : FuncId := 109
abbrev F_ref01_Norm : FuncId := 111
abbrev F_ref01_Mul : FuncId := 115
abbrev F_nat_Add : FuncId := 118
abbrev F_nat_Sub : FuncId := 119
abbrev F_nat_Norm : FuncId := 120
abbrev F_nat_short : FuncId := 121
abbrev F_math_bits_LeadingZeros32 : FuncId := 122
abbrev F_nat_shl : FuncId := 123
abbrev F_nat_digit : FuncId := 124
abbrev F_nat_shr : FuncId := 125
abbrev F_nat_less : FuncId := 136
def str_0 : ByteArray := ⟨#[0, 1, 2, 2, 3, 3, 3, 3, 4, 4, 4, 4, 4, 4, 4, 4, 5, 5, 5, 5, 5, 5, 5, 5, 5, 5, 5, 5, 5, 5, 5, 5, 6, 6, 6, 6, 6, 6, 6, 6, 6, 6, 6, 6, 6, 6, 6, 6, 6, 6, 6, 6, 6, 6, 6, 6, 6, 6, 6, 6, 6, 6, 6, 6, 7, 7, 7, 7, 7, 7, 7, 7, 7, 7, 7, 7, 7, 7, 7, 7, 7, 7, 7, 7, 7, 7, 7, 7, 7, 7, 7, 7, 7, 7, 7, 7, 7, 7, 7, 7, 7, 7, 7, 7, 7, 7, 7, 7, 7, 7, 7, 7, 7, 7, 7, 7, 7, 7, 7, 7, 7, 7, 7, 7, 7, 7, 7, 7, 8, 8, 8, 8, 8, 8, 8, 8, 8, 8, 8, 8, 8, 8, 8, 8, 8, 8, 8, 8, 8, 8, 8, 8, 8, 8, 8, 8, 8, 8, 8, 8, 8, 8, 8, 8, 8, 8, 8, 8, 8, 8, 8, 8, 8, 8, 8, 8, 8, 8, 8, 8, 8, 8, 8, 8, 8, 8, 8, 8, 8, 8, 8, 8, 8, 8, 8, 8, 8, 8, 8, 8, 8, 8, 8, 8, 8, 8, 8, 8, 8, 8, 8, 8, 8, 8, 8, 8, 8, 8, 8, 8, 8, 8, 8, 8, 8, 8, 8, 8, 8, 8, 8, 8, 8, 8, 8, 8, 8, 8, 8, 8, 8, 8, 8, 8, 8, 8, 8, 8, 8, 8, 8, 8, 8, 8, 8, 8]⟩
end Go.Abs

/- Vectors and matrices as values of the walks. -/
import Derived.Test.YtofbhhncpjegfaaD2
set_option linter.unusedVariables false
set_option linter.unusedSimpArgs false
set_option linter.defProp false
namespace Go.Abs

theorem ZI.av_fit (x : ZI) : x.av.fit = true := rfl
theorem ZI.av_cells (x : ZI) : x.av.cells = [.bool x.neg, natV x.mag] := rfl
theorem ZI.av_nref (id : Nat) (x : ZI) : nref id x.av = true := nref_cl x.cl
theorem ZI.av_frz (id : Nat) (b : Blk) (x : ZI) : frz id b x.av = x.av := frz_cl x.cl
theorem Z_cells (z : Int) : (Z z).cells = [.bool (decide (z < 0)), natV (limbs z.natAbs)] := rfl
theorem Z_fit (z : Int) : (Z z).fit = true := rfl
theorem Z_nref (id : Nat) (z : Int) : nref id (Z z) = true := nref_cl (Z_cl z)
theorem Z_frz (id : Nat) (b : Blk) (z : Int) : frz id b (Z z) = Z z := frz_cl (Z_cl z)

def vecV (v : List ZI) : AV := .sl 2 (v.map ZI.av)
def matV (b : List (List ZI)) : AV := .sl 1 (b.map vecV)
theorem clcells {a : AV} (h : Cl a) : ∀ c ∈ a.cells, Cl c := by
  intro c hc
  cases a with
  | agg cs => cases h with | agg _ h => exact h c hc
  | _ => simp [AV.cells] at hc; subst hc; exact h
theorem cl_sl {α : Type} (wd : Nat) (f : α → AV) (l : List α) (h : ∀ x, Cl (f x)) : Cl (.sl wd (l.map f)) := by
  refine .sl wd _ fun c hc => ?_
  obtain ⟨x, hx, hc⟩ := List.mem_flatMap.1 hc
  obtain ⟨y, _, rfl⟩ := List.mem_map.1 hx
  exact clcells (h y) c hc
theorem vecV_cl (v : List ZI) : Cl (vecV v) := cl_sl 2 _ v ZI.cl
theorem matV_cl (b : List (List ZI)) : Cl (matV b) := cl_sl 1 _ b vecV_cl
theorem vecV_cells (v : List ZI) : (vecV v).cells = [vecV v] := rfl
theorem vecV_fit (v : List ZI) : (vecV v).fit = true := rfl
theorem vecV_nref (id : Nat) (v : List ZI) : nref id (vecV v) = true := nref_cl (vecV_cl v)
theorem vecV_clb (v : List ZI) : clb (vecV v) = true := clb_cl (vecV_cl v)
theorem vecV_frz (id : Nat) (b : Blk) (v : List ZI) : frz id b (vecV v) = vecV v := frz_cl (vecV_cl v)
theorem matV_cells (v : List (List ZI)) : (matV v).cells = [matV v] := rfl
theorem matV_fit (v : List (List ZI)) : (matV v).fit = true := rfl
theorem matV_nref (id : Nat) (v : List (List ZI)) : nref id (matV v) = true := nref_cl (matV_cl v)
theorem matV_clb (v : List (List ZI)) : clb (matV v) = true := clb_cl (matV_cl v)
theorem matV_frz (id : Nat) (b : Blk) (v : List (List ZI)) : frz id b (matV v) = matV v := frz_cl (matV_cl v)

section
variable (H : Heap)
theorem sl_len {α : Type} (wd : Nat) (f : α → AV) (l : List α) : lenV H (.sl wd (l.map f)) = some (.int .i64 l.length) := by rw [lenV_sl, List.length_map]
theorem sl_idx {α : Type} (wd : Nat) (f : α → AV) (l : List α) (k : IntKind) (i : Nat) (h : i < l.length) : idxV H wd (.sl wd (l.map f)) (.int k i) = some (.ro (f l[i]) 0) := by
  rw [idxV_sl _ _ _ _ _ (by omega) (by rw [List.length_map]; omega)]
  simp [h]
theorem vec_len (v : List ZI) : lenV H (vecV v) = some (.int .i64 v.length) := sl_len H 2 _ v
theorem vec_idx (v : List ZI) (k : IntKind) (i : Nat) (h : i < v.length) : idxV H 2 (vecV v) (.int k i) = some (.ro v[i].av 0) := sl_idx H 2 _ v k i h
theorem mat_len (v : List (List ZI)) : lenV H (matV v) = some (.int .i64 v.length) := sl_len H 1 _ v
theorem mat_idx (v : List (List ZI)) (k : IntKind) (i : Nat) (h : i < v.length) : idxV H 1 (matV v) (.int k i) = some (.ro (vecV v[i]) 0) := sl_idx H 1 _ v k i h

/-- The elements of a row of the call's own, each closed. -/
theorem blk_map {α : Type} (wd : Nat) (f : α → AV) (l : List α) (h : ∀ x, Cl (f x)) : ∀ a ∈ (Blk.mk wd (l.map f)).flat, Cl a := by
  intro a ha
  obtain ⟨x, hx, hc⟩ := List.mem_flatMap.1 ha
  obtain ⟨y, _, rfl⟩ := List.mem_map.1 hx
  exact clcells (h y) a hc
theorem frz_map {α : Type} (id : Nat) (b : Blk) (f : α → AV) (l : List α) (h : ∀ x, Cl (f x)) : (l.map f).map (frz id b) = l.map f := by
  rw [List.map_map]
  exact List.map_congr_left fun x _ => frz_cl (h x)
theorem frz_mu_map {α : Type} (i : Nat) (wd : Nat) (f : α → AV) (l : List α) (oc : Option Nat) : frz (lid H i) ⟨wd, l.map f⟩ (.mu (lid H i) 0 l.length oc) = .sl wd (l.map f) := by
  rw [frz_mu_same _ _ _ _ _ (by rw [List.length_map])]
theorem app_map {α : Type} (hH : HRefs H) (L : Heap) (i : Nat) (n0 : Nat) (hn : n0 ≤ lid H i) (env : Env) (wd bytes : Nat) (f : α → AV) (hf : ∀ x, Cl (f x)) (l : List α) (x : α) (hl : L[i]? = some (some ⟨wd, l.map f⟩)) (hL : ∀ b, some b ∈ L → ∀ a ∈ b.flat, Cl a)
    (hb : (l.length + 1) * bytes ≤ 140737488355328) (hb' : l.length + 1 ≤ 9223372036854775807) :
    appV n0 wd bytes false (.mu (lid H i) 0 l.length none) (.sl wd [f x]) env (hap H L) = some (.mu (lid H i) 0 (l.length + 1) none, scrub (lid H i) env, hap H (L.set i (some ⟨wd, (l ++ [x]).map f⟩))) := by
  have := appV_own n0 env H L wd bytes false i l.length none (.sl wd [f x]) (l.map f) [f x] hH hl (by rw [List.length_map]) hn (srcEls_sl _ wd _) (aside_cl hL) (by
    intro a ha
    simp at ha
    exact (clcells (hf x) a ha).ref) (by simpa using hb) (by simpa using hb') rfl
  simpa [capAfter] using this
/-- One row alone. -/
theorem app_map1 {α : Type} (hH : HRefs H) (n0 : Nat) (hn : n0 ≤ lid H 0) (env : Env) (wd bytes : Nat) (f : α → AV) (hf : ∀ x, Cl (f x)) (l : List α) (x : α) (hb : (l.length + 1) * bytes ≤ 140737488355328) (hb' : l.length + 1 ≤ 9223372036854775807) :
    appV n0 wd bytes false (.mu (lid H 0) 0 l.length none) (.sl wd [f x]) env (hap H [some ⟨wd, l.map f⟩]) = some (.mu (lid H 0) 0 (l.length + 1) none, scrub (lid H 0) env, hap H [some ⟨wd, (l ++ [x]).map f⟩]) := by
  have := app_map H hH [some ⟨wd, l.map f⟩] 0 n0 hn env wd bytes f hf l x rfl (by intro b hb; simp at hb; subst hb; exact blk_map wd f l hf) hb hb'
  simpa using this
end

structure Vok (k : Nat) (v : List ZI) : Prop where
  len : v.length ≤ 2097152
  el : ∀ x ∈ v, Zok k x
structure Mok (k : Nat) (b : List (List ZI)) : Prop where
  len : b.length ≤ 2097152
  el : ∀ v ∈ b, Vok k v
theorem Vok.mono {k m : Nat} {v : List ZI} (h : Vok k v) (hk : k ≤ m) : Vok m v := ⟨h.len, fun x hx => (h.el x hx).mono hk⟩
theorem Mok.mono {k m : Nat} {b : List (List ZI)} (h : Mok k b) (hk : k ≤ m) : Mok m b := ⟨h.len, fun x hx => (h.el x hx).mono hk⟩
theorem Vok.get {k : Nat} {v : List ZI} (h : Vok k v) {i : Nat} (hi : i < v.length) : Zok k v[i] := h.el _ (List.getElem_mem hi)
theorem Mok.get {k : Nat} {v : List (List ZI)} (h : Mok k v) {i : Nat} (hi : i < v.length) : Vok k v[i] := h.el _ (List.getElem_mem hi)

theorem zero_lt_two' : (0 < 2) = True := by decide
/-- The rules for vectors. -/
def EM := And.intro zero_lt_two' <| And.intro @vec_len (And.intro @mat_len (And.intro @vecV_cells (And.intro @vecV_fit (And.intro @vecV_nref (And.intro @vecV_clb (And.intro @vecV_frz (And.intro @matV_cells (And.intro @matV_fit (And.intro @matV_nref (And.intro @matV_clb (And.intro @matV_frz
  (And.intro @ZI.av_fit (And.intro @ZI.av_cells (And.intro @ZI.av_nref (And.intro @ZI.av_frz (And.intro @Z_cells (And.intro @Z_fit (And.intro @Z_nref @Z_frz))))))))))))))))))

/-! ### Order -/
def ordZ : List Int → List Int → Int
  | [], [] => 0
  | [], _ :: _ => -1
  | _ :: _, [] => 1
  | a :: u, b :: v => if (a - b).sign = 0 then ordZ u v else (a - b).sign
theorem ordZ_zero : ∀ {u v : List Int}, ordZ u v = 0 ↔ u = v
  | [], [] => by simp [ordZ]
  | [], b :: v => by simp [ordZ]
  | a :: u, [] => by simp [ordZ]
  | a :: u, b :: v => by
    simp only [ordZ]
    split
    · rename_i h
      have hab : a = b := by
        have := Int.sign_eq_zero_iff_zero.1 h
        omega
      rw [ordZ_zero]; simp [hab]
    · rename_i h
      constructor
      · intro h'; exact absurd h' h
      · intro h'; simp at h'; exact absurd (by rw [h'.1]; simp) h
def zs (v : List ZI) : List Int := v.map ZI.z
def zss (b : List (List ZI)) : List (List Int) := b.map zs

def E3 := And.intro EM @E2

end Go.Abs

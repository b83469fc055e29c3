/- More on vectors and matrices: written entries, the first entry that is not 0, shapes, bits. -/
import Derived.Test.YtofbhhncpjegfaaD4
set_option linter.unusedVariables false
set_option linter.unusedSimpArgs false
set_option linter.defProp false
namespace Go.Abs

section
variable {x : Cx} {todo : List AItem} {env : Env} {R : AV → Heap → Prop} {H : Heap} {b : Option Blk}
theorem Safe.drop0 (hH : HRefs H) (hx : x.n0 = H.length) (he : env.all (fun p => nref (lid H 0) p.2) = true) (hL : RC []) (h : Safe x todo env (hap H []) R) : Safe x todo env (hap H [b]) R := Safe.dropC (L := []) hH hx he hL h

theorem flat_map_rep {n : Nat} {a : AV} {k : Nat} {c : AV} (h : ((List.replicate n a).flatMap AV.cells)[k]? = some c) : ∃ j, a.cells[j]? = some c ∧ j = k % a.cells.length ∧ k / a.cells.length < n := by
  induction n generalizing k with
  | zero => simp at h
  | succ n ih =>
    rw [List.replicate_succ, List.flatMap_cons] at h
    rcases Nat.lt_or_ge k a.cells.length with hk | hk
    · rw [List.getElem?_append_left hk] at h
      exact ⟨k, h, (Nat.mod_eq_of_lt hk).symm, by rw [Nat.div_eq_of_lt hk]; omega⟩
    · rw [List.getElem?_append_right hk] at h
      obtain ⟨j, h1, h2, h3⟩ := ih h
      have hp : 0 < a.cells.length := by
        rcases Nat.eq_zero_or_pos a.cells.length with h0 | h0
        · have := lt_of_live' h1; omega
        · exact h0
      refine ⟨j, h1, ?_, ?_⟩
      · rw [h2, Nat.mod_eq_sub_mod hk]
      · rw [Nat.div_eq_sub_div hp hk]; omega
theorem rep_flat_len {n wd : Nat} {a : AV} (h : a.cells.length = wd) : ((List.replicate n a).flatMap AV.cells).length = n * wd := by
  rw [cells_len_flat (wd := wd)]
  · simp
  · intro x hx; rw [List.eq_of_mem_replicate hx]; exact h
/-- Numbers not yet written are told as 0. -/
theorem Safe.toldRep (i n : Nat) {L : Heap} (hl : L[i]? = some (some ⟨2, List.replicate n (.agg [.bool false, .nil])⟩)) (h : Safe x todo env (hap H (L.set i (some ⟨2, (vec n fun _ => 0).map ZI.av⟩))) R) : Safe x todo env (hap H L) R := by
  have e : (vec n fun _ => 0).map ZI.av = List.replicate n (.agg [.bool false, natV []]) := by
    apply List.ext_getElem
    · simp [vec_length]
    · intro j h1 h2
      simp only [List.getElem_map, vec_get, canZ_av, Z_zero, List.getElem_replicate]
  rw [e] at h
  refine Safe.toldRow (b' := ⟨2, List.replicate n (.agg [.bool false, natV []])⟩) i hl rfl (by intro y hy; rw [List.eq_of_mem_replicate hy]; rfl) ?_ (by simp) ?_ h
  · show ((List.replicate n _).flatMap AV.cells).length = ((List.replicate n _).flatMap AV.cells).length
    rw [rep_flat_len (wd := 2) rfl, rep_flat_len (wd := 2) rfl]
  · intro k a c ha hc
    obtain ⟨j, h1, h2, _⟩ := flat_map_rep ha
    obtain ⟨j', h1', h2', _⟩ := flat_map_rep hc
    have : j' = j := by rw [h2, h2']; rfl
    subst this
    match j' with
    | 0 => cases h1; cases h1'; exact Le.refl _
    | 1 => cases h1; cases h1'; exact Le.nil 1 (by decide)
    | j + 2 => simp [AV.cells] at h1
end

/-- One entry written. -/
def updF (f : Nat → Int) (i : Nat) (z : Int) : Nat → Int := fun k => if k = i then z else f k
theorem vec_set (n : Nat) (f : Nat → Int) (i : Nat) (z : Int) : ((vec n f).map ZI.av).set i (Z z) = (vec n (updF f i z)).map ZI.av := by
  apply List.ext_getElem
  · simp [vec_length]
  · intro j h1 h2
    rw [List.getElem_set]
    simp only [List.getElem_map, vec_get, updF]
    by_cases h : i = j
    · subst h; simp [canZ_av]
    · rw [if_neg h, if_neg (fun e => h e.symm)]

/-! ### The first entry that is not 0 -/
theorem first_bad (p : Nat → Prop) [DecidablePred p] : ∀ (n : Nat), (∀ i, i < n → p i) ∨ ∃ i, i < n ∧ ¬ p i ∧ ∀ j, j < i → p j
  | 0 => .inl fun i hi => absurd hi (by omega)
  | n + 1 => by
    rcases first_bad p n with h | ⟨i, hi, h1, h2⟩
    · by_cases hp : p n
      · exact .inl fun i hi => by
          rcases Nat.lt_or_ge i n with h' | h'
          · exact h i h'
          · rw [show i = n by omega]; exact hp
      · exact .inr ⟨n, by omega, hp, h⟩
    · exact .inr ⟨i, by omega, h1, h2⟩
def lead? (v : List ZI) : Option Nat := (List.range v.length).find? fun i => decide (zg v i ≠ 0)
def leadI (v : List ZI) : Int := match lead? v with
  | some i => i
  | none => -1
def upS (v : List ZI) : Int := match lead? v with
  | some i => if zg v i < 0 then -1 else 1
  | none => 1
theorem lead_at {v : List ZI} {i : Nat} (hi : i < v.length) (h0 : zg v i ≠ 0) (h : ∀ j, j < i → zg v j = 0) : lead? v = some i := by
  unfold lead?
  have e : List.range v.length = List.range i ++ (i :: (List.range' (i + 1) (v.length - (i + 1)))) := by
    rw [List.range_eq_range', List.range_eq_range', ← List.range'_succ, show v.length = i + (v.length - i) by omega, ← List.range'_append_1]
    rw [show i + (v.length - i) - (i + 1) + 1 = v.length - i by omega]
    simp
  rw [e, List.find?_append]
  have : (List.range i).find? (fun i => decide (zg v i ≠ 0)) = none := by
    rw [List.find?_eq_none]
    intro x hx
    simp [h x (List.mem_range.1 hx)]
  rw [this]
  simp [h0]
theorem lead_none {v : List ZI} (h : ∀ j, j < v.length → zg v j = 0) : lead? v = none := by
  unfold lead?
  rw [List.find?_eq_none]
  intro x hx
  simp [h x (List.mem_range.1 hx)]
theorem lead_cases (v : List ZI) : (∃ i, i < v.length ∧ zg v i ≠ 0 ∧ (∀ j, j < i → zg v j = 0) ∧ leadI v = i ∧ upS v = if zg v i < 0 then -1 else 1) ∨ ((∀ j, j < v.length → zg v j = 0) ∧ leadI v = -1 ∧ upS v = 1) := by
  rcases first_bad (fun i => zg v i = 0) v.length with h | ⟨i, hi, h1, h2⟩
  · exact .inr ⟨h, by rw [leadI, lead_none h], by rw [upS, lead_none h]⟩
  · exact .inl ⟨i, hi, h1, h2, by rw [leadI, lead_at hi h1 h2], by rw [upS, lead_at hi h1 h2]⟩

/-! ### Shapes -/
def Rect (b : List (List ZI)) : Prop := ∀ i, i < b.length → (mg b i).length = (mg b 0).length
def wid (b : List (List ZI)) : Nat := (mg b 0).length
theorem rect_cases (b : List (List ZI)) : Rect b ∨ ∃ i, i < b.length ∧ (mg b i).length ≠ (mg b 0).length ∧ ∀ j, j < i → (mg b j).length = (mg b 0).length :=
  first_bad (fun i => (mg b i).length = (mg b 0).length) b.length
theorem mat_idx0 (H : Heap) (v : List (List ZI)) (k : IntKind) (h : 0 < v.length) : idxV H 1 (matV v) (.int k 0) = some (.ro (vecV v[0]) 0) := mat_idx H v k 0 h

/-! ### Bits -/
def maxFrom (a : Nat) (f : Nat → Nat) : Nat → Nat
  | 0 => a
  | n + 1 => max (maxFrom a f n) (f n)
def bitsM (b : List (List ZI)) : Nat → Nat
  | 0 => 0
  | i + 1 => maxFrom (bitsM b i) (fun k => blen (zg (mg b i) k).natAbs) (mg b i).length
theorem int_max (a c : Nat) : (if (a : Int) < (c : Int) then (c : Int) else (a : Int)) = ((max a c : Nat) : Int) := by
  rcases Nat.lt_or_ge a c with h | h
  · rw [if_pos (by omega), Nat.max_eq_right (by omega)]
  · rw [if_neg (by omega), Nat.max_eq_left h]

/-- The matrix, each entry in one form. -/
def formM (b : List (List ZI)) : List (List ZI) := mat b.length fun i => vec (mg b i).length fun k => zg (mg b i) k

/-! ### Rows told as vectors, matrices -/
theorem frz_vec (H : Heap) (i : Nat) (v : List ZI) (len : Nat) (oc : Option Nat) (h : len = v.length) : frz (lid H i) ⟨2, v.map ZI.av⟩ (.mu (lid H i) 0 len oc) = vecV v := frz_row i 2 ZI.av v len oc h
theorem frz_mat (H : Heap) (i : Nat) (v : List (List ZI)) (len : Nat) (oc : Option Nat) (h : len = v.length) : frz (lid H i) ⟨1, v.map vecV⟩ (.mu (lid H i) 0 len oc) = matV v := frz_row i 1 vecV v len oc h
theorem map_frz_vec (id : Nat) (b : Blk) (v : List ZI) : (v.map ZI.av).map (frz id b) = v.map ZI.av := frz_map id b ZI.av v ZI.cl
theorem map_frz_mat (id : Nat) (b : Blk) (v : List (List ZI)) : (v.map vecV).map (frz id b) = v.map vecV := frz_map id b vecV v vecV_cl
end Go.Abs

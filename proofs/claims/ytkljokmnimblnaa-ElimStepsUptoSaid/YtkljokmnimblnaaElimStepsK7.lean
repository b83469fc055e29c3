/- Part 7 of the proof of ElimSteps: W29, W30, W31, W32, W33, W34, O1, O2, O3. -/
import Derived.Test.YtkljokmnimblnaaElimStepsK6
import Derived.Test.YtkljokmnimblnaaRows
import Derived.OpenShut
import Derived.ChangeArms
import Derived.Carry
import Derived.WalkKit
import Derived.ProofKit
import Derived.JoinedCond
set_option linter.unusedVariables false
set_option linter.unusedSimpArgs false
namespace Go.Abs
/-- One row bound anew: rows of numbers. -/
def ax (A : Heap) (β n : Nat) (X : Nat → List ZI) : Heap := hm A β 0 ((mat n X).map vecV) fun _ => none
theorem ax_len (A : Heap) (β n : Nat) (X : Nat → List ZI) : (ax A β n X).length = A.length := hm_len _ _ _ _ _
theorem lid_ax (A : Heap) (β n : Nat) (X : Nat → List ZI) (i : Nat) : lid (ax A β n X) i = lid A i := lid_hm _ _ _ _ _ _
theorem ax_self {A : Heap} {β : Nat} {rows : List (List ZI)} (h : A[β]? = some (some ⟨1, rows.map vecV⟩)) : ax A β rows.length (mg rows) = A := by
  have e : mat rows.length (mg rows) = rows := by
    apply List.ext_getElem (mat_length _ _)
    intro i h1 h2
    rw [mat_get, mg_lt h2]
  unfold ax
  rw [e]
  exact hm_self h fun j hj => absurd hj (by omega)
section
variable {A L : Heap} {β n : Nat} {X : Nat → List ZI}
theorem hrow_locX (i : Nat) : hrow (hap (ax A β n X) L) (lid A i) = (L[i]?).join := hrow_loc i
theorem set_locX (i : Nat) (x : Option Blk) : (hap (ax A β n X) L).set (lid A i) x = hap (ax A β n X) (L.set i x) := set_loc i x
theorem st_zeroX (m i off : Nat) (v : AV) (env : Env) : storeV m (.loc (lid A i) 0 off) v env (hap (ax A β n X) L) = (L[i]?).join.bind fun b =>
    if 0 < b.xs.length ∧ v.fit = true ∧ v.cells.length = m ∧ off + m ≤ b.wd then some (.top, env, hap (ax A β n X) (L.set i (some ⟨b.wd, b.xs.set 0 (upd (b.xs.getD 0 .top) b.wd off m v)⟩))) else none := by
  simp only [storeV, hrow_locX, set_locX]
variable (hA : β < A.length)
include hA
theorem hrow_X : hrow (hap (ax A β n X) L) β = some ⟨1, (mat n X).map vecV⟩ := hrow_out (by omega)
theorem X_idx {j len : Nat} (hj : j < len) (oc : Option Nat) (k : IntKind) : idxV (hap (ax A β n X) L) 1 (.mu β 0 len oc) (.int k j) = some (.loc β j 0) := by
  rw [idxV_mu _ _ _ _ _ _ _ _ (by omega) (by omega), hrow_X hA]; simp
theorem X_at {j : Nat} (hj : j < n) : atV (hap (ax A β n X) L) (.loc β j 0) = some [vecV (X j)] := by
  rw [atV_loc, hrow_X hA]
  simp only [Option.bind_some, List.length_map, mat_length]
  rw [if_pos hj, List.getD_eq_getElem?_getD, List.getElem?_map, List.getElem?_eq_getElem (by rw [mat_length]; exact hj), mat_get]; rfl
theorem X_st {j : Nat} (hj : j < n) (v : List ZI) (env : Env) : storeV 1 (.loc β j 0) (vecV v) env (hap (ax A β n X) L) = some (.top, env, hap (ax A β n fun a => if a = j then v else X a) L) := by
  simp only [storeV, hrow_X hA, Option.bind_some, List.length_map, mat_length]
  rw [if_pos ⟨hj, rfl, rfl, by omega⟩, upd_whole]
  unfold ax
  rw [set_out (by omega)]
  refine congrArg (fun O => some (AV.top, env, hap (hm A β 0 O fun _ => none) L)) ?_
  apply List.ext_getElem?
  intro t
  rw [List.getElem?_set, List.length_map, mat_length]
  simp only [List.getElem?_map, mat]
  rcases Nat.lt_or_ge t n with h | h
  · rw [List.getElem?_range h]
    by_cases e : j = t
    · subst e; simp [h]
    · simp [e, Ne.symm e]
  · rw [List.getElem?_eq_none (by simpa using h), if_neg (by omega)]; rfl
theorem X_slc {r len : Nat} (hr : r ≤ len) (oc : Option Nat) (k k' : IntKind) : slcV (hap (ax A β n X) L) 1 (.mu β 0 len oc) none (some (.int k r)) (some (.int k' r)) = some (.mu β 0 r (some r)) := by
  simp only [slcV, hrow_X hA, Option.bind_some, boundV]
  rw [if_pos ⟨trivial, rfl, by omega, by omega, by omega, by omega⟩]
  simp
end
theorem ax_refs {A : Heap} {β n : Nat} {X X' : Nat → List ZI} (hA : β < A.length) (h : HRefs (ax A β n X)) : HRefs (ax A β n X') := by
  intro id b hb a ha
  have hid := lt_of_live hb
  rw [ax_len] at hid
  unfold ax at hb
  rw [hm_get _ _ _ _ _ _ hid] at hb
  split at hb
  · cases hb; exact (blk_map 1 vecV _ vecV_cl a ha).ref
  · rename_i h1
    rw [if_neg (by omega)] at hb
    have := h id b (by unfold ax; rw [hm_get _ _ _ _ _ _ hid, if_neg h1, if_neg (by omega)]; exact hb) a ha
    rwa [ax_len] at this ⊢
theorem ax_hap {H L0 : Heap} {β n : Nat} {X : Nat → List ZI} (L : Heap) (hβ : H.length ≤ β) (hA : β < (hap H L0).length) : ∃ L', hap (ax (hap H L0) β n X) L = hap H L' := by
  have hl : (hap H L0).length = H.length + L0.length := by simp [hap]
  have ht : (hap (ax (hap H L0) β n X) L).take H.length = H := by
    apply List.ext_getElem?
    intro j
    rw [List.getElem?_take]
    split
    · rename_i hj
      simp only [hap]
      rw [List.getElem?_append_left (by rw [ax_len]; show j < (hap H L0).length; omega)]
      unfold ax
      rw [hm_get _ _ _ _ _ _ (by show j < (hap H L0).length; omega), if_neg (by omega), if_neg (by omega)]
      rw [List.getElem?_append_left hj]
    · rename_i hj
      rw [List.getElem?_eq_none (by omega)]
  exact ⟨(hap (ax (hap H L0) β n X) L).drop H.length, (List.take_append_drop H.length _).symm.trans (by rw [ht]; rfl)⟩
theorem Safe.dropX {A : Heap} {β n : Nat} {X : Nat → List ZI} {x : Cx} {todo : List AItem} {env : Env} {R : AV → Heap → Prop} (L : Heap) {o : Option Blk} (hH : HRefs (ax A β n X)) (hx : x.n0 ≤ A.length)
    (he : env.all (fun p => nref (lid A L.length) p.2) = true) (hL : ∀ b, some b ∈ L → ∀ a ∈ b.flat, Cl a) (h : Safe x todo env (hap (ax A β n X) L) R) : Safe x todo env (hap (ax A β n X) (L ++ [o])) R :=
  Safe.dropG hH (by rw [ax_len]; exact hx) (by rw [lid_ax]; exact he) (fun b hb a ha => nref_cl (hL b hb a ha)) h
theorem Safe.freezeX {A : Heap} {β n : Nat} {X : Nat → List ZI} {x : Cx} {todo : List AItem} {env : Env} {R : AV → Heap → Prop} (i : Nat) {L : Heap} {b : Blk} (hH : HRefs (ax A β n X)) (hx : x.n0 ≤ A.length) (hl : L[i]? = some (some b)) (hcl : ∀ c ∈ b.flat, Cl c)
    (h : Safe x todo (frzE (lid A i) b env) (hap (ax A β n X) ((frzL (lid A i) b L).set i none)) R) : Safe x todo env (hap (ax A β n X) L) R :=
  Safe.freezeB i hH (by rw [ax_len]; exact hx) hl hcl (by rw [lid_ax]; exact h)
theorem app_rowX {A : Heap} {β n : Nat} {X : Nat → List ZI} {α : Type} (hH : HRefs (ax A β n X)) {L : Heap} (i : Nat) {n0 : Nat} (hn : n0 ≤ lid A i) {env : Env} {wd bytes : Nat} {f : α → AV} (hf : ∀ x, Cl (f x)) (l : List α) (x : α) (l' : List α) {y : AV} {len : Nat}
    (hlen : len = l.length) (hl : L[i]? = some (some ⟨wd, l.map f⟩)) (hL : RC L) (hy : y = f x) (hl' : l' = l ++ [x]) (hb : (len + 1) * bytes ≤ 140737488355328) (hbb : len + 1 ≤ 9223372036854775807) :
    appV n0 wd bytes false (.mu (lid A i) 0 len none) (.sl wd [y]) env (hap (ax A β n X) L) = some (.mu (lid A i) 0 (len + 1) none, scrub (lid A i) env, hap (ax A β n X) (L.set i (some ⟨wd, l'.map f⟩))) := by
  have := app_row (H := ax A β n X) hH i (by rw [lid_ax]; exact hn) (env := env) (bytes := bytes) hf l x l' hlen hl hL hy hl' hb hbb
  rwa [lid_ax] at this
theorem hs_idx (H : Heap) (cs : List Nat) (k : IntKind) {i : Nat} (h : i < cs.length) : idxV H 1 (hsV cs) (.int k i) = some (.ro (intV (cs.getD i 0)) 0) := by
  have := sl_idx H 1 intV cs k i h
  rw [List.getD_eq_getElem?_getD, List.getElem?_eq_getElem h]; exact this
end Go.Abs
set_option linter.unusedVariables false
set_option linter.unusedSimpArgs false
namespace Go.Abs
def InC (j : JS) (c : Nat) (v : Nat → Rat) : Prop := ∀ k, k < c → v k = sumR (fun i => v (j.s.cs.getD i 0) * j.M i k) j.s.cs.length
theorem inc_lin {j : JS} {c : Nat} {u w : Nat → Rat} (hu : InC j c u) (hw : InC j c w) (a b : Rat) : InC j c (fun k => a * u k + b * w k) := by
  intro k hk
  show a * u k + b * w k = _
  rw [hu k hk, hw k hk, ← sumR_lin]
  refine sumR_congr fun i _ => ?_
  show _ = (a * u (j.s.cs.getD i 0) + b * w (j.s.cs.getD i 0)) * j.M i k
  grind
theorem inc_scale {j : JS} {c : Nat} (hcs : ∀ t, t < j.s.cs.length → j.s.cs.getD t 0 < c) {u v : Nat → Rat} {l : Rat} (hl : l ≠ 0) (h : ∀ k, k < c → u k = l * v k) (hu : InC j c u) : InC j c v := by
  intro k hk
  have h1 := hu k hk
  have e : sumR (fun i => u (j.s.cs.getD i 0) * j.M i k) j.s.cs.length = l * sumR (fun i => v (j.s.cs.getD i 0) * j.M i k) j.s.cs.length + 0 * sumR (fun i => v (j.s.cs.getD i 0) * j.M i k) j.s.cs.length := by
    rw [← sumR_lin]
    refine sumR_congr fun i hi => ?_
    rw [h _ (hcs i hi)]; grind
  rw [e, h k hk] at h1
  grind
/-- Row i with the heads from m on cleared. -/
structure RowP (j : JS) (c m i : Nat) (f : Nat → Int) : Prop where
  inn : InC j c fun k => (f k : Rat)
  lo : ∀ t, t < i → f (j.s.cs.getD t 0) = 0
  hi : ∀ t, m ≤ t → t < j.s.cs.length → t ≠ i → f (j.s.cs.getD t 0) = 0
  piv : f (j.s.cs.getD i 0) ≠ 0
section
variable {j : JS} {c : Nat} (hcs : ∀ t, t < j.s.cs.length → j.s.cs.getD t 0 < c)
include hcs
theorem rowp_nz {m i : Nat} {f : Nat → Int} (hi : i < j.s.cs.length) (h : RowP j c m i f) : Nz f c := ⟨_, hcs i hi, h.piv⟩
theorem rowp_prim {m i : Nat} {f : Nat → Int} (hi : i < j.s.cs.length) (h : RowP j c m i f) : RowP j c m i (primI f c) := by
  have hne := sg_ne (rowp_nz hcs hi h)
  have hz : ∀ k, f k = 0 → primI f c k = 0 := fun k hk => by unfold primI; rw [hk]; simp
  refine ⟨inc_scale hcs (l := ((sgF f c * (gcdTo f c : Int) : Int) : Rat)) (fun h0 => hne (Rat.intCast_inj.1 (by rw [h0]; rfl))) (fun k hk => ?_) h.inn, fun t ht => hz _ (h.lo t ht), fun t h1 h2 h3 => hz _ (h.hi t h1 h2 h3), fun h0 => h.piv ?_⟩
  · show ((f k : Int) : Rat) = _ * ((primI f c k : Int) : Rat)
    rw [← Rat.intCast_mul, ← prim_mul hk]
  · rw [prim_mul (w := f) (hcs i hi), h0, Int.mul_zero]
omit hcs in
theorem rowp_comb {m i : Nat} {f g : Nat → Int} (him : i < m) (hm : m < j.s.cs.length) (hf : RowP j c (m + 1) i f) (hg : RowP j c (m + 1) m g) : RowP j c m i fun k => g (j.s.cs.getD m 0) * f k - f (j.s.cs.getD m 0) * g k := by
  refine ⟨?_, fun t ht => ?_, fun t h1 h2 h3 => ?_, ?_⟩
  · have h := inc_lin hf.inn hg.inn (g (j.s.cs.getD m 0) : Rat) (-(f (j.s.cs.getD m 0) : Rat))
    intro k hk
    have h1 := h k hk
    have e : ∀ k, ((g (j.s.cs.getD m 0) * f k - f (j.s.cs.getD m 0) * g k : Int) : Rat) = (g (j.s.cs.getD m 0) : Rat) * (f k : Rat) + -(f (j.s.cs.getD m 0) : Rat) * (g k : Rat) := fun k => by
      rw [Rat.intCast_sub, Rat.intCast_mul, Rat.intCast_mul]; grind
    simp only [e]
    exact h1
  · rw [hf.lo t ht, hg.lo t (by omega)]; simp
  · by_cases e : t = m
    · subst e; rw [Int.mul_comm]; omega
    · rw [hf.hi t (by omega) h2 h3, hg.hi t (by omega) h2 e]; simp
  · rw [hg.lo i him, Int.mul_zero, Int.sub_zero]
    exact Int.mul_ne_zero hg.piv hf.piv
omit hcs in
theorem rowp_skip {m i : Nat} {f : Nat → Int} (him : i < m) (hf : RowP j c (m + 1) i f) (h0 : f (j.s.cs.getD m 0) = 0) : RowP j c m i f :=
  ⟨hf.inn, hf.lo, fun t h1 h2 h3 => by
    by_cases e : t = m
    · rw [e]; exact h0
    · exact hf.hi t (by omega) h2 h3, hf.piv⟩
omit hcs in
theorem rowp_weak {m i : Nat} {f : Nat → Int} (hmi : m ≤ i) (hf : RowP j c (m + 1) i f) (him : m < i) : RowP j c m i f :=
  ⟨hf.inn, hf.lo, fun t h1 h2 h3 => by
    by_cases e : t = m
    · rw [e]; exact hf.lo m him
    · exact hf.hi t (by omega) h2 h3, hf.piv⟩
omit hcs in
theorem rowp_self {m : Nat} {f : Nat → Int} (hf : RowP j c (m + 1) m f) : RowP j c m m f :=
  ⟨hf.inn, hf.lo, fun t h1 h2 h3 => hf.hi t (by omega) h2 h3, hf.piv⟩
/-- Cleared everywhere it is the row of the fractions. -/
theorem rowp_done {m i : Nat} {f : Nat → Int} (hmi : m ≤ i) (hi : i < j.s.cs.length) (hf : RowP j c m i f) (hpr : ∀ k, k < c → primI f c k = f k) : ∀ k, k < c → f k = primI (outI (j.M i) c) c k := by
  intro k hk
  have hall : ∀ t, t < j.s.cs.length → t ≠ i → ((f (j.s.cs.getD t 0) : Int) : Rat) = 0 := fun t ht hne => by
    have : f (j.s.cs.getD t 0) = 0 := by
      rcases Nat.lt_or_ge t i with h | h
      · exact hf.lo t h
      · exact hf.hi t (by omega) ht hne
    rw [this]; rfl
  have hM : ∀ k, k < c → ((f k : Int) : Rat) = (f (j.s.cs.getD i 0) : Rat) * j.M i k := fun k hk => by
    have h1 := hf.inn k hk
    rw [sumR_one hi fun t ht hne => by show ((f (j.s.cs.getD t 0) : Int) : Rat) * j.M t k = 0; rw [hall t ht hne]; grind] at h1
    exact h1
  rw [← hpr k hk]
  have hl := lcmTo_pos (j.M i) c
  refine prim_par (a := (lcmTo (j.M i) c : Int)) (b := f (j.s.cs.getD i 0)) (by omega) hf.piv (rowp_nz hcs hi hf) (fun t ht => ?_) hk
  refine Rat.intCast_inj.1 ?_
  rw [Rat.intCast_mul, Rat.intCast_mul, hM t ht, ← outI_eq (j.M i) ht]
  have h3 : (((lcmTo (j.M i) c : Nat) : Int) : Rat) = ((lcmTo (j.M i) c : Nat) : Rat) := rfl
  rw [h3]
  generalize ((lcmTo (j.M i) c : Nat) : Rat) = l
  generalize (f (j.s.cs.getD i 0) : Rat) = p
  generalize j.M i t = y
  grind
end
/-- Bareiss's rows. -/
theorem rowp_start {n c e : Nat} {B : Nat → Nat → Rat} (hB : Bd e B) (hn : n ≤ 64) {i : Nat} (hi : i < (gproc n B c).cs.length) : RowP (jproc n B c) c (gproc n B c).cs.length i (ZgI n B c i) := by
  have hBi : ∀ i k, ∃ z : Int, B i k = z := fun i k => by obtain ⟨z, h, _⟩ := hB i k; exact ⟨z, h⟩
  have hok := jok_proc (n := n) hBi c
  have hs := jproc_s n B c
  have hrn := (gok_proc (n := n) hBi c).len
  have hZ : ∀ k, (ZgI n B c i k : Rat) = Zg (gproc n B c) i k := fun k => (ZgI_eq B hB hn c k (by omega)).1
  have hin := Zg_in hok (a := i) (by rw [hs]; exact hi)
  rw [hs] at hin
  refine ⟨fun k _ => ?_, fun t ht => ?_, fun t h1 h2 => ?_, ?_⟩
  · have := hin k
    simp only [hZ]
    exact this
  · rw [hs]
    have := Zg_heads hok (a := i) (t := t) (by rw [hs]; exact hi) ht
    rw [hs] at this
    exact Rat.intCast_inj.1 (by rw [hZ, this]; rfl)
  · rw [hs] at h2; omega
  · rw [hs]
    have := Zg_pivot hok (a := i) (by rw [hs]; exact hi)
    rw [hs] at this
    intro h0
    exact this (by rw [← hZ, h0]; rfl)
theorem M_sz {n c e : Nat} {B : Nat → Nat → Rat} (hB : Bd e B) (hn : n ≤ 64) (i : Nat) : Sz ((jproc n B c).M i) c (KB e + 1) := by
  have hBi : ∀ i k, ∃ z : Int, B i k = z := fun i k => by obtain ⟨z, h, _⟩ := hB i k; exact ⟨z, h⟩
  have hok := jok_proc (n := n) hBi c
  have hBd : Bd e (jproc n B c).s.B := by rw [jproc_s]; exact hB.gproc c
  obtain ⟨l, hl, hl1⟩ := lastD_kb hok hn hBd
  have hlt : LB ^ KB e < LB ^ (KB e + 1) := Nat.pow_lt_pow_right (by decide) (by omega)
  refine ⟨l, fun h0 => lastD_ne hok.g.piv (by rw [hl, h0]; rfl), by omega, fun k _ => ?_⟩
  obtain ⟨z, hz, hz1⟩ := entry_kb hok hn hBd i k
  rw [hl] at hz
  exact ⟨z, hz, by omega⟩
end Go.Abs
set_option linter.unusedVariables false
set_option linter.unusedSimpArgs false
namespace Go.Abs
def stepR (h c : Nat) (f g : Nat → Int) : Nat → Int := if f h = 0 then f else primI (fun k => g h * f k - f h * g k) c
/-- The rows after k heads have been cleared. -/
def Fs (cs : List Nat) (c : Nat) (F0 : Nat → Nat → Int) : Nat → Nat → Nat → Int
  | 0 => F0
  | k + 1 => fun i => if i < cs.length - (k + 1) then stepR (cs.getD (cs.length - (k + 1)) 0) c (Fs cs c F0 k i) (Fs cs c F0 k (cs.length - (k + 1))) else Fs cs c F0 k i
section
variable {n c e : Nat} {B : Nat → Nat → Rat} (hB : Bd e B) (hn : n ≤ 64)
include hB hn
def F0s (n : Nat) (B : Nat → Nat → Rat) (c : Nat) : Nat → Nat → Int := fun i => primI (ZgI n B c i) c
def Fk (n : Nat) (B : Nat → Nat → Rat) (c k : Nat) : Nat → Nat → Int := Fs (gproc n B c).cs c (F0s n B c) k
omit hB hn in
theorem hcs_lt : ∀ t, t < (jproc n B c).s.cs.length → (jproc n B c).s.cs.getD t 0 < c := by
  intro t ht
  rw [jproc_s] at ht ⊢
  exact cs_getD_lt ht
theorem zgi_lt (i : Nat) {k : Nat} (hi : i < n) : (ZgI n B c i k).natAbs < LB ^ (KB e + 1) := by
  have h := (ZgI_eq B hB hn c k hi)
  have hlt : LB ^ KB e < LB ^ (KB e + 1) := Nat.pow_lt_pow_right (by decide) (by omega)
  omega
theorem F0_row {i : Nat} (hi : i < (gproc n B c).cs.length) : RowP (jproc n B c) c (gproc n B c).cs.length i (F0s n B c i) :=
  rowp_prim (hcs_lt) (by rw [jproc_s]; exact hi) (rowp_start hB hn hi)
structure Fok (n c e : Nat) (B : Nat → Nat → Rat) (k : Nat) : Prop where
  row : ∀ i, i < (gproc n B c).cs.length → RowP (jproc n B c) c ((gproc n B c).cs.length - k) i (Fk n B c k i)
  idem : ∀ i, i < (gproc n B c).cs.length → ∀ t, t < c → primI (Fk n B c k i) c t = Fk n B c k i t
  sz : ∀ i, i < (gproc n B c).cs.length → ∀ t, t < c → (Fk n B c k i t).natAbs < LB ^ ((KB e + 1) + k * (KB e + 2))
omit hB hn in
theorem Fok.top {k i : Nat} (h : Fok n c e B k) (hi : i < (gproc n B c).cs.length) (hk : (gproc n B c).cs.length - k ≤ i + 1) : ∀ t, t < c → Fk n B c k i t = primI (outI ((jproc n B c).M i) c) c t := by
  have hrow : RowP (jproc n B c) c ((gproc n B c).cs.length - k) i (Fk n B c k i) := h.row i hi
  have hlen : (jproc n B c).s.cs.length = (gproc n B c).cs.length := by rw [jproc_s]
  by_cases e : (gproc n B c).cs.length - k ≤ i
  · exact rowp_done (hcs_lt) e (by rw [hlen]; exact hi) hrow (h.idem i hi)
  · have e2 : (gproc n B c).cs.length - k = i + 1 := by omega
    rw [e2] at hrow
    exact rowp_done (hcs_lt) (Nat.le_refl i) (by rw [hlen]; exact hi) (rowp_self hrow) (h.idem i hi)
theorem Fok.tsz {k i : Nat} (h : Fok n c e B k) (hi : i < (gproc n B c).cs.length) (hk : (gproc n B c).cs.length - k ≤ i + 1) : ∀ t, t < c → (Fk n B c k i t).natAbs < LB ^ (KB e + 1) := fun t ht => by
  rw [h.top hi hk t ht]
  exact Nat.lt_of_le_of_lt (prim_abs ht) (out_lt (M_sz hB hn i) ht)
omit hB hn in
theorem comb_lt {a b p q : Int} {K L : Nat} (ha : a.natAbs < LB ^ L) (hb : b.natAbs < LB ^ K) (hp : p.natAbs < LB ^ K) (hq : q.natAbs < LB ^ L) : (a * b - p * q).natAbs < LB ^ (K + L + 1) := by
  have h1 : (a * b).natAbs < LB ^ (K + L) := by
    rw [Int.natAbs_mul, Nat.pow_add, Nat.mul_comm]
    exact Nat.mul_lt_mul'' hb ha
  have h2 : (p * q).natAbs < LB ^ (K + L) := by
    rw [Int.natAbs_mul, Nat.pow_add]
    exact Nat.mul_lt_mul'' hp hq
  rw [Nat.pow_succ]
  generalize LB ^ (K + L) = M at *
  have h3 : (a * b - p * q).natAbs ≤ (a * b).natAbs + (p * q).natAbs := by omega
  have h4 : 2 ≤ LB := by decide
  have h5 : M * 2 ≤ M * LB := Nat.mul_le_mul_left M h4
  omega
theorem Fok_zero : Fok n c e B 0 := by
  have hle := (gok_proc (n := n) (fun i k => by obtain ⟨z, h, _⟩ := hB i k; exact ⟨z, h⟩) c).len
  have hlen : (jproc n B c).s.cs.length = (gproc n B c).cs.length := by rw [jproc_s]
  refine ⟨fun i hi => F0_row hB hn hi, fun i hi t ht => prim_idem ?_ ht, fun i hi t ht => ?_⟩
  · exact rowp_nz (hcs_lt) (by rw [hlen]; exact hi) (rowp_start hB hn hi)
  · rw [Nat.zero_mul, Nat.add_zero]
    exact Nat.lt_of_le_of_lt (prim_abs ht) (zgi_lt hB hn i (by omega))
theorem Fok_comb {k i : Nat} (h : Fok n c e B k) (hk : k < (gproc n B c).cs.length) (hi : i < (gproc n B c).cs.length - (k + 1)) :
    RowP (jproc n B c) c ((gproc n B c).cs.length - (k + 1)) i (fun t => Fk n B c k ((gproc n B c).cs.length - (k + 1)) ((gproc n B c).cs.getD ((gproc n B c).cs.length - (k + 1)) 0) * Fk n B c k i t - Fk n B c k i ((gproc n B c).cs.getD ((gproc n B c).cs.length - (k + 1)) 0) * Fk n B c k ((gproc n B c).cs.length - (k + 1)) t) ∧
      ∀ t, t < c → (Fk n B c k ((gproc n B c).cs.length - (k + 1)) ((gproc n B c).cs.getD ((gproc n B c).cs.length - (k + 1)) 0) * Fk n B c k i t - Fk n B c k i ((gproc n B c).cs.getD ((gproc n B c).cs.length - (k + 1)) 0) * Fk n B c k ((gproc n B c).cs.length - (k + 1)) t).natAbs < LB ^ ((KB e + 1) + (k + 1) * (KB e + 2)) := by
  have hlen : (jproc n B c).s.cs.length = (gproc n B c).cs.length := by rw [jproc_s]
  have hcs : (jproc n B c).s.cs = (gproc n B c).cs := by rw [jproc_s]
  have hm1 : (gproc n B c).cs.length - k = ((gproc n B c).cs.length - (k + 1)) + 1 := by omega
  have h1 := h.row i (by omega)
  have h2 := h.row ((gproc n B c).cs.length - (k + 1)) (by omega)
  have hhd : (gproc n B c).cs.getD ((gproc n B c).cs.length - (k + 1)) 0 < c := cs_getD_lt (by omega)
  rw [hm1] at h1 h2
  refine ⟨?_, fun t ht => ?_⟩
  · have := rowp_comb hi (by rw [hlen]; omega) h1 h2
    rw [hcs] at this
    exact this
  · have e1 : (KB e + 1) + (k + 1) * (KB e + 2) = ((KB e + 1) + k * (KB e + 2)) + (KB e + 1) + 1 := by rw [Nat.succ_mul]; omega
    rw [e1]
    exact comb_lt (h.tsz hB hn (by omega) (by omega) _ hhd) (h.sz i (by omega) t ht) (h.sz i (by omega) _ hhd) (h.tsz hB hn (by omega) (by omega) t ht)
theorem Fok_succ {k : Nat} (h : Fok n c e B k) (hk : k < (gproc n B c).cs.length) : Fok n c e B (k + 1) := by
  have hlen : (jproc n B c).s.cs.length = (gproc n B c).cs.length := by rw [jproc_s]
  have hcs : (jproc n B c).s.cs = (gproc n B c).cs := by rw [jproc_s]
  have hm1 : (gproc n B c).cs.length - k = ((gproc n B c).cs.length - (k + 1)) + 1 := by omega
  have hs : ∀ i, Fk n B c (k + 1) i = if i < (gproc n B c).cs.length - (k + 1) then stepR ((gproc n B c).cs.getD ((gproc n B c).cs.length - (k + 1)) 0) c (Fk n B c k i) (Fk n B c k ((gproc n B c).cs.length - (k + 1))) else Fk n B c k i := fun i => rfl
  have hup : LB ^ ((KB e + 1) + k * (KB e + 2)) ≤ LB ^ ((KB e + 1) + (k + 1) * (KB e + 2)) := lbm (by rw [Nat.succ_mul]; omega)
  have all : ∀ i, i < (gproc n B c).cs.length → RowP (jproc n B c) c ((gproc n B c).cs.length - (k + 1)) i (Fk n B c (k + 1) i) ∧ (∀ t, t < c → primI (Fk n B c (k + 1) i) c t = Fk n B c (k + 1) i t) ∧ ∀ t, t < c → (Fk n B c (k + 1) i t).natAbs < LB ^ ((KB e + 1) + (k + 1) * (KB e + 2)) := by
    intro i hi
    have h1 := h.row i hi
    rw [hm1] at h1
    rw [hs i]
    by_cases hlt : i < (gproc n B c).cs.length - (k + 1)
    · rw [if_pos hlt]
      unfold stepR
      by_cases h0 : Fk n B c k i ((gproc n B c).cs.getD ((gproc n B c).cs.length - (k + 1)) 0) = 0
      · rw [if_pos h0]
        exact ⟨rowp_skip hlt h1 (by rw [hcs]; exact h0), h.idem i hi, fun t ht => Nat.lt_of_lt_of_le (h.sz i hi t ht) hup⟩
      · rw [if_neg h0]
        obtain ⟨c1, c2⟩ := Fok_comb hB hn h hk hlt
        exact ⟨rowp_prim (hcs_lt) (by rw [hlen]; exact hi) c1, fun t ht => prim_idem (rowp_nz (hcs_lt) (by rw [hlen]; exact hi) c1) ht, fun t ht => Nat.lt_of_le_of_lt (prim_abs ht) (c2 t ht)⟩
    · rw [if_neg hlt]
      refine ⟨?_, h.idem i hi, fun t ht => Nat.lt_of_lt_of_le (h.sz i hi t ht) hup⟩
      by_cases e2 : i = (gproc n B c).cs.length - (k + 1)
      · subst e2; exact rowp_self h1
      · exact rowp_weak (by omega) h1 (by omega)
  exact ⟨fun i hi => (all i hi).1, fun i hi => (all i hi).2.1, fun i hi => (all i hi).2.2⟩
theorem Fok_all : ∀ k, k ≤ (gproc n B c).cs.length → Fok n c e B k
  | 0, _ => Fok_zero hB hn
  | k + 1, h => Fok_succ hB hn (Fok_all k (by omega)) (by omega)
theorem Fk_end {i : Nat} (hi : i < (gproc n B c).cs.length) : vec c (Fk n B c (gproc n B c).cs.length i) = vec c (primI (outI ((jproc n B c).M i) c) c) :=
  vec_congr fun t ht => (Fok_all hB hn _ (Nat.le_refl _)).top hi (by omega) t ht
end
end Go.Abs
set_option linter.unusedVariables false
set_option linter.unusedSimpArgs false
namespace Go.Abs
theorem X_len {A L : Heap} {β n : Nat} {X : Nat → List ZI} (hA : β < A.length) (len : Nat) (oc : Option Nat) : lenV (hap (ax A β n X) L) (.mu β 0 len oc) = some (.int .i64 len) := by
  simp only [lenV, hrow_X hA]; rfl
def stepsV (n : Nat) (B : Nat → Nat → Rat) (c : Nat) : List (List ZI) := mat (gproc n B c).cs.length fun i => vec c (primI (outI ((jproc n B c).M i) c) c)
def Xp (X : Nat → List ZI) (n : Nat) (B : Nat → Nat → Rat) (c i : Nat) : Nat → List ZI := fun t => if t < i then vec c (F0s n B c t) else X t
def Yo (X : Nat → List ZI) (n : Nat) (B : Nat → Nat → Rat) (c k : Nat) : Nat → List ZI := fun t => if t < (gproc n B c).cs.length then vec c (Fk n B c k t) else X t
def Yi (X : Nat → List ZI) (n : Nat) (B : Nat → Nat → Rat) (c k i : Nat) : Nat → List ZI := fun t => if t < i then Yo X n B c (k + 1) t else Yo X n B c k t
section
variable (X : Nat → List ZI) (n : Nat) (B : Nat → Nat → Rat) (c : Nat)
theorem Xp_zero : Xp X n B c 0 = X := funext fun t => if_neg (Nat.not_lt_zero t)
theorem Xp_at (i : Nat) : Xp X n B c i i = X i := if_neg (Nat.lt_irrefl i)
theorem Xp_succ (i : Nat) : (fun a => if a = i then vec c (F0s n B c i) else Xp X n B c i a) = Xp X n B c (i + 1) := by
  funext a
  unfold Xp
  by_cases e : a = i
  · subst e; rw [if_pos rfl, if_pos (Nat.lt_succ_self a)]
  · rw [if_neg e]
    by_cases h : a < i
    · rw [if_pos h, if_pos (by omega)]
    · rw [if_neg h, if_neg (by omega)]
theorem Xp_end : Xp X n B c (gproc n B c).cs.length = Yo X n B c 0 := rfl
theorem Yi_zero (k : Nat) : Yi X n B c k 0 = Yo X n B c k := funext fun t => if_neg (Nat.not_lt_zero t)
theorem Yi_ge {k i t : Nat} (h : i ≤ t) (ht : t < (gproc n B c).cs.length) : Yi X n B c k i t = vec c (Fk n B c k t) := by
  unfold Yi
  rw [if_neg (by omega)]
  exact if_pos ht
theorem Yi_succ {k i : Nat} {v : List ZI} (hi : i < (gproc n B c).cs.length) (hv : v = vec c (Fk n B c (k + 1) i)) : (fun a => if a = i then v else Yi X n B c k i a) = Yi X n B c k (i + 1) := by
  funext a
  unfold Yi
  by_cases e : a = i
  · subst e
    rw [if_pos rfl, if_pos (Nat.lt_succ_self a), hv]
    exact (if_pos hi).symm
  · rw [if_neg e]
    by_cases h : a < i
    · rw [if_pos h, if_pos (by omega)]
    · rw [if_neg h, if_neg (by omega)]
theorem Yi_same {k i : Nat} (hi : i < (gproc n B c).cs.length) (hv : Fk n B c (k + 1) i = Fk n B c k i) : Yi X n B c k (i + 1) = Yi X n B c k i := by
  refine (Yi_succ X n B c hi (v := vec c (Fk n B c k i)) (by rw [hv])).symm.trans ?_
  funext a
  by_cases e : a = i
  · subst e; rw [if_pos rfl, Yi_ge X n B c (Nat.le_refl a) hi]
  · rw [if_neg e]
theorem Fk_next (k i : Nat) : Fk n B c (k + 1) i = if i < (gproc n B c).cs.length - (k + 1) then stepR ((gproc n B c).cs.getD ((gproc n B c).cs.length - (k + 1)) 0) c (Fk n B c k i) (Fk n B c k ((gproc n B c).cs.length - (k + 1))) else Fk n B c k i := rfl
theorem Yi_end (k : Nat) : Yi X n B c k ((gproc n B c).cs.length - (k + 1)) = Yo X n B c (k + 1) := by
  funext t
  unfold Yi
  split
  · rfl
  · rename_i h
    unfold Yo
    rw [Fk_next, if_neg h]
end
theorem esteps_pure (b : List (List ZI)) {e n c : Nat} (hb : ∀ i, (h : i < b.length) → b[i].length = c) (hm : Mok e b) (hn : b.length = n) (hn64 : n ≤ 64) (hc : c ≤ 2097152) (hK : KB e + 2 < 100000000000) :
    PureC Pr F_elim_steps [matV b, .int .i64 c] (.tup [matV (stepsV n (Bm b) c), hsV (gproc n (Bm b) c).cs]) := by
  have hB := Bm_bd hm
  have hrn := (gok_proc (n := n) (fun i k => by obtain ⟨z, h, _⟩ := hB i k; exact ⟨z, h⟩) c).len
  have hF := fun k hk => Fok_all (n := n) (c := c) hB hn64 k hk
  have hF0 := fun i hi => F0_row (n := n) (c := c) hB hn64 (i := i) hi
  refine PureC.intro elim_steps_fn elim_steps_ok (Nat.le_of_ble_eq_true rfl) (cl_tup2 (matV_cl _) (hsV_cl _)) fun H hH => ?_
  refine Safe.rg rfl ?_
  simp only [elim_steps_r0, E3, seval]
  refine Safe.rg rfl ?_
  simp only [elim_steps_r1, E3, seval]
  refine (bareiss_vals hc (bareiss_calls b (Bm b) hb (fun _ _ => rfl) hm hB hn hn64 hc (by omega) (hap H []))).mono ?_
  rintro r' A ⟨β, rows, lx, hR, hβ, hAβ, ⟨L', hL'⟩, hHr, hlz, hlk, rfl⟩
  have hA : β < A.length := lt_of_live hAβ
  have hax : ax A β n (mg rows) = A := by rw [← hR.len]; exact ax_self hAβ
  rw [hap_nil] at hβ hL'
  have hHA : H.length ≤ A.length := by omega
  have hRef : ∀ X', HRefs (ax A β n X') := fun X' => ax_refs hA (by rw [hax]; exact hHr)
  have hnb : ∀ j (L : Nat) oc, nref (lid A j) (.mu β 0 L oc) = true := fun j L oc => nref_ne (by unfold lid; omega)
  have hnc : ∀ j, nref j (hsV (gproc n (Bm b) c).cs) = true := fun j => nref_cl (hsV_cl _)
  have hin : A = hap (ax A β n (mg rows)) [] := by rw [hap_nil, hax]
  rw [hin]
  clear hin
  have hlow : ∀ i, i < (gproc n (Bm b) c).cs.length → PureC Pr F_elim_lowest [vecV (mg rows i)] (vecV (vec c (F0s n (Bm b) c i))) := fun i hi => by
    have hw := hR.wid i (by omega)
    have hz := hR.at_ i
    have hnz := rowp_nz hcs_lt (by rw [jproc_s]; exact hi) (rowp_start (c := c) hB hn64 hi)
    have := lowest_pure (mg rows i) (hR.ok i (by omega)) (by
      obtain ⟨k, hk, hk2⟩ := hnz
      exact ⟨k, by rw [hw]; exact hk, by rw [hz k (by omega) hk]; exact hk2⟩) (by omega)
    rw [hw, vec_congr (g := F0s n (Bm b) c i) fun k hk => prim_congr (fun t ht => hz t (by omega) ht) hk] at this
    exact this
  generalize hrs : mg rows = X at *
  generalize hcsl : (gproc n (Bm b) c).cs.length = r at *
  simp only [lid_ax, hrow_locX, set_locX, st_zeroX, E3, seval]
  refine Safe.keep [6, 7] ?_
  simp only [E3, seval]
  refine Safe.dropX [] (hRef _) hHA (by simp only [List.all_cons, List.all_nil, hnb, hnc, E3, seval]) (RC.nil) ?_
  refine Safe.rg rfl ?_
  simp only [elim_steps_r2, lid_ax, hrow_locX, set_locX, st_zeroX, hs_len, hcsl, X_slc hA hrn, E3, seval]
  refine Safe.rg rfl ?_
  simp only [elim_steps_r3, lid_ax, hrow_locX, set_locX, st_zeroX, X_len hA, E3, seval]
  refine Safe.lp rfl ?_
  refine Safe.keep [6, 7, 32, 33] ?_
  simp only [E3, seval]
  refine Safe.loopN r (fun i => [(6, .mu β 0 r (some r)), (7, hsV (gproc n (Bm b) c).cs), (32, .int .i64 r), (33, .int .i64 i)]) (fun i => hap (ax A β n (Xp X n (Bm b) c i)) []) rfl (by rw [Xp_zero]) (fun i hi ih => ?_) ?_
  · have hlt : ((i : Int) < (r : Int)) = True := eq_true (by omega)
    have hiw : IntKind.wrap .i64 ((i : Int) + 1) = ((i + 1 : Nat) : Int) := by rw [wrap_i64] <;> omega
    refine Safe.inLoop ?_
    refine Safe.rg rfl ?_
    simp only [elim_steps_r4, hlt, E3, seval]
    refine Safe.cd rfl ?_
    simp only [E3, seval]
    refine Safe.rg rfl ?_
    simp only [elim_steps_r5, E3, seval]
    refine Safe.rg rfl ?_
    simp only [elim_steps_r6, lid_ax, hrow_locX, set_locX, st_zeroX, X_idx hA hi, X_at hA (show i < n by omega), Xp_at, E3, seval]
    refine (hlow i (by omega)).acall ?_
    simp only [lid_ax, hrow_locX, set_locX, st_zeroX, X_idx hA hi, X_st hA (show i < n by omega), Xp_succ, E3, seval]
    refine Safe.rg rfl ?_
    simp only [elim_steps_r7, hiw, E3, seval]
    refine Safe.keep [6, 7, 32, 33] ?_
    simp only [E3, seval]
    exact ih
  · refine Safe.inLoop ?_
    refine Safe.rg rfl ?_
    simp only [elim_steps_r4, Int.lt_irrefl, E3, seval]
    refine Safe.cd rfl ?_
    simp only [E3, seval]
    have hend : Xp X n (Bm b) c r = Yo X n (Bm b) c 0 := by rw [← hcsl]; exact Xp_end X n (Bm b) c
    rw [hend]
    have hw8 : IntKind.wrap .i64 ((r : Int) - 1) = (r : Int) - 1 - ((0 : Nat) : Int) := by rw [wrap_i64] <;> omega
    refine Safe.rg rfl ?_
    simp only [elim_steps_r8, lid_ax, hrow_locX, set_locX, st_zeroX, X_len hA, hw8, E3, seval]
    refine Safe.lp rfl ?_
    refine Safe.keep [6, 7, 11] ?_
    simp only [E3, seval]
    refine Safe.loopN r (fun k => [(6, .mu β 0 r (some r)), (7, hsV (gproc n (Bm b) c).cs), (11, .int .i64 ((r : Int) - 1 - (k : Int)))]) (fun k => hap (ax A β n (Yo X n (Bm b) c k)) []) rfl rfl (fun k hk ih => ?_) ?_
    · obtain ⟨m, hm⟩ : ∃ m, m = r - (k + 1) := ⟨_, rfl⟩
      have hmr : m < r := by omega
      have hm1 : (r : Int) - 1 - (k : Int) = (m : Int) := by omega
      rw [hm1]
      have hge : ((m : Int) ≥ 0) = True := eq_true (by omega)
      have hFk := hF k (by omega)
      obtain ⟨h, hh⟩ : ∃ h, h = (gproc n (Bm b) c).cs.getD m 0 := ⟨_, rfl⟩
      have hhc : h < c := by rw [hh]; exact cs_getD_lt (by omega)
      refine Safe.inLoop ?_
      refine Safe.rg rfl ?_
      simp only [elim_steps_r9, hge, E3, seval]
      refine Safe.cd rfl ?_
      simp only [E3, seval]
      refine Safe.rg rfl ?_
      simp only [elim_steps_r10, lid_ax, hrow_locX, set_locX, st_zeroX, hs_idx _ (gproc n (Bm b) c).cs .i64 (show m < (gproc n (Bm b) c).cs.length by omega), E3, seval]
      rw [← hh]
      refine Safe.rg rfl ?_
      simp only [elim_steps_r11, E3, seval]
      refine Safe.lp rfl ?_
      refine Safe.keep [6, 7, 11, 12, 56, 57] ?_
      simp only [intV, E3, seval]
      refine Safe.loopN m (fun i => [(6, .mu β 0 r (some r)), (7, hsV (gproc n (Bm b) c).cs), (11, .int .i64 m), (12, .int .i64 h), (56, .int .i64 m), (57, .int .i64 i)]) (fun i => hap (ax A β n (Yi X n (Bm b) c k i)) []) rfl (by rw [Yi_zero]) (fun i hi ihi => ?_) ?_
      · have hlt : ((i : Int) < (m : Int)) = True := eq_true (by omega)
        have hiw : IntKind.wrap .i64 ((i : Int) + 1) = ((i + 1 : Nat) : Int) := by rw [wrap_i64] <;> omega
        have hir : i < r := by omega
        have hin : i < n := by omega
        have hmn : m < n := by omega
        have hYi := Yi_ge X n (Bm b) c (k := k) (Nat.le_refl i) (by omega)
        have hYm := Yi_ge X n (Bm b) c (k := k) (i := i) (t := m) (by omega) (by omega)
        have hnx := Fk_next n (Bm b) c k i
        rw [hcsl, ← hm, if_pos hi, ← hh] at hnx
        unfold stepR at hnx
        have hsame := Yi_same X n (Bm b) c (k := k) (i := i) (by omega)
        have hsucc := fun v => Yi_succ X n (Bm b) c (k := k) (i := i) (v := v) (by omega)
        have hcl := Fok_comb hB hn64 hFk (by omega) (i := i) (by omega)
        rw [hcsl, ← hm, ← hh] at hcl
        obtain ⟨hcr, hcz⟩ := hcl
        have hcnz := rowp_nz hcs_lt (by rw [jproc_s]; omega) hcr
        have hzi := hFk.sz i (by omega)
        have hzm := hFk.tsz hB hn64 (i := m) (by omega) (by omega)
        have hkk : KB e + 1 + k * (KB e + 2) ≤ 64 * (KB e + 2) := by
          have := Nat.mul_le_mul_right (KB e + 2) (show k ≤ 63 by omega)
          omega
        have hkk1 : KB e + 1 + (k + 1) * (KB e + 2) ≤ 65 * (KB e + 2) := by
          rw [Nat.succ_mul]; omega
        generalize hK2 : KB e + 1 + k * (KB e + 2) = K2 at *
        generalize hK3 : KB e + 1 + (k + 1) * (KB e + 2) = K3 at *
        generalize hf : Fk n (Bm b) c k i = f at *
        generalize hg : Fk n (Bm b) c k m = g at *
        have hfl : ∀ t, t < c → Zok K2 (canZ (f t)) := fun t ht => zok_can (hzi t ht)
        have hgl : ∀ t, t < c → Zok (KB e + 1) (canZ (g t)) := fun t ht => zok_can (hzm t ht)
        refine Safe.inLoop ?_
        refine Safe.rg rfl ?_
        simp only [elim_steps_r12, hlt, E3, seval]
        refine Safe.cd rfl ?_
        simp only [E3, seval]
        refine Safe.rg rfl ?_
        simp only [elim_steps_r13, E3, seval]
        refine Safe.rg rfl ?_
        simp only [elim_steps_r14, lid_ax, hrow_locX, set_locX, st_zeroX, X_idx hA hir, X_at hA hin, hYi, vec_idx _ (vec c f) .i64 h (by rw [vec_length]; exact hhc), vec_get, E3, seval]
        refine Safe.rg rfl ?_
        simp only [elim_steps_r15, lid_ax, hrow_locX, set_locX, st_zeroX, E3, seval]
        refine (zsign_pure (canZ (f h)) ((hfl h hhc).mono (by omega))).acall ?_
        simp only [canZ_z, E3, seval]
        by_cases h0 : f h = 0
        · have hs0 : ((f h).sign = 0) = True := eq_true (by rw [h0]; rfl)
          simp only [hs0, E3, seval]
          refine Safe.cd rfl ?_
          simp only [E3, seval]
          refine Safe.rg rfl ?_
          simp only [elim_steps_r23, hiw, E3, seval]
          refine Safe.keep [6, 7, 11, 12, 56, 57] ?_
          simp only [E3, seval]
          refine Safe.dropX [] (hRef _) hHA (by simp only [List.all_cons, List.all_nil, hnb, hnc, E3, seval]) (RC.nil) ?_
          rw [if_pos h0] at hnx
          rw [hsame hnx] at ihi
          exact ihi
        · have hs0 : ((f h).sign = 0) = False := eq_false (fun q => h0 (Int.sign_eq_zero_iff_zero.1 q))
          simp only [hs0, E3, seval]
          refine Safe.cd rfl ?_
          simp only [E3, seval]
          rw [if_neg h0] at hnx
          refine Safe.rg rfl ?_
          simp only [elim_steps_r16, E3, seval]
          refine Safe.nilrow 15 2 (by decide) (by simp only [E3, seval]) ?_
          simp only [lid_ax, hrow_locX, set_locX, st_zeroX, E3, seval]
          refine Safe.rg rfl ?_
          simp only [elim_steps_r17, lid_ax, hrow_locX, set_locX, st_zeroX, X_idx hA hir, X_at hA hin, hYi, vec_len, vec_length, E3, seval]
          refine Safe.lp rfl ?_
          refine Safe.keep [6, 7, 11, 12, 13, 14, 15, 56, 57, 74, 75] ?_
          simp only [E3, seval]
          obtain ⟨G, hG⟩ : ∃ G : Nat → Int, G = fun t => g h * f t - f h * g t := ⟨_, rfl⟩
          rw [← hG] at hcr hcnz hnx
          have hGz : ∀ t, t < c → (G t).natAbs < LB ^ K3 := fun t ht => by rw [hG]; exact hcz t ht
          refine Safe.loopN c (fun t => [(6, .mu β 0 r (some r)), (7, hsV (gproc n (Bm b) c).cs), (11, .int .i64 m), (12, .int .i64 h), (13, .int .i64 i), (14, .loc (lid A 0) 0 0), (15, .mu (lid A 1) 0 t none), (56, .int .i64 m), (57, .int .i64 i), (74, .int .i64 c), (75, .int .i64 t)])
            (fun t => hap (ax A β n (Yi X n (Bm b) c k i)) [some ⟨2, [Z (f h)]⟩, some ⟨2, (vec t G).map ZI.av⟩]) rfl rfl (fun t ht iht => ?_) ?_
          · have hlt2 : ((t : Int) < (c : Int)) = True := eq_true (by omega)
            have htw : IntKind.wrap .i64 ((t : Int) + 1) = ((t + 1 : Nat) : Int) := by rw [wrap_i64] <;> omega
            have hm1 := zmul_pure (canZ (g h)) (canZ (f t)) _ _ (hgl h hhc) (hfl t ht) (by omega)
            have hm2 := zmul_pure (canZ (f h)) (canZ (g t)) _ _ (hfl h hhc) (hgl t ht) (by omega)
            have hs := zsub_can (a := g h * f t) (b := f h * g t) (k := KB e + 1 + K2) (mul_abs (hzm h hhc) (hzi t ht)) (by rw [Nat.add_comm]; exact mul_abs (hzi h hhc) (hzm t ht)) (by omega)
            rw [canZ_z, canZ_z] at hm1 hm2
            have hGt : Z (g h * f t - f h * g t) = Z (G t) := by rw [hG]
            rw [hGt] at hs
            refine Safe.inLoop ?_
            refine Safe.rg rfl ?_
            simp only [elim_steps_r18, hlt2, E3, seval]
            refine Safe.cd rfl ?_
            simp only [E3, seval]
            refine Safe.rg rfl ?_
            simp only [elim_steps_r19, E3, seval]
            refine Safe.rg rfl ?_
            simp only [elim_steps_r20, lid_ax, hrow_locX, set_locX, st_zeroX, X_idx hA hir, X_at hA hin, X_idx hA hmr, X_at hA hmn, hYi, hYm, vec_idx _ (vec c f) .i64 t (by rw [vec_length]; exact ht), vec_idx _ (vec c g) .i64 h (by rw [vec_length]; exact hhc), vec_get, E3, seval]
            refine hm1.dcall ?_
            simp only [lid_ax, hrow_locX, set_locX, st_zeroX, X_idx hA hmr, X_at hA hmn, hYm, vec_idx _ (vec c g) .i64 t (by rw [vec_length]; exact ht), vec_get, E3, seval]
            refine hm2.dcall ?_
            simp only [E3, seval]
            refine hs.dcall ?_
            simp only [E3, seval]
            rw [app_rowX (bytes := 32) (y := Z (G t)) (hRef _) 1 (by show H.length ≤ _; unfold lid; omega) ZI.cl (vec t G) (canZ (G t)) (vec (t + 1) G) (by rw [vec_length]) rfl (RC.one (Z_cl _) (RC.row ZI.cl RC.nil)) rfl (vec_succ _ _) (by omega) (by omega)]
            simp only [E3, seval]
            refine Safe.rg rfl ?_
            simp only [elim_steps_r21, htw, E3, seval]
            refine Safe.keep [6, 7, 11, 12, 13, 14, 15, 56, 57, 74, 75] ?_
            simp only [hnb, hnc, E3, seval]
            exact iht
          · refine Safe.inLoop ?_
            refine Safe.rg rfl ?_
            simp only [elim_steps_r18, Int.lt_irrefl, E3, seval]
            refine Safe.cd rfl ?_
            simp only [E3, seval]
            have hfm : frz (lid A 1) ⟨2, (vec c G).map ZI.av⟩ (.mu (lid A 1) 0 c none) = vecV (vec c G) := frz_vec A 1 (vec c G) c none (by rw [vec_length])
            have hfo : frz (lid A 1) ⟨2, (vec c G).map ZI.av⟩ (.mu β 0 r (some r)) = .mu β 0 r (some r) := frz_ref (.mu _ _ _ _ (by show β ≠ _; unfold lid; omega))
            have hfh : frz (lid A 1) ⟨2, (vec c G).map ZI.av⟩ (hsV (gproc n (Bm b) c).cs) = hsV (gproc n (Bm b) c).cs := frz_cl (hsV_cl _)
            refine Safe.freezeX 1 (hRef _) hHA rfl (blk_map 2 ZI.av _ ZI.cl) ?_
            refine Safe.keep [6, 7, 11, 12, 13, 15, 56, 57] ?_
            simp only [hfm, hfo, hfh, E3, seval]
            have hlowG := lowest_pure (vec c G) (zok_vec hc hGz) (by
              obtain ⟨t, ht, h2⟩ := hcnz
              exact ⟨t, by rw [vec_length]; exact ht, by rw [zg_vec ht]; exact h2⟩) (by omega)
            rw [vec_length, vec_congr (g := primI G c) fun t ht => prim_congr (fun t ht => zg_vec ht) ht] at hlowG
            refine Safe.rg rfl ?_
            simp only [elim_steps_r22, E3, seval]
            refine hlowG.acall ?_
            simp only [lid_ax, hrow_locX, set_locX, st_zeroX, X_idx hA hir, X_st hA hin, hsucc _ (show vec c (primI G c) = vec c (Fk n (Bm b) c (k + 1) i) by rw [hnx]), E3, seval]
            refine Safe.rg rfl ?_
            simp only [elim_steps_r23, hiw, E3, seval]
            refine Safe.keep [6, 7, 11, 12, 56, 57] ?_
            simp only [E3, seval]
            refine Safe.dropX [some ⟨2, [Z (f h)]⟩] (hRef _) hHA (by simp only [List.all_cons, List.all_nil, hnb, hnc, E3, seval]) (RC.one (Z_cl _) RC.nil) ?_
            refine Safe.dropX [] (hRef _) hHA (by simp only [List.all_cons, List.all_nil, hnb, hnc, E3, seval]) (RC.nil) ?_
            exact ihi
      · refine Safe.inLoop ?_
        refine Safe.rg rfl ?_
        simp only [elim_steps_r12, Int.lt_irrefl, E3, seval]
        refine Safe.cd rfl ?_
        simp only [E3, seval]
        have he := Yi_end X n (Bm b) c k
        rw [hcsl, ← hm] at he
        rw [he]
        have hw24 : IntKind.wrap .i64 ((m : Int) - 1) = (r : Int) - 1 - ((k + 1 : Nat) : Int) := by rw [wrap_i64] <;> omega
        refine Safe.rg rfl ?_
        simp only [elim_steps_r24, hw24, E3, seval]
        refine Safe.keep [6, 7, 11] ?_
        simp only [E3, seval]
        exact ih
    · have hge : ((r : Int) - 1 - (r : Int) ≥ 0) = False := eq_false (by omega)
      refine Safe.inLoop ?_
      refine Safe.rg rfl ?_
      simp only [elim_steps_r9, hge, E3, seval]
      refine Safe.cd rfl ?_
      simp only [E3, seval]
      obtain ⟨L2, hL2⟩ : ∃ L2, hap (ax A β n (Yo X n (Bm b) c r)) [] = hap H L2 := by
        rw [hL']; exact ax_hap [] hβ (by rw [← hL']; exact hA)
      have hlook : L2[β - H.length]? = some (some ⟨1, (mat n (Yo X n (Bm b) c r)).map vecV⟩) := by
        have h1 : (hap (ax A β n (Yo X n (Bm b) c r)) [])[β]? = some (some ⟨1, (mat n (Yo X n (Bm b) c r)).map vecV⟩) := by
          rw [hap_nil]; unfold ax
          rw [hm_get _ _ _ _ _ _ hA, if_pos rfl]
        rw [hL2] at h1
        simp only [hap] at h1
        rwa [List.getElem?_append_right hβ] at h1
      have hid : β = lid H (β - H.length) := by unfold lid; omega
      rw [hL2]
      refine Safe.freeze (β - H.length) hH rfl hlook (blk_map 1 vecV _ vecV_cl) ?_
      have hfm : frz (lid H (β - H.length)) ⟨1, (mat n (Yo X n (Bm b) c r)).map vecV⟩ (.mu β 0 r (some r)) = matV (stepsV n (Bm b) c) := by
        have := frz_mu_part H (β - H.length) ⟨1, (mat n (Yo X n (Bm b) c r)).map vecV⟩ 0 r (some r) (by show 0 + r ≤ ((mat n (Yo X n (Bm b) c r)).map vecV).length; rw [List.length_map, mat_length]; omega)
        rw [← hid] at this ⊢
        rw [this]
        show AV.sl 1 ((((mat n (Yo X n (Bm b) c r)).map vecV).drop 0).take r) = .sl 1 ((stepsV n (Bm b) c).map vecV)
        rw [List.drop_zero, ← List.map_take]
        congr 2
        apply List.ext_getElem
        · rw [List.length_take, mat_length, stepsV, mat_length, hcsl]; omega
        · intro t h1 h2
          have htr : t < r := by rw [stepsV, mat_length, hcsl] at h2; exact h2
          have hs : (stepsV n (Bm b) c)[t] = vec c (primI (outI ((jproc n (Bm b) c).M t) c) c) := mat_get h2
          rw [List.getElem_take, mat_get, hs]
          have := Fk_end (n := n) (c := c) hB hn64 (i := t) (by omega)
          rw [hcsl] at this
          unfold Yo
          rw [if_pos (by omega), this]
      have hfh : frz (lid H (β - H.length)) ⟨1, (mat n (Yo X n (Bm b) c r)).map vecV⟩ (hsV (gproc n (Bm b) c).cs) = hsV (gproc n (Bm b) c).cs := frz_cl (hsV_cl _)
      refine Safe.keep [6, 7] ?_
      simp only [hfm, hfh, E3, seval]
      refine Safe.rg rfl ?_
      simp only [elim_steps_r25, E3, seval]
      refine Safe.rt rfl ?_
      simp only [E3, seval]
      first | exact ⟨rfl, _, rfl⟩ | exact ⟨_, rfl⟩ | exact ⟨trivial, _, rfl⟩
end Go.Abs
set_option linter.unusedVariables false
set_option linter.unusedSimpArgs false
namespace Go.Abs
theorem hm_hap {H L : Heap} {β n : Nat} {O : List AV} {R : Nat → Option Blk} (hβ : H.length ≤ β) (hG : β + n < (hap H L).length) : ∃ L', hm (hap H L) β n O R = hap H L' := by
  refine ⟨(hm (hap H L) β n O R).drop H.length, ?_⟩
  have ht : (hm (hap H L) β n O R).take H.length = H := by
    apply List.ext_getElem?
    intro j
    rw [List.getElem?_take]
    have hl : (hap H L).length = H.length + L.length := by simp [hap]
    split
    · rename_i hj
      rw [hm_get _ _ _ _ _ _ (by omega), if_neg (by omega), if_neg (by omega)]
      simp only [hap]
      rw [List.getElem?_append_left hj]
    · rename_i hj
      rw [List.getElem?_eq_none (by omega)]
  exact (List.take_append_drop H.length _).symm.trans (by rw [ht]; rfl)
/-- With the first m rows told. -/
def redM (m : Nat) (A : Heap) (β n c : Nat) (B : Nat → Nat → Rat) (r' : AV) (H' : Heap) : Prop := ∃ π S L, Lk n c π S (fun a b => Rv ((jproc n B c).M a b)) ∧ β + n < (hap A L).length ∧
  H' = hm (hap A L) (β) n (fr n fun i => if π i < m then .sl 4 (fr c (S (π i))) else .mu (β + 1 + π i) 0 c none) (fun j => if j < m then none else some ⟨4, fr c (S j)⟩) ∧ HRefs H' ∧
  r' = .tup [.mu (β) 0 (gproc n B c).cs.length none, hsV (gproc n B c).cs, Rv (dv n B c)]
/-- The rows as values. -/
def redV (A : Heap) (n c : Nat) (B : Nat → Nat → Rat) (r' : AV) (H' : Heap) : Prop := H'[lid A 0]? = some (some ⟨1, fr n fun i => rvV ((jproc n B c).M i) c⟩) ∧ (∃ L, H' = hap A L) ∧ HRefs H' ∧
  r' = .tup [.mu (lid A 0) 0 (gproc n B c).cs.length none, hsV (gproc n B c).cs, Rv (dv n B c)]
section
variable {B : Nat → Nat → Rat} {e n c : Nat} (hB : Bd e B) (hn : n ≤ 64) (hc : c ≤ 2097152) (hK : KB e + 1 < 1099511627776) {A : Heap} (hA : HRefs A)
include hB hn hc hK hA
theorem reduced_told : ∀ m, m ≤ n → ACalls Pr F_ref06_reduced [.mu (lid A 0) 0 n none, .int .i64 c] (hap A (mrows (lid A 0) n 4 c none fun j k => Rv (B j k))) (redM m A (lid A 0) n c B)
  | 0, _ => (reduced_rows hB hn hc hK A).mono fun r' H' ⟨π, S, h1, h2, h3⟩ => by
    have hr := mrows_refs (X := []) (n := n) (w := 4) (c := c) (oc := none) (S := fun j k => Rv (B j k)) hA (fun b hb => absurd hb (by simp)) fun _ _ _ _ => Rv_cl _
    have hl : lid A 0 + n < (hap A (mrows (lid A 0) n 4 c none fun j k => Rv (B j k))).length := mrows_lt A [] n 4 c none _
    have e1 := hM_rows A [] n 4 c none fun j k => Rv (B j k)
    simp only [List.length_nil, List.nil_append] at hr e1
    rw [← e1] at hr
    refine ⟨π, S, _, h1, hl, ?_, ?_, h3⟩
    · rw [h2]
      refine hm_congr (fr_congr fun i hi => ?_) fun j hj => ?_
      · rw [if_neg (by omega)]
      · rw [if_neg (by omega)]
    · rw [h2]
      exact hM_refs hl hr h1.lt fun j k _ _ => h1.cl j k
  | m + 1, hmn => by
    refine (reduced_told m (by omega)).frz ?_
    rintro hH r' H' ⟨π, S, L, h1, h3, rfl, h5, rfl⟩
    have hb : A.length ≤ lid A 0 := lid_ge A 0
    generalize lid A 0 = β at *
    have hc : ∀ a ∈ (Blk.mk 4 (fr c (S m))).flat, Cl a := fr_flat_cl fun k _ => h1.cl m k
    have hget : (hm (hap A L) β n (fr n fun i => if π i < m then .sl 4 (fr c (S (π i))) else .mu (β + 1 + π i) 0 c none) (fun j => if j < m then none else some ⟨4, fr c (S j)⟩))[β + 1 + m]? = some (some ⟨4, fr c (S m)⟩) := by
      rw [hm_get _ _ _ _ _ _ (by omega), if_neg (by omega), if_pos (by omega), show β + 1 + m - (β + 1) = m by omega, if_neg (Nat.lt_irrefl m)]
    refine ⟨β + 1 + m, ⟨4, fr c (S m)⟩, hget, hc, ?_⟩
    have hfH : frzH (β + 1 + m) ⟨4, fr c (S m)⟩ (hap A L) = hap A ((frzL (β + 1 + m) ⟨4, fr c (S m)⟩ L).set (β + 1 + m - A.length) none) := by
      have := frzH_hap hA (β + 1 + m - A.length) ⟨4, fr c (S m)⟩ L
      rwa [show lid A (β + 1 + m - A.length) = β + 1 + m by unfold lid; omega] at this
    refine ⟨π, S, (frzL (β + 1 + m) ⟨4, fr c (S m)⟩ L).set (β + 1 + m - A.length) none, h1, ?_, ?_, hrefs_frz h5 _ _, ?_⟩
    · rw [← hfH]; simp only [frzH, List.length_set, List.length_map]; exact h3
    · rw [frzH_hm h3 (by omega), hfH]
      refine hm_congr ?_ fun j hj => ?_
      · unfold fr
        rw [List.map_map]
        refine List.map_congr_left fun i hi => ?_
        simp only [Function.comp]
        by_cases h : π i < m
        · rw [if_pos h, if_pos (by omega)]; simp only [frz]
        · rw [if_neg h]
          by_cases h2 : π i = m
          · rw [if_pos (by omega), h2]
            simp only [frz, if_true]
            rw [if_pos (show 0 + c ≤ (List.map (S m) (List.range c)).length by simp)]
            simp only [List.drop_zero]
            rw [List.take_of_length_le (by simp)]
          · rw [if_neg (by omega)]
            simp only [frz]
            rw [if_neg (by omega)]
      · by_cases hjm : j = m
        · rw [if_pos hjm, if_pos (by omega)]
        · rw [if_neg hjm]
          by_cases hlt : j < m
          · rw [if_pos hlt, if_pos (by omega)]; rfl
          · rw [if_neg hlt, if_neg (by omega)]
            simp only [Option.map_some, frzB]
            congr 2
            refine (List.map_congr_left (g := fun x => x) fun a ha => ?_).trans (List.map_id' _)
            obtain ⟨k, hk, rfl⟩ := fr_mem ha
            exact frz_cl (h1.cl j k)
    · simp only [frz, List.map_cons, List.map_nil]
      rw [if_neg (by omega)]
      have e1 := frz_cl (id := β + 1 + m) (b := ⟨4, fr c (S m)⟩) (hsV_cl (gproc n B c).cs)
      have e2 := frz_cl (id := β + 1 + m) (b := ⟨4, fr c (S m)⟩) (Rv_cl (dv n B c))
      rw [e1, e2]
theorem reduced_vals : ACalls Pr F_ref06_reduced [.mu (lid A 0) 0 n none, .int .i64 c] (hap A (mrows (lid A 0) n 4 c none fun j k => Rv (B j k))) (redV A n c B) := by
  refine (reduced_told hB hn hc hK hA n (Nat.le_refl n)).mono ?_
  rintro r' H' ⟨π, S, L, h1, h3, rfl, h5, rfl⟩
  refine ⟨?_, hm_hap (lid_ge A 0) h3, h5, rfl⟩
  rw [hm_get _ _ _ _ _ _ (by omega), if_pos rfl]
  congr 3
  refine fr_congr fun i hi => ?_
  rw [if_pos (h1.lt i hi)]
  unfold rvV
  congr 1
  exact fr_congr fun k hk => h1.at_ i k hi hk
end
end Go.Abs
set_option linter.unusedVariables false
set_option linter.unusedSimpArgs false
namespace Go.Abs
theorem B_row {A : Heap} {β : Nat} {x : Blk} (h : A[β]? = some (some x)) (L : Heap) : hrow (hap A L) β = some x := by
  unfold hrow hap
  rw [List.getElem?_append_left (lt_of_live h), h]; rfl
theorem B_len {A : Heap} {β : Nat} {x : Blk} (h : A[β]? = some (some x)) (L : Heap) (len : Nat) (oc : Option Nat) : lenV (hap A L) (.mu β 0 len oc) = some (.int .i64 len) := by
  simp only [lenV, B_row h L]; rfl
theorem B_idx {A : Heap} {β : Nat} {xs : List AV} (h : A[β]? = some (some ⟨1, xs⟩)) (L : Heap) {j len : Nat} (hj : j < len) (oc : Option Nat) (k : IntKind) : idxV (hap A L) 1 (.mu β 0 len oc) (.int k j) = some (.loc β j 0) := by
  rw [idxV_mu _ _ _ _ _ _ _ _ (by omega) (by omega), B_row h L]; simp
theorem B_at {A : Heap} {β n : Nat} {f : Nat → AV} (h : A[β]? = some (some ⟨1, fr n f⟩)) (hc : ∀ j, j < n → (f j).cells = [f j]) (L : Heap) {j : Nat} (hj : j < n) : atV (hap A L) (.loc β j 0) = some [f j] := by
  rw [atV_loc, B_row h L]
  simp only [Option.bind_some, fr_len]
  rw [if_pos hj, fr_get hj, hc j hj]; rfl
theorem cl3s (m : List (List ZI)) (h : List Nat) (a : Int) : Cl (.tup [matV m, hsV h, .int .i64 a]) := cl_tup3 (matV_cl _) (hsV_cl _) (.int _ _)
theorem bad3s (a : Int) : Le (.tup [.nil, .nil, .int .i64 a]) (.tup [matV [], hsV [], .int .i64 a]) := Le.tup3 (Le.nil 1 (by decide)) (Le.nil 1 (by decide)) (Le.refl _)
section
variable (b : List (List ZI)) {e : Nat} (hm : Mok e b) (hK : KB e + 2 < 100000000000)
include hm hK
omit hK in
theorem psteps_bad (h0 : elE b ≠ 0) : PureC Pr F_elim_Steps [matV b] (.tup [matV [], hsV [], .int .i64 (elE b)]) := by
  have hask := asked_pure b hm
  unfold askT at hask
  rw [if_neg h0] at hask
  have h0' : (elE b = 0) = False := eq_false h0
  refine PureC.introL elim_Steps_fn elim_Steps_ok (Nat.le_of_ble_eq_true rfl) (cl3s _ _ _) fun H hH => ?_
  refine Safe.rg rfl ?_
  simp only [elim_Steps_r0, E3, seval]
  refine Safe.rg rfl ?_
  simp only [elim_Steps_r1, E3, seval]
  first | refine (hask).acall ?_ | refine (hask).dcall ?_
  try simp only [E3, seval]
  refine Safe.rg rfl ?_
  simp only [elim_Steps_r2, h0', E3, seval]
  refine Safe.cd rfl ?_
  simp only [E3, seval]
  refine Safe.rg rfl ?_
  simp only [elim_Steps_r3, E3, seval]
  refine Safe.rt rfl ?_
  simp only [one3, E3, seval]
  exact ⟨bad3s _, _, rfl⟩
omit hK in
theorem rsteps_bad (h0 : elE b ≠ 0) : PureC Pr F_ref06_Steps [matV b] (.tup [matV [], hsV [], .int .i64 (elE b)]) := by
  have h0' : (elE b = 0) = False := eq_false h0
  refine PureC.introL ref06_Steps_fn ref06_Steps_ok (Nat.le_of_ble_eq_true rfl) (cl3s _ _ _) fun H hH => ?_
  refine Safe.rg rfl ?_
  simp only [ref06_Steps_r0, E3, seval]
  refine Safe.rg rfl ?_
  simp only [ref06_Steps_r1, E3, seval]
  first | refine (check_pure b hm).acall ?_ | refine (check_pure b hm).dcall ?_
  try simp only [E3, seval]
  refine Safe.rg rfl ?_
  simp only [ref06_Steps_r2, h0', E3, seval]
  refine Safe.cd rfl ?_
  simp only [E3, seval]
  refine Safe.rg rfl ?_
  simp only [ref06_Steps_r3, E3, seval]
  refine Safe.rt rfl ?_
  simp only [one3, E3, seval]
  exact ⟨bad3s _, _, rfl⟩
theorem psteps_ok (h0 : elE b = 0) : PureC Pr F_elim_Steps [matV b] (.tup [matV (stepsV b.length (Bm b) (wid b)), hsV (gproc b.length (Bm b) (wid b)).cs, .int .i64 0]) := by
  obtain ⟨hn, hw, hr, hrows⟩ := rect_rows h0
  have hask := asked_pure b hm
  unfold askT at hask
  rw [if_pos h0] at hask
  refine PureC.intro elim_Steps_fn elim_Steps_ok (Nat.le_of_ble_eq_true rfl) (cl3s _ _ _) fun H hH => ?_
  refine Safe.rg rfl ?_
  simp only [elim_Steps_r0, E3, seval]
  refine Safe.rg rfl ?_
  simp only [elim_Steps_r1, E3, seval]
  first | refine (hask).acall ?_ | refine (hask).dcall ?_
  try simp only [E3, seval]
  refine Safe.rg rfl ?_
  simp only [elim_Steps_r2, E3, seval]
  refine Safe.cd rfl ?_
  simp only [E3, seval]
  refine Safe.rg rfl ?_
  simp only [elim_Steps_r4, E3, seval]
  first | refine (esteps_pure b hrows hm rfl hn (by omega) hK).acall ?_ | refine (esteps_pure b hrows hm rfl hn (by omega) hK).dcall ?_
  try simp only [E3, seval]
  refine Safe.rg rfl ?_
  simp only [elim_Steps_r5, E3, seval]
  refine Safe.rt rfl ?_
  simp only [E3, seval]
  first | exact ⟨rfl, _, rfl⟩ | exact ⟨_, rfl⟩ | exact ⟨trivial, _, rfl⟩
theorem rsteps_ok (h0 : elE b = 0) : PureC Pr F_ref06_Steps [matV b] (.tup [matV (stepsV b.length (Bm b) (wid b)), hsV (gproc b.length (Bm b) (wid b)).cs, .int .i64 0]) := by
  obtain ⟨hn, hw, hr, hrows⟩ := rect_rows h0
  have hB := Bm_bd hm
  have hcr := (gok_proc (n := b.length) (fun i k => by obtain ⟨z, h, _⟩ := hB i k; exact ⟨z, h⟩) (wid b)).len
  have hS := fun i => M_sz (n := b.length) (c := wid b) hB hn i
  refine PureC.intro ref06_Steps_fn ref06_Steps_ok (Nat.le_of_ble_eq_true rfl) (cl3s _ _ _) fun H hH => ?_
  refine Safe.rg rfl ?_
  simp only [ref06_Steps_r0, E3, seval]
  refine Safe.rg rfl ?_
  simp only [ref06_Steps_r1, E3, seval]
  first | refine (check_pure b hm).acall ?_ | refine (check_pure b hm).dcall ?_
  try simp only [E3, seval]
  refine Safe.rg rfl ?_
  simp only [ref06_Steps_r2, h0, E3, seval]
  refine Safe.cd rfl ?_
  simp only [E3, seval]
  refine Safe.rg rfl ?_
  simp only [ref06_Steps_r4, E3, seval]
  refine (rats_calls b hrows (by omega) (by omega) (mok_big b hm (by omega)) (hap H [])).mono ?_
  rintro r' H' ⟨rfl, rfl⟩
  simp only [E3, seval]
  first | refine (cols_pure b hm hr).acall ?_ | refine (cols_pure b hm hr).dcall ?_
  try simp only [E3, seval]
  refine (reduced_vals hB hn (by omega) (by omega) (A := hap H []) (by rw [hap_nil]; exact hH)).mono ?_
  rintro r' A ⟨h1, ⟨L', hL'⟩, hHr, rfl⟩
  rw [hap_nil] at h1 hL'
  rw [show lid (hap H []) 0 = lid H 0 by rw [hap_nil]]
  rw [← hap_nil A]
  have hβA : lid H 0 < A.length := lt_of_live h1
  have hHA : H.length ≤ A.length := by have := lid_ge H 0; omega
  generalize hcsl : (gproc b.length (Bm b) (wid b)).cs.length = r at *
  generalize lid H 0 = β at *
  have hnb : ∀ j (L : Nat) oc, nref (lid A j) (.mu β 0 L oc) = true := fun j L oc => nref_ne (by unfold lid; omega)
  have hnc : ∀ j, nref j (hsV (gproc b.length (Bm b) (wid b)).cs) = true := fun j => nref_cl (hsV_cl _)
  simp only [zero_lt_four, Rv_cells, Rv_fit, E3, seval]
  refine Safe.rg rfl ?_
  simp only [ref06_Steps_r5, E3, seval]
  refine Safe.nilrow 9 1 (by decide) (by simp only [E3, seval]) ?_
  refine Safe.rg rfl ?_
  simp only [ref06_Steps_r6, E3, seval]
  refine Safe.lp rfl ?_
  refine Safe.keep [6, 7, 9, 10] ?_
  try simp only [E3, seval]
  refine Safe.loopN (r) (fun i => [(6, .mu β 0 r none), (7, hsV (gproc b.length (Bm b) (wid b)).cs), (9, .mu (lid A 1) 0 i none), (10, .int .i64 i)]) (fun i => hap A [some ⟨4, [Rv (dv b.length (Bm b) (wid b))]⟩, some ⟨1, (mat i fun i => vec (wid b) (primI (outI ((jproc b.length (Bm b) (wid b)).M i) (wid b)) (wid b))).map vecV⟩]) rfl rfl (fun i hi ih => ?_) ?_
  · have hlt : ((i : Int) < (r : Int)) = True := eq_true (by omega)
    have hiw : IntKind.wrap .i64 ((i : Int) + 1) = ((i + 1 : Nat) : Int) := by rw [wrap_i64] <;> omega
    have hin : i < b.length := by omega
    refine Safe.inLoop ?_
    refine Safe.rg rfl ?_
    simp only [ref06_Steps_r7, B_len h1, hlt, E3, seval]
    refine Safe.cd rfl ?_
    simp only [E3, seval]
    refine Safe.rg rfl ?_
    simp only [ref06_Steps_r8, B_idx h1 _ hi, B_at h1 (fun _ _ => rfl) _ hin, E3, seval]
    first | refine (whole_pure ((jproc b.length (Bm b) (wid b)).M i) (hS i) (by omega) (by omega)).acall ?_ | refine (whole_pure ((jproc b.length (Bm b) (wid b)).M i) (hS i) (by omega) (by omega)).dcall ?_
    try simp only [E3, seval]
    rw [app_row (bytes := 24) (y := vecV (vec (wid b) (primI (outI ((jproc b.length (Bm b) (wid b)).M i) (wid b)) (wid b)))) hHr 1 (by show H.length ≤ _; unfold lid; omega) vecV_cl (mat i fun i => vec (wid b) (primI (outI ((jproc b.length (Bm b) (wid b)).M i) (wid b)) (wid b))) (vec (wid b) (primI (outI ((jproc b.length (Bm b) (wid b)).M i) (wid b)) (wid b))) (mat (i + 1) fun i => vec (wid b) (primI (outI ((jproc b.length (Bm b) (wid b)).M i) (wid b)) (wid b))) (by rw [mat_length]) rfl (RC.one (Rv_cl _) (RC.row vecV_cl RC.nil)) rfl (mat_succ _ _) (by omega) (by omega)]
    simp only [E3, seval]
    refine Safe.rg rfl ?_
    simp only [ref06_Steps_r9, hiw, E3, seval]
    refine Safe.keep [6, 7, 9, 10] ?_
    simp only [hnb, hnc, E3, seval]
    exact ih
  · refine Safe.inLoop ?_
    refine Safe.rg rfl ?_
    simp only [ref06_Steps_r7, B_len h1, Int.lt_irrefl, E3, seval]
    refine Safe.cd rfl ?_
    simp only [E3, seval]
    have hfm := frz_mat A 1 (mat r fun i => vec (wid b) (primI (outI ((jproc b.length (Bm b) (wid b)).M i) (wid b)) (wid b))) r none (by rw [mat_length])
    have hfh : ∀ x, frz (lid A 1) x (hsV (gproc b.length (Bm b) (wid b)).cs) = hsV (gproc b.length (Bm b) (wid b)).cs := fun x => frz_cl (hsV_cl _)
    refine Safe.freezeB 1 hHr hHA rfl (blk_map 1 vecV _ vecV_cl) ?_
    refine Safe.keep [7, 9] ?_
    simp only [hfm, hfh, E3, seval]
    refine Safe.rg rfl ?_
    simp only [ref06_Steps_r10, E3, seval]
    refine Safe.rt rfl ?_
    simp only [one3, E3, seval]
    refine ⟨?_, ?_⟩
    · rw [stepsV, hcsl]
    · rw [hL']; exact ⟨_, hap_hap' _ _ _⟩
end
theorem kb_fits2 : KB 1048576 + 2 < 100000000000 := by decide
theorem stepsV_ok {b : List (List ZI)} {e n c : Nat} (hm : Mok e b) (hn : n ≤ 64) (hc : c ≤ 2097152) (hrn : (gproc n (Bm b) c).cs.length ≤ 2097152) : Mok (KB e + 1) (stepsV n (Bm b) c) :=
  mok_mat hrn fun i _ => zok_vec hc fun t ht => Nat.lt_of_le_of_lt (prim_abs ht) (out_lt (M_sz (Bm_bd hm) hn i) ht)
theorem elimsteps_pure (b : List (List ZI)) (hb : Mok 1048576 b) : PureC Pr F_law06_ElimSteps [matV b] (.bool true) := by
  have hb' := hb.mono (show 1048576 ≤ 17592186044416 by omega)
  have h : ∃ (m : List (List ZI)) (cs : List Nat) (e : Int), Mok (KB 1048576 + 1) m ∧ cs.length ≤ 64 ∧ PureC Pr F_elim_Steps [matV b] (.tup [matV m, hsV cs, .int .i64 e]) ∧ PureC Pr F_ref06_Steps [matV b] (.tup [matV m, hsV cs, .int .i64 e]) := by
    by_cases h0 : elE b = 0
    · obtain ⟨hn, hw, _, _⟩ := rect_rows h0
      have hB := Bm_bd hb
      have hcr := (gok_proc (n := b.length) (fun i k => by obtain ⟨z, h, _⟩ := hB i k; exact ⟨z, h⟩) (wid b)).len
      exact ⟨_, _, _, stepsV_ok hb hn (by omega) (by omega), by omega, psteps_ok b hb kb_fits2 h0, rsteps_ok b hb kb_fits2 h0⟩
    · exact ⟨_, _, _, ⟨by simp, by simp⟩, by simp, psteps_bad b hb h0, rsteps_bad b hb h0⟩
  obtain ⟨m, cs, e, hmm, hcs, h1, h2⟩ := h
  have hK := kb_fits
  generalize KB 1048576 + 1 = K at *
  refine PureC.intro law06_ElimSteps_fn law06_ElimSteps_ok (Nat.le_of_ble_eq_true rfl) (.bool _) fun H hH => ?_
  refine Safe.rg rfl ?_
  simp only [law06_ElimSteps_r0, E3, seval]
  refine Safe.rg rfl ?_
  simp only [law06_ElimSteps_r1, E3, seval]
  first | refine (ownm_pure b hb').acall ?_ | refine (ownm_pure b hb').dcall ?_
  try simp only [E3, seval]
  refine Safe.rg rfl ?_
  simp only [law06_ElimSteps_r2, E3, seval]
  first | refine (h1).acall ?_ | refine (h1).dcall ?_
  try simp only [E3, seval]
  refine Safe.rg rfl ?_
  simp only [law06_ElimSteps_r3, E3, seval]
  first | refine (h2).acall ?_ | refine (h2).dcall ?_
  try simp only [E3, seval]
  refine Safe.rg rfl ?_
  simp only [law06_ElimSteps_r4, hs_len, E3, seval]
  first | refine (eqm_pure m (hmm.mono (by omega))).acall ?_ | refine (eqm_pure m (hmm.mono (by omega))).dcall ?_
  try simp only [E3, seval]
  simp only [hs_len, E3, seval]
  first | refine (eqm_pure b hb').acall ?_ | refine (eqm_pure b hb').dcall ?_
  try simp only [E3, seval]
  refine Safe.cd rfl ?_
  simp only [E3, seval]
  refine Safe.rg rfl ?_
  simp only [law06_ElimSteps_r6, E3, seval]
  refine Safe.lp rfl ?_
  refine Safe.keep [5, 8, 10] ?_
  try simp only [E3, seval]
  refine Safe.loopN (cs.length) (fun i => [(5, hsV cs), (8, hsV cs), (10, .int .i64 i)]) (fun i => hap H []) rfl rfl (fun i hi ih => ?_) ?_
  · have hlt : ((i : Int) < (cs.length : Int)) = True := eq_true (by omega)
    have hiw : IntKind.wrap .i64 ((i : Int) + 1) = ((i + 1 : Nat) : Int) := by rw [wrap_i64] <;> omega
    refine Safe.inLoop ?_
    refine Safe.rg rfl ?_
    simp only [law06_ElimSteps_r7, hs_len, hlt, E3, seval]
    refine Safe.cd rfl ?_
    simp only [E3, seval]
    refine Safe.rg rfl ?_
    simp only [law06_ElimSteps_r8, hs_idx _ cs .i64 hi, intV, E3, seval]
    refine Safe.cd rfl ?_
    simp only [E3, seval]
    refine Safe.rg rfl ?_
    simp only [law06_ElimSteps_r10, hiw, E3, seval]
    refine Safe.keep [5, 8, 10] ?_
    simp only [E3, seval]
    exact ih
  · refine Safe.inLoop ?_
    refine Safe.rg rfl ?_
    simp only [law06_ElimSteps_r7, hs_len, Int.lt_irrefl, E3, seval]
    refine Safe.cd rfl ?_
    simp only [E3, seval]
    refine Safe.rg rfl ?_
    simp only [law06_ElimSteps_r11, E3, seval]
    refine Safe.rt rfl ?_
    simp only [E3, seval]
    first | exact ⟨rfl, _, rfl⟩ | exact ⟨_, rfl⟩ | exact ⟨trivial, _, rfl⟩
end Go.Abs
set_option linter.unusedVariables false
set_option linter.unusedSimpArgs false
namespace Go.Abs
open Go.ChangeShapes Go.WideShapes
open Go.Proofs.Ytkljokmnimblnaa.Rows (uptoBulk uptoBulkAll)
section
variable {K : Type} {enc : TypeId × Value → K} {P : Program} {w : World} {base : Nat} {sp : Nat → Bool} {held : Bool}
theorem bulk_pos (d : DataW K) : 1 ≤ uptoBulk d := by
  cases d with
  | lit l => cases l <;> simp [uptoBulk]
  | nil => simp [uptoBulk]
  | ptr d => simp [uptoBulk]
  | slice elems spare => simp [uptoBulk]
  | agg parts => simp [uptoBulk]
  | iface t d => simp [uptoBulk]
  | map entries => simp [uptoBulk]
  | held h => simp [uptoBulk]
theorem bulk_mem {d : DataW K} : ∀ {l : List (DataW K)}, d ∈ l → uptoBulk d ≤ uptoBulkAll l
  | [], h => by cases h
  | x :: r, h => by
    simp only [uptoBulkAll]
    rcases List.mem_cons.1 h with e | e
    · subst e; omega
    · have := bulk_mem e; omega
theorem bulk_len : ∀ (l : List (DataW K)), l.length ≤ uptoBulkAll l
  | [] => by simp [uptoBulkAll]
  | x :: r => by have := bulk_pos x; have := bulk_len r; simp only [uptoBulkAll, List.length_cons]; omega
theorem bulk_slice (es rs : List (DataW K)) : uptoBulkAll es + 1 ≤ uptoBulk (.slice es rs) := by simp only [uptoBulk]; omega
theorem sum_le_bulk {α : Type} (W : α → Nat) : ∀ (ds : List (DataW K)) (xs : List α), xs.length = ds.length → (∀ (i : Nat) a, xs[i]? = some a → W a ≤ uptoBulk (ds.getD i .nil)) → (xs.map W).sum ≤ uptoBulkAll ds
  | [], [], _, _ => by simp
  | d :: ds, x :: xs, h, hw => by
    have h1 := hw 0 x rfl
    have h2 := sum_le_bulk W ds xs (by simpa using h) fun i a ha => by have := hw (i + 1) a (by simpa using ha); simpa using this
    simp only [List.map_cons, List.sum_cons, uptoBulkAll]
    simp at h1
    omega
  | [], _ :: _, h, _ => by simp at h
  | _ :: _, [], h, _ => by simp at h
theorem addr_add_add (a : Addr) (m j : Nat) : (a.add m).add j = a.add (m + j) := by
  unfold Addr.add
  by_cases hm : m = 0 <;> by_cases hj : j = 0 <;> simp [hm, hj, Nat.add_assoc]
/-- No row is the call's own yet. -/
theorem not_mut {φ : Nat → Option Nat} {b : Nat} : ¬ (Emb.mk φ [] w).Mut b := by
  rintro ⟨id, blk, h, _⟩; simp at h
theorem hok_nil (φ : Nat → Option Nat) (w : World) : HOk ⟨φ, [], w⟩ := ⟨fun id b h => by simp at h, fun id b h => by simp at h, fun id b _ h => by simp at h, fun id b h => by simp at h, fun i j b c _ h => by simp at h⟩
/-- A value read xs0 data d stands for the tree a. -/
structure Stands (w : World) (cs : List Value) (a : AV) : Prop where
  one : ∀ c ∈ cs, c.oneCell' = true
  len : cs.length = a.cells.length
  rep : ∀ (φ : Nat → Option Nat) (k : Nat) v c, cs[k]? = some v → a.cells[k]? = some c → Rep ⟨φ, [], w⟩ v c
/-- A slice whose elements' readings stand for trees. -/
theorem open_sl {α : Type} (f : α → AV) (good : α → DataW K → Prop) {t e : TypeId} (wd : Nat) (ht : P.underlying t = some (.slice e)) (hc : P.cellsOf e = wd) (hpos : 0 < wd) (hf : ∀ a, (f a).cells.length = wd) (hcl : ∀ a, Cl (f a))
    (hel : ∀ m cs y, DataW.trod enc P w base sp held m e cs = some y → cs.length = wd → ∃ a, good a y.1 ∧ Stands w cs (f a))
    {fuel : Nat} {cs : List Value} {x : DataW K × List MemPlace} (h : DataW.trod enc P w base sp held fuel t cs = some x) :
    ∃ xs0 : List α, Stands w cs (.sl wd (xs0.map f)) ∧ xs0.length ≤ uptoBulk x.1 ∧ (∀ a ∈ xs0, ∃ d : DataW K, good a d ∧ uptoBulk d ≤ uptoBulk x.1) ∧ ∀ W : α → Nat, (∀ a d, good a d → W a ≤ uptoBulk d) → (xs0.map W).sum + 1 ≤ uptoBulk x.1 := by
  rcases DataW.trod_slice ht h with ⟨rfl, rfl⟩ | ⟨ad, len, cap, elems, rest, n, rfl, rfl, rfl, hb, hl, hm, hlen, hget, _, _⟩
  · refine ⟨[], ⟨by simp [Value.oneCell'], rfl, ?_⟩, Nat.zero_le _, by simp, fun W _ => by simp [uptoBulk]⟩
    intro φ k v c hv hc'
    match k with
    | 0 => cases hv; cases hc'; exact rep_nil_sl wd hpos .nil
    | k + 1 => simp at hv
  · -- each element
    have each : ∀ i, i < len → ∃ a cs', good a ((elems.map (·.1)).getD i .nil) ∧ Stands w cs' (f a) ∧ cs'.length = wd ∧ ∀ j, j < wd → w.cell? (ad.add (i * wd + j)) = cs'[j]? := by
      intro i hi
      have h1 := hget i hi
      have hy : elems[i]? = some (elems[i]'(by omega)) := List.getElem?_eq_getElem (by omega)
      rw [hy, Option.bind_eq_some_iff] at h1
      obtain ⟨cs', h2, h3⟩ := h1
      rw [hc] at h2
      obtain ⟨_, hl2, hcell⟩ := World.cells?_some h2
      obtain ⟨a, g1, g2⟩ := hel n cs' _ h3 hl2
      refine ⟨a, cs', ?_, g2, hl2, fun j hj => ?_⟩
      · rw [List.getD_eq_getElem?_getD, List.getElem?_map, hy]; exact g1
      · have := hcell j hj
        rw [← this]
        rw [addr_add_add]
    -- the list
    have all : ∀ m, m ≤ len → ∃ (xs0 : List α) (vs : List Value), xs0.length = m ∧ vs.length = m * wd ∧ (∀ (i : Nat) a, xs0[i]? = some a → good a ((elems.map (·.1)).getD i .nil)) ∧
        (∀ (k : Nat) v, vs[k]? = some v → w.cell? (ad.add k) = some v ∧ v.oneCell' = true) ∧ (∀ (φ : Nat → Option Nat) (k : Nat) v c, vs[k]? = some v → ((xs0.map f).flatMap AV.cells)[k]? = some c → Rep ⟨φ, [], w⟩ v c) := by
      intro m
      induction m with
      | zero => exact fun _ => ⟨[], [], rfl, by simp, by simp, by simp, by simp⟩
      | succ m ih =>
        intro hm'
        obtain ⟨xs0, vs, q1, q2, q3, q4, q5⟩ := ih (by omega)
        obtain ⟨a, cs', r1, r2, r3, r4⟩ := each m (by omega)
        have hfl : ((xs0.map f).flatMap AV.cells).length = m * wd := by
          rw [cells_len_flat (wd := wd) (by intro y hy; obtain ⟨z, _, rfl⟩ := List.mem_map.1 hy; exact hf z), List.length_map, q1]
        refine ⟨xs0 ++ [a], vs ++ cs', by simp [q1], by simp [q2, r3, Nat.add_mul], ?_, ?_, ?_⟩
        · intro i b hb'
          rcases Nat.lt_or_ge i m with hi | hi
          · rw [List.getElem?_append_left (by omega)] at hb'; exact q3 i b hb'
          · have hi' := lt_of_live' hb'
            simp at hi'
            have : i = m := by omega
            subst this
            rw [List.getElem?_append_right (by omega)] at hb'
            simp [q1] at hb'
            subst hb'; exact r1
        · intro k v hv
          rcases Nat.lt_or_ge k (m * wd) with hk | hk
          · rw [List.getElem?_append_left (by omega)] at hv; exact q4 k v hv
          · rw [List.getElem?_append_right (by omega), q2] at hv
            have hk2 := lt_of_live' hv
            refine ⟨?_, r2.one v (List.mem_of_getElem? hv)⟩
            have := r4 (k - m * wd) (by omega)
            rw [hv] at this
            rw [← this]; congr 2; omega
        · intro φ k v c hv hc'
          rw [List.map_append, List.flatMap_append] at hc'
          rcases Nat.lt_or_ge k (m * wd) with hk | hk
          · rw [List.getElem?_append_left (by omega)] at hv
            rw [List.getElem?_append_left (by omega)] at hc'
            exact q5 φ k v c hv hc'
          · rw [List.getElem?_append_right (by omega), q2] at hv
            rw [List.getElem?_append_right (by omega), hfl] at hc'
            simp at hc'
            exact r2.rep φ (k - m * wd) v c hv hc'
    obtain ⟨xs0, vs, q1, q2, q3, q4, q5⟩ := all len (Nat.le_refl _)
    have hw : ∀ y ∈ xs0.map f, y.cells.length = wd := by intro y hy; obtain ⟨z, _, rfl⟩ := List.mem_map.1 hy; exact hf z
    have hcl' : ∀ c ∈ (xs0.map f).flatMap AV.cells, Cl c := by
      intro c hc'
      obtain ⟨y, hy, hc'⟩ := List.mem_flatMap.1 hc'
      obtain ⟨z, _, rfl⟩ := List.mem_map.1 hy
      exact clcells (hcl z) c hc'
    refine ⟨xs0, ⟨by simp [Value.oneCell'], rfl, ?_⟩, ?_, ?_, ?_⟩
    · intro φ k v c hv hc'
      match k with
      | 0 =>
        cases hv; cases hc'
        have hlen' : len = (xs0.map f).length := by rw [List.length_map, q1]
        rw [hlen']
        rcases Nat.eq_zero_or_pos len with h0 | h0
        · have : xs0 = [] := List.length_eq_zero_iff.1 (by omega)
          subst this
          exact .sl _ cap wd [] [] 0 0 (Nat.zero_le _) hpos (by simp) (by simp) (.inl rfl) rfl (by simp) (by simp)
        · have hv0 : vs[0]? = some (vs[0]'(by rw [q2]; exact Nat.mul_pos h0 hpos)) := List.getElem?_eq_getElem _
          have hspot : ad.spot = none := by
            have h00 := (q4 0 _ hv0).1
            rw [show ad.add 0 = ad by simp [Addr.add]] at h00
            exact World.cell?_spot h00
          obtain ⟨b, o, s⟩ := ad
          simp only at hspot
          subst hspot
          exact .sl (some ⟨b, o, none⟩) cap wd (xs0.map f) vs b o (by rw [List.length_map, q1]; exact hl) hpos hw hcl' (.inr ⟨rfl, not_mut⟩) (by rw [cells_len_flat hw, List.length_map, q1, q2])
            (fun k v hk => by have := q4 k v hk; rw [Go.WideShapes.add_plain] at this; exact this) (fun k v c hk hc2 => q5 φ k v c hk hc2)
      | k + 1 => simp at hv
    · have h1 := bulk_len (elems.map (·.1))
      have h2 := bulk_slice (elems.map (·.1)) (rest.map (·.1))
      rw [List.length_map] at h1
      show xs0.length ≤ uptoBulk (.slice (elems.map (·.1)) (rest.map (·.1)))
      omega
    · intro a ha
      obtain ⟨i, hi, rfl⟩ := List.getElem_of_mem ha
      refine ⟨_, q3 i _ (List.getElem?_eq_getElem hi), ?_⟩
      have hm' : (elems.map (·.1)).getD i .nil ∈ elems.map (·.1) := by
        have : i < (elems.map (·.1)).length := by rw [List.length_map]; omega
        rw [List.getD_eq_getElem?_getD, List.getElem?_eq_getElem this]; exact List.getElem_mem this
      have h1 := bulk_mem hm'
      have h2 := bulk_slice (elems.map (·.1)) (rest.map (·.1))
      show uptoBulk _ ≤ uptoBulk (.slice (elems.map (·.1)) (rest.map (·.1)))
      omega
    · intro W hW
      have h1 : (xs0.map W).sum ≤ uptoBulkAll (elems.map (·.1)) := sum_le_bulk W (elems.map (·.1)) xs0 (by rw [List.length_map]; omega) fun i a ha => hW a _ (q3 i a ha)
      have h2 := bulk_slice (elems.map (·.1)) (rest.map (·.1))
      show (xs0.map W).sum + 1 ≤ uptoBulk (.slice (elems.map (·.1)) (rest.map (·.1)))
      omega
/-- Limbs. -/
theorem open_nat {t e : TypeId} (ht : P.underlying t = some (.slice e)) (he : P.underlying e = some (.int .u32)) (hc : P.cellsOf e = 1) {fuel : Nat} {cs : List Value} {x : DataW K × List MemPlace} (h : DataW.trod enc P w base sp held fuel t cs = some x) :
    ∃ l : List Nat, Stands w cs (natV l) ∧ Lim l ∧ l.length ≤ uptoBulk x.1 := by
  obtain ⟨xs0, q1, q2, q3, _⟩ := open_sl (enc := enc) (P := P) (w := w) (base := base) (sp := sp) (held := held) (fun n : Nat => .int .u32 (n : Int)) (fun n (_ : DataW K) => n < LB) 1 ht hc (by decide) (fun _ => rfl) (fun _ => .int _ _) (by
    intro m cs y hy hl
    obtain ⟨n, rfl, hx, hwf⟩ := DataW.trod_int he hy
    have hb := bounds_u32 hwf
    refine ⟨n.toNat, by show n.toNat < 4294967296; omega, by simp [Value.oneCell'], rfl, ?_⟩
    intro φ k v c hv hc'
    match k with
    | 0 =>
      cases hv; cases hc'
      have : (n.toNat : Int) = n := by omega
      rw [this]; exact .int _ _
    | k + 1 => simp at hv) h
  exact ⟨xs0, q1, fun d hd => (q3 d hd).choose_spec.1, q2⟩
/-- A whole number. -/
theorem open_z {t tb tm e : TypeId} {fs : Array Field} {f0 f1 : Field} (ht : P.underlying t = some (.struct fs)) (hfs : fs.toList = [f0, f1]) (h0 : f0.type = tb ∧ f0.offset = 0) (h1 : f1.type = tm ∧ f1.offset = 1) (hb : P.underlying tb = some .bool) (hbc : P.cellsOf tb = 1) (hmc : P.cellsOf tm = 1)
    (hm : P.underlying tm = some (.slice e)) (he : P.underlying e = some (.int .u32)) (hc : P.cellsOf e = 1) {fuel : Nat} {cs : List Value} {x : DataW K × List MemPlace} (h : DataW.trod enc P w base sp held fuel t cs = some x) (hl2 : cs.length = 2) :
    ∃ z : ZI, Stands w cs z.av ∧ Zok (uptoBulk x.1) z := by
  obtain ⟨xs, n, rfl, rfl, hl, hxs, hget⟩ := DataW.trod_struct ht h
  have hf0 : fs[0]? = some f0 := by rw [← Array.getElem?_toList, hfs]; rfl
  have hf1 : fs[1]? = some f1 := by rw [← Array.getElem?_toList, hfs]; rfl
  have hsz : fs.size = 2 := by rw [← Array.length_toList, hfs]; rfl
  have g0 := hget 0 f0 hf0
  have g1 := hget 1 f1 hf1
  rw [h0.1, h0.2, hbc] at g0
  rw [h1.1, h1.2, hmc] at g1
  obtain ⟨c0, c1, rfl⟩ : ∃ c0 c1, cs = [c0, c1] := by
    match cs, hl2 with
    | [a, b], _ => exact ⟨a, b, rfl⟩
  have e0 : xs[0]? = some (xs[0]'(by omega)) := List.getElem?_eq_getElem (by omega)
  have e1 : xs[1]? = some (xs[1]'(by omega)) := List.getElem?_eq_getElem (by omega)
  rw [e0] at g0
  rw [e1] at g1
  simp only [List.drop_zero, List.take_succ_cons, List.take_zero, List.drop_succ_cons] at g0 g1
  obtain ⟨b, hb1, _⟩ := DataW.trod_bool hb g0
  obtain ⟨l, q1, q2, q3⟩ := open_nat hm he hc g1
  simp only [List.cons.injEq, and_true] at hb1
  subst hb1
  refine ⟨⟨b, l⟩, ⟨?_, rfl, ?_⟩, q2, ?_⟩
  · intro c hc'
    simp only [List.mem_cons, List.not_mem_nil, or_false] at hc'
    rcases hc' with rfl | rfl
    · rfl
    · exact q1.one _ (by simp)
  · intro φ k v c hv hc'
    match k with
    | 0 => cases hv; cases hc'; exact .bool b
    | 1 => cases hv; cases hc'; exact q1.rep φ 0 _ _ rfl rfl
    | k + 2 => simp at hv
  · have hm1 : (xs[1]'(by omega)).1 ∈ xs.map (·.1) := List.mem_map.2 ⟨_, List.getElem_mem _, rfl⟩
    have := bulk_mem hm1
    show l.length ≤ uptoBulk (.agg (xs.map (·.1)))
    simp only [uptoBulk]
    omega
/-- The types of numbers, vectors, matrices in a program. -/
structure Types (P : Program) (tm tv tz tb tn te : TypeId) : Prop where
  mat : P.underlying tm = some (.slice tv)
  vec : P.underlying tv = some (.slice tz)
  num : ∃ fs f0 f1, P.underlying tz = some (.struct fs) ∧ fs.toList = [f0, f1] ∧ (f0.type = tb ∧ f0.offset = 0) ∧ (f1.type = tn ∧ f1.offset = 1)
  bool : P.underlying tb = some .bool
  nat : P.underlying tn = some (.slice te)
  u32 : P.underlying te = some (.int .u32)
  cv : P.cellsOf tv = 1
  cz : P.cellsOf tz = 2
  cb : P.cellsOf tb = 1
  cn : P.cellsOf tn = 1
  ce : P.cellsOf te = 1
variable {tm tv tz tb tn te : TypeId}
theorem Types.open_z (T : Types P tm tv tz tb tn te) {fuel : Nat} {cs : List Value} {x : DataW K × List MemPlace} (h : DataW.trod enc P w base sp held fuel tz cs = some x) (hl2 : cs.length = 2) : ∃ z : ZI, Stands w cs z.av ∧ Zok (uptoBulk x.1) z := by
  obtain ⟨fs, f0, f1, h1, h2, h3, h4⟩ := T.num
  exact Abs.open_z h1 h2 h3 h4 T.bool T.cb T.cn T.nat T.u32 T.ce h hl2
theorem Types.open_vec (T : Types P tm tv tz tb tn te) {fuel : Nat} {cs : List Value} {x : DataW K × List MemPlace} (h : DataW.trod enc P w base sp held fuel tv cs = some x) : ∃ v : List ZI, Stands w cs (vecV v) ∧ v.length ≤ uptoBulk x.1 ∧ (∀ z ∈ v, Zok (uptoBulk x.1) z) ∧ (v.map fun z => z.mag.length).sum ≤ uptoBulk x.1 := by
  obtain ⟨xs0, q1, q2, q3, q4⟩ := open_sl (enc := enc) (P := P) (w := w) (base := base) (sp := sp) (held := held) ZI.av (fun z (d : DataW K) => Zok (uptoBulk d) z) 2 T.vec T.cz (by decide) (fun _ => rfl) ZI.cl (by
    intro m cs y hy hl
    obtain ⟨z, r1, r2⟩ := T.open_z hy hl
    exact ⟨z, r2, r1⟩) h
  exact ⟨xs0, q1, q2, fun z hz => (by obtain ⟨d, h1, h2⟩ := q3 z hz; exact h1.mono h2), by have := q4 (fun z => z.mag.length) (fun z d h => h.len); omega⟩
theorem Types.open_mat (T : Types P tm tv tz tb tn te) {fuel : Nat} {cs : List Value} {x : DataW K × List MemPlace} (h : DataW.trod enc P w base sp held fuel tm cs = some x) : ∃ b : List (List ZI), Stands w cs (matV b) ∧ b.length ≤ uptoBulk x.1 ∧ (∀ v ∈ b, v.length ≤ uptoBulk x.1 ∧ ∀ z ∈ v, Zok (uptoBulk x.1) z) ∧ (b.map fun v => v.length).sum ≤ uptoBulk x.1 ∧ (b.map fun v => (v.map fun z => z.mag.length).sum).sum ≤ uptoBulk x.1 := by
  obtain ⟨xs0, q1, q2, q3, q4⟩ := open_sl (enc := enc) (P := P) (w := w) (base := base) (sp := sp) (held := held) vecV (fun v (d : DataW K) => v.length ≤ uptoBulk d ∧ (∀ z ∈ v, Zok (uptoBulk d) z) ∧ (v.map fun z => z.mag.length).sum ≤ uptoBulk d) 1 T.mat T.cv (by decide) (fun _ => rfl) vecV_cl (by
    intro m cs y hy hl
    obtain ⟨v, r1, r2, r3, r4⟩ := T.open_vec hy
    exact ⟨v, ⟨r2, r3, r4⟩, r1⟩) h
  refine ⟨xs0, q1, q2, fun v hv => ?_, by have := q4 (fun v => v.length) (fun v d h => h.1); omega, by have := q4 (fun v => (v.map fun z => z.mag.length).sum) (fun v d h => h.2.2); omega⟩
  obtain ⟨d, h1, h2⟩ := q3 v hv
  exact ⟨Nat.le_trans h1.1 h2, fun z hz => (h1.2.1 z hz).mono h2⟩
/-- A value of one cell. -/
theorem Stands.rep1 {v : Value} {a : AV} (h : Stands w [v] a) (ha : a.cells = [a]) (φ : Nat → Option Nat) : Rep ⟨φ, [], w⟩ v a := h.rep φ 0 v a rfl (by rw [ha]; rfl)
end
end Go.Abs
set_option linter.unusedVariables false
set_option linter.unusedSimpArgs false
namespace Go.Abs
open Go.ChangeShapes Go.WideShapes Go.RowKit
/-- A law's walk: it answers, and below the old end nothing turns. -/
theorem law_calls {P : Program} {f : FuncId} {ss : List AV} {r : Bool} (hp : PureC P f ss (.bool r)) {args : Array Value} {W : World} (hl : args.size = ss.length) (hr : ∀ (k : Nat) v a, args.toList[k]? = some v → ss[k]? = some a → Rep ⟨fun _ => none, [], W⟩ v a) :
    Calls P f args W fun e W' => e = .returned (.bool r) ∧ Below W.heap.size W W' := by
  have h := (hp []).2 (fun _ => none) W args.toList (hok_nil _ _) (by simpa using hl) hr
  rw [Array.toArray_toList] at h
  refine h.mono ?_
  rintro e w' ⟨v, r', φ', H', rfl, ⟨rfl, rfl⟩, q1, q2, q3, q4⟩
  refine ⟨by rw [rep_bool_inv q2], q4.os, q4.tape, q4.output, q4.size, fun k hk => q4.keep k hk not_mut⟩
theorem Below.trodAll {K : Type} {enc : TypeId × Value → K} {P : Program} (hl : laidOutB P = true) {W W' : World} (hb : Below W.heap.size W W') : ∀ {ts : List TypeId} {vs : List Value} {ds : List (DataW K)} {ps : List MemPlace}, (ts.all fun t => P.readableRec t && decide (t < P.types.size)) = true →
    DataW.TrodAll enc P W 0 (fun _ => true) true ts vs ds ps → (∀ x ∈ ps, x.block < W.heap.size) → DataW.TrodAll enc P W' 0 (fun b => decide (b < W.heap.size)) true ts vs ds ps
  | [], [], [], _, _, h, _ => h
  | t :: ts, v :: vs, d :: ds, _, hts, ⟨p, q, h1, h2, e⟩, hlt => by
    simp only [List.all_cons, Bool.and_eq_true, decide_eq_true_eq] at hts
    exact ⟨p, q, Go.RowKit.Below.trod hl hts.1.1 hts.1.2 h1 hb (fun x hx => hlt x (by rw [e]; exact List.mem_append_left _ hx)), Below.trodAll hl hb (by simpa using hts.2) h2 (fun x hx => hlt x (by rw [e]; exact List.mem_append_right _ hx)), e⟩
  | [], _ :: _, _, _, _, h, _ => by simp [DataW.TrodAll] at h
  | [], [], _ :: _, _, _, h, _ => by simp [DataW.TrodAll] at h
  | _ :: _, [], _, _, _, h, _ => by simp [DataW.TrodAll] at h
  | _ :: _, _ :: _, [], _, _, h, _ => by simp [DataW.TrodAll] at h
theorem cells_slice {P : Program} {W : World} {base : Nat} {t e : TypeId} {v : Value} (ht : P.underlying t = some (.slice e)) (h : Value.okWide P W .any base t v) : v.cells.toList = [v] := by
  cases v <;> first | rfl | (exfalso; simp [Value.okWide, Cell.okWide, Cell.ok, ht] at h)
theorem vok_of {v : List ZI} {n : Nat} (hl : v.length ≤ n) (he : ∀ z ∈ v, Zok n z) (hn : n ≤ 1048576) : Vok 1048576 v := ⟨by omega, fun z hz => (he z hz).mono hn⟩
theorem mok_of {b : List (List ZI)} {n : Nat} (hl : b.length ≤ n) (he : ∀ v ∈ b, v.length ≤ n ∧ ∀ z ∈ v, Zok n z) (hn : n ≤ 1048576) : Mok 1048576 b := ⟨by omega, fun v hv => vok_of (he v hv).1 (he v hv).2 hn⟩
/-- A law's promise: it answers true; what was handed in reads as it did. -/
theorem row_post {K : Type} {enc : TypeId × Value → K} {P : Program} {f : Func} {s : ChangeSpec} {fresh handsOn : Bool} {W W' : World} {args : Array Value} {ds gs : List (DataW K)} {before : List MemPlace} {tb : TypeId}
    (hW : DataW.Whole enc P f.params.toList s.vars false W args.toList ds gs before) (hv : s.vars = []) (hfn : s.fn K ds = { results := [.lit (.bool true)], args := ds }) (ht : f.resultTypes = #[tb]) (htb : P.underlying tb = some .bool)
    (hl : laidOutB P = true) (hts : (f.params.toList.all fun t => P.readableRec t && decide (t < P.types.size)) = true) (hb : Below W.heap.size W W') :
    s.post enc P f false fresh handsOn false W args (.bool true) W' := by
  have hW0 := hW
  obtain ⟨p, q, hA, hV, rfl, hz, hn⟩ := hW
  rw [hv] at hV
  obtain ⟨rfl, rfl⟩ := trodVars_none hV
  have hlt : ∀ x ∈ p, x.block < W.heap.size := fun x hx => by simpa using hW0.lt x (by simpa using hx)
  have hA' := Below.trodAll (enc := enc) hl hb hts hA hlt
  refine ⟨ds, [], p ++ [], [], p, [], hW0, ?_, ?_, ?_, ?_, by simp⟩
  · rw [List.append_nil, hfn, ht]
    exact trodAll_cons_mk (shut_bool htb true) trodAll_mk0
  · rw [List.append_nil, hfn]; exact hA'
  · rw [List.append_nil, hfn, hv]; rfl
  · refine ⟨hb.os, hb.output, fun i hi => ?_⟩
    have := (World.keptBut_refl W (fun x => x ∈ p ++ [] ∧ (x ∈ [] ∨ x ∈ p ∨ x ∈ []))).2.2 i hi
    rw [hb.block i hi]
    exact this
end Go.Abs
set_option linter.unusedVariables false
set_option linter.unusedSimpArgs false
namespace Go.Abs
open Go.ChangeShapes Go.WideShapes Go.RowKit
open Go.Proofs.Ytkljokmnimblnaa.Rows (uptoBulk uptoBulkAll)
section
variable {K : Type} {enc : TypeId × Value → K} {P : Program} {w : World} {base : Nat} {sp : Nat → Bool} {held : Bool} {tm tv tz tb tn te : TypeId} {v : Value} {fuel : Nat} {x : DataW K × List MemPlace} {b1 : Nat}
theorem Types.arg_mat (T : Types P tm tv tz tb tn te) (hok : Value.okWide P w .any b1 tm v) (h : DataW.trod enc P w base sp held fuel tm v.cells.toList = some x) (hb : uptoBulk x.1 ≤ 1048576) : ∃ b, Mok 1048576 b ∧ ∀ φ, Rep ⟨φ, [], w⟩ v (matV b) := by
  obtain ⟨b, s, l, e, _⟩ := T.open_mat h
  rw [cells_slice T.mat hok] at s
  exact ⟨b, mok_of l e hb, fun φ => s.rep1 rfl φ⟩
end
end Go.Abs

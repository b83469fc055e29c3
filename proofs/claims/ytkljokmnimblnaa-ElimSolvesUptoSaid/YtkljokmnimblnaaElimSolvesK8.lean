/- Part 8 of the proof of ElimSolves: W31, W32, W33, W34, W36, W37, W38, W39, W40, W41, O1, O2, O3. -/
import Derived.Test.YtkljokmnimblnaaElimSolvesK7
import Derived.Test.YtkljokmnimblnaaRows
import Derived.OpenShut
import Derived.ChangeArms
import Derived.Carry
import Derived.WalkKit
import Derived.ProofKit
import Derived.JoinedCond
set_option linter.unusedVariables false
set_option linter.unusedSimpArgs false
namespace Go.Abs
def d8Y (h c : Nat) (f g : Nat → Int) : Nat → Int := if f h = 0 then f else a1J (fun k => g h * f k - f h * g k) c
/-- The rows after k a0Y have been cleared. -/
def Fs (cs : List Nat) (c : Nat) (F0 : Nat → Nat → Int) : Nat → Nat → Nat → Int
  | 0 => F0
  | k + 1 => fun i => if i < cs.length - (k + 1) then d8Y (cs.getD (cs.length - (k + 1)) 0) c (Fs cs c F0 k i) (Fs cs c F0 k (cs.length - (k + 1))) else Fs cs c F0 k i
section
variable {n c e : Nat} {B : Nat → Nat → Rat} (hB : Bd e B) (hn : n ≤ 64)
include hB hn
def F0s (n : Nat) (B : Nat → Nat → Rat) (c : Nat) : Nat → Nat → Int := fun i => a1J (ZgI n B c i) c
def Fk (n : Nat) (B : Nat → Nat → Rat) (c k : Nat) : Nat → Nat → Int := Fs (gproc n B c).cs c (F0s n B c) k
omit hB hn in
theorem c2v : ∀ t, t < (a0t n B c).s.cs.length → (a0t n B c).s.cs.getD t 0 < c := by
  intro t ht
  rw [a0O] at ht ⊢
  exact a8m ht
theorem e6p (i : Nat) {k : Nat} (hi : i < n) : (ZgI n B c i k).natAbs < LB ^ (KB e + 1) := by
  have h := (d6H B hB hn c k hi)
  have hlt : LB ^ KB e < LB ^ (KB e + 1) := Nat.pow_lt_pow_right (by decide) (by omega)
  omega
theorem e4g {i : Nat} (hi : i < (gproc n B c).cs.length) : RowP (a0t n B c) c (gproc n B c).cs.length i (F0s n B c i) :=
  d0V (c2v) (by rw [a0O]; exact hi) (b8A hB hn hi)
structure Fok (n c e : Nat) (B : Nat → Nat → Rat) (k : Nat) : Prop where
  row : ∀ i, i < (gproc n B c).cs.length → RowP (a0t n B c) c ((gproc n B c).cs.length - k) i (Fk n B c k i)
  idem : ∀ i, i < (gproc n B c).cs.length → ∀ t, t < c → a1J (Fk n B c k i) c t = Fk n B c k i t
  sz : ∀ i, i < (gproc n B c).cs.length → ∀ t, t < c → (Fk n B c k i t).natAbs < LB ^ ((KB e + 1) + k * (KB e + 2))
omit hB hn in
theorem Fok.top {k i : Nat} (h : Fok n c e B k) (hi : i < (gproc n B c).cs.length) (hk : (gproc n B c).cs.length - k ≤ i + 1) : ∀ t, t < c → Fk n B c k i t = a1J (outI ((a0t n B c).M i) c) c t := by
  have hrow : RowP (a0t n B c) c ((gproc n B c).cs.length - k) i (Fk n B c k i) := h.row i hi
  have hlen : (a0t n B c).s.cs.length = (gproc n B c).cs.length := by rw [a0O]
  by_cases e : (gproc n B c).cs.length - k ≤ i
  · exact d0W (c2v) e (by rw [hlen]; exact hi) hrow (h.idem i hi)
  · have e2 : (gproc n B c).cs.length - k = i + 1 := by omega
    rw [e2] at hrow
    exact d0W (c2v) (Nat.le_refl i) (by rw [hlen]; exact hi) (d0U hrow) (h.idem i hi)
theorem Fok.tsz {k i : Nat} (h : Fok n c e B k) (hi : i < (gproc n B c).cs.length) (hk : (gproc n B c).cs.length - k ≤ i + 1) : ∀ t, t < c → (Fk n B c k i t).natAbs < LB ^ (KB e + 1) := fun t ht => by
  rw [h.top hi hk t ht]
  exact Nat.lt_of_le_of_lt (c2V ht) (d5V (M_sz hB hn i) ht)
omit hB hn in
theorem e5I {a b p q : Int} {K L : Nat} (ha : a.natAbs < LB ^ L) (hb : b.natAbs < LB ^ K) (hp : p.natAbs < LB ^ K) (hq : q.natAbs < LB ^ L) : (a * b - p * q).natAbs < LB ^ (K + L + 1) := by
  have h1 : (a * b).natAbs < LB ^ (K + L) := by
    rw [Int.natAbs_mul, Nat.pow_add, Nat.mul_comm]
    exact Nat.mul_lt_mul'' hb ha
  have h2 : (p * q).natAbs < LB ^ (K + L) := by
    rw [Int.natAbs_mul, Nat.pow_add]
    exact Nat.mul_lt_mul'' hp hq
  rw [Nat.pow_succ]
  generalize LB ^ (K + L) = M at *
  have h3 : (a * b - p * q).natAbs ≤ (a * b).natAbs + (p * q).natAbs := by omega
  have h4 : 2 ≤ LB := by decide
  have h5 : M * 2 ≤ M * LB := Nat.mul_le_mul_left M h4
  omega
theorem e3z : Fok n c e B 0 := by
  have hle := (a3c (n := n) (fun i k => by obtain ⟨z, h, _⟩ := hB i k; exact ⟨z, h⟩) c).len
  have hlen : (a0t n B c).s.cs.length = (gproc n B c).cs.length := by rw [a0O]
  refine ⟨fun i hi => e4g hB hn hi, fun i hi t ht => d2k ?_ ht, fun i hi t ht => ?_⟩
  · exact b8B (c2v) (by rw [hlen]; exact hi) (b8A hB hn hi)
  · rw [Nat.zero_mul, Nat.add_zero]
    exact Nat.lt_of_le_of_lt (c2V ht) (e6p hB hn i (by omega))
theorem d6J {k i : Nat} (h : Fok n c e B k) (hk : k < (gproc n B c).cs.length) (hi : i < (gproc n B c).cs.length - (k + 1)) :
    RowP (a0t n B c) c ((gproc n B c).cs.length - (k + 1)) i (fun t => Fk n B c k ((gproc n B c).cs.length - (k + 1)) ((gproc n B c).cs.getD ((gproc n B c).cs.length - (k + 1)) 0) * Fk n B c k i t - Fk n B c k i ((gproc n B c).cs.getD ((gproc n B c).cs.length - (k + 1)) 0) * Fk n B c k ((gproc n B c).cs.length - (k + 1)) t) ∧
      ∀ t, t < c → (Fk n B c k ((gproc n B c).cs.length - (k + 1)) ((gproc n B c).cs.getD ((gproc n B c).cs.length - (k + 1)) 0) * Fk n B c k i t - Fk n B c k i ((gproc n B c).cs.getD ((gproc n B c).cs.length - (k + 1)) 0) * Fk n B c k ((gproc n B c).cs.length - (k + 1)) t).natAbs < LB ^ ((KB e + 1) + (k + 1) * (KB e + 2)) := by
  have hlen : (a0t n B c).s.cs.length = (gproc n B c).cs.length := by rw [a0O]
  have hcs : (a0t n B c).s.cs = (gproc n B c).cs := by rw [a0O]
  have hm1 : (gproc n B c).cs.length - k = ((gproc n B c).cs.length - (k + 1)) + 1 := by omega
  have h1 := h.row i (by omega)
  have h2 := h.row ((gproc n B c).cs.length - (k + 1)) (by omega)
  have hhd : (gproc n B c).cs.getD ((gproc n B c).cs.length - (k + 1)) 0 < c := a8m (by omega)
  rw [hm1] at h1 h2
  refine ⟨?_, fun t ht => ?_⟩
  · have := d9o hi (by rw [hlen]; omega) h1 h2
    rw [hcs] at this
    exact this
  · have e1 : (KB e + 1) + (k + 1) * (KB e + 2) = ((KB e + 1) + k * (KB e + 2)) + (KB e + 1) + 1 := by rw [Nat.succ_mul]; omega
    rw [e1]
    exact e5I (h.tsz hB hn (by omega) (by omega) _ hhd) (h.sz i (by omega) t ht) (h.sz i (by omega) _ hhd) (h.tsz hB hn (by omega) (by omega) t ht)
theorem e3A {k : Nat} (h : Fok n c e B k) (hk : k < (gproc n B c).cs.length) : Fok n c e B (k + 1) := by
  have hlen : (a0t n B c).s.cs.length = (gproc n B c).cs.length := by rw [a0O]
  have hcs : (a0t n B c).s.cs = (gproc n B c).cs := by rw [a0O]
  have hm1 : (gproc n B c).cs.length - k = ((gproc n B c).cs.length - (k + 1)) + 1 := by omega
  have hs : ∀ i, Fk n B c (k + 1) i = if i < (gproc n B c).cs.length - (k + 1) then d8Y ((gproc n B c).cs.getD ((gproc n B c).cs.length - (k + 1)) 0) c (Fk n B c k i) (Fk n B c k ((gproc n B c).cs.length - (k + 1))) else Fk n B c k i := fun i => rfl
  have hup : LB ^ ((KB e + 1) + k * (KB e + 2)) ≤ LB ^ ((KB e + 1) + (k + 1) * (KB e + 2)) := lbm (by rw [Nat.succ_mul]; omega)
  have all : ∀ i, i < (gproc n B c).cs.length → RowP (a0t n B c) c ((gproc n B c).cs.length - (k + 1)) i (Fk n B c (k + 1) i) ∧ (∀ t, t < c → a1J (Fk n B c (k + 1) i) c t = Fk n B c (k + 1) i t) ∧ ∀ t, t < c → (Fk n B c (k + 1) i t).natAbs < LB ^ ((KB e + 1) + (k + 1) * (KB e + 2)) := by
    intro i hi
    have h1 := h.row i hi
    rw [hm1] at h1
    rw [hs i]
    by_cases hlt : i < (gproc n B c).cs.length - (k + 1)
    · rw [if_pos hlt]
      unfold d8Y
      by_cases h0 : Fk n B c k i ((gproc n B c).cs.getD ((gproc n B c).cs.length - (k + 1)) 0) = 0
      · rw [if_pos h0]
        exact ⟨d9n hlt h1 (by rw [hcs]; exact h0), h.idem i hi, fun t ht => Nat.lt_of_lt_of_le (h.sz i hi t ht) hup⟩
      · rw [if_neg h0]
        obtain ⟨c1, c2⟩ := d6J hB hn h hk hlt
        exact ⟨d0V (c2v) (by rw [hlen]; exact hi) c1, fun t ht => d2k (b8B (c2v) (by rw [hlen]; exact hi) c1) ht, fun t ht => Nat.lt_of_le_of_lt (c2V ht) (c2 t ht)⟩
    · rw [if_neg hlt]
      refine ⟨?_, h.idem i hi, fun t ht => Nat.lt_of_lt_of_le (h.sz i hi t ht) hup⟩
      by_cases e2 : i = (gproc n B c).cs.length - (k + 1)
      · subst e2; exact d0U h1
      · exact d9m (by omega) h1 (by omega)
  exact ⟨fun i hi => (all i hi).1, fun i hi => (all i hi).2.1, fun i hi => (all i hi).2.2⟩
theorem d5v : ∀ k, k ≤ (gproc n B c).cs.length → Fok n c e B k
  | 0, _ => e3z hB hn
  | k + 1, h => e3A hB hn (d5v k (by omega)) (by omega)
theorem e7C {i : Nat} (hi : i < (gproc n B c).cs.length) : vec c (Fk n B c (gproc n B c).cs.length i) = vec c (a1J (outI ((a0t n B c).M i) c) c) :=
  c3D fun t ht => (d5v hB hn _ (Nat.le_refl _)).top hi (by omega) t ht
end
end Go.Abs
set_option linter.unusedVariables false
set_option linter.unusedSimpArgs false
namespace Go.Abs
theorem e7y {A L : Heap} {β n : Nat} {X : Nat → List ZI} (hA : β < A.length) (len : Nat) (oc : Option Nat) : lenV (hap (ax A β n X) L) (.mu β 0 len oc) = some (.int .i64 len) := by
  simp only [lenV, d2O hA]; rfl
def a9W (n : Nat) (B : Nat → Nat → Rat) (c : Nat) : List (List ZI) := mat (gproc n B c).cs.length fun i => vec c (a1J (outI ((a0t n B c).M i) c) c)
def Xp (X : Nat → List ZI) (n : Nat) (B : Nat → Nat → Rat) (c i : Nat) : Nat → List ZI := fun t => if t < i then vec c (F0s n B c t) else X t
def Yo (X : Nat → List ZI) (n : Nat) (B : Nat → Nat → Rat) (c k : Nat) : Nat → List ZI := fun t => if t < (gproc n B c).cs.length then vec c (Fk n B c k t) else X t
def Yi (X : Nat → List ZI) (n : Nat) (B : Nat → Nat → Rat) (c k i : Nat) : Nat → List ZI := fun t => if t < i then Yo X n B c (k + 1) t else Yo X n B c k t
section
variable (X : Nat → List ZI) (n : Nat) (B : Nat → Nat → Rat) (c : Nat)
theorem e6g : Xp X n B c 0 = X := funext fun t => if_neg (Nat.not_lt_zero t)
theorem e7S (i : Nat) : Xp X n B c i i = X i := if_neg (Nat.lt_irrefl i)
theorem e6h (i : Nat) : (fun a => if a = i then vec c (F0s n B c i) else Xp X n B c i a) = Xp X n B c (i + 1) := by
  funext a
  unfold Xp
  by_cases e : a = i
  · subst e; rw [if_pos rfl, if_pos (Nat.lt_succ_self a)]
  · rw [if_neg e]
    by_cases h : a < i
    · rw [if_pos h, if_pos (by omega)]
    · rw [if_neg h, if_neg (by omega)]
theorem e7x : Xp X n B c (gproc n B c).cs.length = Yo X n B c 0 := rfl
theorem e6d (k : Nat) : Yi X n B c k 0 = Yo X n B c k := funext fun t => if_neg (Nat.not_lt_zero t)
theorem e6f {k i t : Nat} (h : i ≤ t) (ht : t < (gproc n B c).cs.length) : Yi X n B c k i t = vec c (Fk n B c k t) := by
  unfold Yi
  rw [if_neg (by omega)]
  exact if_pos ht
theorem e1n {k i : Nat} {v : List ZI} (hi : i < (gproc n B c).cs.length) (hv : v = vec c (Fk n B c (k + 1) i)) : (fun a => if a = i then v else Yi X n B c k i a) = Yi X n B c k (i + 1) := by
  funext a
  unfold Yi
  by_cases e : a = i
  · subst e
    rw [if_pos rfl, if_pos (Nat.lt_succ_self a), hv]
    exact (if_pos hi).symm
  · rw [if_neg e]
    by_cases h : a < i
    · rw [if_pos h, if_pos (by omega)]
    · rw [if_neg h, if_neg (by omega)]
theorem e6e {k i : Nat} (hi : i < (gproc n B c).cs.length) (hv : Fk n B c (k + 1) i = Fk n B c k i) : Yi X n B c k (i + 1) = Yi X n B c k i := by
  refine (e1n X n B c hi (v := vec c (Fk n B c k i)) (by rw [hv])).symm.trans ?_
  funext a
  by_cases e : a = i
  · subst e; rw [if_pos rfl, e6f X n B c (Nat.le_refl a) hi]
  · rw [if_neg e]
theorem e1s (k i : Nat) : Fk n B c (k + 1) i = if i < (gproc n B c).cs.length - (k + 1) then d8Y ((gproc n B c).cs.getD ((gproc n B c).cs.length - (k + 1)) 0) c (Fk n B c k i) (Fk n B c k ((gproc n B c).cs.length - (k + 1))) else Fk n B c k i := rfl
theorem e7w (k : Nat) : Yi X n B c k ((gproc n B c).cs.length - (k + 1)) = Yo X n B c (k + 1) := by
  funext t
  unfold Yi
  split
  · rfl
  · rename_i h
    unfold Yo
    rw [e1s, if_neg h]
end
theorem c5O (b : List (List ZI)) {e n c : Nat} (hb : ∀ i, (h : i < b.length) → b[i].length = c) (hm : Mok e b) (hn : b.length = n) (hn64 : n ≤ 64) (hc : c ≤ 2097152) (hK : KB e + 2 < 100000000000) :
    a0d Pr b1W [matV b, .int .i64 c] (.tup [matV (a9W n (Bm b) c), hsV (gproc n (Bm b) c).cs]) := by
  have hB := e6j hm
  have hrn := (a3c (n := n) (fun i k => by obtain ⟨z, h, _⟩ := hB i k; exact ⟨z, h⟩) c).len
  have hF := fun k hk => d5v (n := n) (c := c) hB hn64 k hk
  have hF0 := fun i hi => e4g (n := n) (c := c) hB hn64 (i := i) hi
  refine a0d.intro d0i d0d (Nat.le_of_ble_eq_true rfl) (b1Q (c5r _) (b7E _)) fun H hH => ?_
  refine Safe.rg rfl ?_
  simp only [b8c, E3, seval]
  refine Safe.rg rfl ?_
  simp only [b8b, E3, seval]
  refine (d3s hc (b8o b (Bm b) hb (fun _ _ => rfl) hm hB hn hn64 hc (by omega) (hap H []))).mono ?_
  rintro r' A ⟨β, rows, lx, hR, hβ, hAβ, ⟨L', hL'⟩, hHr, hlz, hlk, rfl⟩
  have hA : β < A.length := a0k hAβ
  have hax : ax A β n (mg rows) = A := by rw [← hR.len]; exact e5R hAβ
  rw [a1W] at hβ hL'
  have hHA : H.length ≤ A.length := by omega
  have hRef : ∀ X', a0E (ax A β n X') := fun X' => e5S hA (by rw [hax]; exact hHr)
  have hnb : ∀ j (L : Nat) oc, nref (lid A j) (.mu β 0 L oc) = true := fun j L oc => a7w (by unfold lid; omega)
  have hnc : ∀ j, nref j (hsV (gproc n (Bm b) c).cs) = true := fun j => a1n (b7E _)
  have hin : A = hap (ax A β n (mg rows)) [] := by rw [a1W, hax]
  rw [hin]
  clear hin
  have hlow : ∀ i, i < (gproc n (Bm b) c).cs.length → a0d Pr a2K [vecV (mg rows i)] (vecV (vec c (F0s n (Bm b) c i))) := fun i hi => by
    have hw := hR.wid i (by omega)
    have hz := hR.at_ i
    have hnz := b8B c2v (by rw [a0O]; exact hi) (b8A (c := c) hB hn64 hi)
    have := c5s (mg rows i) (hR.ok i (by omega)) (by
      obtain ⟨k, hk, hk2⟩ := hnz
      exact ⟨k, by rw [hw]; exact hk, by rw [hz k (by omega) hk]; exact hk2⟩) (by omega)
    rw [hw, c3D (g := F0s n (Bm b) c i) fun k hk => b8H (fun t ht => hz t (by omega) ht) hk] at this
    exact this
  generalize hrs : mg rows = X at *
  generalize hcsl : (gproc n (Bm b) c).cs.length = r at *
  simp only [a3U, a1A, a2a, a2m, E3, seval]
  refine Safe.keep [6, 7] ?_
  simp only [E3, seval]
  refine Safe.dropX [] (hRef _) hHA (by simp only [List.all_cons, List.all_nil, hnb, hnc, E3, seval]) (RC.nil) ?_
  refine Safe.rg rfl ?_
  simp only [b8a, a3U, a1A, a2a, a2m, d2N, hcsl, e7T hA hrn, E3, seval]
  refine Safe.rg rfl ?_
  simp only [b7Z, a3U, a1A, a2a, a2m, e7y hA, E3, seval]
  refine Safe.lp rfl ?_
  refine Safe.keep [6, 7, 32, 33] ?_
  simp only [E3, seval]
  refine Safe.loopN r (fun i => [(6, .mu β 0 r (some r)), (7, hsV (gproc n (Bm b) c).cs), (32, .int .i64 r), (33, .int .i64 i)]) (fun i => hap (ax A β n (Xp X n (Bm b) c i)) []) rfl (by rw [e6g]) (fun i hi ih => ?_) ?_
  · have hlt : ((i : Int) < (r : Int)) = True := eq_true (by omega)
    have hiw : IntKind.wrap .i64 ((i : Int) + 1) = ((i + 1 : Nat) : Int) := by rw [a0a] <;> omega
    refine Safe.inLoop ?_
    refine Safe.rg rfl ?_
    simp only [a9B, hlt, E3, seval]
    refine Safe.cd rfl ?_
    simp only [E3, seval]
    refine Safe.rg rfl ?_
    simp only [b7Y, E3, seval]
    refine Safe.rg rfl ?_
    simp only [b7X, a3U, a1A, a2a, a2m, d3x hA hi, X_at hA (show i < n by omega), e7S, E3, seval]
    refine (hlow i (by omega)).acall ?_
    simp only [a3U, a1A, a2a, a2m, d3x hA hi, X_st hA (show i < n by omega), e6h, E3, seval]
    refine Safe.rg rfl ?_
    simp only [b7W, hiw, E3, seval]
    refine Safe.keep [6, 7, 32, 33] ?_
    simp only [E3, seval]
    exact ih
  · refine Safe.inLoop ?_
    refine Safe.rg rfl ?_
    simp only [a9B, Int.lt_irrefl, E3, seval]
    refine Safe.cd rfl ?_
    simp only [E3, seval]
    have hend : Xp X n (Bm b) c r = Yo X n (Bm b) c 0 := by rw [← hcsl]; exact e7x X n (Bm b) c
    rw [hend]
    have hw8 : IntKind.wrap .i64 ((r : Int) - 1) = (r : Int) - 1 - ((0 : Nat) : Int) := by rw [a0a] <;> omega
    refine Safe.rg rfl ?_
    simp only [b7V, a3U, a1A, a2a, a2m, e7y hA, hw8, E3, seval]
    refine Safe.lp rfl ?_
    refine Safe.keep [6, 7, 11] ?_
    simp only [E3, seval]
    refine Safe.loopN r (fun k => [(6, .mu β 0 r (some r)), (7, hsV (gproc n (Bm b) c).cs), (11, .int .i64 ((r : Int) - 1 - (k : Int)))]) (fun k => hap (ax A β n (Yo X n (Bm b) c k)) []) rfl rfl (fun k hk ih => ?_) ?_
    · obtain ⟨m, hm⟩ : ∃ m, m = r - (k + 1) := ⟨_, rfl⟩
      have hmr : m < r := by omega
      have hm1 : (r : Int) - 1 - (k : Int) = (m : Int) := by omega
      rw [hm1]
      have hge : ((m : Int) ≥ 0) = True := eq_true (by omega)
      have hFk := hF k (by omega)
      obtain ⟨h, hh⟩ : ∃ h, h = (gproc n (Bm b) c).cs.getD m 0 := ⟨_, rfl⟩
      have hhc : h < c := by rw [hh]; exact a8m (by omega)
      refine Safe.inLoop ?_
      refine Safe.rg rfl ?_
      simp only [a9A, hge, E3, seval]
      refine Safe.cd rfl ?_
      simp only [E3, seval]
      refine Safe.rg rfl ?_
      simp only [b3D, a3U, a1A, a2a, a2m, e3S _ (gproc n (Bm b) c).cs .i64 (show m < (gproc n (Bm b) c).cs.length by omega), E3, seval]
      rw [← hh]
      refine Safe.rg rfl ?_
      simp only [b3C, E3, seval]
      refine Safe.lp rfl ?_
      refine Safe.keep [6, 7, 11, 12, 56, 57] ?_
      simp only [intV, E3, seval]
      refine Safe.loopN m (fun i => [(6, .mu β 0 r (some r)), (7, hsV (gproc n (Bm b) c).cs), (11, .int .i64 m), (12, .int .i64 h), (56, .int .i64 m), (57, .int .i64 i)]) (fun i => hap (ax A β n (Yi X n (Bm b) c k i)) []) rfl (by rw [e6d]) (fun i hi ihi => ?_) ?_
      · have hlt : ((i : Int) < (m : Int)) = True := eq_true (by omega)
        have hiw : IntKind.wrap .i64 ((i : Int) + 1) = ((i + 1 : Nat) : Int) := by rw [a0a] <;> omega
        have hir : i < r := by omega
        have hin : i < n := by omega
        have hmn : m < n := by omega
        have hYi := e6f X n (Bm b) c (k := k) (Nat.le_refl i) (by omega)
        have hYm := e6f X n (Bm b) c (k := k) (i := i) (t := m) (by omega) (by omega)
        have hnx := e1s n (Bm b) c k i
        rw [hcsl, ← hm, if_pos hi, ← hh] at hnx
        unfold d8Y at hnx
        have hsame := e6e X n (Bm b) c (k := k) (i := i) (by omega)
        have hsucc := fun v => e1n X n (Bm b) c (k := k) (i := i) (v := v) (by omega)
        have hcl := d6J hB hn64 hFk (by omega) (i := i) (by omega)
        rw [hcsl, ← hm, ← hh] at hcl
        obtain ⟨hcr, hcz⟩ := hcl
        have hcnz := b8B c2v (by rw [a0O]; omega) hcr
        have hzi := hFk.sz i (by omega)
        have hzm := hFk.tsz hB hn64 (i := m) (by omega) (by omega)
        have hkk : KB e + 1 + k * (KB e + 2) ≤ 64 * (KB e + 2) := by
          have := Nat.mul_le_mul_right (KB e + 2) (show k ≤ 63 by omega)
          omega
        have hkk1 : KB e + 1 + (k + 1) * (KB e + 2) ≤ 65 * (KB e + 2) := by
          rw [Nat.succ_mul]; omega
        generalize hK2 : KB e + 1 + k * (KB e + 2) = K2 at *
        generalize hK3 : KB e + 1 + (k + 1) * (KB e + 2) = K3 at *
        generalize hf : Fk n (Bm b) c k i = f at *
        generalize hg : Fk n (Bm b) c k m = g at *
        have hfl : ∀ t, t < c → Zok K2 (canZ (f t)) := fun t ht => a0l (hzi t ht)
        have hgl : ∀ t, t < c → Zok (KB e + 1) (canZ (g t)) := fun t ht => a0l (hzm t ht)
        refine Safe.inLoop ?_
        refine Safe.rg rfl ?_
        simp only [a7E, hlt, E3, seval]
        refine Safe.cd rfl ?_
        simp only [E3, seval]
        refine Safe.rg rfl ?_
        simp only [b3B, E3, seval]
        refine Safe.rg rfl ?_
        simp only [b3A, a3U, a1A, a2a, a2m, d3x hA hir, X_at hA hin, hYi, a1g _ (vec c f) .i64 h (by rw [a0g]; exact hhc), a5O, E3, seval]
        refine Safe.rg rfl ?_
        simp only [b3z, a3U, a1A, a2a, a2m, E3, seval]
        refine (a1w (canZ (f h)) ((hfl h hhc).mono (by omega))).acall ?_
        simp only [a0p, E3, seval]
        by_cases h0 : f h = 0
        · have hs0 : ((f h).sign = 0) = True := eq_true (by rw [h0]; rfl)
          simp only [hs0, E3, seval]
          refine Safe.cd rfl ?_
          simp only [E3, seval]
          refine Safe.rg rfl ?_
          simp only [a7C, hiw, E3, seval]
          refine Safe.keep [6, 7, 11, 12, 56, 57] ?_
          simp only [E3, seval]
          refine Safe.dropX [] (hRef _) hHA (by simp only [List.all_cons, List.all_nil, hnb, hnc, E3, seval]) (RC.nil) ?_
          rw [if_pos h0] at hnx
          rw [hsame hnx] at ihi
          exact ihi
        · have hs0 : ((f h).sign = 0) = False := eq_false (fun q => h0 (Int.sign_eq_zero_iff_zero.1 q))
          simp only [hs0, E3, seval]
          refine Safe.cd rfl ?_
          simp only [E3, seval]
          rw [if_neg h0] at hnx
          refine Safe.rg rfl ?_
          simp only [b3y, E3, seval]
          refine Safe.nilrow 15 2 (by decide) (by simp only [E3, seval]) ?_
          simp only [a3U, a1A, a2a, a2m, E3, seval]
          refine Safe.rg rfl ?_
          simp only [b3x, a3U, a1A, a2a, a2m, d3x hA hir, X_at hA hin, hYi, c8H, a0g, E3, seval]
          refine Safe.lp rfl ?_
          refine Safe.keep [6, 7, 11, 12, 13, 14, 15, 56, 57, 74, 75] ?_
          simp only [E3, seval]
          obtain ⟨G, hG⟩ : ∃ G : Nat → Int, G = fun t => g h * f t - f h * g t := ⟨_, rfl⟩
          rw [← hG] at hcr hcnz hnx
          have hGz : ∀ t, t < c → (G t).natAbs < LB ^ K3 := fun t ht => by rw [hG]; exact hcz t ht
          refine Safe.loopN c (fun t => [(6, .mu β 0 r (some r)), (7, hsV (gproc n (Bm b) c).cs), (11, .int .i64 m), (12, .int .i64 h), (13, .int .i64 i), (14, .loc (lid A 0) 0 0), (15, .mu (lid A 1) 0 t none), (56, .int .i64 m), (57, .int .i64 i), (74, .int .i64 c), (75, .int .i64 t)])
            (fun t => hap (ax A β n (Yi X n (Bm b) c k i)) [some ⟨2, [Z (f h)]⟩, some ⟨2, (vec t G).map ZI.av⟩]) rfl rfl (fun t ht iht => ?_) ?_
          · have hlt2 : ((t : Int) < (c : Int)) = True := eq_true (by omega)
            have htw : IntKind.wrap .i64 ((t : Int) + 1) = ((t + 1 : Nat) : Int) := by rw [a0a] <;> omega
            have hm1 := a7N (canZ (g h)) (canZ (f t)) _ _ (hgl h hhc) (hfl t ht) (by omega)
            have hm2 := a7N (canZ (f h)) (canZ (g t)) _ _ (hfl h hhc) (hgl t ht) (by omega)
            have hs := d5w (a := g h * f t) (b := f h * g t) (k := KB e + 1 + K2) (a4l (hzm h hhc) (hzi t ht)) (by rw [Nat.add_comm]; exact a4l (hzi h hhc) (hzm t ht)) (by omega)
            rw [a0p, a0p] at hm1 hm2
            have hGt : Z (g h * f t - f h * g t) = Z (G t) := by rw [hG]
            rw [hGt] at hs
            refine Safe.inLoop ?_
            refine Safe.rg rfl ?_
            simp only [a7D, hlt2, E3, seval]
            refine Safe.cd rfl ?_
            simp only [E3, seval]
            refine Safe.rg rfl ?_
            simp only [b3w, E3, seval]
            refine Safe.rg rfl ?_
            simp only [b3v, a3U, a1A, a2a, a2m, d3x hA hir, X_at hA hin, d3x hA hmr, X_at hA hmn, hYi, hYm, a1g _ (vec c f) .i64 t (by rw [a0g]; exact ht), a1g _ (vec c g) .i64 h (by rw [a0g]; exact hhc), a5O, E3, seval]
            refine hm1.dcall ?_
            simp only [a3U, a1A, a2a, a2m, d3x hA hmr, X_at hA hmn, hYm, a1g _ (vec c g) .i64 t (by rw [a0g]; exact ht), a5O, E3, seval]
            refine hm2.dcall ?_
            simp only [E3, seval]
            refine hs.dcall ?_
            simp only [E3, seval]
            rw [e3p (bytes := 32) (y := Z (G t)) (hRef _) 1 (by show H.length ≤ _; unfold lid; omega) ZI.cl (vec t G) (canZ (G t)) (vec (t + 1) G) (by rw [a0g]) rfl (RC.one (Z_cl _) (RC.row ZI.cl RC.nil)) rfl (b1Y _ _) (by omega) (by omega)]
            simp only [E3, seval]
            refine Safe.rg rfl ?_
            simp only [b3u, htw, E3, seval]
            refine Safe.keep [6, 7, 11, 12, 13, 14, 15, 56, 57, 74, 75] ?_
            simp only [hnb, hnc, E3, seval]
            exact iht
          · refine Safe.inLoop ?_
            refine Safe.rg rfl ?_
            simp only [a7D, Int.lt_irrefl, E3, seval]
            refine Safe.cd rfl ?_
            simp only [E3, seval]
            have hfm : frz (lid A 1) ⟨2, (vec c G).map ZI.av⟩ (.mu (lid A 1) 0 c none) = vecV (vec c G) := b1x A 1 (vec c G) c none (by rw [a0g])
            have hfo : frz (lid A 1) ⟨2, (vec c G).map ZI.av⟩ (.mu β 0 r (some r)) = .mu β 0 r (some r) := a7x (.mu _ _ _ _ (by show β ≠ _; unfold lid; omega))
            have hfh : frz (lid A 1) ⟨2, (vec c G).map ZI.av⟩ (hsV (gproc n (Bm b) c).cs) = hsV (gproc n (Bm b) c).cs := a4V (b7E _)
            refine Safe.freezeX 1 (hRef _) hHA rfl (a1E 2 ZI.av _ ZI.cl) ?_
            refine Safe.keep [6, 7, 11, 12, 13, 15, 56, 57] ?_
            simp only [hfm, hfo, hfh, E3, seval]
            have hlowG := c5s (vec c G) (c8y hc hGz) (by
              obtain ⟨t, ht, h2⟩ := hcnz
              exact ⟨t, by rw [a0g]; exact ht, by rw [d8J ht]; exact h2⟩) (by omega)
            rw [a0g, c3D (g := a1J G c) fun t ht => b8H (fun t ht => d8J ht) ht] at hlowG
            refine Safe.rg rfl ?_
            simp only [b3t, E3, seval]
            refine hlowG.acall ?_
            simp only [a3U, a1A, a2a, a2m, d3x hA hir, X_st hA hin, hsucc _ (show vec c (a1J G c) = vec c (Fk n (Bm b) c (k + 1) i) by rw [hnx]), E3, seval]
            refine Safe.rg rfl ?_
            simp only [a7C, hiw, E3, seval]
            refine Safe.keep [6, 7, 11, 12, 56, 57] ?_
            simp only [E3, seval]
            refine Safe.dropX [some ⟨2, [Z (f h)]⟩] (hRef _) hHA (by simp only [List.all_cons, List.all_nil, hnb, hnc, E3, seval]) (RC.one (Z_cl _) RC.nil) ?_
            refine Safe.dropX [] (hRef _) hHA (by simp only [List.all_cons, List.all_nil, hnb, hnc, E3, seval]) (RC.nil) ?_
            exact ihi
      · refine Safe.inLoop ?_
        refine Safe.rg rfl ?_
        simp only [a7E, Int.lt_irrefl, E3, seval]
        refine Safe.cd rfl ?_
        simp only [E3, seval]
        have he := e7w X n (Bm b) c k
        rw [hcsl, ← hm] at he
        rw [he]
        have hw24 : IntKind.wrap .i64 ((m : Int) - 1) = (r : Int) - 1 - ((k + 1 : Nat) : Int) := by rw [a0a] <;> omega
        refine Safe.rg rfl ?_
        simp only [b3s, hw24, E3, seval]
        refine Safe.keep [6, 7, 11] ?_
        simp only [E3, seval]
        exact ih
    · have hge : ((r : Int) - 1 - (r : Int) ≥ 0) = False := eq_false (by omega)
      refine Safe.inLoop ?_
      refine Safe.rg rfl ?_
      simp only [a9A, hge, E3, seval]
      refine Safe.cd rfl ?_
      simp only [E3, seval]
      obtain ⟨L2, hL2⟩ : ∃ L2, hap (ax A β n (Yo X n (Bm b) c r)) [] = hap H L2 := by
        rw [hL']; exact e7p [] hβ (by rw [← hL']; exact hA)
      have hlook : L2[β - H.length]? = some (some ⟨1, (mat n (Yo X n (Bm b) c r)).map vecV⟩) := by
        have h1 : (hap (ax A β n (Yo X n (Bm b) c r)) [])[β]? = some (some ⟨1, (mat n (Yo X n (Bm b) c r)).map vecV⟩) := by
          rw [a1W]; unfold ax
          rw [a1L _ _ _ _ _ _ hA, if_pos rfl]
        rw [hL2] at h1
        simp only [hap] at h1
        rwa [List.getElem?_append_right hβ] at h1
      have hid : β = lid H (β - H.length) := by unfold lid; omega
      rw [hL2]
      refine Safe.freeze (β - H.length) hH rfl hlook (a1E 1 vecV _ a0e) ?_
      have hfm : frz (lid H (β - H.length)) ⟨1, (mat n (Yo X n (Bm b) c r)).map vecV⟩ (.mu β 0 r (some r)) = matV (a9W n (Bm b) c) := by
        have := c5K H (β - H.length) ⟨1, (mat n (Yo X n (Bm b) c r)).map vecV⟩ 0 r (some r) (by show 0 + r ≤ ((mat n (Yo X n (Bm b) c r)).map vecV).length; rw [List.length_map, a0f]; omega)
        rw [← hid] at this ⊢
        rw [this]
        show AV.sl 1 ((((mat n (Yo X n (Bm b) c r)).map vecV).drop 0).take r) = .sl 1 ((a9W n (Bm b) c).map vecV)
        rw [List.drop_zero, ← List.map_take]
        congr 2
        apply List.ext_getElem
        · rw [List.length_take, a0f, a9W, a0f, hcsl]; omega
        · intro t h1 h2
          have htr : t < r := by rw [a9W, a0f, hcsl] at h2; exact h2
          have hs : (a9W n (Bm b) c)[t] = vec c (a1J (outI ((a0t n (Bm b) c).M t) c) c) := a6f h2
          rw [List.getElem_take, a6f, hs]
          have := e7C (n := n) (c := c) hB hn64 (i := t) (by omega)
          rw [hcsl] at this
          unfold Yo
          rw [if_pos (by omega), this]
      have hfh : frz (lid H (β - H.length)) ⟨1, (mat n (Yo X n (Bm b) c r)).map vecV⟩ (hsV (gproc n (Bm b) c).cs) = hsV (gproc n (Bm b) c).cs := a4V (b7E _)
      refine Safe.keep [6, 7] ?_
      simp only [hfm, hfh, E3, seval]
      refine Safe.rg rfl ?_
      simp only [b3r, E3, seval]
      refine Safe.rt rfl ?_
      simp only [E3, seval]
      first | exact ⟨rfl, _, rfl⟩ | exact ⟨_, rfl⟩ | exact ⟨trivial, _, rfl⟩
end Go.Abs
set_option linter.unusedVariables false
set_option linter.unusedSimpArgs false
namespace Go.Abs
theorem e6X {H L : Heap} {β n : Nat} {O : List AV} {R : Nat → Option Blk} (hβ : H.length ≤ β) (hG : β + n < (hap H L).length) : ∃ L', hm (hap H L) β n O R = hap H L' := by
  refine ⟨(hm (hap H L) β n O R).drop H.length, ?_⟩
  have ht : (hm (hap H L) β n O R).take H.length = H := by
    apply List.ext_getElem?
    intro j
    rw [List.getElem?_take]
    have hl : (hap H L).length = H.length + L.length := by simp [hap]
    split
    · rename_i hj
      rw [a1L _ _ _ _ _ _ (by omega), if_neg (by omega), if_neg (by omega)]
      simp only [hap]
      rw [List.getElem?_append_left hj]
    · rename_i hj
      rw [List.getElem?_eq_none (by omega)]
  exact (List.take_append_drop H.length _).symm.trans (by rw [ht]; rfl)
/-- With the first m rows told. -/
def redM (m : Nat) (A : Heap) (β n c : Nat) (B : Nat → Nat → Rat) (r' : AV) (H' : Heap) : Prop := ∃ π S L, Lk n c π S (fun a b => Rv ((a0t n B c).M a b)) ∧ β + n < (hap A L).length ∧
  H' = hm (hap A L) (β) n (fr n fun i => if π i < m then .sl 4 (fr c (S (π i))) else .mu (β + 1 + π i) 0 c none) (fun j => if j < m then none else some ⟨4, fr c (S j)⟩) ∧ a0E H' ∧
  r' = .tup [.mu (β) 0 (gproc n B c).cs.length none, hsV (gproc n B c).cs, Rv (dv n B c)]
/-- The rows as values. -/
def redV (A : Heap) (n c : Nat) (B : Nat → Nat → Rat) (r' : AV) (H' : Heap) : Prop := H'[lid A 0]? = some (some ⟨1, fr n fun i => rvV ((a0t n B c).M i) c⟩) ∧ (∃ L, H' = hap A L) ∧ a0E H' ∧
  r' = .tup [.mu (lid A 0) 0 (gproc n B c).cs.length none, hsV (gproc n B c).cs, Rv (dv n B c)]
section
variable {B : Nat → Nat → Rat} {e n c : Nat} (hB : Bd e B) (hn : n ≤ 64 ∨ c ≤ 64) (hn2 : n ≤ 2097152) (hc : c ≤ 2097152) (hK : KB e + 1 < 1099511627776) {A : Heap} (hA : a0E A)
include hB hn hn2 hc hK hA
theorem c1D : ∀ m, m ≤ n → a0n Pr a1i [.mu (lid A 0) 0 n none, .int .i64 c] (hap A (a1x (lid A 0) n 4 c none fun j k => Rv (B j k))) (redM m A (lid A 0) n c B)
  | 0, _ => (c1E hB hn hn2 hc hK A).mono fun r' H' ⟨π, S, h1, h2, h3⟩ => by
    have hr := b2f (X := []) (n := n) (w := 4) (c := c) (oc := none) (S := fun j k => Rv (B j k)) hA (fun b hb => absurd hb (by simp)) fun _ _ _ _ => a4q _
    have hl : lid A 0 + n < (hap A (a1x (lid A 0) n 4 c none fun j k => Rv (B j k))).length := c2Y A [] n 4 c none _
    have e1 := d5e A [] n 4 c none fun j k => Rv (B j k)
    simp only [List.length_nil, List.nil_append] at hr e1
    rw [← e1] at hr
    refine ⟨π, S, _, h1, hl, ?_, ?_, h3⟩
    · rw [h2]
      refine a9w (a4F fun i hi => ?_) fun j hj => ?_
      · rw [if_neg (by omega)]
      · rw [if_neg (by omega)]
    · rw [h2]
      exact c5G hl hr h1.lt fun j k _ _ => h1.cl j k
  | m + 1, hmn => by
    refine (c1D m (by omega)).frz ?_
    rintro hH r' H' ⟨π, S, L, h1, h3, rfl, h5, rfl⟩
    have hb : A.length ≤ lid A 0 := a1v A 0
    generalize lid A 0 = β at *
    have hc : ∀ a ∈ (Blk.mk 4 (fr c (S m))).flat, Cl a := a4o fun k _ => h1.cl m k
    have hget : (hm (hap A L) β n (fr n fun i => if π i < m then .sl 4 (fr c (S (π i))) else .mu (β + 1 + π i) 0 c none) (fun j => if j < m then none else some ⟨4, fr c (S j)⟩))[β + 1 + m]? = some (some ⟨4, fr c (S m)⟩) := by
      rw [a1L _ _ _ _ _ _ (by omega), if_neg (by omega), if_pos (by omega), show β + 1 + m - (β + 1) = m by omega, if_neg (Nat.lt_irrefl m)]
    refine ⟨β + 1 + m, ⟨4, fr c (S m)⟩, hget, hc, ?_⟩
    have hfH : frzH (β + 1 + m) ⟨4, fr c (S m)⟩ (hap A L) = hap A ((frzL (β + 1 + m) ⟨4, fr c (S m)⟩ L).set (β + 1 + m - A.length) none) := by
      have := b7H hA (β + 1 + m - A.length) ⟨4, fr c (S m)⟩ L
      rwa [show lid A (β + 1 + m - A.length) = β + 1 + m by unfold lid; omega] at this
    refine ⟨π, S, (frzL (β + 1 + m) ⟨4, fr c (S m)⟩ L).set (β + 1 + m - A.length) none, h1, ?_, ?_, d2P h5 _ _, ?_⟩
    · rw [← hfH]; simp only [frzH, List.length_set, List.length_map]; exact h3
    · rw [e0B h3 (by omega), hfH]
      refine a9w ?_ fun j hj => ?_
      · unfold fr
        rw [List.map_map]
        refine List.map_congr_left fun i hi => ?_
        simp only [Function.comp]
        by_cases h : π i < m
        · rw [if_pos h, if_pos (by omega)]; simp only [frz]
        · rw [if_neg h]
          by_cases h2 : π i = m
          · rw [if_pos (by omega), h2]
            simp only [frz, if_true]
            rw [if_pos (show 0 + c ≤ (List.map (S m) (List.range c)).length by simp)]
            simp only [List.drop_zero]
            rw [List.take_of_length_le (by simp)]
          · rw [if_neg (by omega)]
            simp only [frz]
            rw [if_neg (by omega)]
      · by_cases hjm : j = m
        · rw [if_pos hjm, if_pos (by omega)]
        · rw [if_neg hjm]
          by_cases hlt : j < m
          · rw [if_pos hlt, if_pos (by omega)]; rfl
          · rw [if_neg hlt, if_neg (by omega)]
            simp only [Option.map_some, frzB]
            congr 2
            refine (List.map_congr_left (g := fun x => x) fun a ha => ?_).trans (List.map_id' _)
            obtain ⟨k, hk, rfl⟩ := d2Y ha
            exact a4V (h1.cl j k)
    · simp only [frz, List.map_cons, List.map_nil]
      rw [if_neg (by omega)]
      have e1 := a4V (id := β + 1 + m) (b := ⟨4, fr c (S m)⟩) (b7E (gproc n B c).cs)
      have e2 := a4V (id := β + 1 + m) (b := ⟨4, fr c (S m)⟩) (a4q (dv n B c))
      rw [e1, e2]
theorem c1C : a0n Pr a1i [.mu (lid A 0) 0 n none, .int .i64 c] (hap A (a1x (lid A 0) n 4 c none fun j k => Rv (B j k))) (redV A n c B) := by
  refine (c1D hB hn hn2 hc hK hA n (Nat.le_refl n)).mono ?_
  rintro r' H' ⟨π, S, L, h1, h3, rfl, h5, rfl⟩
  refine ⟨?_, e6X (a1v A 0) h3, h5, rfl⟩
  rw [a1L _ _ _ _ _ _ (by omega), if_pos rfl]
  congr 3
  refine a4F fun i hi => ?_
  rw [if_pos (h1.lt i hi)]
  unfold rvV
  congr 1
  exact a4F fun k hk => h1.at_ i k hi hk
end
end Go.Abs
set_option linter.unusedVariables false
set_option linter.unusedSimpArgs false
namespace Go.Abs
theorem e6k {A : Heap} {β : Nat} {x : Blk} (h : A[β]? = some (some x)) (L : Heap) : hrow (hap A L) β = some x := by
  unfold hrow hap
  rw [List.getElem?_append_left (a0k h), h]; rfl
theorem e3B {A : Heap} {β : Nat} {x : Blk} (h : A[β]? = some (some x)) (L : Heap) (len : Nat) (oc : Option Nat) : lenV (hap A L) (.mu β 0 len oc) = some (.int .i64 len) := by
  simp only [lenV, e6k h L]; rfl
theorem e7D {A : Heap} {β : Nat} {xs : List AV} (h : A[β]? = some (some ⟨1, xs⟩)) (L : Heap) {j len : Nat} (hj : j < len) (oc : Option Nat) (k : IntKind) : idxV (hap A L) 1 (.mu β 0 len oc) (.int k j) = some (.loc β j 0) := by
  rw [b4M _ _ _ _ _ _ _ _ (by omega) (by omega), e6k h L]; simp
theorem B_at {A : Heap} {β n : Nat} {f : Nat → AV} (h : A[β]? = some (some ⟨1, fr n f⟩)) (hc : ∀ j, j < n → (f j).cells = [f j]) (L : Heap) {j : Nat} (hj : j < n) : atV (hap A L) (.loc β j 0) = some [f j] := by
  rw [a9M, e6k h L]
  simp only [Option.bind_some, b7J]
  rw [if_pos hj, d6q hj, hc j hj]; rfl
end Go.Abs
set_option linter.unusedVariables false
set_option linter.unusedSimpArgs false
namespace Go.Abs
def gcdF (d : Int) (q : Nat → Int) : Nat → Nat
  | 0 => d.natAbs
  | n + 1 => Int.gcd (gcdF d q n) (q n)
def sgD (d : Int) : Int := if d < 0 then -1 else 1
theorem b7F (d : Int) (q : Nat → Int) : ∀ n, (gcdF d q n : Int) ∣ d
  | 0 => by rw [gcdF]; exact Int.natAbs_dvd.2 (Int.dvd_refl d)
  | n + 1 => Int.dvd_trans (Int.gcd_dvd_left ..) (b7F d q n)
theorem d6m (d : Int) (q : Nat → Int) : ∀ {n i : Nat}, i < n → (gcdF d q n : Int) ∣ q i
  | 0, _, h => absurd h (by omega)
  | n + 1, i, h => by
    rw [gcdF]
    by_cases e : i = n
    · subst e; exact Int.gcd_dvd_right ..
    · exact Int.dvd_trans (Int.gcd_dvd_left ..) (d6m d q (by omega))
theorem e0v {d : Int} (hd : d ≠ 0) (q : Nat → Int) (n : Nat) : gcdF d q n ≠ 0 := fun h => by
  have := b7F d q n
  rw [h] at this
  exact hd (Int.zero_dvd.1 this)
theorem e5b {d : Int} (hd : d ≠ 0) (q : Nat → Int) (n : Nat) : gcdF d q n ≤ d.natAbs := Nat.le_of_dvd (by omega) (Int.ofNat_dvd_left.1 (b7F d q n))
theorem d2T (c d : Int) (q p : Nat → Int) : ∀ n, (∀ i, i < n → p i = c * q i) → gcdF (c * d) p n = c.natAbs * gcdF d q n
  | 0, _ => by rw [gcdF, gcdF, Int.natAbs_mul]
  | n + 1, h => by
    rw [gcdF, gcdF, d2T c d q p n fun i hi => h i (by omega), h n (by omega)]
    rw [Int.gcd, Int.gcd, Int.natAbs_mul, Int.natAbs_natCast, Int.natAbs_natCast, Nat.gcd_mul_left]
/-- Over the least denominator nothing more can be taken out. -/
theorem e2B (x : Nat → Rat) (n : Nat) : gcdF (a0K x n) (outI x n) n = 1 := by
  have hL := a8h x n
  have hL0 : (a0K x n : Int) ≠ 0 := by omega
  have hg := e0v hL0 (outI x n) n
  obtain ⟨l, hl⟩ := b7F (a0K x n) (outI x n) n
  have hd := fun i (hi : i < n) => d6m (a0K x n) (outI x n) hi
  generalize gcdF (a0K x n) (outI x n) n = g at *
  have hl0 : l ≠ 0 := fun e => hL0 (by rw [hl, e, Int.mul_zero])
  have hdv : a0K x n ∣ l.natAbs := b1t fun i hi => by
    obtain ⟨o, ho⟩ := hd i hi
    refine d3j (z := o) hl0 ?_
    have h1 := b8I x hi
    have h2 : ((a0K x n : Nat) : Rat) = (((a0K x n : Nat) : Int) : Rat) := rfl
    rw [ho, h2, hl, Rat.intCast_mul, Rat.intCast_mul] at h1
    have hgr : (((g : Nat) : Int) : Rat) ≠ 0 := fun e => hg (by have := Rat.intCast_inj.1 (show (((g : Nat) : Int) : Rat) = ((0 : Int) : Rat) from e); omega)
    have h3 : (((g : Nat) : Int) : Rat) * ((l : Rat) * x i - (o : Rat)) = 0 := by grind
    rcases Rat.mul_eq_zero.1 h3 with h | h
    · exact absurd h hgr
    · grind
  obtain ⟨k, hk⟩ := hdv
  have h1 : a0K x n = g * l.natAbs := by
    have := congrArg Int.natAbs hl
    rwa [Int.natAbs_natCast, Int.natAbs_mul, Int.natAbs_natCast] at this
  rw [hk] at h1
  have h2 : a0K x n * 1 = a0K x n * (g * k) := by rw [Nat.mul_one, Nat.mul_left_comm]; exact h1
  exact Nat.eq_one_of_mul_eq_one_right (Nat.eq_of_mul_eq_mul_left hL h2).symm
/-- Numbers over one denominator, brought into lowest terms. -/
theorem d8U {d : Int} (hd : d ≠ 0) {q : Nat → Int} {x : Nat → Rat} {n : Nat} (h : ∀ i, i < n → ((q i : Int) : Rat) = (d : Rat) * x i) :
    d = sgD d * (gcdF d q n : Int) * (a0K x n : Int) ∧ ∀ i, i < n → q i = sgD d * (gcdF d q n : Int) * outI x n i := by
  have hL := a8h x n
  have hdv : (a0K x n : Int) ∣ d := Int.ofNat_dvd_left.2 (b1t fun i hi => d3j hd (h i hi).symm)
  obtain ⟨c, hc⟩ := hdv
  have hq : ∀ i, i < n → q i = c * outI x n i := fun i hi => by
    refine Rat.intCast_inj.1 ?_
    rw [h i hi, hc, Rat.intCast_mul, Rat.intCast_mul, ← b8I x hi]
    have h3 : (((a0K x n : Nat) : Int) : Rat) = ((a0K x n : Nat) : Rat) := rfl
    rw [h3]
    grind
  have hg : gcdF d q n = c.natAbs := by
    rw [hc, Int.mul_comm, d2T c (a0K x n) (outI x n) q n hq, e2B, Nat.mul_one]
  have hs : sgD d * (c.natAbs : Int) = c := by
    unfold sgD
    by_cases hn : d < 0
    · rw [if_pos hn]
      have : c < 0 := Classical.byContradiction fun hge => by
        have := Int.mul_nonneg (show (0 : Int) ≤ (a0K x n : Int) by omega) (show 0 ≤ c by omega)
        omega
      omega
    · rw [if_neg hn]
      have : 0 ≤ c := Classical.byContradiction fun hlt => by
        have := Int.mul_neg_of_pos_of_neg (show (0 : Int) < (a0K x n : Int) by omega) (show c < 0 by omega)
        omega
      omega
  rw [hg, hs]
  exact ⟨by rw [Int.mul_comm]; exact hc, hq⟩
theorem d6Y (q P : Nat → Int) (d D : Int) {n K : Nat} (hq : ∀ i, i < n → (q i).natAbs < LB ^ K) (hd : d.natAbs < LB ^ K) (hK : K < 17592186043000) (hn : n ≤ 2097152) (hd0 : d ≠ 0)
    (hD : d = sgD d * (gcdF d q n : Int) * D) (hP : ∀ i, i < n → q i = sgD d * (gcdF d q n : Int) * P i) : a0d Pr a7k [vecV (vec n q), Z d] (.tup [vecV (vec n P), Z D]) := by
  have hgl : ∀ i, gcdF d q i < LB ^ K := fun i => Nat.lt_of_le_of_lt (e5b hd0 q i) hd
  have hg0 := e0v hd0 q n
  have hvq : Vok K (vec n q) := c8y hn hq
  have hzq : ∀ i, (h : i < n) → Zok K (canZ (q i)) := fun i hi => a0l (hq i hi)
  refine a0d.intro d0c d0a (Nat.le_of_ble_eq_true rfl) (b1Q (a0e _) (Z_cl _)) fun H hH => ?_
  refine Safe.rg rfl ?_
  simp only [b7T, E3, seval]
  refine Safe.rg rfl ?_
  simp only [b7S, E3, seval]
  refine (d8L (canZ d) ((a0l hd).mono (by omega))).acall ?_
  simp only [a0p, E3, seval]
  refine Safe.rg rfl ?_
  simp only [b7R, c8H, a0g, E3, seval]
  refine Safe.lp rfl ?_
  refine Safe.keep [0, 3, 4, 5, 6, 20, 21, 22] ?_
  try simp only [E3, seval]
  refine Safe.loopN (n) (fun i => [(0, vecV (vec n q)), (3, .loc (lid H 0) 0 0), (4, .nil), (5, .loc (lid H 1) 0 0), (6, .loc (lid H 2) 0 0), (20, vecV (vec n q)), (21, .int .i64 n), (22, .int .i64 i)]) (fun i => hap H [some ⟨2, [Z d]⟩, some ⟨2, [.agg [.bool false, .nil]]⟩, some ⟨2, [Z (gcdF d q i : Nat)]⟩]) rfl rfl (fun i hi ih => ?_) ?_
  · have hlt : ((i : Int) < (n : Int)) = True := eq_true (by omega)
    have hiw : IntKind.wrap .i64 ((i : Int) + 1) = ((i + 1 : Nat) : Int) := by rw [a0a] <;> omega
    refine Safe.inLoop ?_
    refine Safe.rg rfl ?_
    simp only [a9z, hlt, E3, seval]
    refine Safe.cd rfl ?_
    simp only [E3, seval]
    refine Safe.rg rfl ?_
    simp only [b7Q, a1g _ (vec n q) _ i (by rw [a0g]; exact hi), a5O, E3, seval]
    refine Safe.rg rfl ?_
    simp only [b7P, E3, seval]
    have hg := d0G (canZ (gcdF d q i : Nat)) (canZ (q i)) K (a0l (by exact hgl i)) (hzq i hi) (by omega)
    rw [a0p, a0p] at hg
    refine hg.acall ?_
    simp only [E3, seval]
    refine Safe.rg rfl ?_
    simp only [b7O, hiw, E3, seval]
    refine Safe.keep [0, 3, 4, 5, 6, 20, 21, 22] ?_
    simp only [E3, seval]
    refine Safe.drop3 hH rfl (by simp only [List.all_cons, List.all_nil, E3, seval]) (by repeat (first | exact RC.nil | refine RC.none ?_ | refine RC.row ZI.cl ?_ | refine RC.cons (a0m _) ?_ | refine RC.row a0e ?_ | refine RC.emp ?_ | refine RC.zero ?_ | refine RC.one (Z_cl _) ?_ | refine RC.one (ZI.cl _) ?_ | refine RC.one (a0e _) ?_)) ?_
    exact ih
  · refine Safe.inLoop ?_
    refine Safe.rg rfl ?_
    simp only [a9z, Int.lt_irrefl, E3, seval]
    refine Safe.cd rfl ?_
    simp only [E3, seval]
    refine Safe.rg rfl ?_
    simp only [b7N, E3, seval]
    refine (a1w (canZ d) ((a0l hd).mono (by omega))).acall ?_
    simp only [a0p, E3, seval]
    have main : ∀ Q : Int, Q = sgD d * (gcdF d q n : Int) → Safe ⟨Pr, fun _ _ => false, a7k, 62, [.tmp 4, .cell 5 (some 2)], H.length⟩
        [.code ((ACode.region a9y false).seq (((ACode.region a7B false).seq (.block 2 (.loop b7U))).seq ((ACode.region a7z false).seq ((ACode.region a7y true).seq .ret))))]
        [(0, vecV (vec n q)), (3, .loc (lid H 0) 0 0), (4, .nil), (5, .loc (lid H 1) 0 0), (6, .loc (lid H 2) 0 0)] (hap H [some ⟨2, [Z d]⟩, some ⟨2, [.agg [.bool false, .nil]]⟩, some ⟨2, [Z Q]⟩]) fun r' H' => r' = .tup [vecV (vec n P), Z D] ∧ ∃ L, H' = hap H L := by
      intro Q hQ
      have hs1 : sgD d = 1 ∨ sgD d = -1 := by unfold sgD; split <;> simp
      have hQ0 : Q ≠ 0 := by rw [hQ]; exact Int.mul_ne_zero (by rcases hs1 with h | h <;> omega) (by omega)
      have hQk : Q.natAbs < LB ^ K := by
        have : Q.natAbs = gcdF d q n := by
          rw [hQ, Int.natAbs_mul]
          rcases hs1 with h | h <;> rw [h] <;> simp
        rw [this]; exact hgl _
      refine Safe.rg rfl ?_
      simp only [a9y, E3, seval]
      refine Safe.nilrow 9 2 (by decide) (by simp only [E3, seval]) ?_
      refine Safe.rg rfl ?_
      simp only [a7B, c8H, a0g, E3, seval]
      refine Safe.lp rfl ?_
      refine Safe.keep [3, 4, 5, 6, 9, 35, 36, 37] ?_
      try simp only [E3, seval]
      refine Safe.loopN (n) (fun i => [(3, .loc (lid H 0) 0 0), (4, .nil), (5, .loc (lid H 1) 0 0), (6, .loc (lid H 2) 0 0), (9, .mu (lid H 3) 0 i none), (35, vecV (vec n q)), (36, .int .i64 n), (37, .int .i64 i)]) (fun i => hap H [some ⟨2, [Z d]⟩, some ⟨2, [.agg [.bool false, .nil]]⟩, some ⟨2, [Z Q]⟩, some ⟨2, (vec i P).map ZI.av⟩]) rfl rfl (fun i hi ih => ?_) ?_
      · have hlt : ((i : Int) < (n : Int)) = True := eq_true (by omega)
        have hiw : IntKind.wrap .i64 ((i : Int) + 1) = ((i + 1 : Nat) : Int) := by rw [a0a] <;> omega
        refine Safe.inLoop ?_
        refine Safe.rg rfl ?_
        simp only [a7A, hlt, E3, seval]
        refine Safe.cd rfl ?_
        simp only [E3, seval]
        refine Safe.rg rfl ?_
        simp only [b3q, a1g _ (vec n q) _ i (by rw [a0g]; exact hi), a5O, E3, seval]
        refine Safe.rg rfl ?_
        simp only [b3p, E3, seval]
        have hfl := a4N (canZ (q i)) (canZ Q) K (hzq i hi) (a0l hQk) (by omega) (P i) (by rw [a0p]; exact hQ0) (by rw [a0p, a0p, hQ]; exact hP i hi)
        refine hfl.acall ?_
        simp only [E3, seval]
        refine Safe.rg rfl ?_
        simp only [b3o, E3, seval]
        rw [a5p hH 3 (a1v H 3) ZI.cl (vec i P) (canZ (P i)) (vec (i + 1) P) ?hlen ?hl ?hL ?hy ?hl2 ?hb ?hbb]
        case hlen => first | rfl | (simp only [a0g, a0f, List.length_map, List.length_take]; done) | (simp only [a0g, a0f, List.length_map, List.length_take]; omega)
        case hl => rfl
        case hL => repeat (first | exact RC.nil | refine RC.none ?_ | refine RC.row ZI.cl ?_ | refine RC.cons (a0m _) ?_ | refine RC.row a0e ?_ | refine RC.emp ?_ | refine RC.zero ?_ | refine RC.one (Z_cl _) ?_ | refine RC.one (ZI.cl _) ?_ | refine RC.one (a0e _) ?_)
        case hy => rfl
        case hl2 => first | exact b1Y _ _ | exact a6U _ _ | exact b0J _ (by omega) | exact a3y _ _ (by omega)
        case hb => omega
        case hbb => omega
        simp only [E3, seval]
        refine Safe.rg rfl ?_
        simp only [b3n, hiw, E3, seval]
        refine Safe.keep [3, 4, 5, 6, 9, 35, 36, 37] ?_
        simp only [E3, seval]
        refine Safe.dropC (L := [_, _, _, _, _, _]) hH rfl (by simp only [List.all_cons, List.all_nil, E3, seval]) (by repeat (first | exact RC.nil | refine RC.none ?_ | refine RC.row ZI.cl ?_ | refine RC.cons (a0m _) ?_ | refine RC.row a0e ?_ | refine RC.emp ?_ | refine RC.zero ?_ | refine RC.one (Z_cl _) ?_ | refine RC.one (ZI.cl _) ?_ | refine RC.one (a0e _) ?_)) ?_
        refine Safe.dropC (L := [_, _, _, _, _]) hH rfl (by simp only [List.all_cons, List.all_nil, E3, seval]) (by repeat (first | exact RC.nil | refine RC.none ?_ | refine RC.row ZI.cl ?_ | refine RC.cons (a0m _) ?_ | refine RC.row a0e ?_ | refine RC.emp ?_ | refine RC.zero ?_ | refine RC.one (Z_cl _) ?_ | refine RC.one (ZI.cl _) ?_ | refine RC.one (a0e _) ?_)) ?_
        refine Safe.drop4 hH rfl (by simp only [List.all_cons, List.all_nil, E3, seval]) (by repeat (first | exact RC.nil | refine RC.none ?_ | refine RC.row ZI.cl ?_ | refine RC.cons (a0m _) ?_ | refine RC.row a0e ?_ | refine RC.emp ?_ | refine RC.zero ?_ | refine RC.one (Z_cl _) ?_ | refine RC.one (ZI.cl _) ?_ | refine RC.one (a0e _) ?_)) ?_
        exact ih
      · refine Safe.inLoop ?_
        refine Safe.rg rfl ?_
        simp only [a7A, Int.lt_irrefl, E3, seval]
        refine Safe.cd rfl ?_
        simp only [E3, seval]
        refine Safe.freeze 3 hH rfl rfl (a1E 2 ZI.av _ ZI.cl) ?_
        refine Safe.keep [3, 4, 5, 6, 9] ?_
        simp only [b1x H 3 (vec n P) (n) (none) (by simp only [a0g, a0f]), a2x, a0N, a4m, a6h, E3, seval]
        refine Safe.rg rfl ?_
        simp only [a7z, E3, seval]
        have hfl := a4N (canZ d) (canZ Q) K (a0l hd) (a0l hQk) (by omega) D (by rw [a0p]; exact hQ0) (by rw [a0p, a0p, hQ]; exact hD)
        refine hfl.acall ?_
        simp only [E3, seval]
        refine Safe.rg rfl ?_
        simp only [a7y, E3, seval]
        refine Safe.rt rfl ?_
        simp only [E3, seval]
        first | exact ⟨rfl, _, rfl⟩ | exact ⟨_, rfl⟩ | exact ⟨trivial, _, rfl⟩
    by_cases hng : d < 0
    · have hc : (d.sign < 0) = True := eq_true (Int.sign_neg_iff.2 hng)
      simp only [hc, E3, seval]
      refine Safe.cd rfl ?_
      simp only [E3, seval]
      refine Safe.rg rfl ?_
      simp only [b7M, E3, seval]
      have hn2 := c3j (canZ (gcdF d q n : Nat)) ((a0l (by exact hgl _)).mono (by omega))
      rw [a0p] at hn2
      refine hn2.acall ?_
      simp only [E3, seval]
      refine Safe.keep [0, 3, 4, 5, 6] ?_
      simp only [E3, seval]
      exact main _ (by rw [sgD, if_pos hng, Int.neg_mul, Int.one_mul])
    · have hc : (d.sign < 0) = False := eq_false fun h => hng (Int.sign_neg_iff.1 h)
      simp only [hc, E3, seval]
      refine Safe.cd rfl ?_
      simp only [E3, seval]
      refine Safe.keep [0, 3, 4, 5, 6] ?_
      simp only [E3, seval]
      refine Safe.skip ?_
      exact main _ (by rw [sgD, if_neg hng, Int.one_mul])
end Go.Abs
set_option linter.unusedVariables false
set_option linter.unusedSimpArgs false
namespace Go.Abs
theorem d9r (x : Nat → Rat) {c K : Nat} (hS : Sz x c K) (hc : c ≤ 2097152) (hK : K + K + K < 17592186043000) : a0d Pr a7M [rvV x c] (.tup [vecV (vec c (outI x c)), Z (a0K x c : Nat)]) := by
  have hlc := fun n (h : n ≤ c) => e3Q hS h
  have hdl := fun i (h : i < c) => e7l hS h
  have hol := fun i (h : i < c) => d5V hS h
  have hnl := fun i (h : i < c) => e6S hS h
  have hl0 := a8h x
  refine a0d.intro c3V c3S (Nat.le_of_ble_eq_true rfl) (b1Q (a0e _) (Z_cl _)) fun H hH => ?_
  refine Safe.rg rfl ?_
  simp only [b0X, E3, seval]
  refine Safe.rg rfl ?_
  simp only [b0W, E3, seval]
  first | refine (a3J 1 (by decide) (by decide)).acall ?_ | refine (a3J 1 (by decide) (by decide)).dcall ?_
  try simp only [E3, seval]
  refine Safe.rg rfl ?_
  simp only [b0V, E3, seval]
  refine Safe.lp rfl ?_
  refine Safe.keep [0, 2, 3, 4, 5] ?_
  try simp only [E3, seval]
  refine Safe.loopN (c) (fun i => [(0, rvV x c), (2, .nil), (3, .loc (lid H 0) 0 0), (4, .loc (lid H 1) 0 0), (5, .int .i64 i)]) (fun i => hap H [some ⟨2, [.agg [.bool false, .nil]]⟩, some ⟨2, [Z (a0K x i : Nat)]⟩]) rfl rfl (fun i hi ih => ?_) ?_
  · have hlt : ((i : Int) < (c : Int)) = True := eq_true (by omega)
    have hiw : IntKind.wrap .i64 ((i : Int) + 1) = ((i + 1 : Nat) : Int) := by rw [a0a] <;> omega
    have hli := hlc i (by omega)
    have hdi := hdl i hi
    have hl1 := hlc (i + 1) (by omega)
    have hsucc : a0K x (i + 1) = a0K x i * ((x i).den / Nat.gcd (a0K x i) (x i).den) := rfl
    have hg0 : Nat.gcd (a0K x i) (x i).den ≠ 0 := fun h => by have := Nat.gcd_eq_zero_iff.1 h; have := hl0 i; omega
    have hgk : Nat.gcd (a0K x i) (x i).den < LB ^ K := d6j hli hdi
    refine Safe.inLoop ?_
    refine Safe.rg rfl ?_
    simp only [a5R, d5L, hlt, E3, seval]
    refine Safe.cd rfl ?_
    simp only [E3, seval]
    refine Safe.rg rfl ?_
    simp only [b0U, c6Q _ x .i64 hi, e1q, E3, seval]
    have hg := d7w (canZ (a0K x i : Nat)) (dZ (x i).den) K (a0l (by exact hli)) (b9q hdi) (by omega)
    rw [a0p, dZ_z] at hg
    refine hg.dcall ?_
    simp only [E3, seval]
    have hfl := c1F (dZ (x i).den) (canZ ((Nat.gcd (a0K x i) (x i).den : Nat) : Int)) K (b9q hdi) (a0l (by exact hgk)) (by omega) (by rw [a0p]; omega)
    rw [a0p, dZ_z] at hfl
    have hq : ((x i).den : Int).fdiv ((Nat.gcd (a0K x i) (x i).den : Nat) : Int) = (((x i).den / Nat.gcd (a0K x i) (x i).den : Nat) : Int) := by
      rw [Int.fdiv_eq_ediv_of_nonneg _ (Int.natCast_nonneg _)]; rfl
    rw [hq] at hfl
    have hqk : (x i).den / Nat.gcd (a0K x i) (x i).den < LB ^ K := Nat.lt_of_le_of_lt (Nat.div_le_self _ _) hdi
    refine Safe.rx rfl (by simp only [a4O, a6L, a4T, E3, seval]) ?_
    simp only [b0T, b0h, b0g, c6Q _ x .i64 hi, e1q, a0C, E3, seval]
    refine hfl.dcall ?_
    simp only [E3, seval]
    refine ⟨?_, ?_⟩
    all_goals
      refine Safe.rg rfl ?_
      simp only [b0S, E3, seval]
      have hm := c4e (a := ((a0K x i : Nat) : Int)) (b := (((x i).den / Nat.gcd (a0K x i) (x i).den : Nat) : Int)) (k := K) (l := K) (by exact hli) (by exact hqk) (by omega)
      rw [← Int.natCast_mul, ← hsucc] at hm
      refine hm.acall ?_
      simp only [E3, seval]
      refine Safe.rg rfl ?_
      simp only [b0R, hiw, E3, seval]
      refine Safe.keep [0, 2, 3, 4, 5] ?_
      simp only [E3, seval]
      refine Safe.drop4 hH rfl (by simp only [List.all_cons, List.all_nil, b2b, E3, seval]) (by repeat (first | exact RC.nil | refine RC.none ?_ | refine RC.row ZI.cl ?_ | refine RC.cons (a0m _) ?_ | refine RC.row a0e ?_ | refine RC.emp ?_ | refine RC.zero ?_ | refine RC.one (Z_cl _) ?_ | refine RC.one (ZI.cl _) ?_ | refine RC.one (a0e _) ?_)) ?_
      refine Safe.drop3 hH rfl (by simp only [List.all_cons, List.all_nil, b2b, E3, seval]) (by repeat (first | exact RC.nil | refine RC.none ?_ | refine RC.row ZI.cl ?_ | refine RC.cons (a0m _) ?_ | refine RC.row a0e ?_ | refine RC.emp ?_ | refine RC.zero ?_ | refine RC.one (Z_cl _) ?_ | refine RC.one (ZI.cl _) ?_ | refine RC.one (a0e _) ?_)) ?_
      refine Safe.drop2 hH rfl (by simp only [List.all_cons, List.all_nil, b2b, E3, seval]) (by repeat (first | exact RC.nil | refine RC.none ?_ | refine RC.row ZI.cl ?_ | refine RC.cons (a0m _) ?_ | refine RC.row a0e ?_ | refine RC.emp ?_ | refine RC.zero ?_ | refine RC.one (Z_cl _) ?_ | refine RC.one (ZI.cl _) ?_ | refine RC.one (a0e _) ?_)) ?_
      exact ih
  · refine Safe.inLoop ?_
    refine Safe.rg rfl ?_
    simp only [a5R, d5L, Int.lt_irrefl, E3, seval]
    refine Safe.cd rfl ?_
    simp only [E3, seval]
    refine Safe.rg rfl ?_
    simp only [b0Q, E3, seval]
    refine Safe.nilrow 9 2 (by decide) (by simp only [E3, seval]) ?_
    refine Safe.rg rfl ?_
    simp only [b0P, E3, seval]
    have hL := hlc c (Nat.le_refl c)
    have hL0 := hl0 c
    refine Safe.lp rfl ?_
    refine Safe.keep [0, 2, 3, 4, 9, 10] ?_
    try simp only [E3, seval]
    refine Safe.loopN (c) (fun i => [(0, rvV x c), (2, .nil), (3, .loc (lid H 0) 0 0), (4, .loc (lid H 1) 0 0), (9, .mu (lid H 2) 0 i none), (10, .int .i64 i)]) (fun i => hap H [some ⟨2, [.agg [.bool false, .nil]]⟩, some ⟨2, [Z (a0K x c : Nat)]⟩, some ⟨2, (vec i (outI x c)).map ZI.av⟩]) rfl rfl (fun i hi ih => ?_) ?_
    · have hlt : ((i : Int) < (c : Int)) = True := eq_true (by omega)
      have hiw : IntKind.wrap .i64 ((i : Int) + 1) = ((i + 1 : Nat) : Int) := by rw [a0a] <;> omega
      have hdi := hdl i hi
      have hd0 := (x i).den_pos
      have hni := hnl i hi
      have hoi := hol i hi
      refine Safe.inLoop ?_
      refine Safe.rg rfl ?_
      simp only [a5c, d5L, hlt, E3, seval]
      refine Safe.cd rfl ?_
      simp only [E3, seval]
      have hfl := c1F (canZ ((a0K x c : Nat) : Int)) (dZ (x i).den) K (a0l (by exact hL)) (b9q hdi) (by omega) (by rw [dZ_z]; omega)
      rw [a0p, dZ_z] at hfl
      have hq : ((a0K x c : Nat) : Int).fdiv ((x i).den : Int) = ((a0K x c / (x i).den : Nat) : Int) := by
        rw [Int.fdiv_eq_ediv_of_nonneg _ (Int.natCast_nonneg _)]; rfl
      rw [hq] at hfl
      have hqk : a0K x c / (x i).den < LB ^ K := Nat.lt_of_le_of_lt (Nat.div_le_self _ _) hL
      refine Safe.rx rfl (by simp only [a4O, a6L, a4T, E3, seval]) ?_
      simp only [b0l, a7Z, a7Y, c6Q _ x .i64 hi, e1q, a0C, E3, seval]
      refine hfl.dcall ?_
      simp only [E3, seval]
      refine ⟨?_, ?_⟩
      all_goals
        refine Safe.rg rfl ?_
        simp only [b0k, c6Q _ x .i64 hi, e7A, a0C, E3, seval]
        have hm := c4e (a := (x i).num) (b := ((a0K x c / (x i).den : Nat) : Int)) (k := K) (l := K) hni (by exact hqk) (by omega)
        refine hm.dcall ?_
        simp only [E3, seval]
        rw [a5p hH 2 (a1v H 2) ZI.cl (vec i (outI x c)) (canZ (outI x c i)) (vec (i + 1) (outI x c)) ?hlen ?hl ?hL ?hy ?hl2 ?hb ?hbb]
        case hlen => first | rfl | (simp only [a0g, a0f, List.length_map, List.length_take]; done) | (simp only [a0g, a0f, List.length_map, List.length_take]; omega)
        case hl => rfl
        case hL => repeat (first | exact RC.nil | refine RC.none ?_ | refine RC.row ZI.cl ?_ | refine RC.cons (a0m _) ?_ | refine RC.row a0e ?_ | refine RC.emp ?_ | refine RC.zero ?_ | refine RC.one (Z_cl _) ?_ | refine RC.one (ZI.cl _) ?_ | refine RC.one (a0e _) ?_)
        case hy => rfl
        case hl2 => first | exact b1Y _ _ | exact a6U _ _ | exact b0J _ (by omega) | exact a3y _ _ (by omega)
        case hb => omega
        case hbb => omega
        simp only [b2b, E3, seval]
        refine Safe.rg rfl ?_
        simp only [b0j, hiw, E3, seval]
        refine Safe.keep [0, 2, 3, 4, 9, 10] ?_
        simp only [E3, seval]
        refine Safe.drop4 hH rfl (by simp only [List.all_cons, List.all_nil, b2b, E3, seval]) (by repeat (first | exact RC.nil | refine RC.none ?_ | refine RC.row ZI.cl ?_ | refine RC.cons (a0m _) ?_ | refine RC.row a0e ?_ | refine RC.emp ?_ | refine RC.zero ?_ | refine RC.one (Z_cl _) ?_ | refine RC.one (ZI.cl _) ?_ | refine RC.one (a0e _) ?_)) ?_
        refine Safe.drop3 hH rfl (by simp only [List.all_cons, List.all_nil, b2b, E3, seval]) (by repeat (first | exact RC.nil | refine RC.none ?_ | refine RC.row ZI.cl ?_ | refine RC.cons (a0m _) ?_ | refine RC.row a0e ?_ | refine RC.emp ?_ | refine RC.zero ?_ | refine RC.one (Z_cl _) ?_ | refine RC.one (ZI.cl _) ?_ | refine RC.one (a0e _) ?_)) ?_
        exact ih
    · refine Safe.inLoop ?_
      refine Safe.rg rfl ?_
      simp only [a5c, d5L, Int.lt_irrefl, E3, seval]
      refine Safe.cd rfl ?_
      simp only [E3, seval]
      refine Safe.freeze 2 hH rfl rfl (a1E 2 ZI.av _ ZI.cl) ?_
      refine Safe.keep [2, 3, 4, 9] ?_
      simp only [b1x H 2 (vec c (outI x c)) (c) (none) (by simp only [a0g, a0f]), a2x, a0N, a4m, a6h, E3, seval]
      refine Safe.rg rfl ?_
      simp only [b0i, E3, seval]
      refine Safe.rt rfl ?_
      simp only [E3, seval]
      first | exact ⟨rfl, _, rfl⟩ | exact ⟨_, rfl⟩ | exact ⟨trivial, _, rfl⟩
/-- An entry as it stands. -/
def eg (v : List ZI) (i : Nat) : ZI := v.getD i ⟨false, []⟩
theorem d0l {v : List ZI} {i : Nat} (h : i < v.length) : eg v i = v[i] := by simp [eg, h]
theorem eg_z (v : List ZI) (i : Nat) : (eg v i).z = zg v i := rfl
def colR (b : List (List ZI)) (k n : Nat) : List ZI := (List.range n).map fun i => eg (mg b i) k
theorem a7c (b : List (List ZI)) (k n : Nat) : (colR b k n).length = n := by simp [colR]
theorem e0Q (b : List (List ZI)) (k n : Nat) : colR b k (n + 1) = colR b k n ++ [eg (mg b n) k] := by simp [colR, List.range_succ]
/-- The columns, each with more behind it. -/
def a3O (b more : List (List ZI)) (m : Nat) : List (List ZI) := mat m fun k => colR b k b.length ++ mg more k
theorem d5q (l : List ZI) : ∀ a ∈ (Blk.mk 2 (l.map ZI.av)).flat, Cl a := a1E 2 ZI.av _ ZI.cl
theorem b8m (b more : List (List ZI)) {p m : Nat} (hb : ∀ i, (h : i < b.length) → m ≤ b[i].length) (hml : m ≤ more.length) (hmp : ∀ i, (h : i < more.length) → more[i].length = p)
    (hn : b.length + p ≤ 2097152) (hm : m ≤ 2097152) (hzb : Mok 17592186044416 b) (hzm : Mok 17592186044416 more) (H : Heap) :
    a0n Pr a6A [matV b, .int .i64 m, matV more] H fun r' H' => r' = .mu (lid H 0) 0 m none ∧ H' = hap H (a1x (lid H 0) m 4 (b.length + p) none fun j k => Rv (zg (mg (a3O b more m) j) k : Int)) := by
  refine a0n.introH c2M c2J (Nat.le_of_ble_eq_true rfl) fun hH => ?_
  have hbl := hzb.len
  refine Safe.rg rfl ?_
  simp only [b0t, E3, seval]
  refine Safe.rg rfl ?_
  simp only [b0s, E3, seval]
  refine Safe.nilrow 7 1 (by decide) (by simp only [E3, seval]) ?_
  refine Safe.rg rfl ?_
  simp only [b0r, E3, seval]
  refine Safe.lp rfl ?_
  refine Safe.keep [0, 1, 2, 7, 8] ?_
  try simp only [E3, seval]
  refine Safe.loopN (m) (fun i => [(0, matV b), (1, .int .i64 m), (2, matV more), (7, .mu (lid H 0) 0 i none), (8, .int .i64 i)]) (fun i => hap H [some ⟨1, (a3O b more i).map vecV⟩]) rfl rfl (fun i hi ih => ?_) ?_
  · have hlt : ((i : Int) < (m : Int)) = True := eq_true (by omega)
    have hiw : IntKind.wrap .i64 ((i : Int) + 1) = ((i + 1 : Nat) : Int) := by rw [a0a] <;> omega
    refine Safe.inLoop ?_
    refine Safe.rg rfl ?_
    simp only [a5e, hlt, E3, seval]
    refine Safe.cd rfl ?_
    simp only [E3, seval]
    refine Safe.rg rfl ?_
    simp only [b0q, E3, seval]
    refine Safe.nilrow 9 2 (by decide) (by simp only [E3, seval]) ?_
    refine Safe.rg rfl ?_
    simp only [b0p, E3, seval]
    refine Safe.lp rfl ?_
    refine Safe.keep [0, 1, 2, 7, 8, 9, 10] ?_
    simp only [E3, seval]
    refine Safe.loopN b.length (fun k => [(0, matV b), (1, .int .i64 m), (2, matV more), (7, .mu (lid H 0) 0 i none), (8, .int .i64 i), (9, .mu (lid H 1) 0 k none), (10, .int .i64 k)]) (fun k => hap H [some ⟨1, (a3O b more i).map vecV⟩, some ⟨2, (colR b i k).map ZI.av⟩]) rfl rfl (fun k hk ih2 => ?_) ?_
    · have hlt2 : ((k : Int) < (b.length : Int)) = True := eq_true (by omega)
      have hkw : IntKind.wrap .i64 ((k : Int) + 1) = ((k + 1 : Nat) : Int) := by rw [a0a] <;> omega
      have hbk := hb k hk
      refine Safe.inLoop ?_
      refine Safe.rg rfl ?_
      simp only [a5d, hlt2, E3, seval]
      refine Safe.cd rfl ?_
      simp only [E3, seval]
      refine Safe.rg rfl ?_
      simp only [b0o, a2b _ b _ k hk, a1g _ b[k] _ i (by omega), E3, seval]
      rw [a5p hH 1 (a1v H 1) ZI.cl (colR b i k) (eg (mg b k) i) (colR b i (k + 1)) (by rw [a7c]) rfl (by repeat (first | exact RC.nil | refine RC.none ?_ | refine RC.row ZI.cl ?_ | refine RC.cons (a0m _) ?_ | refine RC.row a0e ?_ | refine RC.emp ?_ | refine RC.zero ?_ | refine RC.one (Z_cl _) ?_ | refine RC.one (ZI.cl _) ?_ | refine RC.one (a0e _) ?_)) (by rw [a3T hk, d0l (by omega)]; rfl) (e0Q b i k) (by omega) (by omega)]
      simp only [E3, seval]
      refine Safe.rg rfl ?_
      simp only [b0n, hkw, E3, seval]
      refine Safe.keep [0, 1, 2, 7, 8, 9, 10] ?_
      simp only [E3, seval]
      exact ih2
    · refine Safe.inLoop ?_
      refine Safe.rg rfl ?_
      simp only [a5d, Int.lt_irrefl, E3, seval]
      refine Safe.cd rfl ?_
      simp only [E3, seval]
      have hmi : more[i].length = p := hmp i (by omega)
      have hmg : mg more i = more[i] := a3T (by omega)
      have h1 : ∀ env, appV H.length 2 32 false (.mu (lid H 1) 0 b.length none) (vecV more[i]) env (hap H [some ⟨1, (a3O b more i).map vecV⟩, some ⟨2, (colR b i b.length).map ZI.av⟩]) =
          some (.mu (lid H 1) 0 (b.length + p) none, scrub (lid H 1) env, hap H [some ⟨1, (a3O b more i).map vecV⟩, some ⟨2, (colR b i b.length ++ mg more i).map ZI.av⟩]) := by
        intro env
        have := b2p H.length env H [some ⟨1, (a3O b more i).map vecV⟩, some ⟨2, (colR b i b.length).map ZI.av⟩] 2 32 false 1 b.length none (vecV more[i]) ((colR b i b.length).map ZI.av) (more[i].map ZI.av) hH rfl (by rw [List.length_map, a7c]) (a1v H 1)
          (a3z _ 2 _) (b2o (by repeat (first | exact RC.nil | refine RC.none ?_ | refine RC.row ZI.cl ?_ | refine RC.cons (a0m _) ?_ | refine RC.row a0e ?_ | refine RC.emp ?_ | refine RC.zero ?_ | refine RC.one (Z_cl _) ?_ | refine RC.one (ZI.cl _) ?_ | refine RC.one (a0e _) ?_))) (fun a ha => (d5q more[i] a ha).ref) (by rw [List.length_map]; omega) (by rw [List.length_map]; omega) rfl
        rw [hmg]
        simp only [a1l, Option.bind_none, List.length_map, List.set_cons_succ, List.set_cons_zero, ← List.map_append, hmi] at this
        exact this
      have h2 : ∀ env, appV H.length 1 24 false (.mu (lid H 0) 0 i none) (.mu (lid H 2) 0 1 (some 1)) env (hap H [some ⟨1, (a3O b more i).map vecV⟩, some ⟨2, (colR b i b.length ++ mg more i).map ZI.av⟩, some ⟨1, [.mu (lid H 1) 0 (b.length + p) none]⟩]) =
          some (.mu (lid H 0) 0 (i + 1) none, scrub (lid H 0) env, hap H [some ⟨1, (a3O b more i).map vecV ++ [.mu (lid H 1) 0 (b.length + p) none]⟩, some ⟨2, (colR b i b.length ++ mg more i).map ZI.av⟩, some ⟨1, [.mu (lid H 1) 0 (b.length + p) none]⟩]) := by
        intro env
        have h01 : lid H 1 ≠ lid H 0 := by simp [lid]
        have := b2p H.length env H [some ⟨1, (a3O b more i).map vecV⟩, some ⟨2, (colR b i b.length ++ mg more i).map ZI.av⟩, some ⟨1, [.mu (lid H 1) 0 (b.length + p) none]⟩] 1 24 false 0 i none (.mu (lid H 2) 0 1 (some 1)) ((a3O b more i).map vecV) [.mu (lid H 1) 0 (b.length + p) none] hH rfl (by rw [List.length_map, a3O, a0f]) (a1v H 0)
          (d0M H _ 1 2 0 1 (some 1) [.mu (lid H 1) 0 (b.length + p) none] rfl (Nat.le_refl _)) (by
            intro j r hj a ha
            match j with
            | 0 => cases hj; exact (a1E 1 vecV _ a0e a ha).ref
            | 1 => cases hj; exact (d5q _ a ha).ref
            | 2 =>
              cases hj
              simp [Blk.flat, AV.cells] at ha
              subst ha
              exact .mu _ _ _ _ h01
            | j + 3 => simp at hj) (by
            intro a ha
            simp [AV.cells] at ha
            subst ha
            exact .mu _ _ _ _ h01) (by simp; omega) (by simp; omega) rfl
        simp only [a1l, Option.bind_none, List.length_cons, List.length_nil, Nat.zero_add, List.set_cons_succ, List.set_cons_zero] at this
        exact this
      refine Safe.rg rfl ?_
      simp only [b0m, a2b _ more _ i (by omega), h1, h2, E3, seval]
      refine Safe.freeze 1 hH rfl rfl (d5q _) ?_
      have hfz : ((a3O b more i).map vecV ++ [AV.mu (lid H 1) 0 (b.length + p) none]).map (frz (lid H 1) ⟨2, (colR b i b.length ++ mg more i).map ZI.av⟩) = (a3O b more (i + 1)).map vecV := by
        rw [List.map_append, a6h, List.map_cons, List.map_nil, b1x H 1 (colR b i b.length ++ mg more i) _ none (by rw [List.length_append, a7c, hmg, hmi])]
        unfold a3O
        rw [a6U, List.map_append]; rfl
      have hfy : [AV.mu (lid H 1) 0 (b.length + p) none].map (frz (lid H 1) ⟨2, (colR b i b.length ++ mg more i).map ZI.av⟩) = [vecV (colR b i b.length ++ mg more i)] := by
        rw [List.map_cons, List.map_nil, b1x H 1 (colR b i b.length ++ mg more i) _ none (by rw [List.length_append, a7c, hmg, hmi])]
      simp only [hfz, hfy, a2x, E3, seval]
      refine Safe.rg rfl ?_
      simp only [a8b, hiw, E3, seval]
      refine Safe.keep [0, 1, 2, 7, 8] ?_
      simp only [E3, seval]
      refine Safe.drop2 hH rfl (by simp only [List.all_cons, List.all_nil, E3, seval]) (by repeat (first | exact RC.nil | refine RC.none ?_ | refine RC.row ZI.cl ?_ | refine RC.cons (a0m _) ?_ | refine RC.row a0e ?_ | refine RC.emp ?_ | refine RC.zero ?_ | refine RC.one (Z_cl _) ?_ | refine RC.one (ZI.cl _) ?_ | refine RC.one (a0e _) ?_)) ?_
      refine Safe.drop1 hH rfl (by simp only [List.all_cons, List.all_nil, E3, seval]) (by repeat (first | exact RC.nil | refine RC.none ?_ | refine RC.row ZI.cl ?_ | refine RC.cons (a0m _) ?_ | refine RC.row a0e ?_ | refine RC.emp ?_ | refine RC.zero ?_ | refine RC.one (Z_cl _) ?_ | refine RC.one (ZI.cl _) ?_ | refine RC.one (a0e _) ?_)) ?_
      exact ih
  · refine Safe.inLoop ?_
    refine Safe.rg rfl ?_
    simp only [a5e, Int.lt_irrefl, E3, seval]
    refine Safe.cd rfl ?_
    simp only [E3, seval]
    refine Safe.freeze 0 hH rfl rfl (a1E 1 vecV _ a0e) ?_
    refine Safe.keep [7] ?_
    simp only [c9U H 0 (a3O b more m) m none (by rw [a3O, a0f]), E3, seval]
    refine Safe.dropC (L := []) hH rfl (by simp only [List.all_cons, List.all_nil, E3, seval]) RC.nil ?_
    refine Safe.rg rfl ?_
    simp only [a8a, E3, seval]
    have hz : Mok 17592186044416 (a3O b more m) := d9R hm fun i hi => ⟨by
      rw [List.length_append, a7c, a3T (by omega), hmp i (by omega)]; omega, fun x hx => by
        rcases List.mem_append.1 hx with h | h
        · simp only [colR, List.mem_map, List.mem_range] at h
          obtain ⟨t, ht, rfl⟩ := h
          rw [a3T ht, d0l (by have := hb t ht; omega)]
          exact (hzb.get ht).el _ (List.getElem_mem _)
        · rw [a3T (by omega)] at h
          exact (hzm.get (by omega)).el _ h⟩
    have hc : ∀ i, (h : i < (a3O b more m).length) → (a3O b more m)[i].length = b.length + p := fun i h => by
      have hi : i < m := by simpa [a3O, a0f] using h
      have : (a3O b more m)[i] = colR b i b.length ++ mg more i := a6f h
      rw [this, List.length_append, a7c, a3T (by omega), hmp i (by omega)]
    have hlm : (a3O b more m).length = m := by rw [a3O, a0f]
    have hcc := c6W (a3O b more m) hc (by omega) hn hz
    rw [hlm] at hcc
    refine (hcc _).mono ?_
    rintro r' H' ⟨rfl, rfl⟩
    simp only [E3, seval]
    refine Safe.rt rfl ?_
    simp only [E3, seval]
    rw [a1W]
    exact ⟨rfl, rfl⟩
/-- mat.Turn with its rows open: a0S of one row, each with no more room than it has entries. -/
theorem c6L (b : List (List ZI)) (p : Nat) (hb : Mok p b) (hp : p ≤ 17592186044416) (hr : Rect b) (H : Heap) : a0n Pr b9A [matV b] H fun r' H' =>
    r' = .tup [.mu (lid H 1) 0 (wid b) none, .int .i64 0] ∧ H' = hap H [some ⟨2, (vec (wid b * b.length) (colF b)).map ZI.av⟩, some ⟨1, a0S H b.length (wid b)⟩] := by
  refine a0n.introH d4M d4J (Nat.le_of_ble_eq_true rfl) fun hH => ?_
  have hbl := hb.len
  have hwl := (hb.row 0).len
  rw [show (mg b 0).length = wid b from rfl] at hwl
  have hnm : b.length * wid b ≤ 2097152 * 2097152 := Nat.mul_le_mul hbl hwl
  have hcm : wid b * b.length = b.length * wid b := Nat.mul_comm _ _
  have hmw : IntKind.wrap .i64 ((b.length : Int) * (wid b : Int)) = ((b.length * wid b : Nat) : Int) := by
    rw [← Int.natCast_mul, a0a] <;> omega
  refine Safe.rg rfl ?_
  simp only [c5m, E3, seval]
  refine Safe.rg rfl ?_
  simp only [c5l, E3, seval]
  first | refine (a8f b p hb hr).acall ?_ | refine (a8f b p hb hr).dcall ?_
  try simp only [E3, seval]
  refine Safe.rg rfl ?_
  simp only [c5k, E3, seval]
  refine Safe.cd rfl ?_
  simp only [E3, seval]
  refine Safe.rg rfl ?_
  simp only [c5j, hmw, e2k _ [] 2 32 _ _ _ (b.length * wid b) (by decide) (by omega) (by omega), E3, seval]
  refine Safe.rg rfl ?_
  simp only [c5i, E3, seval]
  refine Safe.nilrow 8 1 (by decide) (by simp only [E3, seval]) ?_
  refine Safe.rg rfl ?_
  simp only [c5h, E3, seval]
  refine Safe.lp rfl ?_
  refine Safe.keep [0, 4, 7, 8, 24, 25] ?_
  simp only [E3, seval]
  refine Safe.loopN (wid b) (fun k => [(0, matV b), (4, .int .i64 b.length), (7, .mu (lid H 0) 0 (k * b.length) (some (b.length * wid b))), (8, .mu (lid H 1) 0 k none), (24, .int .i64 (wid b)), (25, .int .i64 k)])
    (fun k => hap H [some ⟨2, (vec (k * b.length) (colF b)).map ZI.av⟩, some ⟨1, a0S H b.length k⟩]) (by simp only [Nat.zero_mul]; rfl) (by simp only [Nat.zero_mul]; rfl) (fun k hk ih => ?_) ?_
  · have hlt : (k : Int) < (wid b : Int) := by omega
    have hle : (k + 1) * b.length ≤ wid b * b.length := Nat.mul_le_mul_right _ hk
    rw [Nat.succ_mul] at hle ih
    have hiw : IntKind.wrap .i64 ((k : Int) + 1) = ((k + 1 : Nat) : Int) := by rw [a0a] <;> omega
    have hk0 : IntKind.wrap .i64 ((k : Int) * (b.length : Int)) = ((k * b.length : Nat) : Int) := by
      rw [← Int.natCast_mul, a0a] <;> omega
    have hk1 : IntKind.wrap .i64 (((k + 1 : Nat) : Int) * (b.length : Int)) = ((k * b.length + b.length : Nat) : Int) := by
      rw [← Int.natCast_mul, Nat.succ_mul, a0a] <;> omega
    refine Safe.inLoop ?_
    refine Safe.rg rfl ?_
    simp only [b4G, hlt, E3, seval]
    refine Safe.cd rfl ?_
    simp only [E3, seval]
    refine Safe.rg rfl ?_
    simp only [c5g, E3, seval]
    refine Safe.rg rfl ?_
    simp only [c5f, E3, seval]
    refine Safe.lp rfl ?_
    refine Safe.keep [0, 4, 7, 8, 9, 24, 25, 28, 29] ?_
    simp only [E3, seval]
    refine Safe.loopN b.length (fun i => [(0, matV b), (4, .int .i64 b.length), (7, .mu (lid H 0) 0 (k * b.length + i) (some (b.length * wid b))), (8, .mu (lid H 1) 0 k none), (9, .int .i64 k), (24, .int .i64 (wid b)), (25, .int .i64 k), (28, .int .i64 b.length), (29, .int .i64 i)])
      (fun i => hap H [some ⟨2, (vec (k * b.length + i) (colF b)).map ZI.av⟩, some ⟨1, a0S H b.length k⟩]) rfl rfl (fun i hi ih2 => ?_) ?_
    · have hlt2 : (i : Int) < (b.length : Int) := by omega
      have hjw : IntKind.wrap .i64 ((i : Int) + 1) = ((i + 1 : Nat) : Int) := by rw [a0a] <;> omega
      have hri := e6D hr hi
      have hf := d6T b[i][k] (((hb.get hi).get (by omega)).mono hp)
      rw [mgz hi (by omega), ← e0R b hi] at hf
      refine Safe.inLoop ?_
      refine Safe.rg rfl ?_
      simp only [b1o, hlt2, E3, seval]
      refine Safe.cd rfl ?_
      simp only [E3, seval]
      refine Safe.rg rfl ?_
      simp only [c2e, E3, seval]
      refine Safe.rg rfl ?_
      simp only [c2d, a2b _ b _ i hi, a1g _ b[i] _ k (by omega), E3, seval]
      first | refine (hf).acall ?_ | refine (hf).dcall ?_
      try simp only [E3, seval]
      rw [e3q (H := H) 0 (a1v H 0) (f := ZI.av) (vec (k * b.length + i) (colF b)) (canZ (colF b (k * b.length + i))) (vec (k * b.length + i + 1) (colF b)) ?hlen ?hl ?hy ?hl2 ?hc]
      case hlen => first | rfl | (simp only [a0g, a0f, List.length_map, List.length_take]; done) | (simp only [a0g, a0f, List.length_map, List.length_take]; omega)
      case hl => rfl
      case hy => rfl
      case hl2 => first | exact b1Y _ _ | exact a6U _ _ | exact b0J _ (by omega) | exact a3y _ _ (by omega)
      case hc => omega
      simp only [E3, seval]
      refine Safe.rg rfl ?_
      simp only [c2c, hjw, E3, seval]
      refine Safe.keep [0, 4, 7, 8, 9, 24, 25, 28, 29] ?_
      simp only [E3, seval]
      exact ih2
    · refine Safe.inLoop ?_
      refine Safe.rg rfl ?_
      simp only [b1o, Int.lt_irrefl, E3, seval]
      refine Safe.cd rfl ?_
      simp only [E3, seval]
      have hsub : k * b.length + b.length - k * b.length = b.length := by omega
      have happ : ∀ env, appV H.length 1 24 false (.mu (lid H 1) 0 k none) (.mu (lid H 2) 0 1 (some 1)) env (hap H [some ⟨2, (vec (k * b.length + b.length) (colF b)).map ZI.av⟩, some ⟨1, a0S H b.length k⟩, some ⟨1, [.mu (lid H 0) (k * b.length) b.length (some b.length)]⟩]) =
          some (.mu (lid H 1) 0 (k + 1) none, scrub (lid H 1) env, hap H [some ⟨2, (vec (k * b.length + b.length) (colF b)).map ZI.av⟩, some ⟨1, a0S H b.length (k + 1)⟩, some ⟨1, [.mu (lid H 0) (k * b.length) b.length (some b.length)]⟩]) := by
        intro env
        have h01 : lid H 0 ≠ lid H 1 := by simp [lid]
        have := b2p H.length env H [some ⟨2, (vec (k * b.length + b.length) (colF b)).map ZI.av⟩, some ⟨1, a0S H b.length k⟩, some ⟨1, [.mu (lid H 0) (k * b.length) b.length (some b.length)]⟩] 1 24 false 1 k none (.mu (lid H 2) 0 1 (some 1)) (a0S H b.length k) [.mu (lid H 0) (k * b.length) b.length (some b.length)] hH rfl (by simp [a0S]) (a1v H 1)
          (d0M H _ 1 2 0 1 (some 1) [.mu (lid H 0) (k * b.length) b.length (some b.length)] rfl (Nat.le_refl _)) (by
            intro j r hj a ha
            match j with
            | 0 => cases hj; exact (a1E 2 ZI.av _ ZI.cl a ha).ref
            | 1 =>
              cases hj
              rw [show (Blk.mk 1 (a0S H b.length k)).flat = _ from c7d H b.length k] at ha
              obtain ⟨j, rfl⟩ := d2m ha
              exact .mu _ _ _ _ h01
            | 2 =>
              cases hj
              simp [Blk.flat, AV.cells] at ha
              subst ha
              exact .mu _ _ _ _ h01
            | j + 3 => simp at hj) (by
            intro a ha
            simp [AV.cells] at ha
            subst ha
            exact .mu _ _ _ _ h01) (by simp; omega) (by simp; omega) rfl
        simp only [a1l, Option.bind_none, List.length_cons, List.length_nil, Nat.zero_add, List.set_cons_succ, List.set_cons_zero, ← d7B] at this
        exact this
      refine Safe.rg rfl ?_
      simp only [c2b, hk0, hiw, hk1, e6v (Nat.le_add_right (k * b.length) b.length) (Nat.le_refl _) (Nat.le_refl _), hsub, happ, E3, seval]
      refine Safe.rg rfl ?_
      simp only [c2a, hiw, E3, seval]
      refine Safe.keep [0, 4, 7, 8, 24, 25] ?_
      simp only [E3, seval]
      refine Safe.drop2n hH rfl (by simp only [E3, seval]) (by
        intro r hr v hv
        simp only [List.mem_cons, Option.some.injEq, List.not_mem_nil, or_false] at hr
        rcases hr with rfl | rfl
        · exact a1n (a1E 2 ZI.av _ ZI.cl v hv)
        · rw [show (Blk.mk 1 (a0S H b.length (k + 1))).flat = _ from c7d H b.length (k + 1)] at hv
          obtain ⟨j, rfl⟩ := d2m hv
          simp only [E3, seval]) ?_
      exact ih
  · refine Safe.inLoop ?_
    refine Safe.rg rfl ?_
    simp only [b4G, Int.lt_irrefl, E3, seval]
    refine Safe.cd rfl ?_
    simp only [E3, seval]
    refine Safe.keep [8] ?_
    simp only [E3, seval]
    refine Safe.rg rfl ?_
    simp only [c1Z, E3, seval]
    refine Safe.rt rfl ?_
    simp only [E3, seval]
end Go.Abs
set_option linter.unusedVariables false
set_option linter.unusedSimpArgs false
namespace Go.Abs
/-- Append behind a part that has no more room. -/
theorem e3s {G : Heap} {n0 : Nat} {env : Env} {wd bytes id off len d : Nat} {y : AV} {ys : List AV} {r : Blk} (hr : hrow G id = some r) (hwd : r.wd = wd) (hle : off + len ≤ r.xs.length) (hnf : ¬ (off = 0 ∧ free G id = true))
    (hy : a0Q G wd false y = some ys) (hyl : 0 < ys.length) (hd : d < len + ys.length) (hb : (len + ys.length) * bytes ≤ 140737488355328) (h63 : len + ys.length ≤ 9223372036854775807) :
    appV n0 wd bytes false (.mu id off len (some d)) y env G = some (.mu G.length 0 (len + ys.length) none, env, G ++ [some ⟨wd, (r.xs.drop off).take len ++ ys⟩]) := by
  have ho : ((some d).any fun c => decide (len + ys.length ≤ c)) = false := by simp; omega
  have ho2 : ((some d).any fun c => decide (c < len + ys.length)) = true := by simp; omega
  simp only [appV, hy, hr, Option.bind_some]
  rw [if_neg (fun h => by rw [ho] at h; exact absurd h.2.2.2.2.2 (by decide)), if_neg (fun h => hnf ⟨h.2.1, h.2.2.2.2.1⟩), if_pos ⟨hwd, hle, hyl, ho2, hb, h63⟩]
theorem e2g {G : Heap} {id j : Nat} {r : Blk} {off len : Nat} {oc : Option Nat} (hj : j ≠ id) (h : G[j]? = some (some r)) (ha : AV.mu id off len oc ∈ r.flat) : free G id ≠ true := fun hf => by
  have := c3c.1 hf j r hj h _ ha
  cases this with
  | mu _ _ _ _ h => exact h rfl
section
variable (b : List (List ZI)) (v : List ZI)
/-- A row of the system. -/
def tR (j : Nat) : List ZI := (vec b.length fun t => zg (mg b t) j) ++ [eg v j]
/-- The rows of which i are done. -/
def pf (id : Nat) (i : Nat) : Nat → AV := fun j => if j < i then vecV (tR b v j) else .mu id (j * b.length) b.length (some b.length)
theorem d5B (j : Nat) : (tR b v j).length = b.length + 1 := by simp [tR, a0g]
theorem d5U (H : Heap) (m : Nat) : a0S H b.length m = fr m (pf b v (lid H 0) 0) := rfl
theorem e6O (id m : Nat) : fr m (pf b v id m) = (mat m (tR b v)).map vecV := by
  unfold fr mat
  rw [List.map_map]
  exact List.map_congr_left fun j hj => by
    simp only [pf, Function.comp]
    rw [if_pos (List.mem_range.1 hj)]
theorem e1T (id i j : Nat) : (pf b v id i j).cells = [pf b v id i j] := by
  unfold pf; split <;> rfl
theorem d9B (id i m : Nat) : (fr m (pf b v id i)).flatMap AV.cells = fr m (pf b v id i) := by
  unfold fr
  induction (List.range m) with
  | nil => rfl
  | cons j l ih => rw [List.map_cons, List.flatMap_cons, ih, e1T]; rfl
theorem e4J (id i j k : Nat) (h : id ≠ k) : nref k (pf b v id i j) = true := by
  unfold pf
  split
  · exact a1n (a0e _)
  · exact a7w h
theorem e6N (id i j k : Nat) (r : Blk) (h : id ≠ k) : frz k r (pf b v id i j) = pf b v id i j := by
  unfold pf
  split
  · exact a4V (a0e _)
  · exact a7x (.mu _ _ _ _ h)
theorem e1U {m i : Nat} (hi : i < m) : (((vec (m * b.length) (colF b)).map ZI.av).drop (i * b.length)).take b.length ++ [(eg v i).av] = (tR b v i).map ZI.av := by
  have hle : (i + 1) * b.length ≤ m * b.length := Nat.mul_le_mul_right _ hi
  rw [Nat.succ_mul] at hle
  unfold tR
  rw [List.map_append]
  congr 1
  apply List.ext_getElem
  · simp [a0g]; omega
  · intro t g1 g2
    have ht : t < b.length := by simpa [a0g] using g2
    simp only [List.getElem_take, List.getElem_drop, List.getElem_map, a5O, e0R b ht]
/-- The system's entries. -/
def Sm (m : Nat) : Nat → Nat → Rat := fun i k => if i < m then (if k < b.length then ((zg (mg b k) i : Int) : Rat) else if k = b.length then ((zg v i : Int) : Rat) else 0) else 0
theorem e3D (l r : List ZI) (k : Nat) : zg (l ++ r) k = if k < l.length then zg l k else zg r (k - l.length) := by
  unfold zg
  rw [List.getD_eq_getElem?_getD, List.getD_eq_getElem?_getD, List.getD_eq_getElem?_getD, List.getElem?_append]
  split <;> rfl
theorem e3C (x : ZI) (k : Nat) : zg [x] k = if k = 0 then x.z else 0 := by
  cases k <;> rfl
theorem e3P {m : Nat} {f : Nat → List ZI} {i : Nat} (h : ¬ i < m) : mg (mat m f) i = [] := by
  unfold mg; rw [List.getD_eq_getElem?_getD, List.getElem?_eq_none (by rw [a0f]; omega)]; rfl
theorem Bm_T (m : Nat) : Bm (mat m (tR b v)) = Sm b v m := by
  funext i k
  unfold Bm Sm
  by_cases hi : i < m
  · rw [if_pos hi, d9T hi, tR, e3D, a0g]
    by_cases hk : k < b.length
    · rw [if_pos hk, if_pos hk, d8J hk]
    · rw [if_neg hk, if_neg hk, e3C, eg_z]
      by_cases e : k = b.length
      · rw [if_pos e, if_pos (by omega)]
      · rw [if_neg e, if_neg (by omega)]; rfl
  · rw [if_neg hi, e3P hi]; rfl
/-- The right side, one entry a row. -/
def oneM : List (List ZI) := v.map fun x => [x]
theorem e6V {i : Nat} (h : i < v.length) : mg (oneM v) i = [eg v i] := by
  have h2 : i < (oneM v).length := by rw [oneM, List.length_map]; exact h
  rw [a3T h2, d0l h]; simp [oneM]
theorem e4h {k n t : Nat} (h : t < n) : zg (colR b k n) t = zg (mg b t) k := by
  have h2 : t < (colR b k n).length := by rw [a7c]; exact h
  rw [c2E h2]; simp [colR, eg_z]
theorem Bm_C : (fun j k => (((zg (mg (a3O b (oneM v) v.length) j) k : Int)) : Rat)) = Sm b v v.length := by
  funext i k
  unfold Sm
  by_cases hi : i < v.length
  · rw [if_pos hi, a3O, d9T hi, e3D, a7c, e6V v hi]
    by_cases hk : k < b.length
    · rw [if_pos hk, if_pos hk, e4h b hk]
    · rw [if_neg hk, if_neg hk, e3C, eg_z]
      by_cases e : k = b.length
      · rw [if_pos e, if_pos (by omega)]
      · rw [if_neg e, if_neg (by omega)]; rfl
  · rw [if_neg hi, a3O, e3P hi]; rfl
variable {e : Nat} (hm : Mok e b) (hv : Vok e v)
include hm hv
theorem e1o (m : Nat) : Bd e (Sm b v m) := fun i k => by
  unfold Sm
  split
  · split
    · exact ⟨_, rfl, Nat.le_of_lt ((hm.row k).abs i)⟩
    · split
      · exact ⟨_, rfl, Nat.le_of_lt (hv.abs i)⟩
      · exact ⟨0, rfl, by simp⟩
  · exact ⟨0, rfl, by simp⟩
theorem T_ok {m : Nat} (hmv : m ≤ v.length) (hn : b.length ≤ 64) : Mok e (mat m (tR b v)) := d9R (by have := hv.len; omega) fun i hi => ⟨by rw [d5B]; omega, fun x hx => by
  rcases List.mem_append.1 hx with h | h
  · exact (c8y (show b.length ≤ 2097152 by omega) fun t ht => (hm.row t).abs i).el x h
  · have : x = eg v i := by simpa using h
    rw [this, d0l (by omega)]
    exact hv.get _⟩
end
end Go.Abs
set_option linter.unusedVariables false
set_option linter.unusedSimpArgs false
namespace Go.Abs
def a8c (f : Nat → Int) : Nat → Int
  | 0 => 1
  | n + 1 => a8c f n * f n
theorem d5N {f : Nat → Int} : ∀ {n : Nat}, (∀ i, i < n → f i ≠ 0) → a8c f n ≠ 0
  | 0, _ => by simp [a8c]
  | n + 1, h => Int.mul_ne_zero (d5N fun i hi => h i (by omega)) (h n (by omega))
theorem d2i {f : Nat → Int} : ∀ {n i : Nat}, i < n → f i ∣ a8c f n
  | 0, _, h => absurd h (by omega)
  | n + 1, i, h => by
    by_cases e : i = n
    · subst e; exact Int.dvd_mul_left ..
    · exact Int.dvd_trans (d2i (by omega)) (Int.dvd_mul_right ..)
theorem d5O {f : Nat → Int} {K : Nat} : ∀ {n : Nat}, (∀ i, i < n → (f i).natAbs < LB ^ K) → (a8c f n).natAbs < LB ^ (n * K + 1)
  | 0, _ => by rw [Nat.zero_mul]; exact Nat.lt_of_lt_of_eq (show 1 < LB by decide) (Nat.pow_one LB).symm
  | n + 1, h => by
    have h1 := d5O (n := n) fun i hi => h i (by omega)
    have h2 := h n (by omega)
    rw [a8c, Int.natAbs_mul, show (n + 1) * K + 1 = (n * K + 1) + K by rw [Nat.succ_mul]; omega, Nat.pow_add]
    rcases Nat.eq_zero_or_pos (a8c f n).natAbs with h0 | h0
    · rw [h0, Nat.zero_mul]; exact Nat.mul_pos (a8i _) (a8i _)
    · exact Nat.mul_lt_mul_of_le_of_lt (Nat.le_of_lt h1) h2 (a8i _)
section
variable {n m e : Nat} {B : Nat → Nat → Rat} (hB : Bd e B) (hm : m ≤ 64)
include hB hm
/-- A column of the fractions: one number for all of them. -/
theorem e6i (c k : Nat) : Sz (fun i => (a0t m B c).M i k) m (KB e + 1) := by
  have hBi : ∀ i k, ∃ z : Int, B i k = z := fun i k => by obtain ⟨z, h, _⟩ := hB i k; exact ⟨z, h⟩
  have hok := a5C (n := m) hBi c
  have hBd : Bd e (a0t m B c).s.B := by rw [a0O]; exact hB.gproc c
  have hl := Nat.le_trans hok.g.len hm
  obtain ⟨l, hl1, hl2⟩ := c2Z hok hl hBd
  have hlt : LB ^ KB e < LB ^ (KB e + 1) := Nat.pow_lt_pow_right (by decide) (by omega)
  refine ⟨l, fun h => a6Y hok.g.piv (by rw [hl1, h]; rfl), by omega, fun i _ => ?_⟩
  obtain ⟨z, hz, hz1⟩ := c9Z hok hl hBd i k
  exact ⟨z, by rw [← hl1]; exact hz, by omega⟩
end
/-- One number of the solution, from the whole row. -/
def wI (m : Nat) (B : Nat → Nat → Rat) (c i k : Nat) : Int := a1J (outI ((a0t m B c).M i) c) c k
section
variable {n m e : Nat} {B : Nat → Nat → Rat} (hB : Bd e B) (hm : m ≤ 64) (hfull : (gproc m B n).cs.length = n)
include hB
include hfull
omit hB in
theorem b8L : ((gproc m B (n + 1)).cs.length = n ∨ (gproc m B (n + 1)).cs.length = n + 1) ∧ (∀ i, i < n → (gproc m B (n + 1)).cs.getD i 0 = i) ∧ ((gproc m B (n + 1)).cs.length = n + 1 → (gproc m B (n + 1)).cs.getD n 0 = n) := by
  have h0 := c8s n hfull
  rcases a0V (fun p => (gproc m B n).g p n) (gproc m B n).cs.length m with ⟨p, hf, h1, h2, h3, _⟩ | ⟨hf, h4⟩
  · have e : gproc m B (n + 1) = _ := a0J hf
    rw [e]
    refine ⟨.inr (by rw [a1F, hfull]), fun i hi => ?_, fun _ => ?_⟩
    · show ((gproc m B n).cs ++ [n]).getD i 0 = i
      rw [List.getD_eq_getElem?_getD, List.getElem?_append_left (by omega), ← List.getD_eq_getElem?_getD]; exact h0 i hi
    · show ((gproc m B n).cs ++ [n]).getD n 0 = n
      rw [List.getD_eq_getElem?_getD, List.getElem?_append_right (by omega), hfull]; simp
  · have e : gproc m B (n + 1) = gproc m B n := a1I hf
    rw [e]
    exact ⟨.inl hfull, h0, fun h => by omega⟩
include hm
omit hm in
theorem c8F (hn : (gproc m B (n + 1)).cs.length = n) {i : Nat} (hi : i < n) : wI m B (n + 1) i i ≠ 0 ∧ ((wI m B (n + 1) i n : Int) : Rat) = (wI m B (n + 1) i i : Rat) * (a0t m B (n + 1)).M i n := by
  have hBi : ∀ i k, ∃ z : Int, B i k = z := fun i k => by obtain ⟨z, h, _⟩ := hB i k; exact ⟨z, h⟩
  obtain ⟨_, hcs, _⟩ := b8L hfull
  have hone : (a0t m B (n + 1)).M i i = 1 := by
    have := d5t (n := m) hBi (n + 1) i i (by omega) (by omega)
    rw [hcs i hi, if_pos rfl] at this
    exact this
  unfold wI
  have hL := a8h ((a0t m B (n + 1)).M i) (n + 1)
  have h1 := a5x (w := outI ((a0t m B (n + 1)).M i) (n + 1)) (show i < n + 1 by omega)
  have h2 := a5x (w := outI ((a0t m B (n + 1)).M i) (n + 1)) (show n < n + 1 by omega)
  have o1 := b8I ((a0t m B (n + 1)).M i) (show i < n + 1 by omega)
  have o2 := b8I ((a0t m B (n + 1)).M i) (show n < n + 1 by omega)
  rw [h1, hone, Rat.intCast_mul] at o1
  rw [h2, Rat.intCast_mul] at o2
  generalize sgF (outI ((a0t m B (n + 1)).M i) (n + 1)) (n + 1) * (a2o (outI ((a0t m B (n + 1)).M i) (n + 1)) (n + 1) : Int) = s at *
  generalize a1J (outI ((a0t m B (n + 1)).M i) (n + 1)) (n + 1) i = p at *
  generalize a1J (outI ((a0t m B (n + 1)).M i) (n + 1)) (n + 1) n = q at *
  have hLr : ((a0K ((a0t m B (n + 1)).M i) (n + 1) : Nat) : Rat) ≠ 0 := by
    intro h
    have : (a0K ((a0t m B (n + 1)).M i) (n + 1)) = 0 := by exact_mod_cast h
    omega
  generalize ((a0K ((a0t m B (n + 1)).M i) (n + 1) : Nat) : Rat) = l at *
  have hp : p ≠ 0 := fun h => hLr (by rw [h] at o1; have : ((0 : Int) : Rat) = 0 := rfl; rw [this] at o1; grind)
  have hs : (s : Rat) ≠ 0 := fun h => hLr (by rw [h] at o1; grind)
  refine ⟨hp, ?_⟩
  generalize (a0t m B (n + 1)).M i n = x at *
  have : (s : Rat) * ((q : Rat) - (p : Rat) * x) = 0 := by grind
  rcases Rat.mul_eq_zero.1 this with h | h
  · exact absurd h hs
  · grind
omit hfull in
theorem w_lt {i k : Nat} (hk : k < n + 1) : (wI m B (n + 1) i k).natAbs < LB ^ (KB e + 1) := Nat.lt_of_le_of_lt (c2V hk) (d5V (M_sz hB hm i) hk)
/-- The quotients over the heads' product. -/
def qI (m : Nat) (B : Nat → Nat → Rat) (n i : Nat) : Int := a8c (fun i => wI m B (n + 1) i i) n / wI m B (n + 1) i i * wI m B (n + 1) i n
omit hm in
theorem q_eq (hn : (gproc m B (n + 1)).cs.length = n) {i : Nat} (hi : i < n) : a8c (fun i => wI m B (n + 1) i i) n * wI m B (n + 1) i n = wI m B (n + 1) i i * qI m B n i := by
  obtain ⟨c, hc⟩ := d2i (f := fun i => wI m B (n + 1) i i) hi
  have h0 := (c8F hB hfull hn hi).1
  unfold qI
  rw [hc]
  show wI m B (n + 1) i i * c * wI m B (n + 1) i n = wI m B (n + 1) i i * (wI m B (n + 1) i i * c / wI m B (n + 1) i i * wI m B (n + 1) i n)
  rw [Int.mul_ediv_cancel_left _ h0, Int.mul_assoc]
omit hm in
theorem e7J (hn : (gproc m B (n + 1)).cs.length = n) {i : Nat} (hi : i < n) : ((qI m B n i : Int) : Rat) = (a8c (fun i => wI m B (n + 1) i i) n : Rat) * (a0t m B (n + 1)).M i n := by
  have h1 := congrArg (fun z : Int => (z : Rat)) (q_eq hB hfull hn hi)
  obtain ⟨h0, h2⟩ := c8F hB hfull hn hi
  simp only [Rat.intCast_mul] at h1
  rw [h2] at h1
  have h0r : ((wI m B (n + 1) i i : Int) : Rat) ≠ 0 := fun h => h0 (Rat.intCast_inj.1 (by rw [h]; rfl))
  generalize ((wI m B (n + 1) i i : Int) : Rat) = p at *
  generalize ((qI m B n i : Int) : Rat) = q at *
  generalize ((a8c (fun i => wI m B (n + 1) i i) n : Int) : Rat) = d at *
  have : p * (q - d * (a0t m B (n + 1)).M i n) = 0 := by grind
  rcases Rat.mul_eq_zero.1 this with h | h
  · exact absurd h h0r
  · grind
omit hm in
theorem e3Y (hn : (gproc m B (n + 1)).cs.length = n) : a8c (fun i => wI m B (n + 1) i i) n ≠ 0 := d5N fun i hi => (c8F hB hfull hn hi).1
omit hfull in
theorem d3i {i : Nat} (hi : i ≤ n) : (a8c (fun i => wI m B (n + 1) i i) i).natAbs < LB ^ (i * (KB e + 1) + 1) := d5O fun j hj => w_lt hB hm (by omega)
omit hfull in
theorem e4y {i : Nat} : (qI m B n i).natAbs < LB ^ (n * (KB e + 1) + 1 + (KB e + 1)) := by
  unfold qI
  rw [Int.natAbs_mul, Nat.pow_add]
  have h1 := Nat.lt_of_le_of_lt (Int.natAbs_ediv_le_natAbs _ (wI m B (n + 1) i i)) (d3i hB hm (Nat.le_refl n))
  have h2 := w_lt hB hm (i := i) (Nat.lt_succ_self n)
  rcases Nat.eq_zero_or_pos (a8c (fun i => wI m B (n + 1) i i) n / wI m B (n + 1) i i).natAbs with h0 | h0
  · rw [h0, Nat.zero_mul]; exact Nat.mul_pos (a8i _) (a8i _)
  · exact Nat.mul_lt_mul_of_le_of_lt (Nat.le_of_lt h1) h2 (a8i _)
/-- The solution and its denominator. -/
def solX (m : Nat) (B : Nat → Nat → Rat) (n : Nat) : Nat → Rat := fun i => (a0t m B (n + 1)).M i n
omit hm in
theorem d9b (hn : (gproc m B (n + 1)).cs.length = n) : let d := a8c (fun i => wI m B (n + 1) i i) n
    d = sgD d * (gcdF d (qI m B n) n : Int) * (a0K (solX m B n) n : Int) ∧ ∀ i, i < n → qI m B n i = sgD d * (gcdF d (qI m B n) n : Int) * outI (solX m B n) n i :=
  d8U (e3Y hB hfull hn) fun i hi => e7J hB hfull hn hi
omit hfull in
theorem e3K (hnm : n ≤ m) : Sz (solX m B n) n (KB e + 1) := by
  obtain ⟨D, h1, h2, h3⟩ := (e6i (B := B) hB hm (n + 1) n).ex
  exact ⟨D, h1, h2, fun i hi => h3 i (by omega)⟩
end
end Go.Abs
set_option linter.unusedVariables false
set_option linter.unusedSimpArgs false
namespace Go.Abs
/-- The body as a whole: where the label stands. -/
def sScp : ACode := .seq (.region a1r false) (.seq (.seq (.region a1q false) (.cond (.t 27) (.seq (.region a9G false) (.ret)) (.skip))) (.seq (.region a1O false) (.seq (.region a1N false) (.seq (.seq (.region a1M false) (.cond (.t 31) (.seq (.seq (.region a5H false) (.cond (.t 34) (.goto 0) (.skip))) (.seq (.region a9F false) (.ret))) (.skip))) (.seq (.seq (.region a2J false) (.cond (.t 39) (.seq (.region a7L false) (.ret)) (.skip))) (.seq (.seq (.region a2Y false) (.seq (.region a2X false) (.cond (.t 48) (.seq (.region a7K false) (.ret)) (.skip)))) (.seq (.region a4M false) (.seq (.seq (.region a4L false) (.block 0 (.loop a9J))) (.seq (.region a2W false) (.seq (.seq (.region a2V false) (.cond (.t 88) (.goto 0) (.skip))) (.seq (.region a4K false) (.seq (.seq (.region a4J false) (.block 2 (.loop a9I))) (.seq (.seq (.region a4I false) (.block 4 (.loop a9H))) (.seq (.region a4H false) (.seq (.seq (.region a4G true) (.ret)) (.seq (.label 0) (.seq (.region a2U false) (.ret))))))))))))))))))
def d3S : ACode := .seq (.region a2W false) (.seq (.seq (.region a2V false) (.cond (.t 88) (.goto 0) (.skip))) (.seq (.region a4K false) (.seq (.seq (.region a4J false) (.block 2 (.loop a9I))) (.seq (.seq (.region a4I false) (.block 4 (.loop a9H))) (.seq (.region a4H false) (.seq (.seq (.region a4G true) (.ret)) (.seq (.label 0) (.seq (.region a2U false) (.ret)))))))))
noncomputable def sCx (H : Heap) : Cx := ⟨Pr, fun _ _ => false, a0M, 145, [.tmp 4, .cell 5 (some 2), .tmp 6], H.length⟩
theorem e0p (H : Heap) (cs : List Nat) (i : Nat) (h : i < cs.length) : idxV H 1 (hsV cs) (.int .i64 i) = some (.ro (intV (cs.getD i 0)) 0) := e3S H cs .i64 h
theorem b4i : ∀ a ∈ (Blk.mk 2 [AV.agg [.bool false, .nil]]).flat, Cl a := fun a ha => by
  simp [Blk.flat, AV.cells] at ha
  rcases ha with rfl | rfl
  · exact .bool _
  · exact .nil
section
variable (b : List (List ZI)) (v : List ZI) {e m : Nat} (hm : Mok e b) (hv : Vok e v) (hK : 65 * (KB e + 2) < 10000000000) (hn64 : b.length ≤ 64) (hm64 : m ≤ 64) (hmv : m = v.length) (hn : 0 < b.length) (hfull : (gproc m (Sm b v m) b.length).cs.length = b.length) {H : Heap} (hH : a0E H)
include hm hv hK hn64 hm64 hmv hn hfull hH
theorem d7h (hone : (gproc m (Sm b v m) (b.length + 1)).cs.length = b.length) : Safe (sCx H) [.code d3S, .inScope sScp] [(4, .nil), (5, .loc (lid H 0) 0 0), (6, .int .i64 0), (7, .int .i64 b.length), (9, matV (mat m (tR b v)))]
    (hap H [some ⟨2, [.agg [.bool false, .nil]]⟩]) fun r' H' => r' = .tup [vecV (vec b.length (outI (solX m (Sm b v m) b.length) b.length)), Z (a0K (solX m (Sm b v m) b.length) b.length : Nat), .int .i64 0] ∧ ∃ L, H' = hap H L := by
  have hn1 : IntKind.wrap .i64 ((b.length : Int) + 1) = ((b.length + 1 : Nat) : Int) := by rw [a0a] <;> omega
  have hnm1 : IntKind.wrap .i64 ((b.length : Int) - 1) = ((b.length - 1 : Nat) : Int) := by rw [a0a] <;> omega
  have hst := c5O (mat m (tR b v)) (c := b.length + 1) (fun i hi => by
    have : (mat m (tR b v))[i] = tR b v i := a6f hi
    rw [this, d5B]) (T_ok b v hm hv (by omega) hn64) (a0f _ _) hm64 (by omega) (by omega)
  rw [Bm_T] at hst
  have hB := e1o b v hm hv m
  have hcs := b8L hfull
  have hcl := hcs.2.1 (b.length - 1) (by omega)
  have hrow : ∀ i (h : i < (a9W m (Sm b v m) (b.length + 1)).length), (a9W m (Sm b v m) (b.length + 1))[i] = vec (b.length + 1) (wI m (Sm b v m) (b.length + 1) i) := fun i h => a6f h
  have hsl : (a9W m (Sm b v m) (b.length + 1)).length = b.length := by rw [a9W, a0f, hone]
  have hwl : ∀ i k, k < b.length + 1 → Zok (KB e + 1) (canZ (wI m (Sm b v m) (b.length + 1) i k)) := fun i k hk => a0l (w_lt hB hm64 hk)
  have hw0 := fun i (hi : i < b.length) => (c8F hB hfull hone hi).1
  have hqe := fun i (hi : i < b.length) => q_eq hB hfull hone hi
  have hds := fun i (hi : i ≤ b.length) => d3i hB hm64 hi
  have hqs := fun i => e4y (n := b.length) hB hm64 (i := i)
  have hd0 := e3Y hB hfull hone
  have hterm := d9b hB hfull hone
  have hkk : b.length * (KB e + 1) + 1 + (KB e + 1) ≤ 65 * (KB e + 2) := by
    have := Nat.mul_le_mul_right (KB e + 1) hn64
    omega
  have hkd : ∀ i, i ≤ b.length → Zok (65 * (KB e + 2)) (canZ (a8c (fun i => wI m (Sm b v m) (b.length + 1) i i) i)) := fun i hi => by
    refine (a0l (hds i hi)).mono ?_
    have := Nat.mul_le_mul_right (KB e + 1) hi
    omega
  have hqk : ∀ i, (qI m (Sm b v m) b.length i).natAbs < LB ^ (65 * (KB e + 2)) := fun i => Nat.lt_of_lt_of_le (hqs i) (Nat.pow_le_pow_right (by decide) hkk)
  have hdk : (a8c (fun i => wI m (Sm b v m) (b.length + 1) i i) b.length).natAbs < LB ^ (65 * (KB e + 2)) := Nat.lt_of_lt_of_le (hds _ (Nat.le_refl _)) (Nat.pow_le_pow_right (by decide) (by omega))
  unfold d3S sCx
  generalize hcsl : (gproc m (Sm b v m) (b.length + 1)).cs = cs at *
  generalize hW : a9W m (Sm b v m) (b.length + 1) = W at *
  generalize hwd : wI m (Sm b v m) (b.length + 1) = w at *
  generalize hqd : qI m (Sm b v m) b.length = q at *
  generalize solX m (Sm b v m) b.length = x at *
  generalize hK2 : 65 * (KB e + 2) = K2 at *
  refine Safe.rg rfl ?_
  simp only [a2W, hn1, E3, seval]
  first | refine (hst).acall ?_ | refine (hst).dcall ?_
  try simp only [E3, seval]
  have hne : (((b.length - 1 : Nat) : Int) = (b.length : Int)) = False := eq_false (by omega)
  refine Safe.rg rfl ?_
  simp only [a2V, d2N, hone, hnm1, e0p _ cs (b.length - 1) (by omega), intV, hcl, hne, E3, seval]
  refine Safe.cd rfl ?_
  simp only [E3, seval]
  refine Safe.keep [4, 5, 6, 7, 10] ?_
  simp only [E3, seval]
  refine Safe.rg rfl ?_
  simp only [a4K, E3, seval]
  first | refine (b1X 1 (by decide) (by decide)).acall ?_ | refine (b1X 1 (by decide) (by decide)).dcall ?_
  try simp only [E3, seval]
  refine Safe.rg rfl ?_
  simp only [a4J, d4H, hsl, E3, seval]
  refine Safe.lp rfl ?_
  refine Safe.keep [4, 5, 6, 7, 10, 91, 92] ?_
  try simp only [E3, seval]
  refine Safe.loopN (b.length) (fun i => [(4, .nil), (5, .loc (lid H 0) 0 0), (6, .int .i64 0), (7, .int .i64 b.length), (10, matV W), (91, .int .i64 b.length), (92, .int .i64 i)]) (fun i => hap H [some ⟨2, [Z (a8c (fun i => w i i) i)]⟩]) rfl rfl (fun i hi ih => ?_) ?_
  · have hlt : ((i : Int) < (b.length : Int)) = True := eq_true (by omega)
    have hiw : IntKind.wrap .i64 ((i : Int) + 1) = ((i + 1 : Nat) : Int) := by rw [a0a] <;> omega
    refine Safe.inLoop ?_
    refine Safe.rg rfl ?_
    simp only [a7I, hlt, E3, seval]
    refine Safe.cd rfl ?_
    simp only [E3, seval]
    refine Safe.rg rfl ?_
    simp only [b4c, E3, seval]
    refine Safe.rg rfl ?_
    simp only [b4b, a2b _ W .i64 i (by omega), hrow i (by omega), a1g _ (vec (b.length + 1) (w i)) .i64 i (by rw [a0g]; omega), a5O, E3, seval]
    have hmu := a7N (canZ (a8c (fun i => w i i) i)) (canZ (w i i)) K2 (KB e + 1) (hkd i (by omega)) (hwl i i (by omega)) (by omega)
    rw [a0p, a0p] at hmu
    refine hmu.dcall ?_
    simp only [E3, seval]
    refine Safe.rg rfl ?_
    simp only [b4a, hiw, E3, seval]
    refine Safe.keep [4, 5, 6, 7, 10, 91, 92] ?_
    simp only [E3, seval]
    exact ih
  · refine Safe.inLoop ?_
    refine Safe.rg rfl ?_
    simp only [a7I, Int.lt_irrefl, E3, seval]
    refine Safe.cd rfl ?_
    simp only [E3, seval]
    refine Safe.rg rfl ?_
    simp only [a4I, d4H, hsl, E3, seval]
    refine Safe.nilrow 4 2 (by decide) (by simp only [E3, seval]) ?_
    generalize hD : a8c (fun i => w i i) b.length = D at *
    refine Safe.lp rfl ?_
    refine Safe.keep [4, 5, 6, 7, 10, 106, 107] ?_
    try simp only [E3, seval]
    refine Safe.loopN (b.length) (fun i => [(4, .mu (lid H 1) 0 i none), (5, .loc (lid H 0) 0 0), (6, .int .i64 0), (7, .int .i64 b.length), (10, matV W), (106, .int .i64 b.length), (107, .int .i64 i)]) (fun i => hap H [some ⟨2, [Z D]⟩, some ⟨2, (vec i q).map ZI.av⟩]) rfl rfl (fun i hi ih => ?_) ?_
    · have hlt : ((i : Int) < (b.length : Int)) = True := eq_true (by omega)
      have hiw : IntKind.wrap .i64 ((i : Int) + 1) = ((i + 1 : Nat) : Int) := by rw [a0a] <;> omega
      refine Safe.inLoop ?_
      refine Safe.rg rfl ?_
      simp only [a7H, hlt, E3, seval]
      refine Safe.cd rfl ?_
      simp only [E3, seval]
      refine Safe.rg rfl ?_
      simp only [b3Z, E3, seval]
      refine Safe.rx rfl (by simp only [a4O, a6L, a4T, a2b _ W .i64 i (by omega), hrow i (by omega), a1g _ (vec (b.length + 1) (w i)) .i64 i (by rw [a0g]; omega), a1g _ (vec (b.length + 1) (w i)) .i64 b.length (by rw [a0g]; omega), a5O, E3, seval]) ?_
      simp only [b3Y, b1L, b1K, a2b _ W .i64 i (by omega), hrow i (by omega), a1g _ (vec (b.length + 1) (w i)) .i64 i (by rw [a0g]; omega), a1g _ (vec (b.length + 1) (w i)) .i64 b.length (by rw [a0g]; omega), a5O, E3, seval]
      have hmu := a7N (canZ D) (canZ (w i b.length)) K2 (KB e + 1) (a0l hdk) (hwl i b.length (by omega)) (by omega)
      rw [a0p, a0p] at hmu
      refine hmu.dcall ?_
      have hfl := a4N (canZ (D * w i b.length)) (canZ (w i i)) (K2 + K2) (a0l (by
        rw [Int.natAbs_mul, Nat.pow_add]
        have h1 := Nat.lt_of_lt_of_le (hwl i b.length (by omega)).abs (Nat.pow_le_pow_right (show 0 < LB by decide) (show KB e + 1 ≤ K2 by omega))
        rw [a0p] at h1
        exact Nat.mul_lt_mul'' hdk h1)) ((hwl i i (by omega)).mono (by omega)) (by omega) (q i) (by rw [a0p]; exact hw0 i hi) (by rw [a0p, a0p]; exact hqe i hi)
      simp only [a2b _ W .i64 i (by omega), hrow i (by omega), a1g _ (vec (b.length + 1) (w i)) .i64 i (by rw [a0g]; omega), a5O, E3, seval]
      refine hfl.dcall ?_
      simp only [E3, seval]
      refine ⟨?_, ?_⟩
      all_goals
        refine Safe.rg rfl ?_
        simp only [b3X, E3, seval]
        rw [a5p hH 1 (a1v H 1) ZI.cl (vec i q) (canZ (q i)) (vec (i + 1) q) ?hlen ?hl ?hL ?hy ?hl2 ?hb ?hbb]
        case hlen => first | rfl | (simp only [a0g, a0f, List.length_map, List.length_take]; done) | (simp only [a0g, a0f, List.length_map, List.length_take]; omega)
        case hl => rfl
        case hL => repeat (first | exact RC.nil | refine RC.none ?_ | refine RC.row ZI.cl ?_ | refine RC.cons (a0m _) ?_ | refine RC.row a0e ?_ | refine RC.emp ?_ | refine RC.zero ?_ | refine RC.one (Z_cl _) ?_ | refine RC.one (ZI.cl _) ?_ | refine RC.one (a0e _) ?_)
        case hy => rfl
        case hl2 => first | exact b1Y _ _ | exact a6U _ _ | exact b0J _ (by omega) | exact a3y _ _ (by omega)
        case hb => omega
        case hbb => omega
        simp only [E3, seval]
        refine Safe.rg rfl ?_
        simp only [b3W, hiw, E3, seval]
        refine Safe.keep [4, 5, 6, 7, 10, 106, 107] ?_
        simp only [E3, seval]
        refine Safe.drop3 hH rfl (by simp only [List.all_cons, List.all_nil, E3, seval]) (by repeat (first | exact RC.nil | refine RC.none ?_ | refine RC.row ZI.cl ?_ | refine RC.cons (a0m _) ?_ | refine RC.row a0e ?_ | refine RC.emp ?_ | refine RC.zero ?_ | refine RC.one (Z_cl _) ?_ | refine RC.one (ZI.cl _) ?_ | refine RC.one (a0e _) ?_)) ?_
        refine Safe.drop2 hH rfl (by simp only [List.all_cons, List.all_nil, E3, seval]) (by repeat (first | exact RC.nil | refine RC.none ?_ | refine RC.row ZI.cl ?_ | refine RC.cons (a0m _) ?_ | refine RC.row a0e ?_ | refine RC.emp ?_ | refine RC.zero ?_ | refine RC.one (Z_cl _) ?_ | refine RC.one (ZI.cl _) ?_ | refine RC.one (a0e _) ?_)) ?_
        exact ih
    · refine Safe.inLoop ?_
      refine Safe.rg rfl ?_
      simp only [a7H, Int.lt_irrefl, E3, seval]
      refine Safe.cd rfl ?_
      simp only [E3, seval]
      refine Safe.freeze 1 hH rfl rfl (a1E 2 ZI.av _ ZI.cl) ?_
      refine Safe.keep [4, 5, 6] ?_
      simp only [b1x H 1 (vec b.length q) (b.length) (none) (by simp only [a0g, a0f]), a2x, a0N, a4m, a6h, E3, seval]
      refine Safe.rg rfl ?_
      simp only [a4H, E3, seval]
      have ht := d6Y q (outI x b.length) D (a0K x b.length : Nat) (fun i _ => hqk i) hdk (by omega) (by omega) hd0 hterm.1 hterm.2
      refine ht.acall ?_
      simp only [E3, seval]
      refine Safe.rg rfl ?_
      simp only [a4G, E3, seval]
      refine Safe.rt rfl ?_
      simp only [E3, seval]
      first | exact ⟨rfl, _, rfl⟩ | exact ⟨_, rfl⟩ | exact ⟨trivial, _, rfl⟩
omit hH in
theorem d7i (hone : (gproc m (Sm b v m) (b.length + 1)).cs.length = b.length + 1) : Safe (sCx H) [.code d3S, .inScope sScp] [(4, .nil), (5, .loc (lid H 0) 0 0), (6, .int .i64 0), (7, .int .i64 b.length), (9, matV (mat m (tR b v)))]
    (hap H [some ⟨2, [.agg [.bool false, .nil]]⟩]) fun r' H' => Le r' (.tup [vecV [], Z 0, .int .i64 6]) ∧ ∃ L, H' = hap H L := by
  have hn1 : IntKind.wrap .i64 ((b.length : Int) + 1) = ((b.length + 1 : Nat) : Int) := by rw [a0a] <;> omega
  have hnm1 : IntKind.wrap .i64 (((b.length + 1 : Nat) : Int) - 1) = (b.length : Int) := by rw [a0a] <;> omega
  have hst := c5O (mat m (tR b v)) (c := b.length + 1) (fun i hi => by
    have : (mat m (tR b v))[i] = tR b v i := a6f hi
    rw [this, d5B]) (T_ok b v hm hv (by omega) hn64) (a0f _ _) hm64 (by omega) (by omega)
  rw [Bm_T] at hst
  have hcs := b8L hfull
  have hcl := hcs.2.2 hone
  unfold d3S sCx
  generalize hcsl : (gproc m (Sm b v m) (b.length + 1)).cs = cs at *
  generalize hW : a9W m (Sm b v m) (b.length + 1) = W at *
  refine Safe.rg rfl ?_
  simp only [a2W, hn1, E3, seval]
  first | refine (hst).acall ?_ | refine (hst).dcall ?_
  try simp only [E3, seval]
  refine Safe.rg rfl ?_
  simp only [a2V, d2N, hone, hnm1, e0p _ cs b.length (by omega), intV, hcl, E3, seval]
  refine Safe.cd rfl ?_
  simp only [E3, seval]
  refine Safe.rg rfl ?_
  simp only [a2U, E3, seval]
  refine Safe.rt rfl ?_
  simp only [one3, E3, seval]
  exact ⟨bad3 _, _, rfl⟩
omit hm hv hK hn64 hfull in
theorem c3J {R : AV → Heap → Prop} (hl64 : b.length ≤ 64) (h : Safe (sCx H) [.code d3S, .inScope sScp] [(4, .nil), (5, .loc (lid H 0) 0 0), (6, .int .i64 0), (7, .int .i64 b.length), (9, matV (mat m (tR b v)))] (hap H [some ⟨2, [.agg [.bool false, .nil]]⟩]) R) :
    Safe (sCx H) [.code (((ACode.region a4L false).seq (.block 0 (.loop a9J))).seq d3S), .inScope sScp] [(1, vecV v), (4, .nil), (5, .loc (lid H 0) 0 0), (6, .int .i64 0), (7, .int .i64 b.length), (9, .mu (lid H 2) 0 m none)]
      (hap H [some ⟨2, [.agg [.bool false, .nil]]⟩, some ⟨2, (vec (m * b.length) (colF b)).map ZI.av⟩, some ⟨1, fr m (pf b v (lid H 1) 0)⟩]) R := by
  have l01 : lid H 1 ≠ lid H 0 := by simp [lid]
  have l12 : lid H 1 ≠ lid H 2 := by simp [lid]
  have l13 : lid H 1 ≠ lid H 3 := by simp [lid]
  have hnm : m * b.length ≤ 64 * 64 := Nat.mul_le_mul hm64 hl64
  generalize hRest : d3S = rest at *
  unfold sCx at *
  refine Safe.rg rfl ?_
  simp only [a4L, e3O H [some ⟨2, [.agg [.bool false, .nil]]⟩, some ⟨2, (vec (m * b.length) (colF b)).map ZI.av⟩, some ⟨1, fr m (pf b v (lid H 1) 0)⟩] 2 0 m none rfl, E3, seval]
  refine Safe.lp rfl ?_
  refine Safe.keep [1, 4, 5, 6, 7, 9, 55, 56, 57] ?_
  try simp only [E3, seval]
  refine Safe.loopN (m) (fun i => [(1, vecV v), (4, .nil), (5, .loc (lid H 0) 0 0), (6, .int .i64 0), (7, .int .i64 b.length), (9, .mu (lid H 2) 0 m none), (55, .mu (lid H 2) 0 m none), (56, .int .i64 m), (57, .int .i64 i)]) (fun i => hap H [some ⟨2, [.agg [.bool false, .nil]]⟩, some ⟨2, (vec (m * b.length) (colF b)).map ZI.av⟩, some ⟨1, fr m (pf b v (lid H 1) i)⟩]) rfl rfl (fun i hi ih => ?_) ?_
  · have hlt : ((i : Int) < (m : Int)) = True := eq_true (by omega)
    have hiw : IntKind.wrap .i64 ((i : Int) + 1) = ((i + 1 : Nat) : Int) := by rw [a0a] <;> omega
    have hle : (i + 1) * b.length ≤ m * b.length := Nat.mul_le_mul_right _ hi
    rw [Nat.succ_mul] at hle
    refine Safe.inLoop ?_
    refine Safe.rg rfl ?_
    simp only [a7J, hlt, E3, seval]
    refine Safe.cd rfl ?_
    simp only [E3, seval]
    refine Safe.rg rfl ?_
    simp only [b4f, E3, seval]
    have hpi : pf b v (lid H 1) i i = .mu (lid H 1) (i * b.length) b.length (some b.length) := if_neg (Nat.lt_irrefl i)
    have hvi : eg v i = v[i]'(by omega) := d0l (by omega)
    have i1 := d2w H [some ⟨2, [.agg [.bool false, .nil]]⟩, some ⟨2, (vec (m * b.length) (colF b)).map ZI.av⟩, some ⟨1, fr m (pf b v (lid H 1) i)⟩] 1 2 0 m none .i64 i rfl rfl hi
    have i2 := d2w H [some ⟨2, [.agg [.bool false, .nil]]⟩, some ⟨2, (vec (m * b.length) (colF b)).map ZI.av⟩, some ⟨1, fr m (pf b v (lid H 1) i)⟩, some ⟨2, (tR b v i).map ZI.av⟩] 1 2 0 m none .i64 i rfl rfl hi
    have a1 : atV (hap H [some ⟨2, [.agg [.bool false, .nil]]⟩, some ⟨2, (vec (m * b.length) (colF b)).map ZI.av⟩, some ⟨1, fr m (pf b v (lid H 1) i)⟩]) (.loc (lid H 2) i 0) = some [.mu (lid H 1) (i * b.length) b.length (some b.length)] := by
      rw [c9J H [some ⟨2, [.agg [.bool false, .nil]]⟩, some ⟨2, (vec (m * b.length) (colF b)).map ZI.av⟩, some ⟨1, fr m (pf b v (lid H 1) i)⟩] 2 i rfl (by rw [b7J]; exact hi), d6q hi, hpi]; rfl
    have happ : ∀ env, appV H.length 2 32 false (.mu (lid H 1) (i * b.length) b.length (some b.length)) (.sl 2 [.agg [.bool (v[i]'(by omega)).neg, natV (v[i]'(by omega)).mag]]) env (hap H [some ⟨2, [.agg [.bool false, .nil]]⟩, some ⟨2, (vec (m * b.length) (colF b)).map ZI.av⟩, some ⟨1, fr m (pf b v (lid H 1) i)⟩]) =
        some (.mu (lid H 3) 0 (b.length + 1) none, env, hap H [some ⟨2, [.agg [.bool false, .nil]]⟩, some ⟨2, (vec (m * b.length) (colF b)).map ZI.av⟩, some ⟨1, fr m (pf b v (lid H 1) i)⟩, some ⟨2, (tR b v i).map ZI.av⟩]) := by
      intro env
      have hg : (hap H [some ⟨2, [.agg [.bool false, .nil]]⟩, some ⟨2, (vec (m * b.length) (colF b)).map ZI.av⟩, some ⟨1, fr m (pf b v (lid H 1) i)⟩])[lid H 2]? = some (some ⟨1, fr m (pf b v (lid H 1) i)⟩) := by
        simp only [hap, lid]; rw [List.getElem?_append_right (by omega)]; simp
      have := e3s (G := hap H [some ⟨2, [.agg [.bool false, .nil]]⟩, some ⟨2, (vec (m * b.length) (colF b)).map ZI.av⟩, some ⟨1, fr m (pf b v (lid H 1) i)⟩]) (n0 := H.length) (env := env) (wd := 2) (bytes := 32) (id := lid H 1) (off := i * b.length) (len := b.length) (d := b.length)
        (y := .sl 2 [(v[i]'(by omega)).av]) (ys := [(v[i]'(by omega)).av]) (r := ⟨2, (vec (m * b.length) (colF b)).map ZI.av⟩) (by rw [a1p]; rfl) rfl (by rw [List.length_map, a0g]; omega)
        (fun h => e2g (Ne.symm l12) hg (by
          show _ ∈ (fr m (pf b v (lid H 1) i)).flatMap AV.cells
          rw [d9B, ← hpi]
          exact List.mem_map.2 ⟨i, List.mem_range.2 hi, rfl⟩) h.2) (a3z _ 2 _) (by simp) (by simp) (by simp; omega) (by simp; omega)
      rw [← hvi, e1U b v hi] at this
      rw [← hvi]
      have e3 : (hap H [some ⟨2, [.agg [.bool false, .nil]]⟩, some ⟨2, (vec (m * b.length) (colF b)).map ZI.av⟩, some ⟨1, fr m (pf b v (lid H 1) i)⟩]).length = lid H 3 := by simp [hap, lid]
      rw [e3, b9x] at this
      exact this
    have hst : ∀ env, a1T 1 (.loc (lid H 2) i 0) (.mu (lid H 3) 0 (b.length + 1) none) env (hap H [some ⟨2, [.agg [.bool false, .nil]]⟩, some ⟨2, (vec (m * b.length) (colF b)).map ZI.av⟩, some ⟨1, fr m (pf b v (lid H 1) i)⟩, some ⟨2, (tR b v i).map ZI.av⟩]) =
        some (.top, env, hap H [some ⟨2, [.agg [.bool false, .nil]]⟩, some ⟨2, (vec (m * b.length) (colF b)).map ZI.av⟩, some ⟨1, fr m fun j => if j = i then .mu (lid H 3) 0 (b.length + 1) none else pf b v (lid H 1) i j⟩, some ⟨2, (tR b v i).map ZI.av⟩]) := by
      intro env
      rw [b1Z env H [some ⟨2, [.agg [.bool false, .nil]]⟩, some ⟨2, (vec (m * b.length) (colF b)).map ZI.av⟩, some ⟨1, fr m (pf b v (lid H 1) i)⟩, some ⟨2, (tR b v i).map ZI.av⟩] 1 2 i 0 (.mu (lid H 3) 0 (b.length + 1) none) rfl (by rw [b7J]; exact hi) rfl rfl (Nat.le_refl 1)]
      rw [a2p, d6p]; rfl
    rw [Nat.zero_add] at i1 i2
    refine Safe.rg rfl ?_
    simp only [b4e, i1, i2, a1, a1g _ v .i64 i (by omega), happ, hst, E3, seval]
    have hfz : (fr m fun j => if j = i then AV.mu (lid H 3) 0 (b.length + 1) none else pf b v (lid H 1) i j).map (frz (lid H 3) ⟨2, (tR b v i).map ZI.av⟩) = fr m (pf b v (lid H 1) (i + 1)) := by
      unfold fr
      rw [List.map_map]
      refine List.map_congr_left fun j hj => ?_
      simp only [Function.comp]
      by_cases e : j = i
      · rw [if_pos e, b1x H 3 (tR b v i) _ none (by rw [d5B]), e]
        exact (if_pos (Nat.lt_succ_self i)).symm
      · rw [if_neg e, e6N b v _ _ _ _ _ l13]
        unfold pf
        by_cases h : j < i
        · rw [if_pos h, if_pos (by omega)]
        · rw [if_neg h, if_neg (by omega)]
    refine Safe.freeze 3 hH rfl rfl (a1E 2 ZI.av _ ZI.cl) ?_
    simp only [hfz, a4m, a2x, a0N, E3, seval]
    refine Safe.rg rfl ?_
    simp only [b4d, hiw, E3, seval]
    refine Safe.keep [1, 4, 5, 6, 7, 9, 55, 56, 57] ?_
    simp only [E3, seval]
    refine Safe.drop (L := [_, _, _]) hH rfl (by simp only [List.all_cons, List.all_nil, E3, seval]) (by
      intro r hr x hx
      simp only [List.mem_cons, Option.some.injEq, List.not_mem_nil, or_false] at hr
      rcases hr with rfl | rfl | rfl
      · exact a1n (b4i x hx)
      · exact a1n (a1E 2 ZI.av _ ZI.cl x hx)
      · have hx' : x ∈ (fr m (pf b v (lid H 1) (i + 1))).flatMap AV.cells := hx
        rw [d9B] at hx'
        obtain ⟨j, _, rfl⟩ := d2Y hx'
        exact e4J b v _ _ _ _ l13) ?_
    exact ih
  · refine Safe.inLoop ?_
    refine Safe.rg rfl ?_
    simp only [a7J, Int.lt_irrefl, E3, seval]
    refine Safe.cd rfl ?_
    simp only [E3, seval]
    rw [e6O]
    refine Safe.freeze 2 hH rfl rfl (a1E 1 vecV _ a0e) ?_
    refine Safe.keep [4, 5, 6, 7, 9] ?_
    simp only [c9U H 2 (mat m (tR b v)) m none (by rw [a0f]), a0N, a4m, E3, seval]
    refine Safe.drop2 hH rfl (by simp only [List.all_cons, List.all_nil, E3, seval]) (by repeat (first | exact RC.nil | refine RC.none ?_ | refine RC.row ZI.cl ?_ | refine RC.cons (a0m _) ?_ | refine RC.row a0e ?_ | refine RC.emp ?_ | refine RC.zero ?_ | refine RC.one (Z_cl _) ?_ | refine RC.one (ZI.cl _) ?_ | refine RC.one (a0e _) ?_)) ?_
    refine Safe.drop1 hH rfl (by simp only [List.all_cons, List.all_nil, E3, seval]) (by repeat (first | exact RC.nil | refine RC.none ?_ | refine RC.row ZI.cl ?_ | refine RC.cons (a0m _) ?_ | refine RC.row a0e ?_ | refine RC.emp ?_ | refine RC.zero ?_ | refine RC.one (Z_cl _) ?_ | refine RC.one (ZI.cl _) ?_ | refine RC.one (a0e _) ?_)) ?_
    repeat (first | refine Safe.seq ?_ | refine Safe.skip ?_ | refine Safe.inBlock ?_ | refine Safe.block ?_ | refine Safe.exit rfl ?_)
    exact h
end
section
variable (b : List (List ZI)) (v : List ZI) {e : Nat} (hm : Mok e b) (hv : Vok e v) (hK : 65 * (KB e + 2) < 10000000000)
include hm hv
omit hv in
theorem d7z (h0 : elE b ≠ 0) : a0d Pr a0M [matV b, vecV v] (.tup [vecV [], Z 0, .int .i64 (elE b)]) := by
  have hask := a3q b hm
  unfold askT at hask
  rw [if_neg h0] at hask
  have h0' : (elE b = 0) = False := eq_false h0
  refine a0d.introL a2d a2c (Nat.le_of_ble_eq_true rfl) (cl3v _ _ _) fun H hH => ?_
  refine Safe.rg rfl ?_
  simp only [a1P, E3, seval]
  refine Safe.rg rfl ?_
  simp only [a1r, E3, seval]
  first | refine (hask).acall ?_ | refine (hask).dcall ?_
  try simp only [E3, seval]
  refine Safe.rg rfl ?_
  simp only [a1q, h0', E3, seval]
  refine Safe.cd rfl ?_
  simp only [E3, seval]
  refine Safe.rg rfl ?_
  simp only [a9G, E3, seval]
  refine Safe.rt rfl ?_
  simp only [one3, E3, seval]
  exact ⟨bad3 _, _, rfl⟩
omit hv in
theorem d7x (h0 : elE b = 0) (hn : 0 < b.length) (hl : v.length ≠ wid b) : a0d Pr a0M [matV b, vecV v] (.tup [vecV [], Z 0, .int .i64 8]) := by
  have hask := a3q b hm
  unfold askT at hask
  rw [if_pos h0] at hask
  have hn0 : ((b.length : Int) = 0) = False := eq_false (by omega)
  have hl' : ((v.length : Int) = (wid b : Int)) = False := eq_false (by omega)
  refine a0d.introL a2d a2c (Nat.le_of_ble_eq_true rfl) (cl3v _ _ _) fun H hH => ?_
  refine Safe.rg rfl ?_
  simp only [a1P, E3, seval]
  refine Safe.rg rfl ?_
  simp only [a1r, E3, seval]
  first | refine (hask).acall ?_ | refine (hask).dcall ?_
  try simp only [E3, seval]
  refine Safe.rg rfl ?_
  simp only [a1q, E3, seval]
  refine Safe.cd rfl ?_
  simp only [E3, seval]
  refine Safe.rg rfl ?_
  simp only [a1O, E3, seval]
  refine Safe.rg rfl ?_
  simp only [a1N, E3, seval]
  refine Safe.rg rfl ?_
  simp only [a1M, hn0, E3, seval]
  refine Safe.cd rfl ?_
  simp only [E3, seval]
  refine Safe.rg rfl ?_
  simp only [a2J, hl', E3, seval]
  refine Safe.cd rfl ?_
  simp only [E3, seval]
  refine Safe.rg rfl ?_
  simp only [a7L, E3, seval]
  refine Safe.rt rfl ?_
  simp only [one3, E3, seval]
  exact ⟨bad3 _, _, rfl⟩
include hK
omit hv in
theorem d7y (h0 : elE b = 0) (hn : 0 < b.length) (hl : v.length = wid b) (hr : b0C b.length (wid b) (Bm b) < b.length) : a0d Pr a0M [matV b, vecV v] (.tup [vecV [], Z 0, .int .i64 50]) := by
  have hask := a3q b hm
  unfold askT at hask
  rw [if_pos h0] at hask
  have hn0 : ((b.length : Int) = 0) = False := eq_false (by omega)
  have hl' : ((v.length : Int) = (wid b : Int)) = True := eq_true (by omega)
  have hr' : ((b0C b.length (wid b) (Bm b) : Int) < (b.length : Int)) = True := eq_true (by omega)
  refine a0d.introL a2d a2c (Nat.le_of_ble_eq_true rfl) (cl3v _ _ _) fun H hH => ?_
  refine Safe.rg rfl ?_
  simp only [a1P, E3, seval]
  refine Safe.rg rfl ?_
  simp only [a1r, E3, seval]
  first | refine (hask).acall ?_ | refine (hask).dcall ?_
  try simp only [E3, seval]
  refine Safe.rg rfl ?_
  simp only [a1q, E3, seval]
  refine Safe.cd rfl ?_
  simp only [E3, seval]
  refine Safe.rg rfl ?_
  simp only [a1O, E3, seval]
  refine Safe.rg rfl ?_
  simp only [a1N, E3, seval]
  refine Safe.rg rfl ?_
  simp only [a1M, hn0, E3, seval]
  refine Safe.cd rfl ?_
  simp only [E3, seval]
  refine Safe.rg rfl ?_
  simp only [a2J, hl', E3, seval]
  refine Safe.cd rfl ?_
  simp only [E3, seval]
  refine Safe.rg rfl ?_
  simp only [a2Y, E3, seval]
  first | refine (b8E b hm (by omega) h0).acall ?_ | refine (b8E b hm (by omega) h0).dcall ?_
  try simp only [E3, seval]
  refine Safe.rg rfl ?_
  simp only [a2X, hr', E3, seval]
  refine Safe.cd rfl ?_
  simp only [E3, seval]
  refine Safe.rg rfl ?_
  simp only [a7K, E3, seval]
  refine Safe.rt rfl ?_
  simp only [one3, E3, seval]
  exact ⟨bad3 _, _, rfl⟩
omit hK in
theorem b0I (h0 : elE b = 0) (hn : 0 < b.length) (hl : v.length = wid b) (hr : b0C b.length (wid b) (Bm b) = b.length) : (gproc (wid b) (Sm b v (wid b)) b.length).cs.length = b.length :=
  d3P (B := Bm b) (m := wid b) (fun i k => ⟨_, rfl⟩) (fun i k => by obtain ⟨z, h, _⟩ := e1o b v hm hv (wid b) i k; exact ⟨z, h⟩) (fun i k hi hk => by
    unfold Sm Bm
    rw [if_pos hi, if_pos hk]) hr
theorem d9z (h0 : elE b = 0) (hn : 0 < b.length) (hl : v.length = wid b) (hr : b0C b.length (wid b) (Bm b) = b.length) (hone : (gproc (wid b) (Sm b v (wid b)) (b.length + 1)).cs.length = b.length) :
    a0d Pr a0M [matV b, vecV v] (.tup [vecV (vec b.length (outI (solX (wid b) (Sm b v (wid b)) b.length) b.length)), Z (a0K (solX (wid b) (Sm b v (wid b)) b.length) b.length : Nat), .int .i64 0]) := by
  have hask := a3q b hm
  unfold askT at hask
  rw [if_pos h0] at hask
  obtain ⟨hn64, hw, hrc, hrows⟩ := a4R h0
  have hn0 : ((b.length : Int) = 0) = False := eq_false (by omega)
  have hl' : ((v.length : Int) = (wid b : Int)) = True := eq_true (by omega)
  have hr' : ((b0C b.length (wid b) (Bm b) : Int) < (b.length : Int)) = False := eq_false (by omega)
  have hn1 : IntKind.wrap .i64 ((b.length : Int) + 1) = ((b.length + 1 : Nat) : Int) := by rw [a0a] <;> omega
  refine a0d.intro a2d a2c (Nat.le_of_ble_eq_true rfl) (cl3v _ _ _) fun H hH => ?_
  refine Safe.rg rfl ?_
  simp only [a1P, E3, seval]
  refine Safe.rg rfl ?_
  simp only [a1r, E3, seval]
  first | refine (hask).acall ?_ | refine (hask).dcall ?_
  try simp only [E3, seval]
  refine Safe.rg rfl ?_
  simp only [a1q, E3, seval]
  refine Safe.cd rfl ?_
  simp only [E3, seval]
  refine Safe.rg rfl ?_
  simp only [a1O, E3, seval]
  refine Safe.rg rfl ?_
  simp only [a1N, E3, seval]
  refine Safe.rg rfl ?_
  simp only [a1M, hn0, E3, seval]
  refine Safe.cd rfl ?_
  simp only [E3, seval]
  refine Safe.rg rfl ?_
  simp only [a2J, hl', E3, seval]
  refine Safe.cd rfl ?_
  simp only [E3, seval]
  refine Safe.rg rfl ?_
  simp only [a2Y, E3, seval]
  first | refine (b8E b hm (by omega) h0).acall ?_ | refine (b8E b hm (by omega) h0).dcall ?_
  try simp only [E3, seval]
  refine Safe.rg rfl ?_
  simp only [a2X, hr', E3, seval]
  refine Safe.cd rfl ?_
  simp only [E3, seval]
  refine Safe.rg rfl ?_
  simp only [a4M, E3, seval]
  refine (c6L b e hm (by unfold KB at hK; omega) hrc _).mono ?_
  rintro r' H' ⟨rfl, rfl⟩
  simp only [E3, seval]
  refine Safe.keep [1, 4, 5, 6, 7, 9] ?_
  simp only [E3, seval]
  simp only [d5U b v, b9f, a3b, List.length_cons, List.length_nil, Nat.zero_add, Nat.reduceAdd, List.cons_append, List.nil_append]
  exact c3J b v hw hl.symm hn hH hn64 (d7h b v hm hv hK hn64 hw hl.symm hn (b0I b v hm hv h0 hn hl hr) hH hone)
theorem d4u (h0 : elE b = 0) (hn : 0 < b.length) (hl : v.length = wid b) (hr : b0C b.length (wid b) (Bm b) = b.length) (hone : (gproc (wid b) (Sm b v (wid b)) (b.length + 1)).cs.length = b.length + 1) :
    a0d Pr a0M [matV b, vecV v] (.tup [vecV [], Z 0, .int .i64 6]) := by
  have hask := a3q b hm
  unfold askT at hask
  rw [if_pos h0] at hask
  obtain ⟨hn64, hw, hrc, hrows⟩ := a4R h0
  have hn0 : ((b.length : Int) = 0) = False := eq_false (by omega)
  have hl' : ((v.length : Int) = (wid b : Int)) = True := eq_true (by omega)
  have hr' : ((b0C b.length (wid b) (Bm b) : Int) < (b.length : Int)) = False := eq_false (by omega)
  have hn1 : IntKind.wrap .i64 ((b.length : Int) + 1) = ((b.length + 1 : Nat) : Int) := by rw [a0a] <;> omega
  refine a0d.introL a2d a2c (Nat.le_of_ble_eq_true rfl) (cl3v _ _ _) fun H hH => ?_
  refine Safe.rg rfl ?_
  simp only [a1P, E3, seval]
  refine Safe.rg rfl ?_
  simp only [a1r, E3, seval]
  first | refine (hask).acall ?_ | refine (hask).dcall ?_
  try simp only [E3, seval]
  refine Safe.rg rfl ?_
  simp only [a1q, E3, seval]
  refine Safe.cd rfl ?_
  simp only [E3, seval]
  refine Safe.rg rfl ?_
  simp only [a1O, E3, seval]
  refine Safe.rg rfl ?_
  simp only [a1N, E3, seval]
  refine Safe.rg rfl ?_
  simp only [a1M, hn0, E3, seval]
  refine Safe.cd rfl ?_
  simp only [E3, seval]
  refine Safe.rg rfl ?_
  simp only [a2J, hl', E3, seval]
  refine Safe.cd rfl ?_
  simp only [E3, seval]
  refine Safe.rg rfl ?_
  simp only [a2Y, E3, seval]
  first | refine (b8E b hm (by omega) h0).acall ?_ | refine (b8E b hm (by omega) h0).dcall ?_
  try simp only [E3, seval]
  refine Safe.rg rfl ?_
  simp only [a2X, hr', E3, seval]
  refine Safe.cd rfl ?_
  simp only [E3, seval]
  refine Safe.rg rfl ?_
  simp only [a4M, E3, seval]
  refine (c6L b e hm (by unfold KB at hK; omega) hrc _).mono ?_
  rintro r' H' ⟨rfl, rfl⟩
  simp only [E3, seval]
  refine Safe.keep [1, 4, 5, 6, 7, 9] ?_
  simp only [E3, seval]
  simp only [d5U b v, b9f, a3b, List.length_cons, List.length_nil, Nat.zero_add, Nat.reduceAdd, List.cons_append, List.nil_append]
  exact c3J b v hw hl.symm hn hH hn64 (d7i b v hm hv hK hn64 hw hl.symm hn (b0I b v hm hv h0 hn hl hr) hone)
end
end Go.Abs
set_option linter.unusedVariables false
set_option linter.unusedSimpArgs false
namespace Go.Abs
section
variable (b : List (List ZI)) (v : List ZI) {e : Nat} (hm : Mok e b) (hv : Vok e v) (hK : 65 * (KB e + 2) < 10000000000)
theorem c8p (hn : b.length = 0) : ((gproc v.length (Sm b v v.length) (b.length + 1)).cs.length = b.length ∧ c5x v = -1) ∨ ((gproc v.length (Sm b v v.length) (b.length + 1)).cs.length = b.length + 1 ∧ c5x v ≥ 0) := by
  rw [hn]
  have hS : ∀ i, i < v.length → (gproc v.length (Sm b v v.length) 0).g i 0 = ((zg v i : Int) : Rat) := fun i hi => by
    show a1G (Sm b v v.length) [] i 0 = _
    rw [b7G]
    unfold Sm
    rw [if_pos hi, if_neg (by omega), if_pos hn.symm]
  have hcs0 : (gproc v.length (Sm b v v.length) 0).cs = [] := rfl
  rcases a0V (fun p => (gproc v.length (Sm b v v.length) 0).g p 0) (gproc v.length (Sm b v v.length) 0).cs.length v.length with ⟨p, hf, h1, h2, h3, h4⟩ | ⟨hf, h4⟩
  · have e : gproc v.length (Sm b v v.length) (0 + 1) = _ := a0J hf
    rw [e]
    refine .inr ⟨by rw [a1F, hcs0]; rfl, ?_⟩
    rcases b2h v with ⟨i, _, _, _, h, _⟩ | ⟨h, _, _⟩
    · omega
    · exact absurd (by rw [hS p h2, h p h2]; rfl) h3
  · have e : gproc v.length (Sm b v v.length) (0 + 1) = _ := a1I hf
    rw [e]
    refine .inl ⟨rfl, ?_⟩
    rcases b2h v with ⟨i, hi, h0, _, h, _⟩ | ⟨_, h, _⟩
    · refine absurd (Rat.intCast_inj.1 ?_) h0
      rw [← hS i hi]
      exact h4 i (by rw [hcs0]; exact Nat.zero_le _) hi
    · exact h
include hm hv
theorem d4t (h0 : elE b = 0) (hn : b.length = 0) (hone : (gproc v.length (Sm b v v.length) (b.length + 1)).cs.length = b.length) (he : e ≤ 17592186044416) :
    a0d Pr a0M [matV b, vecV v] (.tup [vecV (vec b.length (outI (solX v.length (Sm b v v.length) b.length) b.length)), Z (a0K (solX v.length (Sm b v v.length) b.length) b.length : Nat), .int .i64 0]) := by
  have hask := a3q b hm
  unfold askT at hask
  rw [if_pos h0] at hask
  have hld : c5x v = -1 := by
    rcases c8p b v hn with h | h
    · exact h.2
    · omega
  have hge : ((-1 : Int) ≥ 0) = False := eq_false (by omega)
  have hn0 : ((b.length : Int) = 0) = True := eq_true (by omega)
  rw [hn]
  refine a0d.introL a2d a2c (Nat.le_of_ble_eq_true rfl) (cl3v _ _ _) fun H hH => ?_
  refine Safe.rg rfl ?_
  simp only [a1P, E3, seval]
  refine Safe.rg rfl ?_
  simp only [a1r, E3, seval]
  first | refine (hask).acall ?_ | refine (hask).dcall ?_
  try simp only [E3, seval]
  refine Safe.rg rfl ?_
  simp only [a1q, E3, seval]
  refine Safe.cd rfl ?_
  simp only [E3, seval]
  refine Safe.rg rfl ?_
  simp only [a1O, E3, seval]
  refine Safe.rg rfl ?_
  simp only [a1N, E3, seval]
  refine Safe.rg rfl ?_
  simp only [a1M, hn0, E3, seval]
  refine Safe.cd rfl ?_
  simp only [E3, seval]
  refine Safe.rg rfl ?_
  simp only [a5H, E3, seval]
  first | refine (a5L v (hv.mono he)).acall ?_ | refine (a5L v (hv.mono he)).dcall ?_
  try simp only [E3, seval]
  simp only [hld, hge, E3, seval]
  refine Safe.cd rfl ?_
  simp only [E3, seval]
  refine Safe.rg rfl ?_
  simp only [a9F, E3, seval]
  first | refine (b1X 1 (by decide) (by decide)).acall ?_ | refine (b1X 1 (by decide) (by decide)).dcall ?_
  try simp only [E3, seval]
  refine Safe.rt rfl ?_
  simp only [one3, E3, seval]
  exact ⟨Le.tup3 (Le.nil 2 (by decide)) (Le.refl _) (Le.refl _), _, rfl⟩
theorem c2N (h0 : elE b = 0) (hn : b.length = 0) (hone : (gproc v.length (Sm b v v.length) (b.length + 1)).cs.length = b.length + 1) (he : e ≤ 17592186044416) :
    a0d Pr a0M [matV b, vecV v] (.tup [vecV [], Z 0, .int .i64 6]) := by
  have hask := a3q b hm
  unfold askT at hask
  rw [if_pos h0] at hask
  have hld : c5x v ≥ 0 := by
    rcases c8p b v hn with h | h
    · omega
    · exact h.2
  have hge : (c5x v ≥ 0) = True := eq_true hld
  have hn0 : ((b.length : Int) = 0) = True := eq_true (by omega)
  refine a0d.introL a2d a2c (Nat.le_of_ble_eq_true rfl) (cl3v _ _ _) fun H hH => ?_
  refine Safe.rg rfl ?_
  simp only [a1P, E3, seval]
  refine Safe.rg rfl ?_
  simp only [a1r, E3, seval]
  first | refine (hask).acall ?_ | refine (hask).dcall ?_
  try simp only [E3, seval]
  refine Safe.rg rfl ?_
  simp only [a1q, E3, seval]
  refine Safe.cd rfl ?_
  simp only [E3, seval]
  refine Safe.rg rfl ?_
  simp only [a1O, E3, seval]
  refine Safe.rg rfl ?_
  simp only [a1N, E3, seval]
  refine Safe.rg rfl ?_
  simp only [a1M, hn0, E3, seval]
  refine Safe.cd rfl ?_
  simp only [E3, seval]
  refine Safe.rg rfl ?_
  simp only [a5H, E3, seval]
  first | refine (a5L v (hv.mono he)).acall ?_ | refine (a5L v (hv.mono he)).dcall ?_
  try simp only [E3, seval]
  simp only [hge, E3, seval]
  refine Safe.cd rfl ?_
  simp only [E3, seval]
  refine Safe.rg rfl ?_
  simp only [a2U, E3, seval]
  refine Safe.rt rfl ?_
  simp only [one3, E3, seval]
  exact ⟨bad3 _, _, rfl⟩
omit hv in
theorem d7o (h0 : elE b ≠ 0) : a0d Pr a1s [matV b, vecV v] (.tup [vecV [], Z 0, .int .i64 (elE b)]) := by
  have h0' : (elE b = 0) = False := eq_false h0
  refine a0d.introL a4x a4w (Nat.le_of_ble_eq_true rfl) (cl3v _ _ _) fun H hH => ?_
  refine Safe.rg rfl ?_
  simp only [a2R, E3, seval]
  refine Safe.rg rfl ?_
  simp only [a2Q, E3, seval]
  first | refine (a2j b hm).acall ?_ | refine (a2j b hm).dcall ?_
  try simp only [E3, seval]
  refine Safe.rg rfl ?_
  simp only [a2P, h0', E3, seval]
  refine Safe.cd rfl ?_
  simp only [E3, seval]
  refine Safe.rg rfl ?_
  simp only [b2F, E3, seval]
  refine Safe.rt rfl ?_
  simp only [one3, E3, seval]
  exact ⟨bad3 _, _, rfl⟩
omit hv in
theorem d7m (h0 : elE b = 0) (hn : 0 < b.length) (hl : v.length ≠ wid b) : a0d Pr a1s [matV b, vecV v] (.tup [vecV [], Z 0, .int .i64 8]) := by
  obtain ⟨hn64, hw, hr, hrows⟩ := a4R h0
  have hg : ((b.length : Int) > 0) = True := eq_true (by omega)
  have hl' : ((v.length : Int) = (wid b : Int)) = False := eq_false (by omega)
  refine a0d.introL a4x a4w (Nat.le_of_ble_eq_true rfl) (cl3v _ _ _) fun H hH => ?_
  refine Safe.rg rfl ?_
  simp only [a2R, E3, seval]
  refine Safe.rg rfl ?_
  simp only [a2Q, E3, seval]
  first | refine (a2j b hm).acall ?_ | refine (a2j b hm).dcall ?_
  try simp only [E3, seval]
  refine Safe.rg rfl ?_
  simp only [a2P, h0, E3, seval]
  refine Safe.cd rfl ?_
  simp only [E3, seval]
  refine Safe.rg rfl ?_
  simp only [a2O, hg, E3, seval]
  first | refine (a4X b hm hr).acall ?_ | refine (a4X b hm hr).dcall ?_
  try simp only [E3, seval]
  simp only [hl', E3, seval]
  refine Safe.cd rfl ?_
  simp only [E3, seval]
  refine Safe.rg rfl ?_
  simp only [b2E, E3, seval]
  refine Safe.rt rfl ?_
  simp only [one3, E3, seval]
  exact ⟨bad3 _, _, rfl⟩
omit hv in
theorem d7n (h0 : elE b = 0) (hn : 0 < b.length) (hl : v.length = wid b) (hr : b0C b.length (wid b) (Bm b) < b.length) (hK1 : KB e + 1 < 1099511627776) : a0d Pr a1s [matV b, vecV v] (.tup [vecV [], Z 0, .int .i64 50]) := by
  obtain ⟨hn64, hw, hrc, hrows⟩ := a4R h0
  have hg : ((b.length : Int) > 0) = True := eq_true (by omega)
  have hl' : ((v.length : Int) = (wid b : Int)) = True := eq_true (by omega)
  have hr' : ((b0C b.length (wid b) (Bm b) : Int) < (b.length : Int)) = True := eq_true (by omega)
  refine a0d.introL a4x a4w (Nat.le_of_ble_eq_true rfl) (cl3v _ _ _) fun H hH => ?_
  refine Safe.rg rfl ?_
  simp only [a2R, E3, seval]
  refine Safe.rg rfl ?_
  simp only [a2Q, E3, seval]
  first | refine (a2j b hm).acall ?_ | refine (a2j b hm).dcall ?_
  try simp only [E3, seval]
  refine Safe.rg rfl ?_
  simp only [a2P, h0, E3, seval]
  refine Safe.cd rfl ?_
  simp only [E3, seval]
  refine Safe.rg rfl ?_
  simp only [a2O, hg, E3, seval]
  first | refine (a4X b hm hrc).acall ?_ | refine (a4X b hm hrc).dcall ?_
  try simp only [E3, seval]
  simp only [hl', E3, seval]
  refine Safe.cd rfl ?_
  simp only [E3, seval]
  refine Safe.rg rfl ?_
  simp only [a4v, E3, seval]
  first | refine (b2c b hm hK1 h0).acall ?_ | refine (b2c b hm hK1 h0).dcall ?_
  try simp only [E3, seval]
  refine Safe.rg rfl ?_
  simp only [a4u, hr', E3, seval]
  refine Safe.cd rfl ?_
  simp only [E3, seval]
  refine Safe.rg rfl ?_
  simp only [b2D, E3, seval]
  refine Safe.rt rfl ?_
  simp only [one3, E3, seval]
  exact ⟨bad3 _, _, rfl⟩
noncomputable def rCx (H : Heap) : Cx := ⟨Pr, fun _ _ => false, a1s, 105, [.tmp 4, .cell 5 (some 2), .tmp 6], H.length⟩
def d7s : ACode := (.seq (.seq (.region a3F false) (.block 0 (.loop b2H))) (.seq (.region a3E false) (.seq (.region a3D false) (.seq (.seq (.region a3C false) (.block 2 (.loop b2G))) (.seq (.region a5T false) (.seq (.region a5S true) (.ret)))))))
omit hv in
theorem c6S (h0 : elE b = 0) (hcase : b.length = 0 ∨ v.length = wid b) (hr : b0C b.length (wid b) (Bm b) = b.length) (hK1 : KB e + 1 < 1099511627776) (r : AV) (hcl : Cl r) (h : ∀ H, a0E H → Safe (rCx H) [.code (.region a2i false), .code d7s] [(0, matV b), (1, vecV v), (4, .nil), (5, .loc (lid H 0) 0 0)] (hap H [some ⟨2, [.agg [.bool false, .nil]]⟩]) fun r' H' => Le r' r ∧ ∃ L, H' = hap H L) : a0d Pr a1s [matV b, vecV v] r := by
  obtain ⟨hn64, hw, hrc, hrows⟩ := a4R h0
  have hr' : ((b0C b.length (wid b) (Bm b) : Int) < (b.length : Int)) = False := eq_false (by omega)
  refine a0d.introL a4x a4w (Nat.le_of_ble_eq_true rfl) hcl fun H hH => ?_
  have h := h H hH
  unfold rCx d7s at h
  refine Safe.rg rfl ?_
  simp only [a2R, E3, seval]
  refine Safe.rg rfl ?_
  simp only [a2Q, E3, seval]
  first | refine (a2j b hm).acall ?_ | refine (a2j b hm).dcall ?_
  try simp only [E3, seval]
  refine Safe.rg rfl ?_
  simp only [a2P, h0, E3, seval]
  refine Safe.cd rfl ?_
  simp only [E3, seval]
  by_cases hn : b.length = 0
  · have hg : ((b.length : Int) > 0) = False := eq_false (by omega)
    refine Safe.rg rfl ?_
    simp only [a2O, hg, E3, seval]
    refine Safe.cd rfl ?_
    simp only [E3, seval]
    refine Safe.rg rfl ?_
    simp only [a4v, E3, seval]
    first | refine (b2c b hm hK1 h0).acall ?_ | refine (b2c b hm hK1 h0).dcall ?_
    try simp only [E3, seval]
    refine Safe.rg rfl ?_
    simp only [a4u, hr', E3, seval]
    refine Safe.cd rfl ?_
    simp only [E3, seval]
    refine Safe.keep [0, 1, 4, 5] ?_
    simp only [E3, seval]
    repeat (first | refine Safe.seq ?_ | refine Safe.skip ?_ | refine Safe.inBlock ?_ | refine Safe.block ?_ | refine Safe.exit rfl ?_)
    exact h
  · have hg : ((b.length : Int) > 0) = True := eq_true (by omega)
    have hl' : ((v.length : Int) = (wid b : Int)) = True := eq_true (by omega)
    refine Safe.rg rfl ?_
    simp only [a2O, hg, E3, seval]
    first | refine (a4X b hm hrc).acall ?_ | refine (a4X b hm hrc).dcall ?_
    try simp only [E3, seval]
    simp only [hl', E3, seval]
    refine Safe.cd rfl ?_
    simp only [E3, seval]
    refine Safe.rg rfl ?_
    simp only [a4v, E3, seval]
    first | refine (b2c b hm hK1 h0).acall ?_ | refine (b2c b hm hK1 h0).dcall ?_
    try simp only [E3, seval]
    refine Safe.rg rfl ?_
    simp only [a4u, hr', E3, seval]
    refine Safe.cd rfl ?_
    simp only [E3, seval]
    refine Safe.keep [0, 1, 4, 5] ?_
    simp only [E3, seval]
    repeat (first | refine Safe.seq ?_ | refine Safe.skip ?_ | refine Safe.inBlock ?_ | refine Safe.block ?_ | refine Safe.exit rfl ?_)
    exact h
theorem d3T {H : Heap} (hH : a0E H) (hlen : ∀ i, (h : i < b.length) → v.length ≤ b[i].length) (hn64 : b.length ≤ 64) (hsz : v.length ≤ 64 ∨ b.length = 0) (hfull : (gproc v.length (Sm b v v.length) b.length).cs.length = b.length) (hone : (gproc v.length (Sm b v v.length) (b.length + 1)).cs.length = b.length) (hcv : b.length ≤ v.length)
    (he : e ≤ 17592186044416) (hK1 : KB e + 1 < 1099511627776) : Safe (rCx H) [.code (.region a2i false), .code d7s] [(0, matV b), (1, vecV v), (4, .nil), (5, .loc (lid H 0) 0 0)] (hap H [some ⟨2, [.agg [.bool false, .nil]]⟩])
    fun r' H' => r' = .tup [vecV (vec b.length (outI (solX v.length (Sm b v v.length) b.length) b.length)), Z (a0K (solX v.length (Sm b v v.length) b.length) b.length : Nat), .int .i64 0] ∧ ∃ L, H' = hap H L := by
  have hvl := hv.len
  have hn1 : IntKind.wrap .i64 ((b.length : Int) + 1) = ((b.length + 1 : Nat) : Int) := by rw [a0a] <;> omega
  have hzx : a0E (hap H [some ⟨2, [.agg [.bool false, .nil]]⟩]) := c5F hH fun c hc a ha => by
    have : c = ⟨2, [.agg [.bool false, .nil]]⟩ := by simpa using hc
    subst this
    exact b4i a ha
  have hB := e1o b v hm hv v.length
  have hcs := b8L hfull
  unfold d7s rCx
  refine Safe.rg rfl ?_
  simp only [a2i, E3, seval]
  refine Safe.nilrow 10 1 (by decide) (by simp only [E3, seval]) ?_
  refine Safe.rg rfl ?_
  simp only [a3F, E3, seval]
  refine Safe.lp rfl ?_
  refine Safe.keep [0, 1, 4, 5, 10, 11] ?_
  try simp only [E3, seval]
  refine Safe.loopN (v.length) (fun i => [(0, matV b), (1, vecV v), (4, .nil), (5, .loc (lid H 0) 0 0), (10, .mu (lid H 1) 0 i none), (11, .int .i64 i)]) (fun i => hap H [some ⟨2, [.agg [.bool false, .nil]]⟩, some ⟨1, (mat i fun k => [eg v k]).map vecV⟩]) rfl rfl (fun i hi ih => ?_) ?_
  · have hlt : ((i : Int) < (v.length : Int)) = True := eq_true (by omega)
    have hiw : IntKind.wrap .i64 ((i : Int) + 1) = ((i + 1 : Nat) : Int) := by rw [a0a] <;> omega
    have hvi : eg v i = v[i] := d0l hi
    have hcb : clb (AV.sl 2 [AV.agg [AV.bool v[i].neg, natV v[i].mag]]) = true := d0r.2 (a0e [v[i]])
    refine Safe.inLoop ?_
    refine Safe.rg rfl ?_
    simp only [a2u, hlt, E3, seval]
    refine Safe.cd rfl ?_
    simp only [E3, seval]
    refine Safe.rg rfl ?_
    simp only [a5X, a1g _ v .i64 i hi, hcb, E3, seval]
    rw [a5p hH 1 (a1v H 1) a0e (mat i fun k => [eg v k]) [eg v i] (mat (i + 1) fun k => [eg v k]) (by rw [a0f]) rfl (by repeat (first | exact RC.nil | refine RC.none ?_ | refine RC.row ZI.cl ?_ | refine RC.cons (a0m _) ?_ | refine RC.row a0e ?_ | refine RC.emp ?_ | refine RC.zero ?_ | refine RC.one (Z_cl _) ?_ | refine RC.one (ZI.cl _) ?_ | refine RC.one (a0e _) ?_)) (by rw [hvi]; rfl) (a6U _ _) (by omega) (by omega)]
    simp only [E3, seval]
    refine Safe.rg rfl ?_
    simp only [a5W, hiw, E3, seval]
    refine Safe.keep [0, 1, 4, 5, 10, 11] ?_
    simp only [E3, seval]
    exact ih
  · refine Safe.inLoop ?_
    refine Safe.rg rfl ?_
    simp only [a2u, Int.lt_irrefl, E3, seval]
    refine Safe.cd rfl ?_
    simp only [E3, seval]
    have hom : mat v.length (fun k => [eg v k]) = oneM v := by
      refine List.ext_getElem (by rw [a0f, oneM, List.length_map]) fun k h1 h2 => ?_
      have hk : k < v.length := by rw [a0f] at h1; exact h1
      rw [a6f, d0l hk]; simp [oneM]
    rw [hom]
    refine Safe.freeze 1 hH rfl rfl (a1E 1 vecV _ a0e) ?_
    refine Safe.keep [0, 1, 4, 5, 10] ?_
    simp only [c9U H 1 (oneM v) v.length none (by rw [oneM, List.length_map]), a0N, E3, seval]
    refine Safe.drop1 hH rfl (by simp only [List.all_cons, List.all_nil, E3, seval]) (by repeat (first | exact RC.nil | refine RC.none ?_ | refine RC.row ZI.cl ?_ | refine RC.cons (a0m _) ?_ | refine RC.row a0e ?_ | refine RC.emp ?_ | refine RC.zero ?_ | refine RC.one (Z_cl _) ?_ | refine RC.one (ZI.cl _) ?_ | refine RC.one (a0e _) ?_)) ?_
    have hol : (oneM v).length = v.length := by rw [oneM, List.length_map]
    have hcol := b8m b (oneM v) (p := 1) (m := v.length) hlen (by omega) (fun i h => by simp [oneM]) (by omega) hvl (hm.mono he) ⟨by omega, fun x hx => by
      simp only [oneM, List.mem_map] at hx
      obtain ⟨y, hy, rfl⟩ := hx
      exact ⟨by simp, fun z hz => by
        have : z = y := by simpa using hz
        rw [this]; exact (hv.mono he).el y hy⟩⟩ (hap H [some ⟨2, [.agg [.bool false, .nil]]⟩])
    have hS : (fun (j k : Nat) => Rv (((zg (mg (a3O b (oneM v) v.length) j) k : Int)) : Rat)) = fun j k => Rv (Sm b v v.length j k) := by
      funext j k; rw [← Bm_C]
    rw [hS] at hcol
    refine Safe.rg rfl ?_
    simp only [a3E, E3, seval]
    refine hcol.mono ?_
    rintro r' H' ⟨rfl, rfl⟩
    simp only [hn1, E3, seval]
    refine (c1C hB (by omega) hvl (by omega) (by omega) (A := hap H [some ⟨2, [.agg [.bool false, .nil]]⟩]) hzx).mono ?_
    rintro r' A ⟨h1, ⟨L', hL'⟩, hHr, rfl⟩
    have hA0 : A[lid H 0]? = some (some ⟨2, [.agg [.bool false, .nil]]⟩) := by
      rw [hL']; simp [hap, lid]
    have hbA : lid (hap H [some ⟨2, [.agg [.bool false, .nil]]⟩]) 0 = lid H 1 := by rw [b9f]; rfl
    rw [hbA] at h1 ⊢
    have hAH : ∃ L, A = hap H L := ⟨_, by rw [hL', a3b]⟩
    clear hL' hcol
    rw [← a1W A]
    have hβA : lid H 1 < A.length := a0k h1
    have hzA : lid H 0 < A.length := a0k hA0
    have hnb : ∀ j (L : Nat) oc, nref (lid A j) (.mu (lid H 1) 0 L oc) = true := fun j L oc => a7w (by unfold lid at *; omega)
    have hn0 : ∀ j, nref (lid A j) (.loc (lid H 0) 0 0) = true := fun j => a0x.2 (.loc _ _ _ (show lid H 0 ≠ lid A j by unfold lid at *; omega))
    have hnc : ∀ j, nref j (hsV (gproc v.length (Sm b v v.length) (b.length + 1)).cs) = true := fun j => a1n (b7E _)
    have hHA : H.length ≤ A.length := by unfold lid at *; omega
    have hx : ∀ i, (a0t v.length (Sm b v v.length) (b.length + 1)).M i b.length = solX v.length (Sm b v v.length) b.length i := fun i => rfl
    have hxs : Sz (solX v.length (Sm b v v.length) b.length) b.length (KB e + 1) := by
      rcases hsz with h | h
      · exact e3K hB h hcv
      · exact ⟨1, by decide, Nat.one_lt_pow (by omega) (by decide), fun i hi => by omega⟩
    generalize hcd : (gproc v.length (Sm b v v.length) (b.length + 1)).cs = cs at *
    generalize hr0 : lid H 1 = β at *
    generalize hz0 : lid H 0 = ζ at *
    generalize hMd : (a0t v.length (Sm b v v.length) (b.length + 1)).M = M at *
    generalize solX v.length (Sm b v v.length) b.length = x at *
    simp only [a0q, a0C, a2L, E3, seval]
    refine Safe.rg rfl ?_
    simp only [a3D, E3, seval]
    refine Safe.nilrow 15 4 (by decide) (by simp only [E3, seval]) ?_
    refine Safe.rg rfl ?_
    simp only [a3C, E3, seval]
    refine Safe.lp rfl ?_
    refine Safe.keep [0, 4, 5, 12, 13, 15, 16] ?_
    try simp only [E3, seval]
    refine Safe.loopN (b.length) (fun i => [(0, matV b), (4, .nil), (5, .loc ζ 0 0), (12, .mu β 0 cs.length none), (13, hsV cs), (15, .mu (lid A 1) 0 i none), (16, .int .i64 i)]) (fun i => hap A [some ⟨4, [Rv (dv v.length (Sm b v v.length) (b.length + 1))]⟩, some ⟨4, (List.range i).map fun j => Rv (x j)⟩]) rfl rfl (fun i hi ih => ?_) ?_
    · have hlt : ((i : Int) < (cs.length : Int)) = True := eq_true (by omega)
      have hiw : IntKind.wrap .i64 ((i : Int) + 1) = ((i + 1 : Nat) : Int) := by rw [a0a] <;> omega
      have hci : cs.getD i 0 = i := hcs.2.1 i hi
      have hne : ((i : Int) = (b.length : Int)) = False := eq_false (by omega)
      refine Safe.inLoop ?_
      refine Safe.rg rfl ?_
      simp only [a2t, e3B h1, hlt, E3, seval]
      refine Safe.cd rfl ?_
      simp only [E3, seval]
      refine Safe.rg rfl ?_
      simp only [a3B, e0p _ cs i (by omega), intV, hci, hne, E3, seval]
      refine Safe.cd rfl ?_
      simp only [E3, seval]
      have hra := fun env => a5p (H := A) hHr (L := [some ⟨4, [Rv (dv v.length (Sm b v v.length) (b.length + 1))]⟩, some ⟨4, (List.range i).map fun j => Rv (x j)⟩]) (n0 := H.length) 1 (by unfold lid; omega) (env := env) (wd := 4) (bytes := 64) (f := fun j => Rv (x j)) (fun j => a4q _) (List.range i) i (List.range (i + 1)) (y := Rv (x i)) (len := i) (List.length_range).symm rfl (RC.one (a4q _) (RC.row (fun j => a4q _) RC.nil)) rfl List.range_succ (by omega) (by omega)
      have hRv : AV.agg [.bool (decide ((x i).num < 0)), natV (limbs (x i).num.natAbs), .bool false, natV (limbs (x i).den)] = Rv (x i) := rfl
      refine Safe.rg rfl ?_
      simp only [a5V, e7D h1 _ (show i < cs.length by omega), B_at h1 (fun _ _ => rfl) _ (show i < v.length by omega), c6Q _ (M i) .i64 (Nat.lt_succ_self b.length), hx, a0C, List.take_succ_cons, List.take_zero, List.all_cons, List.all_nil, b7l, b8n, a0q, hRv, a2L, E3, seval]
      rw [hra]
      simp only [hnb, hn0, hnc, E3, seval]
      refine Safe.rg rfl ?_
      simp only [a5U, hiw, E3, seval]
      refine Safe.keep [0, 4, 5, 12, 13, 15, 16] ?_
      simp only [hnb, hn0, hnc, E3, seval]
      exact ih
    · refine Safe.inLoop ?_
      refine Safe.rg rfl ?_
      simp only [a2t, e3B h1, hone, Int.lt_irrefl, E3, seval]
      refine Safe.cd rfl ?_
      simp only [E3, seval]
      have hfz : frz (lid A 1) ⟨4, (List.range b.length).map fun j => Rv (x j)⟩ (.mu (lid A 1) 0 b.length none) = rvV x b.length := by
        rw [a9x A 1 _ _ none (by rw [List.length_map, List.length_range])]; rfl
      have hf0 : ∀ r, frz (lid A 1) r (.loc ζ 0 0) = .loc ζ 0 0 := fun r => a7x (.loc _ _ _ (show ζ ≠ lid A 1 by unfold lid at *; omega))
      refine Safe.freezeB 1 hHr (by unfold lid at *; omega) rfl (a4o fun _ _ => a4q _) ?_
      refine Safe.keep [4, 5, 15] ?_
      simp only [hfz, hf0, E3, seval]
      refine Safe.rg rfl ?_
      simp only [a5T, E3, seval]
      have hlow := d9r x (hxs) (show b.length ≤ 2097152 by omega) (by omega)
      refine hlow.acall ?_
      simp only [a0q, E3, seval]
      refine Safe.rg rfl ?_
      simp only [a5S, E3, seval]
      rw [lst hA0 (by simp) rfl rfl]
      simp only [E3, seval]
      have hld : ∀ v : AV, ∀ L : Heap, atV (hap (A.set ζ (some ⟨2, [v]⟩)) L) (.loc ζ 0 0) = some v.cells := by
        intro v L
        have hlt := a0k hA0
        exact lat (b := ⟨2, [v]⟩) (by rw [List.getElem?_set]; simp [hlt]) (by simp)
      refine Safe.rt rfl ?_
      simp only [hld, E3, seval]
      obtain ⟨L0, hL0⟩ := hAH
      refine ⟨rfl, ?_⟩
      rw [← hz0, hL0, a3V]
      exact ⟨_, a3b _ _ _⟩
theorem d3U {H : Heap} (hH : a0E H) (hlen : ∀ i, (h : i < b.length) → v.length ≤ b[i].length) (hn64 : b.length ≤ 64) (hsz : v.length ≤ 64 ∨ b.length = 0) (hfull : (gproc v.length (Sm b v v.length) b.length).cs.length = b.length) (hone : (gproc v.length (Sm b v v.length) (b.length + 1)).cs.length = b.length + 1) (hcv : b.length ≤ v.length)
    (he : e ≤ 17592186044416) (hK1 : KB e + 1 < 1099511627776) : Safe (rCx H) [.code (.region a2i false), .code d7s] [(0, matV b), (1, vecV v), (4, .nil), (5, .loc (lid H 0) 0 0)] (hap H [some ⟨2, [.agg [.bool false, .nil]]⟩])
    fun r' H' => Le r' (.tup [vecV [], Z 0, .int .i64 6]) ∧ ∃ L, H' = hap H L := by
  have hvl := hv.len
  have hn1 : IntKind.wrap .i64 ((b.length : Int) + 1) = ((b.length + 1 : Nat) : Int) := by rw [a0a] <;> omega
  have hzx : a0E (hap H [some ⟨2, [.agg [.bool false, .nil]]⟩]) := c5F hH fun c hc a ha => by
    have : c = ⟨2, [.agg [.bool false, .nil]]⟩ := by simpa using hc
    subst this
    exact b4i a ha
  have hB := e1o b v hm hv v.length
  have hcs := b8L hfull
  unfold d7s rCx
  refine Safe.rg rfl ?_
  simp only [a2i, E3, seval]
  refine Safe.nilrow 10 1 (by decide) (by simp only [E3, seval]) ?_
  refine Safe.rg rfl ?_
  simp only [a3F, E3, seval]
  refine Safe.lp rfl ?_
  refine Safe.keep [0, 1, 4, 5, 10, 11] ?_
  try simp only [E3, seval]
  refine Safe.loopN (v.length) (fun i => [(0, matV b), (1, vecV v), (4, .nil), (5, .loc (lid H 0) 0 0), (10, .mu (lid H 1) 0 i none), (11, .int .i64 i)]) (fun i => hap H [some ⟨2, [.agg [.bool false, .nil]]⟩, some ⟨1, (mat i fun k => [eg v k]).map vecV⟩]) rfl rfl (fun i hi ih => ?_) ?_
  · have hlt : ((i : Int) < (v.length : Int)) = True := eq_true (by omega)
    have hiw : IntKind.wrap .i64 ((i : Int) + 1) = ((i + 1 : Nat) : Int) := by rw [a0a] <;> omega
    have hvi : eg v i = v[i] := d0l hi
    have hcb : clb (AV.sl 2 [AV.agg [AV.bool v[i].neg, natV v[i].mag]]) = true := d0r.2 (a0e [v[i]])
    refine Safe.inLoop ?_
    refine Safe.rg rfl ?_
    simp only [a2u, hlt, E3, seval]
    refine Safe.cd rfl ?_
    simp only [E3, seval]
    refine Safe.rg rfl ?_
    simp only [a5X, a1g _ v .i64 i hi, hcb, E3, seval]
    rw [a5p hH 1 (a1v H 1) a0e (mat i fun k => [eg v k]) [eg v i] (mat (i + 1) fun k => [eg v k]) (by rw [a0f]) rfl (by repeat (first | exact RC.nil | refine RC.none ?_ | refine RC.row ZI.cl ?_ | refine RC.cons (a0m _) ?_ | refine RC.row a0e ?_ | refine RC.emp ?_ | refine RC.zero ?_ | refine RC.one (Z_cl _) ?_ | refine RC.one (ZI.cl _) ?_ | refine RC.one (a0e _) ?_)) (by rw [hvi]; rfl) (a6U _ _) (by omega) (by omega)]
    simp only [E3, seval]
    refine Safe.rg rfl ?_
    simp only [a5W, hiw, E3, seval]
    refine Safe.keep [0, 1, 4, 5, 10, 11] ?_
    simp only [E3, seval]
    exact ih
  · refine Safe.inLoop ?_
    refine Safe.rg rfl ?_
    simp only [a2u, Int.lt_irrefl, E3, seval]
    refine Safe.cd rfl ?_
    simp only [E3, seval]
    have hom : mat v.length (fun k => [eg v k]) = oneM v := by
      refine List.ext_getElem (by rw [a0f, oneM, List.length_map]) fun k h1 h2 => ?_
      have hk : k < v.length := by rw [a0f] at h1; exact h1
      rw [a6f, d0l hk]; simp [oneM]
    rw [hom]
    refine Safe.freeze 1 hH rfl rfl (a1E 1 vecV _ a0e) ?_
    refine Safe.keep [0, 1, 4, 5, 10] ?_
    simp only [c9U H 1 (oneM v) v.length none (by rw [oneM, List.length_map]), a0N, E3, seval]
    refine Safe.drop1 hH rfl (by simp only [List.all_cons, List.all_nil, E3, seval]) (by repeat (first | exact RC.nil | refine RC.none ?_ | refine RC.row ZI.cl ?_ | refine RC.cons (a0m _) ?_ | refine RC.row a0e ?_ | refine RC.emp ?_ | refine RC.zero ?_ | refine RC.one (Z_cl _) ?_ | refine RC.one (ZI.cl _) ?_ | refine RC.one (a0e _) ?_)) ?_
    have hol : (oneM v).length = v.length := by rw [oneM, List.length_map]
    have hcol := b8m b (oneM v) (p := 1) (m := v.length) hlen (by omega) (fun i h => by simp [oneM]) (by omega) hvl (hm.mono he) ⟨by omega, fun x hx => by
      simp only [oneM, List.mem_map] at hx
      obtain ⟨y, hy, rfl⟩ := hx
      exact ⟨by simp, fun z hz => by
        have : z = y := by simpa using hz
        rw [this]; exact (hv.mono he).el y hy⟩⟩ (hap H [some ⟨2, [.agg [.bool false, .nil]]⟩])
    have hS : (fun (j k : Nat) => Rv (((zg (mg (a3O b (oneM v) v.length) j) k : Int)) : Rat)) = fun j k => Rv (Sm b v v.length j k) := by
      funext j k; rw [← Bm_C]
    rw [hS] at hcol
    refine Safe.rg rfl ?_
    simp only [a3E, E3, seval]
    refine hcol.mono ?_
    rintro r' H' ⟨rfl, rfl⟩
    simp only [hn1, E3, seval]
    refine (c1C hB (by omega) hvl (by omega) (by omega) (A := hap H [some ⟨2, [.agg [.bool false, .nil]]⟩]) hzx).mono ?_
    rintro r' A ⟨h1, ⟨L', hL'⟩, hHr, rfl⟩
    have hA0 : A[lid H 0]? = some (some ⟨2, [.agg [.bool false, .nil]]⟩) := by
      rw [hL']; simp [hap, lid]
    have hbA : lid (hap H [some ⟨2, [.agg [.bool false, .nil]]⟩]) 0 = lid H 1 := by rw [b9f]; rfl
    rw [hbA] at h1 ⊢
    have hAH : ∃ L, A = hap H L := ⟨_, by rw [hL', a3b]⟩
    clear hL' hcol
    rw [← a1W A]
    have hβA : lid H 1 < A.length := a0k h1
    have hzA : lid H 0 < A.length := a0k hA0
    have hnb : ∀ j (L : Nat) oc, nref (lid A j) (.mu (lid H 1) 0 L oc) = true := fun j L oc => a7w (by unfold lid at *; omega)
    have hn0 : ∀ j, nref (lid A j) (.loc (lid H 0) 0 0) = true := fun j => a0x.2 (.loc _ _ _ (show lid H 0 ≠ lid A j by unfold lid at *; omega))
    have hnc : ∀ j, nref j (hsV (gproc v.length (Sm b v v.length) (b.length + 1)).cs) = true := fun j => a1n (b7E _)
    have hHA : H.length ≤ A.length := by unfold lid at *; omega
    have hx : ∀ i, (a0t v.length (Sm b v v.length) (b.length + 1)).M i b.length = solX v.length (Sm b v v.length) b.length i := fun i => rfl
    generalize hcd : (gproc v.length (Sm b v v.length) (b.length + 1)).cs = cs at *
    generalize hr0 : lid H 1 = β at *
    generalize hz0 : lid H 0 = ζ at *
    generalize hMd : (a0t v.length (Sm b v v.length) (b.length + 1)).M = M at *
    generalize solX v.length (Sm b v v.length) b.length = x at *
    simp only [a0q, a0C, a2L, E3, seval]
    refine Safe.rg rfl ?_
    simp only [a3D, E3, seval]
    refine Safe.nilrow 15 4 (by decide) (by simp only [E3, seval]) ?_
    refine Safe.rg rfl ?_
    simp only [a3C, E3, seval]
    refine Safe.lp rfl ?_
    refine Safe.keep [0, 4, 5, 12, 13, 15, 16] ?_
    try simp only [E3, seval]
    refine Safe.loopN (b.length) (fun i => [(0, matV b), (4, .nil), (5, .loc ζ 0 0), (12, .mu β 0 cs.length none), (13, hsV cs), (15, .mu (lid A 1) 0 i none), (16, .int .i64 i)]) (fun i => hap A [some ⟨4, [Rv (dv v.length (Sm b v v.length) (b.length + 1))]⟩, some ⟨4, (List.range i).map fun j => Rv (x j)⟩]) rfl rfl (fun i hi ih => ?_) ?_
    · have hlt : ((i : Int) < (cs.length : Int)) = True := eq_true (by omega)
      have hiw : IntKind.wrap .i64 ((i : Int) + 1) = ((i + 1 : Nat) : Int) := by rw [a0a] <;> omega
      have hci : cs.getD i 0 = i := hcs.2.1 i hi
      have hne : ((i : Int) = (b.length : Int)) = False := eq_false (by omega)
      refine Safe.inLoop ?_
      refine Safe.rg rfl ?_
      simp only [a2t, e3B h1, hlt, E3, seval]
      refine Safe.cd rfl ?_
      simp only [E3, seval]
      refine Safe.rg rfl ?_
      simp only [a3B, e0p _ cs i (by omega), intV, hci, hne, E3, seval]
      refine Safe.cd rfl ?_
      simp only [E3, seval]
      have hra := fun env => a5p (H := A) hHr (L := [some ⟨4, [Rv (dv v.length (Sm b v v.length) (b.length + 1))]⟩, some ⟨4, (List.range i).map fun j => Rv (x j)⟩]) (n0 := H.length) 1 (by unfold lid; omega) (env := env) (wd := 4) (bytes := 64) (f := fun j => Rv (x j)) (fun j => a4q _) (List.range i) i (List.range (i + 1)) (y := Rv (x i)) (len := i) (List.length_range).symm rfl (RC.one (a4q _) (RC.row (fun j => a4q _) RC.nil)) rfl List.range_succ (by omega) (by omega)
      have hRv : AV.agg [.bool (decide ((x i).num < 0)), natV (limbs (x i).num.natAbs), .bool false, natV (limbs (x i).den)] = Rv (x i) := rfl
      refine Safe.rg rfl ?_
      simp only [a5V, e7D h1 _ (show i < cs.length by omega), B_at h1 (fun _ _ => rfl) _ (show i < v.length by omega), c6Q _ (M i) .i64 (Nat.lt_succ_self b.length), hx, a0C, List.take_succ_cons, List.take_zero, List.all_cons, List.all_nil, b7l, b8n, a0q, hRv, a2L, E3, seval]
      rw [hra]
      simp only [hnb, hn0, hnc, E3, seval]
      refine Safe.rg rfl ?_
      simp only [a5U, hiw, E3, seval]
      refine Safe.keep [0, 4, 5, 12, 13, 15, 16] ?_
      simp only [hnb, hn0, hnc, E3, seval]
      exact ih
    · refine Safe.inLoop ?_
      have hlt : ((b.length : Int) < (cs.length : Int)) = True := eq_true (by omega)
      have hcn := hcs.2.2 hone
      refine Safe.rg rfl ?_
      simp only [a2t, e3B h1, hlt, E3, seval]
      refine Safe.cd rfl ?_
      simp only [E3, seval]
      refine Safe.rg rfl ?_
      simp only [a3B, e0p _ cs b.length (by omega), intV, hcn, E3, seval]
      refine Safe.cd rfl ?_
      simp only [E3, seval]
      refine Safe.rg rfl ?_
      simp only [b0Y, a0C, E3, seval]
      rw [lst hA0 (by simp) rfl rfl]
      simp only [E3, seval]
      have hld : ∀ v : AV, ∀ L : Heap, atV (hap (A.set ζ (some ⟨2, [v]⟩)) L) (.loc ζ 0 0) = some v.cells := by
        intro v L
        have hlt := a0k hA0
        exact lat (b := ⟨2, [v]⟩) (by rw [List.getElem?_set]; simp [hlt]) (by simp)
      refine Safe.rt rfl ?_
      simp only [hld, one3, E3, seval]
      obtain ⟨L0, hL0⟩ := hAH
      refine ⟨bad3 _, ?_⟩
      rw [← hz0, hL0, a3V]
      exact ⟨_, a3b _ _ _⟩
end
theorem e2s : 65 * (KB 1048576 + 2) < 10000000000 := by decide
theorem c5P (b : List (List ZI)) (v : List ZI) (hb : Mok 1048576 b) (hv : Vok 1048576 v) : a0d Pr a7j [matV b, vecV v] (.bool true) := by
  have hb' := hb.mono (show 1048576 ≤ 17592186044416 by omega)
  have hv' := hv.mono (show 1048576 ≤ 17592186044416 by omega)
  have hK1 := e0h
  have hK3 := e2s
  have h : ∃ (w : List ZI) (z e : Int), Vok (KB 1048576 + 1) w ∧ z.natAbs < LB ^ (KB 1048576 + 1) ∧ a0d Pr a0M [matV b, vecV v] (.tup [vecV w, Z z, .int .i64 e]) ∧ a0d Pr a1s [matV b, vecV v] (.tup [vecV w, Z z, .int .i64 e]) := by
    by_cases h0 : elE b = 0
    · obtain ⟨hn64, hw, hrc, hrows⟩ := a4R h0
      have hBi : ∀ i k, ∃ z : Int, Bm b i k = z := fun i k => ⟨_, rfl⟩
      have hrn := (a3c (n := b.length) hBi (wid b)).len
      have hB := e1o b v hb hv v.length
      have hSi : ∀ i k, ∃ z : Int, Sm b v v.length i k = z := fun i k => by obtain ⟨z, h, _⟩ := hB i k; exact ⟨z, h⟩
      have fin : ∀ (hsz : v.length ≤ 64 ∨ b.length = 0) (hlen : ∀ i, (h : i < b.length) → v.length ≤ b[i].length) (hcase : b.length = 0 ∨ v.length = wid b) (hr : b0C b.length (wid b) (Bm b) = b.length) (hfull : (gproc v.length (Sm b v v.length) b.length).cs.length = b.length)
          (p1 : (gproc v.length (Sm b v v.length) (b.length + 1)).cs.length = b.length → a0d Pr a0M [matV b, vecV v] (.tup [vecV (vec b.length (outI (solX v.length (Sm b v v.length) b.length) b.length)), Z (a0K (solX v.length (Sm b v v.length) b.length) b.length : Nat), .int .i64 0]))
          (p2 : (gproc v.length (Sm b v v.length) (b.length + 1)).cs.length = b.length + 1 → a0d Pr a0M [matV b, vecV v] (.tup [vecV [], Z 0, .int .i64 6])),
          ∃ (w : List ZI) (z e : Int), Vok (KB 1048576 + 1) w ∧ z.natAbs < LB ^ (KB 1048576 + 1) ∧ a0d Pr a0M [matV b, vecV v] (.tup [vecV w, Z z, .int .i64 e]) ∧ a0d Pr a1s [matV b, vecV v] (.tup [vecV w, Z z, .int .i64 e]) := by
        intro hsz hlen hcase hr hfull p1 p2
        have hcv : b.length ≤ v.length := by
          have := (a3c (n := v.length) hSi b.length).len
          omega
        rcases (b8L hfull).1 with hone | hone
        · have hxs : Sz (solX v.length (Sm b v v.length) b.length) b.length (KB 1048576 + 1) := by
            rcases hsz with h | h
            · exact e3K hB h hcv
            · exact ⟨1, by decide, Nat.one_lt_pow (by omega) (by decide), fun i hi => by omega⟩
          refine ⟨_, _, _, c8y (by omega) fun i hi => d5V hxs hi, ?_, p1 hone, c6S b v hb h0 hcase hr hK1 _ (cl3v _ _ _) fun H hH => ?_⟩
          · exact e3Q hxs (Nat.le_refl _)
          · exact (d3T b v hb hv hH hlen hn64 hsz hfull hone hcv (by omega) hK1).mono fun r' H' h => ⟨h.1 ▸ Le.refl _, h.2⟩
        · exact ⟨_, _, _, c8G _, a8i _, p2 hone, c6S b v hb h0 hcase hr hK1 _ (cl3v _ _ _) fun H hH => d3U b v hb hv hH hlen hn64 hsz hfull hone hcv (by omega) hK1⟩
      by_cases hn : b.length = 0
      · refine fin (.inr hn) (fun i h => by omega) (.inl hn) (by unfold b0C; omega) (by rw [hn]; rfl) (fun h => d4t b v hb hv h0 hn h (by omega)) fun h => c2N b v hb hv h0 hn h (by omega)
      · have hn' : 0 < b.length := by omega
        by_cases hl : v.length = wid b
        · by_cases hr : b0C b.length (wid b) (Bm b) = b.length
          · have hfull := b0I b v hb hv h0 hn' hl hr
            have p1 := d9z b v hb hv hK3 h0 hn' hl hr
            have p2 := d4u b v hb hv hK3 h0 hn' hl hr
            rw [← hl] at hfull p1 p2
            exact fin (.inl (by omega)) (fun i h => by have := hrows i h; omega) (.inr hl) hr hfull p1 p2
          · have hr' : b0C b.length (wid b) (Bm b) < b.length := by unfold b0C at *; omega
            exact ⟨_, _, _, c8G _, a8i _, d7y b v hb hK3 h0 hn' hl hr', d7n b v hb h0 hn' hl hr' hK1⟩
        · exact ⟨_, _, _, c8G _, a8i _, d7x b v hb h0 hn' hl, d7m b v hb h0 hn' hl⟩
    · exact ⟨_, _, _, c8G _, a8i _, d7z b v hb h0, d7o b v hb h0⟩
  obtain ⟨w, z, e, hw, hz, h1, h2⟩ := h
  have hK := e0h
  generalize KB 1048576 + 1 = K at *
  refine a0d.intro b4K b4J (Nat.le_of_ble_eq_true rfl) (.bool _) fun H hH => ?_
  refine Safe.rg rfl ?_
  simp only [a6m, E3, seval]
  refine Safe.rg rfl ?_
  simp only [a6l, E3, seval]
  first | refine (d2n b hb').acall ?_ | refine (d2n b hb').dcall ?_
  try simp only [E3, seval]
  first | refine (c4g v hv').acall ?_ | refine (c4g v hv').dcall ?_
  try simp only [E3, seval]
  first | refine (h1).acall ?_ | refine (h1).dcall ?_
  try simp only [E3, seval]
  refine Safe.rg rfl ?_
  simp only [a6k, E3, seval]
  first | refine (h2).acall ?_ | refine (h2).dcall ?_
  try simp only [E3, seval]
  refine Safe.rg rfl ?_
  simp only [a6j, E3, seval]
  first | refine (d6t w (hw.mono (by omega))).acall ?_ | refine (d6t w (hw.mono (by omega))).dcall ?_
  try simp only [E3, seval]
  refine (e2N hz (by omega)).acall ?_
  simp only [E3, seval]
  refine Safe.rt rfl ?_
  simp only [E3, seval]
  first | exact ⟨rfl, _, rfl⟩ | exact ⟨_, rfl⟩ | exact ⟨trivial, _, rfl⟩
end Go.Abs
set_option linter.unusedVariables false
set_option linter.unusedSimpArgs false
namespace Go.Abs
open Go.ChangeShapes Go.WideShapes
open Go.Proofs.Ytkljokmnimblnaa.Rows (uptoBulk uptoBulkAll)
section
variable {K : Type} {enc : TypeId × Value → K} {P : Program} {w : World} {base : Nat} {sp : Nat → Bool} {held : Bool}
theorem e2W (d : DataW K) : 1 ≤ uptoBulk d := by
  cases d with
  | lit l => cases l <;> simp [uptoBulk]
  | nil => simp [uptoBulk]
  | ptr d => simp [uptoBulk]
  | slice elems spare => simp [uptoBulk]
  | agg a0S => simp [uptoBulk]
  | iface t d => simp [uptoBulk]
  | map entries => simp [uptoBulk]
  | held h => simp [uptoBulk]
theorem d0s {d : DataW K} : ∀ {l : List (DataW K)}, d ∈ l → uptoBulk d ≤ uptoBulkAll l
  | [], h => by cases h
  | x :: r, h => by
    simp only [uptoBulkAll]
    rcases List.mem_cons.1 h with e | e
    · subst e; omega
    · have := d0s e; omega
theorem d6z : ∀ (l : List (DataW K)), l.length ≤ uptoBulkAll l
  | [] => by simp [uptoBulkAll]
  | x :: r => by have := e2W x; have := d6z r; simp only [uptoBulkAll, List.length_cons]; omega
theorem b9t (es rs : List (DataW K)) : uptoBulkAll es + 1 ≤ uptoBulk (.slice es rs) := by simp only [uptoBulk]; omega
theorem c3G {α : Type} (W : α → Nat) : ∀ (ds : List (DataW K)) (xs : List α), xs.length = ds.length → (∀ (i : Nat) a, xs[i]? = some a → W a ≤ uptoBulk (ds.getD i .nil)) → (xs.map W).sum ≤ uptoBulkAll ds
  | [], [], _, _ => by simp
  | d :: ds, x :: xs, h, hw => by
    have h1 := hw 0 x rfl
    have h2 := c3G W ds xs (by simpa using h) fun i a ha => by have := hw (i + 1) a (by simpa using ha); simpa using this
    simp only [List.map_cons, List.sum_cons, uptoBulkAll]
    simp at h1
    omega
  | [], _ :: _, h, _ => by simp at h
  | _ :: _, [], h, _ => by simp at h
theorem d3w (a : Addr) (m j : Nat) : (a.add m).add j = a.add (m + j) := by
  unfold Addr.add
  by_cases hm : m = 0 <;> by_cases hj : j = 0 <;> simp [hm, hj, Nat.add_assoc]
/-- No row is the call's own yet. -/
theorem d9G {φ : Nat → Option Nat} {b : Nat} : ¬ (Emb.mk φ [] w).Mut b := by
  rintro ⟨id, blk, h, _⟩; simp at h
theorem e4Z (φ : Nat → Option Nat) (w : World) : HOk ⟨φ, [], w⟩ := ⟨fun id b h => by simp at h, fun id b h => by simp at h, fun id b _ h => by simp at h, fun id b h => by simp at h, fun i j b c _ h => by simp at h⟩
/-- A value read xs0 data d stands for the tree a. -/
structure Stands (w : World) (cs : List Value) (a : AV) : Prop where
  one : ∀ c ∈ cs, c.oneCell' = true
  len : cs.length = a.cells.length
  rep : ∀ (φ : Nat → Option Nat) (k : Nat) v c, cs[k]? = some v → a.cells[k]? = some c → Rep ⟨φ, [], w⟩ v c
/-- A slice whose elements' readings stand for trees. -/
theorem d4v {α : Type} (f : α → AV) (good : α → DataW K → Prop) {t e : TypeId} (wd : Nat) (ht : P.underlying t = some (.slice e)) (hc : P.cellsOf e = wd) (hpos : 0 < wd) (hf : ∀ a, (f a).cells.length = wd) (hcl : ∀ a, Cl (f a))
    (hel : ∀ m cs y, DataW.trod enc P w base sp held m e cs = some y → cs.length = wd → ∃ a, good a y.1 ∧ Stands w cs (f a))
    {fuel : Nat} {cs : List Value} {x : DataW K × List MemPlace} (h : DataW.trod enc P w base sp held fuel t cs = some x) :
    ∃ xs0 : List α, Stands w cs (.sl wd (xs0.map f)) ∧ xs0.length ≤ uptoBulk x.1 ∧ (∀ a ∈ xs0, ∃ d : DataW K, good a d ∧ uptoBulk d ≤ uptoBulk x.1) ∧ ∀ W : α → Nat, (∀ a d, good a d → W a ≤ uptoBulk d) → (xs0.map W).sum + 1 ≤ uptoBulk x.1 := by
  rcases DataW.trod_slice ht h with ⟨rfl, rfl⟩ | ⟨ad, len, cap, elems, rest, n, rfl, rfl, rfl, hb, hl, hm, hlen, hget, _, _⟩
  · refine ⟨[], ⟨by simp [Value.oneCell'], rfl, ?_⟩, Nat.zero_le _, by simp, fun W _ => by simp [uptoBulk]⟩
    intro φ k v c hv hc'
    match k with
    | 0 => cases hv; cases hc'; exact b8D wd hpos .nil
    | k + 1 => simp at hv
  · -- each element
    have each : ∀ i, i < len → ∃ a cs', good a ((elems.map (·.1)).getD i .nil) ∧ Stands w cs' (f a) ∧ cs'.length = wd ∧ ∀ j, j < wd → w.cell? (ad.add (i * wd + j)) = cs'[j]? := by
      intro i hi
      have h1 := hget i hi
      have hy : elems[i]? = some (elems[i]'(by omega)) := List.getElem?_eq_getElem (by omega)
      rw [hy, Option.bind_eq_some_iff] at h1
      obtain ⟨cs', h2, h3⟩ := h1
      rw [hc] at h2
      obtain ⟨_, hl2, hcell⟩ := World.cells?_some h2
      obtain ⟨a, g1, g2⟩ := hel n cs' _ h3 hl2
      refine ⟨a, cs', ?_, g2, hl2, fun j hj => ?_⟩
      · rw [List.getD_eq_getElem?_getD, List.getElem?_map, hy]; exact g1
      · have := hcell j hj
        rw [← this]
        rw [d3w]
    -- the list
    have all : ∀ m, m ≤ len → ∃ (xs0 : List α) (vs : List Value), xs0.length = m ∧ vs.length = m * wd ∧ (∀ (i : Nat) a, xs0[i]? = some a → good a ((elems.map (·.1)).getD i .nil)) ∧
        (∀ (k : Nat) v, vs[k]? = some v → w.cell? (ad.add k) = some v ∧ v.oneCell' = true) ∧ (∀ (φ : Nat → Option Nat) (k : Nat) v c, vs[k]? = some v → ((xs0.map f).flatMap AV.cells)[k]? = some c → Rep ⟨φ, [], w⟩ v c) := by
      intro m
      induction m with
      | zero => exact fun _ => ⟨[], [], rfl, by simp, by simp, by simp, by simp⟩
      | succ m ih =>
        intro hm'
        obtain ⟨xs0, vs, q1, q2, q3, q4, q5⟩ := ih (by omega)
        obtain ⟨a, cs', r1, r2, r3, r4⟩ := each m (by omega)
        have hfl : ((xs0.map f).flatMap AV.cells).length = m * wd := by
          rw [a2Z (wd := wd) (by intro y hy; obtain ⟨z, _, rfl⟩ := List.mem_map.1 hy; exact hf z), List.length_map, q1]
        refine ⟨xs0 ++ [a], vs ++ cs', by simp [q1], by simp [q2, r3, Nat.add_mul], ?_, ?_, ?_⟩
        · intro i b hb'
          rcases Nat.lt_or_ge i m with hi | hi
          · rw [List.getElem?_append_left (by omega)] at hb'; exact q3 i b hb'
          · have hi' := a0h hb'
            simp at hi'
            have : i = m := by omega
            subst this
            rw [List.getElem?_append_right (by omega)] at hb'
            simp [q1] at hb'
            subst hb'; exact r1
        · intro k v hv
          rcases Nat.lt_or_ge k (m * wd) with hk | hk
          · rw [List.getElem?_append_left (by omega)] at hv; exact q4 k v hv
          · rw [List.getElem?_append_right (by omega), q2] at hv
            have hk2 := a0h hv
            refine ⟨?_, r2.one v (List.mem_of_getElem? hv)⟩
            have := r4 (k - m * wd) (by omega)
            rw [hv] at this
            rw [← this]; congr 2; omega
        · intro φ k v c hv hc'
          rw [List.map_append, List.flatMap_append] at hc'
          rcases Nat.lt_or_ge k (m * wd) with hk | hk
          · rw [List.getElem?_append_left (by omega)] at hv
            rw [List.getElem?_append_left (by omega)] at hc'
            exact q5 φ k v c hv hc'
          · rw [List.getElem?_append_right (by omega), q2] at hv
            rw [List.getElem?_append_right (by omega), hfl] at hc'
            simp at hc'
            exact r2.rep φ (k - m * wd) v c hv hc'
    obtain ⟨xs0, vs, q1, q2, q3, q4, q5⟩ := all len (Nat.le_refl _)
    have hw : ∀ y ∈ xs0.map f, y.cells.length = wd := by intro y hy; obtain ⟨z, _, rfl⟩ := List.mem_map.1 hy; exact hf z
    have hcl' : ∀ c ∈ (xs0.map f).flatMap AV.cells, Cl c := by
      intro c hc'
      obtain ⟨y, hy, hc'⟩ := List.mem_flatMap.1 hc'
      obtain ⟨z, _, rfl⟩ := List.mem_map.1 hy
      exact b4O (hcl z) c hc'
    refine ⟨xs0, ⟨by simp [Value.oneCell'], rfl, ?_⟩, ?_, ?_, ?_⟩
    · intro φ k v c hv hc'
      match k with
      | 0 =>
        cases hv; cases hc'
        have hlen' : len = (xs0.map f).length := by rw [List.length_map, q1]
        rw [hlen']
        rcases Nat.eq_zero_or_pos len with h0 | h0
        · have : xs0 = [] := List.length_eq_zero_iff.1 (by omega)
          subst this
          exact .sl _ cap wd [] [] 0 0 (Nat.zero_le _) hpos (by simp) (by simp) (.inl rfl) rfl (by simp) (by simp)
        · have hv0 : vs[0]? = some (vs[0]'(by rw [q2]; exact Nat.mul_pos h0 hpos)) := List.getElem?_eq_getElem _
          have hspot : ad.spot = none := by
            have h00 := (q4 0 _ hv0).1
            rw [show ad.add 0 = ad by simp [Addr.add]] at h00
            exact World.cell?_spot h00
          obtain ⟨b, o, s⟩ := ad
          simp only at hspot
          subst hspot
          exact .sl (some ⟨b, o, none⟩) cap wd (xs0.map f) vs b o (by rw [List.length_map, q1]; exact hl) hpos hw hcl' (.inr ⟨rfl, d9G⟩) (by rw [a2Z hw, List.length_map, q1, q2])
            (fun k v hk => by have := q4 k v hk; rw [Go.WideShapes.add_plain] at this; exact this) (fun k v c hk hc2 => q5 φ k v c hk hc2)
      | k + 1 => simp at hv
    · have h1 := d6z (elems.map (·.1))
      have h2 := b9t (elems.map (·.1)) (rest.map (·.1))
      rw [List.length_map] at h1
      show xs0.length ≤ uptoBulk (.slice (elems.map (·.1)) (rest.map (·.1)))
      omega
    · intro a ha
      obtain ⟨i, hi, rfl⟩ := List.getElem_of_mem ha
      refine ⟨_, q3 i _ (List.getElem?_eq_getElem hi), ?_⟩
      have hm' : (elems.map (·.1)).getD i .nil ∈ elems.map (·.1) := by
        have : i < (elems.map (·.1)).length := by rw [List.length_map]; omega
        rw [List.getD_eq_getElem?_getD, List.getElem?_eq_getElem this]; exact List.getElem_mem this
      have h1 := d0s hm'
      have h2 := b9t (elems.map (·.1)) (rest.map (·.1))
      show uptoBulk _ ≤ uptoBulk (.slice (elems.map (·.1)) (rest.map (·.1)))
      omega
    · intro W hW
      have h1 : (xs0.map W).sum ≤ uptoBulkAll (elems.map (·.1)) := c3G W (elems.map (·.1)) xs0 (by rw [List.length_map]; omega) fun i a ha => hW a _ (q3 i a ha)
      have h2 := b9t (elems.map (·.1)) (rest.map (·.1))
      show (xs0.map W).sum + 1 ≤ uptoBulk (.slice (elems.map (·.1)) (rest.map (·.1)))
      omega
/-- Limbs. -/
theorem e1X {t e : TypeId} (ht : P.underlying t = some (.slice e)) (he : P.underlying e = some (.int .u32)) (hc : P.cellsOf e = 1) {fuel : Nat} {cs : List Value} {x : DataW K × List MemPlace} (h : DataW.trod enc P w base sp held fuel t cs = some x) :
    ∃ l : List Nat, Stands w cs (natV l) ∧ Lim l ∧ l.length ≤ uptoBulk x.1 := by
  obtain ⟨xs0, q1, q2, q3, _⟩ := d4v (enc := enc) (P := P) (w := w) (base := base) (sp := sp) (held := held) (fun n : Nat => .int .u32 (n : Int)) (fun n (_ : DataW K) => n < LB) 1 ht hc (by decide) (fun _ => rfl) (fun _ => .int _ _) (by
    intro m cs y hy hl
    obtain ⟨n, rfl, hx, hwf⟩ := DataW.trod_int he hy
    have hb := bounds_u32 hwf
    refine ⟨n.toNat, by show n.toNat < 4294967296; omega, by simp [Value.oneCell'], rfl, ?_⟩
    intro φ k v c hv hc'
    match k with
    | 0 =>
      cases hv; cases hc'
      have : (n.toNat : Int) = n := by omega
      rw [this]; exact .int _ _
    | k + 1 => simp at hv) h
  exact ⟨xs0, q1, fun d hd => (q3 d hd).choose_spec.1, q2⟩
/-- A whole number. -/
theorem open_z {t tb tm e : TypeId} {fs : Array Field} {f0 f1 : Field} (ht : P.underlying t = some (.struct fs)) (hfs : fs.toList = [f0, f1]) (h0 : f0.type = tb ∧ f0.offset = 0) (h1 : f1.type = tm ∧ f1.offset = 1) (hb : P.underlying tb = some .bool) (hbc : P.cellsOf tb = 1) (hmc : P.cellsOf tm = 1)
    (hm : P.underlying tm = some (.slice e)) (he : P.underlying e = some (.int .u32)) (hc : P.cellsOf e = 1) {fuel : Nat} {cs : List Value} {x : DataW K × List MemPlace} (h : DataW.trod enc P w base sp held fuel t cs = some x) (hl2 : cs.length = 2) :
    ∃ z : ZI, Stands w cs z.av ∧ Zok (uptoBulk x.1) z := by
  obtain ⟨xs, n, rfl, rfl, hl, hxs, hget⟩ := DataW.trod_struct ht h
  have hf0 : fs[0]? = some f0 := by rw [← Array.getElem?_toList, hfs]; rfl
  have hf1 : fs[1]? = some f1 := by rw [← Array.getElem?_toList, hfs]; rfl
  have hsz : fs.size = 2 := by rw [← Array.length_toList, hfs]; rfl
  have g0 := hget 0 f0 hf0
  have g1 := hget 1 f1 hf1
  rw [h0.1, h0.2, hbc] at g0
  rw [h1.1, h1.2, hmc] at g1
  obtain ⟨c0, c1, rfl⟩ : ∃ c0 c1, cs = [c0, c1] := by
    match cs, hl2 with
    | [a, b], _ => exact ⟨a, b, rfl⟩
  have e0 : xs[0]? = some (xs[0]'(by omega)) := List.getElem?_eq_getElem (by omega)
  have e1 : xs[1]? = some (xs[1]'(by omega)) := List.getElem?_eq_getElem (by omega)
  rw [e0] at g0
  rw [e1] at g1
  simp only [List.drop_zero, List.take_succ_cons, List.take_zero, List.drop_succ_cons] at g0 g1
  obtain ⟨b, hb1, _⟩ := DataW.trod_bool hb g0
  obtain ⟨l, q1, q2, q3⟩ := e1X hm he hc g1
  simp only [List.cons.injEq, and_true] at hb1
  subst hb1
  refine ⟨⟨b, l⟩, ⟨?_, rfl, ?_⟩, q2, ?_⟩
  · intro c hc'
    simp only [List.mem_cons, List.not_mem_nil, or_false] at hc'
    rcases hc' with rfl | rfl
    · rfl
    · exact q1.one _ (by simp)
  · intro φ k v c hv hc'
    match k with
    | 0 => cases hv; cases hc'; exact .bool b
    | 1 => cases hv; cases hc'; exact q1.rep φ 0 _ _ rfl rfl
    | k + 2 => simp at hv
  · have hm1 : (xs[1]'(by omega)).1 ∈ xs.map (·.1) := List.mem_map.2 ⟨_, List.getElem_mem _, rfl⟩
    have := d0s hm1
    show l.length ≤ uptoBulk (.agg (xs.map (·.1)))
    simp only [uptoBulk]
    omega
/-- The types of numbers, vectors, matrices in a program. -/
structure Types (P : Program) (tm tv tz tb tn te : TypeId) : Prop where
  mat : P.underlying tm = some (.slice tv)
  vec : P.underlying tv = some (.slice tz)
  num : ∃ fs f0 f1, P.underlying tz = some (.struct fs) ∧ fs.toList = [f0, f1] ∧ (f0.type = tb ∧ f0.offset = 0) ∧ (f1.type = tn ∧ f1.offset = 1)
  bool : P.underlying tb = some .bool
  nat : P.underlying tn = some (.slice te)
  u32 : P.underlying te = some (.int .u32)
  cv : P.cellsOf tv = 1
  cz : P.cellsOf tz = 2
  cb : P.cellsOf tb = 1
  cn : P.cellsOf tn = 1
  ce : P.cellsOf te = 1
variable {tm tv tz tb tn te : TypeId}
theorem Types.open_z (T : Types P tm tv tz tb tn te) {fuel : Nat} {cs : List Value} {x : DataW K × List MemPlace} (h : DataW.trod enc P w base sp held fuel tz cs = some x) (hl2 : cs.length = 2) : ∃ z : ZI, Stands w cs z.av ∧ Zok (uptoBulk x.1) z := by
  obtain ⟨fs, f0, f1, h1, h2, h3, h4⟩ := T.num
  exact Abs.open_z h1 h2 h3 h4 T.bool T.cb T.cn T.nat T.u32 T.ce h hl2
theorem Types.open_vec (T : Types P tm tv tz tb tn te) {fuel : Nat} {cs : List Value} {x : DataW K × List MemPlace} (h : DataW.trod enc P w base sp held fuel tv cs = some x) : ∃ v : List ZI, Stands w cs (vecV v) ∧ v.length ≤ uptoBulk x.1 ∧ (∀ z ∈ v, Zok (uptoBulk x.1) z) ∧ (v.map fun z => z.mag.length).sum ≤ uptoBulk x.1 := by
  obtain ⟨xs0, q1, q2, q3, q4⟩ := d4v (enc := enc) (P := P) (w := w) (base := base) (sp := sp) (held := held) ZI.av (fun z (d : DataW K) => Zok (uptoBulk d) z) 2 T.vec T.cz (by decide) (fun _ => rfl) ZI.cl (by
    intro m cs y hy hl
    obtain ⟨z, r1, r2⟩ := T.open_z hy hl
    exact ⟨z, r2, r1⟩) h
  exact ⟨xs0, q1, q2, fun z hz => (by obtain ⟨d, h1, h2⟩ := q3 z hz; exact h1.mono h2), by have := q4 (fun z => z.mag.length) (fun z d h => h.len); omega⟩
theorem Types.open_mat (T : Types P tm tv tz tb tn te) {fuel : Nat} {cs : List Value} {x : DataW K × List MemPlace} (h : DataW.trod enc P w base sp held fuel tm cs = some x) : ∃ b : List (List ZI), Stands w cs (matV b) ∧ b.length ≤ uptoBulk x.1 ∧ (∀ v ∈ b, v.length ≤ uptoBulk x.1 ∧ ∀ z ∈ v, Zok (uptoBulk x.1) z) ∧ (b.map fun v => v.length).sum ≤ uptoBulk x.1 ∧ (b.map fun v => (v.map fun z => z.mag.length).sum).sum ≤ uptoBulk x.1 := by
  obtain ⟨xs0, q1, q2, q3, q4⟩ := d4v (enc := enc) (P := P) (w := w) (base := base) (sp := sp) (held := held) vecV (fun v (d : DataW K) => v.length ≤ uptoBulk d ∧ (∀ z ∈ v, Zok (uptoBulk d) z) ∧ (v.map fun z => z.mag.length).sum ≤ uptoBulk d) 1 T.mat T.cv (by decide) (fun _ => rfl) a0e (by
    intro m cs y hy hl
    obtain ⟨v, r1, r2, r3, r4⟩ := T.open_vec hy
    exact ⟨v, ⟨r2, r3, r4⟩, r1⟩) h
  refine ⟨xs0, q1, q2, fun v hv => ?_, by have := q4 (fun v => v.length) (fun v d h => h.1); omega, by have := q4 (fun v => (v.map fun z => z.mag.length).sum) (fun v d h => h.2.2); omega⟩
  obtain ⟨d, h1, h2⟩ := q3 v hv
  exact ⟨Nat.le_trans h1.1 h2, fun z hz => (h1.2.1 z hz).mono h2⟩
/-- A value of one cell. -/
theorem Stands.rep1 {v : Value} {a : AV} (h : Stands w [v] a) (ha : a.cells = [a]) (φ : Nat → Option Nat) : Rep ⟨φ, [], w⟩ v a := h.rep φ 0 v a rfl (by rw [ha]; rfl)
end
end Go.Abs
set_option linter.unusedVariables false
set_option linter.unusedSimpArgs false
namespace Go.Abs
open Go.ChangeShapes Go.WideShapes Go.RowKit
/-- A law's walk: it answers, and below the old end nothing turns. -/
theorem e0d {P : Program} {f : FuncId} {ss : List AV} {r : Bool} (hp : a0d P f ss (.bool r)) {args : Array Value} {W : World} (hl : args.size = ss.length) (hr : ∀ (k : Nat) v a, args.toList[k]? = some v → ss[k]? = some a → Rep ⟨fun _ => none, [], W⟩ v a) :
    Calls P f args W fun e W' => e = .returned (.bool r) ∧ Below W.heap.size W W' := by
  have h := (hp []).2 (fun _ => none) W args.toList (e4Z _ _) (by simpa using hl) hr
  rw [Array.toArray_toList] at h
  refine h.mono ?_
  rintro e w' ⟨v, r', φ', H', rfl, ⟨rfl, rfl⟩, q1, q2, q3, q4⟩
  refine ⟨by rw [a2r q2], q4.os, q4.tape, q4.output, q4.size, fun k hk => q4.keep k hk d9G⟩
theorem Below.trodAll {K : Type} {enc : TypeId × Value → K} {P : Program} (hl : laidOutB P = true) {W W' : World} (hb : Below W.heap.size W W') : ∀ {ts : List TypeId} {vs : List Value} {ds : List (DataW K)} {ps : List MemPlace}, (ts.all fun t => P.readableRec t && decide (t < P.types.size)) = true →
    DataW.TrodAll enc P W 0 (fun _ => true) true ts vs ds ps → (∀ x ∈ ps, x.block < W.heap.size) → DataW.TrodAll enc P W' 0 (fun b => decide (b < W.heap.size)) true ts vs ds ps
  | [], [], [], _, _, h, _ => h
  | t :: ts, v :: vs, d :: ds, _, hts, ⟨p, q, h1, h2, e⟩, hlt => by
    simp only [List.all_cons, Bool.and_eq_true, decide_eq_true_eq] at hts
    exact ⟨p, q, Go.RowKit.Below.trod hl hts.1.1 hts.1.2 h1 hb (fun x hx => hlt x (by rw [e]; exact List.mem_append_left _ hx)), Below.trodAll hl hb (by simpa using hts.2) h2 (fun x hx => hlt x (by rw [e]; exact List.mem_append_right _ hx)), e⟩
  | [], _ :: _, _, _, _, h, _ => by simp [DataW.TrodAll] at h
  | [], [], _ :: _, _, _, h, _ => by simp [DataW.TrodAll] at h
  | _ :: _, [], _, _, _, h, _ => by simp [DataW.TrodAll] at h
  | _ :: _, _ :: _, [], _, _, h, _ => by simp [DataW.TrodAll] at h
theorem c6f {P : Program} {W : World} {base : Nat} {t e : TypeId} {v : Value} (ht : P.underlying t = some (.slice e)) (h : Value.okWide P W .any base t v) : v.cells.toList = [v] := by
  cases v <;> first | rfl | (exfalso; simp [Value.okWide, Cell.okWide, Cell.ok, ht] at h)
theorem e3G {v : List ZI} {n : Nat} (hl : v.length ≤ n) (he : ∀ z ∈ v, Zok n z) (hn : n ≤ 1048576) : Vok 1048576 v := ⟨by omega, fun z hz => (he z hz).mono hn⟩
theorem e6U {b : List (List ZI)} {n : Nat} (hl : b.length ≤ n) (he : ∀ v ∈ b, v.length ≤ n ∧ ∀ z ∈ v, Zok n z) (hn : n ≤ 1048576) : Mok 1048576 b := ⟨by omega, fun v hv => e3G (he v hv).1 (he v hv).2 hn⟩
/-- A law's promise: it answers true; what was handed in reads as it did. -/
theorem e1J {K : Type} {enc : TypeId × Value → K} {P : Program} {f : Func} {s : ChangeSpec} {fresh handsOn : Bool} {W W' : World} {args : Array Value} {ds gs : List (DataW K)} {before : List MemPlace} {tb : TypeId}
    (hW : DataW.Whole enc P f.params.toList s.vars false W args.toList ds gs before) (hv : s.vars = []) (hfn : s.fn K ds = { results := [.lit (.bool true)], args := ds }) (ht : f.resultTypes = #[tb]) (htb : P.underlying tb = some .bool)
    (hl : laidOutB P = true) (hts : (f.params.toList.all fun t => P.readableRec t && decide (t < P.types.size)) = true) (hb : Below W.heap.size W W') :
    s.post enc P f false fresh handsOn false W args (.bool true) W' := by
  have hW0 := hW
  obtain ⟨p, q, hA, hV, rfl, hz, hn⟩ := hW
  rw [hv] at hV
  obtain ⟨rfl, rfl⟩ := trodVars_none hV
  have hlt : ∀ x ∈ p, x.block < W.heap.size := fun x hx => by simpa using hW0.lt x (by simpa using hx)
  have hA' := Below.trodAll (enc := enc) hl hb hts hA hlt
  refine ⟨ds, [], p ++ [], [], p, [], hW0, ?_, ?_, ?_, ?_, by simp⟩
  · rw [List.append_nil, hfn, ht]
    exact trodAll_cons_mk (shut_bool htb true) trodAll_mk0
  · rw [List.append_nil, hfn]; exact hA'
  · rw [List.append_nil, hfn, hv]; rfl
  · refine ⟨hb.os, hb.output, fun i hi => ?_⟩
    have := (World.keptBut_refl W (fun x => x ∈ p ++ [] ∧ (x ∈ [] ∨ x ∈ p ∨ x ∈ []))).2.2 i hi
    rw [hb.block i hi]
    exact this
end Go.Abs
set_option linter.unusedVariables false
set_option linter.unusedSimpArgs false
namespace Go.Abs
open Go.ChangeShapes Go.WideShapes Go.RowKit
open Go.Proofs.Ytkljokmnimblnaa.Rows (uptoBulk uptoBulkAll)
section
variable {K : Type} {enc : TypeId × Value → K} {P : Program} {w : World} {base : Nat} {sp : Nat → Bool} {held : Bool} {tm tv tz tb tn te : TypeId} {v : Value} {fuel : Nat} {x : DataW K × List MemPlace} {b1 : Nat}
theorem Types.arg_mat (T : Types P tm tv tz tb tn te) (hok : Value.okWide P w .any b1 tm v) (h : DataW.trod enc P w base sp held fuel tm v.cells.toList = some x) (hb : uptoBulk x.1 ≤ 1048576) : ∃ b, Mok 1048576 b ∧ ∀ φ, Rep ⟨φ, [], w⟩ v (matV b) := by
  obtain ⟨b, s, l, e, _⟩ := T.open_mat h
  rw [c6f T.mat hok] at s
  exact ⟨b, e6U l e hb, fun φ => s.rep1 rfl φ⟩
theorem Types.arg_vec (T : Types P tm tv tz tb tn te) (hok : Value.okWide P w .any b1 tv v) (h : DataW.trod enc P w base sp held fuel tv v.cells.toList = some x) (hb : uptoBulk x.1 ≤ 1048576) : ∃ b, Vok 1048576 b ∧ ∀ φ, Rep ⟨φ, [], w⟩ v (vecV b) := by
  obtain ⟨b, s, l, e, _⟩ := T.open_vec h
  rw [c6f T.vec hok] at s
  exact ⟨b, e3G l e hb, fun φ => s.rep1 rfl φ⟩
end
end Go.Abs

/- Whole numbers as values of the walks. -/
import Derived.Test.YtofbhhncpjegfaaD1
set_option linter.unusedVariables false
set_option linter.unusedSimpArgs false
set_option linter.defProp false
namespace Go.Abs

def sgn (neg : Bool) (n : Nat) : Int := if neg then -(n : Int) else n
/-- A number as it is handed round: a sign, limbs. -/
structure ZI where
  neg : Bool
  mag : List Nat
def ZI.av (x : ZI) : AV := .agg [.bool x.neg, natV x.mag]
def ZI.z (x : ZI) : Int := sgn x.neg (val x.mag)
/-- The number in its one form. -/
def canZ (z : Int) : ZI := ⟨decide (z < 0), limbs z.natAbs⟩
def Z (z : Int) : AV := .agg [.bool (decide (z < 0)), natV (limbs z.natAbs)]
theorem canZ_av (z : Int) : (canZ z).av = Z z := rfl
theorem canZ_z (z : Int) : (canZ z).z = z := by
  unfold canZ ZI.z sgn
  simp only [val_limbs, decide_eq_true_eq]
  split <;> omega
theorem Z_sgn (neg : Bool) (n : Nat) : .agg [.bool (neg && decide (0 < n)), natV (limbs n)] = Z (sgn neg n) := by
  unfold Z sgn
  cases neg
  · simp <;> omega
  · rcases Nat.eq_zero_or_pos n with h | h
    · subst h; simp
    · simp [h]
theorem sgn_zero (neg : Bool) : sgn neg 0 = 0 := by cases neg <;> rfl
theorem sgn_abs (neg : Bool) (n : Nat) : (sgn neg n).natAbs = n := by cases neg <;> simp [sgn]
theorem Z_cl (z : Int) : Cl (Z z) := .agg _ (by intro c hc; simp at hc; rcases hc with rfl | rfl; exact .bool _; exact natV_cl _)
theorem ZI.cl (x : ZI) : Cl x.av := .agg _ (by intro c hc; simp at hc; rcases hc with rfl | rfl; exact .bool _; exact natV_cl _)
theorem Z_zero : Z 0 = .agg [.bool false, natV []] := by unfold Z; simp [limbs_zero]
theorem le_zero : Le (.agg [.bool false, .nil]) (Z 0) := by rw [Z_zero]; exact Le.agg2 (Le.refl _) (Le.nil 1 (by decide))

/-- The number's limbs. -/
structure Zok (k : Nat) (x : ZI) : Prop where
  lim : Lim x.mag
  len : x.mag.length ≤ k
theorem Zok.mono {k m : Nat} {x : ZI} (h : Zok k x) (hk : k ≤ m) : Zok m x := ⟨h.lim, Nat.le_trans h.len hk⟩
theorem Zok.lt {k : Nat} {x : ZI} (h : Zok k x) : val x.mag < LB ^ k := by
  have h1 := val_lt h.lim
  have h2 : LB ^ x.mag.length ≤ LB ^ k := Nat.pow_le_pow_right (by decide) h.len
  omega
theorem Zok.abs {k : Nat} {x : ZI} (h : Zok k x) : x.z.natAbs < LB ^ k := by unfold ZI.z; rw [sgn_abs]; exact h.lt
theorem zok_can {k : Nat} {z : Int} (h : z.natAbs < LB ^ k) : Zok k (canZ z) := ⟨lim_limbs _, limbs_len_le h⟩

section
variable (n0 : Nat) (env : Env) (H L : Heap)
def cpyV (wd : Nat) (x y : AV) (env : Env) (H : Heap) : Option (AV × Env × Heap) := (srcEls H wd false y).bind fun ys => match x with
      | .mu id off len _ => (hrow H id).bind fun r =>
          if r.wd = wd ∧ off + len ≤ r.xs.length then
            some (.int .i64 (min ys.length len : Nat), env, H.set id (some ⟨wd, r.xs.take off ++ ys.take (min ys.length len) ++ r.xs.drop (off + min ys.length len)⟩)) else none
      | _ => none
theorem ev_cpy (wd : Nat) (a b : Src) : ev n0 (.cpy wd a b) env H = cpyV wd (a.ev env) (b.ev env) env H := by
  simp only [ev, cpyV]; cases srcEls H wd false (b.ev env) <;> simp only [Option.bind_none, Option.bind_some]; split <;> simp_all
theorem cpyV_row (wd i len : Nat) (oc : Option Nat) (y : AV) (xs ys : List AV) (hl : L[i]? = some (some ⟨wd, xs⟩)) (hlen : len = xs.length) (hy : srcEls (hap H L) wd false y = some ys) (hle : len ≤ ys.length) :
    cpyV wd (.mu (lid H i) 0 len oc) y env (hap H L) = some (.int .i64 len, env, hap H (L.set i (some ⟨wd, ys.take len⟩))) := by
  subst hlen
  simp only [cpyV, hy, Option.bind_some, hrow_hap, hl, Option.join_some, set_hap]
  rw [if_pos ⟨trivial, by omega⟩]
  simp [Nat.min_eq_right hle]
end
def EI := @ev_cpy

def E2 := And.intro @EV2 (And.intro @EI @E1)

end Go.Abs

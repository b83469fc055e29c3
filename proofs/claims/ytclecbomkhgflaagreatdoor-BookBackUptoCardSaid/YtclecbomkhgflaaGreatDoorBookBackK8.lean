/- Part 8 of the proof of BookBack: E1, K1, K2, K3, K4, K5, K6, K7, K8, K9, K10, K11, K12, K13, K14, K16, K17, K18, K19, K20. -/
import Derived.Test.YtclecbomkhgflaaGreatDoorBookBackK7
import Derived.Lib.Builder
import Derived.Lib.FrozenHead
import Derived.WalkKit
import Derived.RowKit
import Derived.Laws.Externs
import Derived.Lib.AppendStr
import Derived.Lib.UnsafeStr
set_option linter.unusedVariables false
set_option linter.unusedSimpArgs false
namespace Go.Abs
def e5f (c : UInt8) : Bool := decide (48 ≤ c.toNat) && decide (c.toNat ≤ 57)
theorem d8I {c : UInt8} : e5f c = true ↔ isDg c := by simp [e5f, isDg]
def numB (neg : Bool) (D : List UInt8) : Bool := decide (0 < D.length) && D.all e5f && !(decide ((D.getD 0 0).toNat = 48) && (decide (1 < D.length) || neg))
theorem b1g {neg : Bool} {D : List UInt8} : numB neg D = true ↔ 0 < D.length ∧ (∀ c ∈ D, isDg c) ∧ ((1 < D.length ∨ neg = true) → (D.getD 0 0).toNat ≠ 48) := by
 simp only [numB, Bool.and_eq_true, decide_eq_true_eq, List.all_eq_true, Bool.not_eq_true', Bool.and_eq_false_iff, decide_eq_false_iff_not, Bool.or_eq_false_iff, d8I]
 constructor
 ·rintro ⟨⟨h1, h2⟩, h3⟩
  refine ⟨h1, h2, fun h4 => ?_⟩
  rcases h3 with h3 | ⟨h3, h5⟩
  ·exact h3
  ·rcases h4 with h4 | h4
   ·exact absurd h4 h3
   ·rw [h5] at h4; cases h4
 ·rintro ⟨h1, h2, h3⟩
  refine ⟨⟨h1, h2⟩, ?_⟩
  by_cases h : 1 < D.length ∨ neg = true
  ·exact .inl (h3 h)
  ·exact .inr ⟨fun h' => h (.inl h'), by cases neg <;> simp_all⟩
theorem d3J {neg : Bool} {D : List UInt8} (h : numB neg D = true) : Dgs D (decV D) := by
 obtain ⟨h1, h2, h3⟩ := b1g.1 h
 refine ⟨h1, h2, fun h4 => ?_, rfl⟩
 by_cases h5 : 1 < D.length
 ·exact h3 (.inl h5)
 ·rcases h4 with h4 | h4
  ·exact absurd h4 h5
  ·intro e
   apply h4
   match D, h1, h5, e with
   | [c], _, _, e =>
    have : c.toNat = 48 := e
    simp [decV, this]
   | _ :: _ :: _, _, h5, _ => simp at h5
def tokV : List UInt8 → Option Int
 | 45 :: D => if numB true D then some (sgn true (decV D)) else none
 | D => if numB false D then some (sgn false (decV D)) else none
theorem c5H {P D : List UInt8} (h : P = [45] ∨ (P = [] ∧ (D.getD 0 0).toNat ≠ 45)) : tokV (P ++ D) = if numB (decide (P.length = 1)) D then some (sgn (decide (P.length = 1)) (decV D)) else none := by
 rcases h with rfl | ⟨rfl, h⟩
 ·rfl
 ·match D, h with
  | [], _ => rfl
  | c :: D, h =>
   have hc : c ≠ 45 := fun e => h (by rw [e]; rfl)
   unfold tokV
   split
   ·rename_i e
    cases e
    exact absurd rfl hc
   ·rfl
def tokN : List UInt8 → Bool
 | 45 :: _ => true
 | _ => false
def tokD : List UInt8 → List UInt8
 | 45 :: D => D
 | D => D
theorem d6Z {D : List UInt8} (h : (D.getD 0 0).toNat ≠ 45) : tokN D = false ∧ tokD D = D := by
 match D, h with
 | [], _ => exact ⟨rfl, rfl⟩
 | c :: D, h =>
  have hc : c ≠ 45 := fun e => h (by rw [e]; rfl)
  constructor
  ·unfold tokN
   split
   ·rename_i e; cases e; exact absurd rfl hc
   ·rfl
  ·unfold tokD
   split
   ·rename_i e; cases e; exact absurd rfl hc
   ·rfl
def b4W : AV := .agg [.bool false, .nil]
def e0v : List AItem := [.code (.region a7z false), .code .ret]
theorem d1d {P D : List UInt8} (hP : P.length ≤ 1) (hlen : (P ++ D).length ≤ 65536) (hneg : P.length = 1 → 0 < D.length → (D.getD 0 0).toNat ≠ 48) {H : Heap} (hH : a0z H) {R : AV → Heap → Prop}
  (hbad : numB (decide (P.length = 1)) D = false → ∀ a : Int, R (.tup [b4W, .int .i64 a, .int .i64 4]) (hap H [some ⟨2, [b4W]⟩]))
  (hend : numB (decide (P.length = 1)) D = true → Safe (zrCx H) e0v [(0, strU (P ++ D)), (2, .loc (lid H 0) 0 0), (5, .int .i64 P.length), (7, natV (limbs (decV D)))] (hap H [some ⟨2, [b4W]⟩]) R) :
  Safe (zrCx H) [.code (.region a9b false), .code (.block 0 (.loop b2B)), .code d3k]
  [(0, strU (P ++ D)), (2, .loc (lid H 0) 0 0), (5, .int .i64 P.length)] (hap H [some ⟨2, [b4W]⟩]) R := by
 have hl : (P ++ D).length = P.length + D.length := List.length_append
 have hix : ∀ i, i < D.length → idxS (strU (P ++ D)) (.int .i64 ((P.length + i : Nat) : Int)) = some (.int .u8 ((D.getD i 0).toNat : Int)) := fun i hi => by
  rw [c1R _ _ (by omega), e2d]
 unfold d3k zrCx b4W at *
 unfold e0v at hend
 refine Safe.rg rfl ?_
 simp only [a9b, E3, seval]
 refine Safe.lp rfl ?_
 refine Safe.keep [0, 2, 5, 6] ?_
 simp only [E3, seval]
 refine Safe.loopP D.length (fun i => [(0, strU (P ++ D)), (2, .loc (lid H 0) 0 0), (5, .int .i64 P.length), (6, .int .i64 ((P.length + i : Nat) : Int))]) (fun _ => hap H [some ⟨2, [.agg [.bool false, .nil]]⟩]) (fun i => (∀ j, j < i → isDg (D.getD j 0)) ∧ (1 < i → (D.getD 0 0).toNat ≠ 48)) rfl rfl ⟨fun j h => absurd h (Nat.not_lt_zero _), fun h => absurd h (by omega)⟩ (fun i hi hp ih => ?_) fun hp => ?_
 ·have hlt : (((P.length + i : Nat) : Int) < ((P ++ D).length : Int)) = True := eq_true (by omega)
  have hw1 : IntKind.wrap .i64 ((P.length : Int) + 1) = ((P.length + 1 : Nat) : Int) := by rw [a0e] <;> omega
  have hiw : IntKind.wrap .i64 (((P.length + i : Nat) : Int) + 1) = ((P.length + (i + 1) : Nat) : Int) := by rw [a0e] <;> omega
  have hnb : (¬ isDg (D.getD i 0) ∨ (i = 1 ∧ (D.getD 0 0).toNat = 48)) → numB (decide (P.length = 1)) D = false := fun h => by
   rw [← Bool.not_eq_true, b1g]
   rintro ⟨q1, q2, q3⟩
   rcases h with h | ⟨rfl, h⟩
   ·exact h (d9b q2 hi)
   ·exact q3 (.inl hi) h
  refine Safe.inLoop ?_
  refine Safe.rg rfl ?_
  simp only [b2x, a0u, hlt, E3, seval]
  refine Safe.cd rfl ?_
  simp only [E3, seval]
  by_cases hd : isDg (D.getD i 0)
  ·have hd' := hd
   unfold isDg at hd'
   have h48 : (((D.getD i 0).toNat : Int) < 48) = False := eq_false (by omega)
   have h57 : (((D.getD i 0).toNat : Int) > 57) = False := eq_false (by omega)
   by_cases h1 : i = 1
   ·subst h1
    have h0 := hix 0 (by omega)
    rw [Nat.add_zero] at h0
    by_cases hz : (D.getD 0 0).toNat = 48
    ·have h00 : (((D.getD 0 0).toNat : Int) = 48) = True := eq_true (by omega)
     refine Safe.rg rfl ?_
     simp only [a3d, hix 1 hi, h48, h57, hw1, h0, h00, E3, seval]
     refine Safe.cd rfl ?_
     simp only [E3, seval]
     refine Safe.rg rfl ?_
     simp only [a7B, E3, seval]
     refine Safe.rt rfl ?_
     simp only [one3, E3, seval]
     exact hbad (hnb (.inr ⟨rfl, hz⟩)) _
    ·have h00 : (((D.getD 0 0).toNat : Int) = 48) = False := eq_false (by omega)
     refine Safe.rg rfl ?_
     simp only [a3d, hix 1 hi, h48, h57, hw1, h0, h00, E3, seval]
     refine Safe.cd rfl ?_
     simp only [E3, seval]
     refine Safe.rg rfl ?_
     simp only [b0U, hiw, E3, seval]
     refine Safe.keep [0, 2, 5, 6] ?_
     simp only [E3, seval]
     exact ih ⟨fun j hj => by
      by_cases e : j = 1
      ·subst e; exact hd
      ·exact hp.1 j (by omega), fun _ => hz⟩
   ·have h11 : (((P.length + i : Nat) : Int) = ((P.length + 1 : Nat) : Int)) = False := eq_false (by omega)
    refine Safe.rg rfl ?_
    simp only [a3d, hix i hi, h48, h57, hw1, h11, E3, seval]
    refine Safe.cd rfl ?_
    simp only [E3, seval]
    refine Safe.rg rfl ?_
    simp only [b0U, hiw, E3, seval]
    refine Safe.keep [0, 2, 5, 6] ?_
    simp only [E3, seval]
    exact ih ⟨fun j hj => by
      by_cases e : j = i
      ·subst e; exact hd
      ·exact hp.1 j (by omega), fun h => hp.2 (by omega)⟩
  ·by_cases h48' : (D.getD i 0).toNat < 48
   ·have h48 : (((D.getD i 0).toNat : Int) < 48) = True := eq_true (by omega)
    refine Safe.rg rfl ?_
    simp only [a3d, hix i hi, h48, E3, seval]
    refine Safe.cd rfl ?_
    simp only [E3, seval]
    refine Safe.rg rfl ?_
    simp only [a7B, E3, seval]
    refine Safe.rt rfl ?_
    simp only [one3, E3, seval]
    exact hbad (hnb (.inl hd)) _
   ·have h48 : (((D.getD i 0).toNat : Int) < 48) = False := eq_false (by omega)
    have h57 : (((D.getD i 0).toNat : Int) > 57) = True := eq_true (by unfold isDg at hd; omega)
    refine Safe.rg rfl ?_
    simp only [a3d, hix i hi, h48, h57, E3, seval]
    refine Safe.cd rfl ?_
    simp only [E3, seval]
    refine Safe.rg rfl ?_
    simp only [a7B, E3, seval]
    refine Safe.rt rfl ?_
    simp only [one3, E3, seval]
    exact hbad (hnb (.inl hd)) _
 ·refine Safe.inLoop ?_
  have hlt : (((P.length + D.length : Nat) : Int) < ((P ++ D).length : Int)) = False := eq_false (by omega)
  refine Safe.rg rfl ?_
  simp only [b2x, a0u, hlt, E3, seval]
  refine Safe.cd rfl ?_
  simp only [E3, seval]
  by_cases hD0 : D.length = 0
  ·have hne : ((P.length : Int) = ((P ++ D).length : Int)) = True := eq_true (by omega)
   refine Safe.rg rfl ?_
   simp only [a7A, a0u, hne, E3, seval]
   refine Safe.cd rfl ?_
   simp only [E3, seval]
   refine Safe.rg rfl ?_
   simp only [b0T, E3, seval]
   refine Safe.rt rfl ?_
   simp only [one3, E3, seval]
   refine hbad ?_ _
   rw [← Bool.not_eq_true, b1g]
   rintro ⟨q1, _⟩
   omega
  have hgd : numB (decide (P.length = 1)) D = true := b1g.2 ⟨by omega, fun c hc => by
   obtain ⟨j, hj, rfl⟩ := List.getElem_of_mem hc
   have := hp.1 j hj
   rwa [List.getD_eq_getElem?_getD, List.getElem?_eq_getElem hj] at this, fun h => by
   rcases h with h | h
   ·exact hp.2 h
   ·exact hneg (of_decide_eq_true h) (by omega)⟩
  have hend := hend hgd
  have hD := d3J hgd
  have hDp := hD.pos
  have hne : ((P.length : Int) = ((P ++ D).length : Int)) = False := eq_false (by omega)
  refine Safe.rg rfl ?_
  simp only [a7A, a0u, hne, E3, seval]
  refine Safe.cd rfl ?_
  simp only [E3, seval]
  refine Safe.rg rfl ?_
  simp only [b0S, E3, seval]
  refine Safe.nilsl 7 1 (by decide) (by simp only [E3, seval]) ?_
  refine Safe.rg rfl ?_
  simp only [b0R, E3, seval]
  refine Safe.lp rfl ?_
  refine Safe.keep [0, 2, 5, 7, 8] ?_
  simp only [E3, seval]
  refine Safe.loopW (fun k : Nat => D.length - k) (fun k => [(0, strU (P ++ D)), (2, .loc (lid H 0) 0 0), (5, .int .i64 P.length), (7, natV (limbs (decV (D.take k)))), (8, .int .i64 ((P.length + k : Nat) : Int))]) (fun _ => hap H [some ⟨2, [.agg [.bool false, .nil]]⟩])
   (fun k => k ≤ D.length) 0 (by rw [List.take_zero, d4h, a0R]; rfl) rfl (Nat.zero_le _) ?_
  intro k hk ih
  refine Safe.inLoop ?_
  by_cases hkd : k < D.length
  ·have hlt : (((P.length + k : Nat) : Int) < ((P ++ D).length : Int)) = True := eq_true (by omega)
   have hsub : IntKind.wrap .i64 (((P ++ D).length : Int) - ((P.length + k : Nat) : Int)) = ((D.length - k : Nat) : Int) := by rw [a0e] <;> omega
   have hmn : (if ((D.length - k : Nat) : Int) < 9 then ((D.length - k : Nat) : Int) else 9) = ((min 9 (D.length - k) : Nat) : Int) := by split <;> omega
   have hn9 : min 9 (D.length - k) ≤ 9 := Nat.min_le_left _ _
   have hnk : k + min 9 (D.length - k) ≤ D.length := by omega
   have hn0 : 0 < min 9 (D.length - k) := by omega
   refine Safe.rg rfl ?_
   simp only [b0Q, a0u, hlt, E3, seval]
   refine Safe.cd rfl ?_
   simp only [E3, seval]
   refine Safe.rg rfl ?_
   simp only [b6g, a0u, hsub, hmn, E3, seval]
   generalize min 9 (D.length - k) = n at *
   refine Safe.rg rfl ?_
   simp only [b6f, E3, seval]
   refine Safe.rg rfl ?_
   simp only [b6e, E3, seval]
   refine Safe.lp rfl ?_
   refine Safe.keep [0, 2, 5, 7, 8, 9, 10, 83, 84] ?_
   simp only [E3, seval]
   refine Safe.loopN n (fun j => [(0, strU (P ++ D)), (2, .loc (lid H 0) 0 0), (5, .int .i64 P.length), (7, natV (limbs (decV (D.take k)))), (8, .int .i64 ((P.length + (k + j) : Nat) : Int)), (9, .int .i64 n), (10, .int .u32 (decV ((D.drop k).take j) : Nat)), (83, .int .i64 n), (84, .int .i64 j)]) (fun _ => hap H [some ⟨2, [.agg [.bool false, .nil]]⟩]) rfl rfl (fun j hj ih2 => ?_) ?_
   ·have hltj : ((j : Int) < (n : Int)) = True := eq_true (by omega)
    have hdg := d9b hD.dg (i := k + j) (by omega)
    unfold isDg at hdg
    have hv : decV ((D.drop k).take j) < 10 ^ j := by
     have := b5P (l := (D.drop k).take j) fun c hc => hD.dg c (List.mem_of_mem_drop (List.mem_of_mem_take hc))
     rwa [List.length_take, List.length_drop, Nat.min_eq_left (by omega)] at this
    have hp : 10 ^ j ≤ 10 ^ 8 := Nat.pow_le_pow_right (by decide) (by omega)
    have hw10 : IntKind.wrap .u32 (10 * (decV ((D.drop k).take j) : Int)) = ((10 * decV ((D.drop k).take j) : Nat) : Int) := by
     rw [show (10 * (decV ((D.drop k).take j) : Int)) = ((10 * decV ((D.drop k).take j) : Nat) : Int) by omega]
     exact c2y (by omega)
    have hw8 : IntKind.wrap .u8 (((D.getD (k + j) 0).toNat : Int) - 48) = (((D.getD (k + j) 0).toNat - 48 : Nat) : Int) := by
     rw [show (((D.getD (k + j) 0).toNat : Int) - 48) = (((D.getD (k + j) 0).toNat - 48 : Nat) : Int) by omega]
     exact e0x (by omega)
    have hwc : IntKind.wrap .u32 (((D.getD (k + j) 0).toNat - 48 : Nat) : Int) = (((D.getD (k + j) 0).toNat - 48 : Nat) : Int) := c2y (by omega)
    have hwa : IntKind.wrap .u32 (((10 * decV ((D.drop k).take j) : Nat) : Int) + (((D.getD (k + j) 0).toNat - 48 : Nat) : Int)) = (decV ((D.drop k).take (j + 1)) : Nat) := by
     rw [c5o (by omega), d9F, ← Int.natCast_add]
     exact c2y (by omega)
    have hjw : IntKind.wrap .i64 ((j : Int) + 1) = ((j + 1 : Nat) : Int) := by rw [a0e] <;> omega
    have hiw : IntKind.wrap .i64 (((P.length + (k + j) : Nat) : Int) + 1) = ((P.length + (k + (j + 1)) : Nat) : Int) := by rw [a0e] <;> omega
    refine Safe.inLoop ?_
    refine Safe.rg rfl ?_
    simp only [b0P, hltj, E3, seval]
    refine Safe.cd rfl ?_
    simp only [E3, seval]
    refine Safe.rg rfl ?_
    simp only [b6d, hix (k + j) (by omega), hw10, hw8, hwc, hwa, E3, seval]
    refine Safe.rg rfl ?_
    simp only [b6c, hiw, E3, seval]
    refine Safe.rg rfl ?_
    simp only [b6b, hjw, E3, seval]
    refine Safe.keep [0, 2, 5, 7, 8, 9, 10, 83, 84] ?_
    simp only [E3, seval]
    exact ih2
   ·refine Safe.inLoop ?_
    refine Safe.rg rfl ?_
    simp only [b0P, Int.lt_irrefl, E3, seval]
    refine Safe.cd rfl ?_
    simp only [E3, seval]
    have hM : decV (D.take k) < 10 ^ k := by
     have := b5P (l := D.take k) fun c hc => hD.dg c (List.mem_of_mem_take hc)
     rwa [List.length_take, Nat.min_eq_left (by omega)] at this
    have hv : decV ((D.drop k).take n) < 10 ^ n := by
     have := b5P (l := (D.drop k).take n) fun c hc => hD.dg c (List.mem_of_mem_drop (List.mem_of_mem_take hc))
     rwa [List.length_take, List.length_drop, Nat.min_eq_left (by omega)] at this
    have hp9 : 10 ^ n ≤ 10 ^ 9 := Nat.pow_le_pow_right (by decide) hn9
    have hLB : LB = 4294967296 := rfl
    have hmul := c2V (limbs (decV (D.take k))) [10 ^ n] (c4u hM (by omega)) ⟨by intro d hd; simp at hd; omega, by simp⟩ (by have := (c4u hM (by omega)).len; have := a0M (Nat.lt_of_lt_of_le hM (d7O k)); simp; omega)
    rw [a0q, d6P] at hmul
    have hMn : decV (D.take k) * 10 ^ n < 10 ^ (k + n) := by
     rw [Nat.pow_add]
     exact Nat.mul_lt_mul_of_pos_right hM (Nat.pow_pos (by decide))
    have hadd := c2W (limbs (decV (D.take k) * 10 ^ n)) [decV ((D.drop k).take n)] (a0H _) (by intro d hd; simp at hd; omega) (by have := a0M (Nat.lt_of_lt_of_le hMn (d7O (k + n))); omega) (by simp)
    have happ : decV (D.take k) * 10 ^ n + decV ((D.drop k).take n) = decV (D.take (k + n)) := by
     rw [c7D, d4i, List.length_take, List.length_drop, Nat.min_eq_left (by omega)]
    rw [a0q, d6P, happ] at hadd
    refine Safe.rg rfl ?_
    simp only [b6a, E3, seval]
    first | refine (b8p n hn9).acall ?_ | refine (b8p n hn9).dcall ?_ | refine (b8p n hn9).dgcall ?_
    try simp only [E3, seval]
    first | refine (hmul).acall ?_ | refine (hmul).dcall ?_ | refine (hmul).dgcall ?_
    try simp only [E3, seval]
    first | refine (hadd).acall ?_ | refine (hadd).dcall ?_ | refine (hadd).dgcall ?_
    try simp only [E3, seval]
    refine Safe.keep [0, 2, 5, 7, 8] ?_
    simp only [E3, seval]
    repeat (first | refine Safe.seq ?_ | refine Safe.skip ?_ | refine Safe.inBlock ?_ | refine Safe.block ?_ | refine Safe.exit rfl ?_)
    exact ih (k + n) (by omega) (by omega)
  ·have hkk : k = D.length := by omega
   subst hkk
   have hlt : (((P.length + D.length : Nat) : Int) < ((P ++ D).length : Int)) = False := eq_false (by omega)
   have hM := b5P hD.dg
   refine Safe.rg rfl ?_
   simp only [b0Q, a0u, hlt, E3, seval]
   refine Safe.cd rfl ?_
   simp only [E3, seval]
   refine Safe.keep [0, 2, 5, 7] ?_
   simp only [E3, seval]
   repeat (first | refine Safe.seq ?_ | refine Safe.skip ?_ | refine Safe.inBlock ?_ | refine Safe.block ?_ | refine Safe.exit rfl ?_)
   rw [List.take_length]
   exact hend
theorem c5B (t : List UInt8) (hlen : t.length ≤ 65536) {H : Heap} (hH : a0z H) {R : AV → Heap → Prop}
  (hbad : tokV t = none → ∀ a : Int, R (.tup [b4W, .int .i64 a, .int .i64 4]) (hap H [some ⟨2, [b4W]⟩]))
  (hend : ∀ neg D, neg = tokN t → D = tokD t → tokV t = some (sgn neg (decV D)) → numB neg D = true → D.length ≤ 65536 → Safe (zrCx H) e0v [(0, strU t), (2, .loc (lid H 0) 0 0), (5, .int .i64 (if neg then 1 else 0)), (7, natV (limbs (decV D)))] (hap H [some ⟨2, [b4W]⟩]) R) :
  Safe (zrCx H) [.code c2k] (b2o 0 [strU t]) (hap H []) R := by
 have hbig : ((t.length : Int) > 65536) = False := eq_false (by omega)
 have main : ∀ P D : List UInt8, t = P ++ D → (P = [45] ∨ (P = [] ∧ (D.getD 0 0).toNat ≠ 45)) → (P.length = 1 → 0 < D.length → (D.getD 0 0).toNat ≠ 48) →
   Safe (zrCx H) [.code (.region a9b false), .code (.block 0 (.loop b2B)), .code d3k] [(0, strU t), (2, .loc (lid H 0) 0 0), (5, .int .i64 P.length)] (hap H [some ⟨2, [b4W]⟩]) R := by
  intro P D ht hP hneg
  subst ht
  have htv := c5H hP
  refine d1d (by rcases hP with rfl | ⟨rfl, _⟩ <;> simp) hlen hneg hH (fun hn => hbad (by rw [htv, if_neg (by rw [hn]; simp)])) fun hg => ?_
  rw [if_pos hg] at htv
  have h1 : decide (P.length = 1) = tokN (P ++ D) ∧ D = tokD (P ++ D) := by
   rcases hP with rfl | ⟨rfl, h⟩
   ·exact ⟨rfl, rfl⟩
   ·have := d6Z h
    exact ⟨this.1.symm, this.2.symm⟩
  have := hend _ D h1.1 h1.2 htv hg (by rw [List.length_append] at hlen; omega)
  rcases hP with rfl | ⟨rfl, _⟩ <;> exact this
 unfold zrCx d3k b4W at *
 refine Safe.rg rfl ?_
 simp only [b2z, E3, seval]
 refine Safe.rg rfl ?_
 simp only [b2y, a0u, hbig, E3, seval]
 refine Safe.cd rfl ?_
 simp only [E3, seval]
 refine Safe.rg rfl ?_
 simp only [b9H, E3, seval]
 by_cases hz : 0 < t.length
 ·have hgt0 : ((t.length : Int) > 0) = True := eq_true (by omega)
  have hi0 := b3E t .i64 hz
  by_cases h45 : (t.getD 0 0).toNat = 45
  ·have h45' : (((t.getD 0 0).toNat : Int) = 45) = True := eq_true (by omega)
   have htP : t = [45] ++ t.tail := by
    match t, hz with
    | c :: t, _ =>
     have h : c.toNat = (45 : UInt8).toNat := h45
     have : c = 45 := UInt8.toNat_inj.1 h
     subst this; rfl
   refine Safe.rg rfl ?_
   simp only [a9c, a0u, hgt0, hi0, h45', E3, seval]
   refine Safe.cd rfl ?_
   simp only [E3, seval]
   refine Safe.rg rfl ?_
   simp only [b9G, E3, seval]
   by_cases h1' : 1 < t.length
   ·have h1 : ((t.length : Int) > 1) = True := eq_true (by omega)
    have hi1 := d8O t .i64 h1'
    have he : t.getD 1 0 = t.tail.getD 0 0 := by
     match t, h1' with
     | _ :: _ :: _, _ => rfl
    by_cases h48 : (t.getD 1 0).toNat = 48
    ·have h48' : (((t.getD 1 0).toNat : Int) = 48) = True := eq_true (by omega)
     refine Safe.rg rfl ?_
     simp only [a3N, a0u, h1, hi1, h48', E3, seval]
     refine Safe.cd rfl ?_
     simp only [E3, seval]
     refine Safe.rg rfl ?_
     simp only [b9F, E3, seval]
     refine Safe.rt rfl ?_
     simp only [one3, E3, seval]
     refine hbad ?_ _
     rw [htP, c5H (.inl rfl), if_neg]
     rw [b1g]
     rintro ⟨_, _, q3⟩
     exact q3 (.inr rfl) (by rw [← he]; exact h48)
    ·have h48' : (((t.getD 1 0).toNat : Int) = 48) = False := eq_false (by omega)
     refine Safe.rg rfl ?_
     simp only [a3N, a0u, h1, hi1, h48', E3, seval]
     refine Safe.cd rfl ?_
     simp only [E3, seval]
     refine Safe.keep [0, 2, 5] ?_
     simp only [E3, seval]
     repeat (first | refine Safe.seq ?_ | refine Safe.skip ?_ | refine Safe.inBlock ?_ | refine Safe.block ?_ | refine Safe.exit rfl ?_)
     exact main [45] t.tail htP (.inl rfl) fun _ _ => by rw [← he]; exact h48
   ·have h1 : ((t.length : Int) > 1) = False := eq_false (by omega)
    refine Safe.rg rfl ?_
    simp only [a3N, a0u, h1, E3, seval]
    refine Safe.cd rfl ?_
    simp only [E3, seval]
    refine Safe.keep [0, 2, 5] ?_
    simp only [E3, seval]
    repeat (first | refine Safe.seq ?_ | refine Safe.skip ?_ | refine Safe.inBlock ?_ | refine Safe.block ?_ | refine Safe.exit rfl ?_)
    exact main [45] t.tail htP (.inl rfl) fun _ h => absurd h (by rw [List.length_tail]; omega)
  ·have h45' : (((t.getD 0 0).toNat : Int) = 45) = False := eq_false (by omega)
   refine Safe.rg rfl ?_
   simp only [a9c, a0u, hgt0, hi0, h45', E3, seval]
   refine Safe.cd rfl ?_
   simp only [E3, seval]
   refine Safe.rg rfl ?_
   simp only [a3N, E3, seval]
   refine Safe.cd rfl ?_
   simp only [E3, seval]
   refine Safe.keep [0, 2, 5] ?_
   simp only [E3, seval]
   repeat (first | refine Safe.seq ?_ | refine Safe.skip ?_ | refine Safe.inBlock ?_ | refine Safe.block ?_ | refine Safe.exit rfl ?_)
   exact main [] t rfl (.inr ⟨rfl, h45⟩) fun h => by simp at h
 ·have hgt0 : ((t.length : Int) > 0) = False := eq_false (by omega)
  have ht0 : t = [] := List.length_eq_zero_iff.1 (by omega)
  refine Safe.rg rfl ?_
  simp only [a9c, a0u, hgt0, E3, seval]
  refine Safe.cd rfl ?_
  simp only [E3, seval]
  refine Safe.rg rfl ?_
  simp only [a3N, E3, seval]
  refine Safe.cd rfl ?_
  simp only [E3, seval]
  refine Safe.keep [0, 2, 5] ?_
  simp only [E3, seval]
  repeat (first | refine Safe.seq ?_ | refine Safe.skip ?_ | refine Safe.inBlock ?_ | refine Safe.block ?_ | refine Safe.exit rfl ?_)
  exact main [] t rfl (.inr ⟨rfl, by rw [ht0]; decide⟩) fun h => by simp at h
theorem e0t {t : List UInt8} (hlen : t.length ≤ 65536) {z : Int} (hz : tokV t = some z) : a0f Pr a3b [strU t] (.tup [Z z, .int .i64 0, .int .i64 0]) := by
 refine a0f.intro b2C b2A (Nat.le_of_ble_eq_true rfl) (b5Q (Z_cl _) (.int _ _) (.int _ _)) fun H hH => ?_
 refine c5B t hlen hH (fun h => by rw [hz] at h; cases h) fun neg D _ _ h1 h2 h3 => ?_
 rw [hz] at h1
 cases h1
 have hD := d3J h2
 have hM := b5P hD.dg
 have hmd := a3C neg (limbs (decV D)) (c4u hM h3)
 rw [a0q] at hmd
 have hdec : decide ((if neg = true then (1 : Int) else 0) = 1) = neg := by cases neg <;> rfl
 unfold zrCx e0v b4W
 refine Safe.rg rfl ?_
 simp only [a7z, hdec, E3, seval]
 first | refine (hmd).acall ?_ | refine (hmd).dcall ?_ | refine (hmd).dgcall ?_
 try simp only [E3, seval]
 refine Safe.rt rfl ?_
 simp only [one3, E3, seval]
 exact ⟨rfl, _, rfl⟩
theorem a0h.cutP {P : Program} {f : FuncId} {args : List AV} {H : Heap} {p : AV → Prop} (hp : ∀ r, p r → Cl r) (h : a0h P f args H fun r' H' => p r' ∧ ∃ L, H' = hap H L) : a0h P f args H fun r' H' => p r' ∧ H' = H := by
 refine ⟨h.1, fun φ w vs hok hl hrep => (h.2 φ w vs hok hl hrep).mono ?_⟩
 rintro e w' ⟨v, r', φ', H', rfl, ⟨hle, L, rfl⟩, q1, q2, q3, q4⟩
 have hfree : ∀ (j : Nat) bj, j < H.length → (hap H L)[j]? = some (some bj) → ∀ a ∈ bj.flat, Ref (· < H.length) a := by
  intro j bj hj hb
  simp only [hap] at hb
  rw [List.getElem?_append_left hj] at hb
  exact hok.refs hb
 have hcut := HOk.cut q1 H.length hfree
 have ht : (hap H L).take H.length = H := by simp [hap]
 simp only [ht] at hcut
 exact ⟨v, r', φ', H, rfl, ⟨hle, rfl⟩, hcut.1, q2.mono hcut.2 (hp _ hle).ref, Nat.le_refl _, q4.trans hcut.2⟩
theorem d3o : Cl b4W := .agg _ fun c hc => by
 simp only [List.mem_cons, List.not_mem_nil, or_false] at hc
 rcases hc with rfl | rfl
 ·exact .bool _
 ·exact .nil
theorem d6H {t : List UInt8} (hlen : t.length ≤ 65536) (hz : tokV t = none) (H : Heap) : a0h Pr a3b [strU t] H fun r' H' => (∃ a : Int, r' = .tup [b4W, .int .i64 a, .int .i64 4]) ∧ H' = H := by
 refine a0h.cutP (fun r ⟨a, e⟩ => by rw [e]; exact b5Q d3o (.int _ _) (.int _ _)) ?_
 refine a0h.open b2C b2A (Nat.le_of_ble_eq_true rfl) fun hH => ?_
 exact c5B t hlen hH (fun _ a => ⟨⟨a, rfl⟩, _, rfl⟩) fun neg D _ _ h1 h2 h3 => by rw [hz] at h1; cases h1
end Go.Abs
namespace Go.Abs
open Go.Proofs
def cutA (c : UInt8) (l : List UInt8) : List UInt8 := l.takeWhile (· != c)
def cutB (c : UInt8) (l : List UInt8) : List UInt8 := (l.dropWhile (· != c)).tail
theorem d4k (c : UInt8) : ∀ l : List UInt8, l.count c = 0 → cutA c l = l ∧ cutB c l = []
 | [], _ => ⟨rfl, rfl⟩
 | x :: l, h => by
  rw [List.count_cons] at h
  have hx : (x != c) = true := by
   cases hb : x == c
   ·simp [bne, hb]
   ·rw [if_pos hb] at h; omega
  obtain ⟨h1, h2⟩ := d4k c l (by omega)
  unfold cutA cutB at *
  rw [List.takeWhile_cons, List.dropWhile_cons, if_pos hx, if_pos hx]
  exact ⟨by rw [h1], h2⟩
theorem d4j (c : UInt8) : ∀ (p r : List UInt8), p.count c = 0 → cutA c (p ++ c :: r) = p ∧ cutB c (p ++ c :: r) = r
 | [], r, _ => by simp [cutA, cutB]
 | x :: p, r, h => by
  rw [List.count_cons] at h
  have hx : (x != c) = true := by
   cases hb : x == c
   ·simp [bne, hb]
   ·rw [if_pos hb] at h; omega
  obtain ⟨h1, h2⟩ := d4j c p r (by omega)
  unfold cutA cutB at *
  rw [List.cons_append, List.takeWhile_cons, List.dropWhile_cons, if_pos hx, if_pos hx]
  exact ⟨by rw [h1], h2⟩
theorem b4O (c : UInt8) : ∀ l : List UInt8, l.count c = 0 → Lib.indexByte l c = -1
 | [], _ => rfl
 | x :: l, h => by
  rw [List.count_cons] at h
  have hx : (x == c) = false := by
   cases hb : x == c
   ·rfl
   ·rw [if_pos hb] at h; omega
  have ih := b4O c l (by omega)
  simp only [Lib.indexByte] at ih ⊢
  simp [hx, ih]
theorem d2r (l : List UInt8) (c : UInt8) : a0f Pr a0I [strU l, strU [c]] (.int .i64 (Lib.indexByte l c)) := by
 have hb : a0f Pr a0L [strU l, .int .u8 (c.toNat : Int)] (.int .i64 (Lib.indexByte l c)) := by
  refine a0f.ofBelow Tryz.func124 (by decide +kernel) (by kernel_rfl) fun E vs hok hl hr => ?_
  obtain ⟨v0, v1, rfl⟩ : ∃ v0 v1, vs = [v0, v1] := by
   match vs, hl with
   | [v0, v1], _ => exact ⟨v0, v1, rfl⟩
  have h0 := a0O (hr 0 v0 _ rfl rfl)
  have h1 := a0F (hr 1 v1 _ rfl rfl)
  subst h0; subst h1
  refine (Tryz.stringslite_IndexByte ⟨l.toArray⟩ (c.toNat : Int) E.w).mono ?_
  rintro e w' ⟨rfl, rfl⟩
  refine ⟨⟨_, rfl, fun E' => ?_⟩, Go.RowKit.Below.refl _ _⟩
  have : ((c.toNat : Int)).toNat.toUInt8 = c := by simp
  rw [this]
  exact .int _ _
 have hi := b3E [c] .i64 (by simp)
 rw [show ([c] : List UInt8).getD 0 0 = c from rfl] at hi
 have hl1 : lenS (strU [c]) = some (.int .i64 1) := by rw [a0u]; rfl
 have h10 : ((1 : Int) = 0) = False := eq_false (by omega)
 by_cases hq : [c] = l
 ·have he : binV .eql (strU [c]) (strU l) = some (.bool true) := by rw [a2h, hq]; simp
  have hz : Lib.indexByte l c = 0 := by rw [← hq]; simp [Lib.indexByte]
  rw [hz]
  refine a0f.intro a0V a0U (Nat.le_of_ble_eq_true rfl) (.int _ _) fun H hH => ?_
  refine Safe.rg rfl ?_
  simp only [a0E, E3, seval]
  refine Safe.rg rfl ?_
  simp only [a0D, hl1, E3, seval]
  refine Safe.rg rfl ?_
  simp only [a0C, h10, he, E3, seval]
  refine Safe.cd rfl ?_
  simp only [E3, seval]
  refine Safe.rg rfl ?_
  simp only [a1x, E3, seval]
  refine Safe.rt rfl ?_
  simp only [E3, seval]
  exact ⟨_, rfl⟩
 ·have he : binV .eql (strU [c]) (strU l) = some (.bool false) := by
   rw [a2h]
   have : ([c] == l) = false := by rw [beq_eq_false_iff_ne]; exact hq
   rw [this]
  refine a0f.intro a0V a0U (Nat.le_of_ble_eq_true rfl) (.int _ _) fun H hH => ?_
  refine Safe.rg rfl ?_
  simp only [a0E, E3, seval]
  refine Safe.rg rfl ?_
  simp only [a0D, hl1, E3, seval]
  refine Safe.rg rfl ?_
  simp only [a0C, h10, he, E3, seval]
  refine Safe.cd rfl ?_
  simp only [E3, seval]
  refine Safe.rg rfl ?_
  simp only [a1w, E3, seval]
  refine Safe.cd rfl ?_
  simp only [E3, seval]
  refine Safe.rg rfl ?_
  simp only [a1v, hi, E3, seval]
  first | refine (hb).acall ?_ | refine (hb).dcall ?_ | refine (hb).dgcall ?_
  try simp only [E3, seval]
  refine Safe.rt rfl ?_
  simp only [E3, seval]
  exact ⟨_, rfl⟩
theorem d2S (a b : List UInt8) (q : Bool) : Cl (.tup [strU a, strU b, .bool q]) := b5Q (a1l _) (a1l _) (.bool _)
theorem b3D (l : List UInt8) (c : UInt8) (hl : l.length ≤ 4294967296) : a0f Pr a1O [strU l, strU [c]] (.tup [strU (cutA c l), strU (cutB c l), .bool (decide (0 < l.count c))]) := by
 have hx := d2r l c
 have hl1 : lenS (strU [c]) = some (.int .i64 1) := by rw [a0u]; rfl
 by_cases hc : 0 < l.count c
 ·obtain ⟨m, h1, h2, h3, h4⟩ := c4E c l hc
  obtain ⟨e1, e2⟩ := d4j c (l.take m) (l.drop (m + 1)) h3
  rw [← h4] at e1 e2
  rw [h1] at hx
  have hge : ((m : Int) ≥ 0) = True := eq_true (by omega)
  have s1 := c7J l m (by omega)
  have s2 := c7I l (m + 1) (by omega)
  have hw : IntKind.wrap .i64 ((m : Int) + 1) = ((m + 1 : Nat) : Int) := by rw [a0e] <;> omega
  have hd : decide (0 < l.count c) = true := decide_eq_true hc
  rw [e1, e2, hd]
  refine a0f.intro a2X a2W (Nat.le_of_ble_eq_true rfl) (d2S _ _ _) fun H hH => ?_
  refine Safe.rg rfl ?_
  simp only [a1G, E3, seval]
  refine Safe.rg rfl ?_
  simp only [a1F, E3, seval]
  first | refine (hx).acall ?_ | refine (hx).dcall ?_ | refine (hx).dgcall ?_
  try simp only [E3, seval]
  refine Safe.rg rfl ?_
  simp only [a1E, hge, E3, seval]
  refine Safe.cd rfl ?_
  simp only [E3, seval]
  refine Safe.rg rfl ?_
  simp only [a2V, hl1, hw, s1, s2, E3, seval]
  refine Safe.rt rfl ?_
  simp only [E3, seval]
  exact ⟨_, rfl⟩
 ·obtain ⟨e1, e2⟩ := d4k c l (by omega)
  rw [b4O c l (by omega)] at hx
  have hge : ((-1 : Int) ≥ 0) = False := eq_false (by omega)
  have hd : decide (0 < l.count c) = false := decide_eq_false hc
  rw [e1, e2, hd]
  refine a0f.intro a2X a2W (Nat.le_of_ble_eq_true rfl) (d2S _ _ _) fun H hH => ?_
  refine Safe.rg rfl ?_
  simp only [a1G, E3, seval]
  refine Safe.rg rfl ?_
  simp only [a1F, E3, seval]
  first | refine (hx).acall ?_ | refine (hx).dcall ?_ | refine (hx).dgcall ?_
  try simp only [E3, seval]
  refine Safe.rg rfl ?_
  simp only [a1E, hge, E3, seval]
  refine Safe.cd rfl ?_
  simp only [E3, seval]
  refine Safe.rg rfl ?_
  simp only [a2U, E3, seval]
  refine Safe.rt rfl ?_
  simp only [strE, E3, seval]
  exact ⟨_, rfl⟩
theorem e2y (l : List UInt8) (c : UInt8) (hl : l.length ≤ 4294967296) : a0f Pr b1N [strU l, strU [c]] (.tup [strU (cutA c l), strU (cutB c l), .bool (decide (0 < l.count c))]) := by
 refine a0f.intro c5q c5p (Nat.le_of_ble_eq_true rfl) (d2S _ _ _) fun H hH => ?_
 refine Safe.rg rfl ?_
 simp only [b4F, E3, seval]
 refine Safe.rg rfl ?_
 simp only [b4E, E3, seval]
 first | refine (b3D l c hl).acall ?_ | refine (b3D l c hl).dcall ?_ | refine (b3D l c hl).dgcall ?_
 try simp only [E3, seval]
 refine Safe.rt rfl ?_
 simp only [E3, seval]
 exact ⟨_, rfl⟩
def pre (p l : List UInt8) : Bool := decide (p.length ≤ l.length) && (l.take p.length == p)
theorem c5y (l p : List UInt8) (hl : l.length ≤ 4294967296) : a0f Pr a1m [strU l, strU p] (.bool (pre p l)) := by
 unfold pre
 by_cases h : p.length ≤ l.length
 ·have hge : ((l.length : Int) ≥ (p.length : Int)) = True := eq_true (by omega)
  have s1 := c7J l p.length h
  rw [decide_eq_true h, Bool.true_and]
  refine a0f.intro a1S a1R (Nat.le_of_ble_eq_true rfl) (.bool _) fun H hH => ?_
  refine Safe.rg rfl ?_
  simp only [a1b, E3, seval]
  refine Safe.rg rfl ?_
  simp only [a1a, a0u, hge, s1, a2h, E3, seval]
  refine Safe.rt rfl ?_
  simp only [E3, seval]
  exact ⟨_, rfl⟩
 ·have hge : ((l.length : Int) ≥ (p.length : Int)) = False := eq_false (by omega)
  rw [decide_eq_false h, Bool.false_and]
  refine a0f.intro a1S a1R (Nat.le_of_ble_eq_true rfl) (.bool _) fun H hH => ?_
  refine Safe.rg rfl ?_
  simp only [a1b, E3, seval]
  refine Safe.rg rfl ?_
  simp only [a1a, a0u, hge, E3, seval]
  refine Safe.rt rfl ?_
  simp only [E3, seval]
  exact ⟨_, rfl⟩
theorem d2V (l : List UInt8) (q : Bool) : Cl (.tup [strU l, .bool q]) := .tup _ fun c hc => by
 simp only [List.mem_cons, List.not_mem_nil, or_false] at hc
 rcases hc with rfl | rfl
 ·exact a1l _
 ·exact .bool _
theorem a4g (l p : List UInt8) (hl : l.length ≤ 4294967296) : a0f Pr a1n [strU l, strU p] (.tup [strU (if pre p l then l.drop p.length else l), .bool (pre p l)]) := by
 have hp := c5y l p hl
 cases h : pre p l
 ·rw [h] at hp
  refine a0f.intro a1W a1V (Nat.le_of_ble_eq_true rfl) (d2V _ _) fun H hH => ?_
  refine Safe.rg rfl ?_
  simp only [a1d, E3, seval]
  refine Safe.rg rfl ?_
  simp only [a1c, E3, seval]
  first | refine (hp).acall ?_ | refine (hp).dcall ?_ | refine (hp).dgcall ?_
  try simp only [E3, seval]
  refine Safe.cd rfl ?_
  simp only [E3, seval]
  refine Safe.rg rfl ?_
  simp only [a1U, E3, seval]
  refine Safe.rt rfl ?_
  simp only [E3, seval]
  exact ⟨_, rfl⟩
 ·rw [h] at hp
  have hle : p.length ≤ l.length := by unfold pre at h; simp at h; exact h.1
  have s1 := c7I l p.length hle
  refine a0f.intro a1W a1V (Nat.le_of_ble_eq_true rfl) (d2V _ _) fun H hH => ?_
  refine Safe.rg rfl ?_
  simp only [a1d, E3, seval]
  refine Safe.rg rfl ?_
  simp only [a1c, E3, seval]
  first | refine (hp).acall ?_ | refine (hp).dcall ?_ | refine (hp).dgcall ?_
  try simp only [E3, seval]
  refine Safe.cd rfl ?_
  simp only [E3, seval]
  refine Safe.rg rfl ?_
  simp only [a1T, a0u, s1, E3, seval]
  refine Safe.rt rfl ?_
  simp only [E3, seval]
  exact ⟨_, rfl⟩
theorem b4R (l p : List UInt8) (hl : l.length ≤ 4294967296) : a0f Pr a2u [strU l, strU p] (.tup [strU (if pre p l then l.drop p.length else l), .bool (pre p l)]) := by
 refine a0f.intro b4q b4p (Nat.le_of_ble_eq_true rfl) (d2V _ _) fun H hH => ?_
 refine Safe.rg rfl ?_
 simp only [a7o, E3, seval]
 refine Safe.rg rfl ?_
 simp only [a7n, E3, seval]
 first | refine (a4g l p hl).acall ?_ | refine (a4g l p hl).dcall ?_ | refine (a4g l p hl).dgcall ?_
 try simp only [E3, seval]
 refine Safe.rt rfl ?_
 simp only [E3, seval]
 exact ⟨_, rfl⟩
def okC (c : UInt8) : Bool := decide ((97 ≤ c.toNat ∧ c.toNat ≤ 122) ∨ (48 ≤ c.toNat ∧ c.toNat ≤ 57) ∨ c.toNat = 95 ∨ c.toNat = 45)
def a3S (l : List UInt8) : Bool := decide (1 ≤ l.length ∧ l.length ≤ 32 ∧ 97 ≤ (l.getD 0 0).toNat ∧ (l.getD 0 0).toNat ≤ 122) && l.all okC
theorem d5V (l : List UInt8) (hl : l.length ≤ 4294967296) : a0f Pr b3Z [strU l] (.bool (a3S l)) := by
 have done : ∀ b, a3S l = b → True := fun _ _ => trivial
 by_cases h0 : l.length < 1
 ·have hr : a3S l = false := by unfold a3S; rw [decide_eq_false (by omega), Bool.false_and]
  have g0 : ((l.length : Int) < 1) = True := eq_true (by omega)
  rw [hr]
  refine a0f.intro a4w a4v (Nat.le_of_ble_eq_true rfl) (.bool _) fun H hH => ?_
  refine Safe.rg rfl ?_
  simp only [a3j, E3, seval]
  refine Safe.rg rfl ?_
  simp only [a3i, a0u, g0, E3, seval]
  refine Safe.cd rfl ?_
  simp only [E3, seval]
  refine Safe.rg rfl ?_
  simp only [a4u, E3, seval]
  refine Safe.rt rfl ?_
  simp only [E3, seval]
  exact ⟨_, rfl⟩
 have g0 : ((l.length : Int) < 1) = False := eq_false (by omega)
 by_cases h1 : 32 < l.length
 ·have hr : a3S l = false := by unfold a3S; rw [decide_eq_false (by omega), Bool.false_and]
  have g1 : ((l.length : Int) > 32) = True := eq_true (by omega)
  rw [hr]
  refine a0f.intro a4w a4v (Nat.le_of_ble_eq_true rfl) (.bool _) fun H hH => ?_
  refine Safe.rg rfl ?_
  simp only [a3j, E3, seval]
  refine Safe.rg rfl ?_
  simp only [a3i, a0u, g0, g1, E3, seval]
  refine Safe.cd rfl ?_
  simp only [E3, seval]
  refine Safe.rg rfl ?_
  simp only [a4u, E3, seval]
  refine Safe.rt rfl ?_
  simp only [E3, seval]
  exact ⟨_, rfl⟩
 have g1 : ((l.length : Int) > 32) = False := eq_false (by omega)
 have hi := b3E l .i64 (by omega)
 by_cases h2 : (l.getD 0 0).toNat < 97
 ·have hr : a3S l = false := by unfold a3S; rw [decide_eq_false (by omega), Bool.false_and]
  have g2 : (((l.getD 0 0).toNat : Int) < 97) = True := eq_true (by omega)
  rw [hr]
  refine a0f.intro a4w a4v (Nat.le_of_ble_eq_true rfl) (.bool _) fun H hH => ?_
  refine Safe.rg rfl ?_
  simp only [a3j, E3, seval]
  refine Safe.rg rfl ?_
  simp only [a3i, a0u, g0, g1, hi, g2, E3, seval]
  refine Safe.cd rfl ?_
  simp only [E3, seval]
  refine Safe.rg rfl ?_
  simp only [a4u, E3, seval]
  refine Safe.rt rfl ?_
  simp only [E3, seval]
  exact ⟨_, rfl⟩
 have g2 : (((l.getD 0 0).toNat : Int) < 97) = False := eq_false (by omega)
 by_cases h3 : 122 < (l.getD 0 0).toNat
 ·have hr : a3S l = false := by unfold a3S; rw [decide_eq_false (by omega), Bool.false_and]
  have g3 : (((l.getD 0 0).toNat : Int) > 122) = True := eq_true (by omega)
  rw [hr]
  refine a0f.intro a4w a4v (Nat.le_of_ble_eq_true rfl) (.bool _) fun H hH => ?_
  refine Safe.rg rfl ?_
  simp only [a3j, E3, seval]
  refine Safe.rg rfl ?_
  simp only [a3i, a0u, g0, g1, hi, g2, g3, E3, seval]
  refine Safe.cd rfl ?_
  simp only [E3, seval]
  refine Safe.rg rfl ?_
  simp only [a4u, E3, seval]
  refine Safe.rt rfl ?_
  simp only [E3, seval]
  exact ⟨_, rfl⟩
 have g3 : (((l.getD 0 0).toNat : Int) > 122) = False := eq_false (by omega)
 have hh : a3S l = l.all okC := by unfold a3S; rw [decide_eq_true (by omega), Bool.true_and]
 rw [hh]
 refine a0f.intro a4w a4v (Nat.le_of_ble_eq_true rfl) (.bool _) fun H hH => ?_
 refine Safe.rg rfl ?_
 simp only [a3j, E3, seval]
 refine Safe.rg rfl ?_
 simp only [a3i, a0u, g0, g1, hi, g2, g3, E3, seval]
 refine Safe.cd rfl ?_
 simp only [E3, seval]
 refine Safe.rg rfl ?_
 simp only [b7E, a0u, E3, seval]
 refine Safe.lp rfl ?_
 refine Safe.keep [0, 24, 25] ?_
 try simp only [E3, seval]
 refine Safe.loopP (l.length) (fun i => [(0, strU l), (24, .int .i64 l.length), (25, .int .i64 (i : Nat))]) (fun i => hap H []) (fun i => ∀ j, j < i → okC (l.getD j 0) = true) rfl rfl ?_ (fun i hi ho ih => ?_) (fun ho => ?_)
 ·exact fun j hj => absurd hj (by omega)
 ·refine Safe.inLoop ?_
  have hlt : ((i : Int) < (l.length : Int)) = True := eq_true (by omega)
  have hix := c1R l .i64 hi
  have hiw : IntKind.wrap .i64 ((i : Int) + 1) = ((i + 1 : Nat) : Int) := by rw [a0e] <;> omega
  refine Safe.rg rfl ?_
  simp only [b1J, hlt, E3, seval]
  refine Safe.cd rfl ?_
  simp only [E3, seval]
  refine Safe.rg rfl ?_
  simp only [b7D, E3, seval]
  refine Safe.rg rfl ?_
  simp only [b7C, hix, E3, seval]
  generalize hcc : l.getD i 0 = c at hix
  have bad : okC c = false → l.all okC = false := fun h => by
   rw [List.all_eq_false]
   refine ⟨l[i], List.getElem_mem hi, ?_⟩
   have : l[i] = c := by rw [← hcc, List.getD_eq_getElem?_getD, List.getElem?_eq_getElem hi]; rfl
   rw [this, h]; simp
  have next : okC c = true → ∀ j, j < i + 1 → okC (l.getD j 0) = true := fun h j hj => by
   rcases Nat.lt_or_ge j i with hj' | hj'
   ·exact ho j hj'
   ·have : j = i := by omega
    subst this; rw [hcc]; exact h
  by_cases a1 : 97 ≤ c.toNat
  ·have f1 : ((97 : Int) ≤ (c.toNat : Int)) = True := eq_true (by omega)
   by_cases a2 : c.toNat ≤ 122
   ·have f2 : ((c.toNat : Int) ≤ 122) = True := eq_true (by omega)
    refine Safe.rg rfl ?_
    simp only [a1X, f1, f2, E3, seval]
    refine Safe.cd rfl ?_
    simp only [E3, seval]
    refine Safe.rg rfl ?_
    simp only [a4t, hiw, E3, seval]
    refine Safe.keep [0, 24, 25] ?_
    simp only [E3, seval]
    exact ih (next (by unfold okC; rw [decide_eq_true_eq]; omega))
   ·have f2 : ((c.toNat : Int) ≤ 122) = False := eq_false (by omega)
    have f3 : ((48 : Int) ≤ (c.toNat : Int)) = True := eq_true (by omega)
    have f4 : ((c.toNat : Int) ≤ 57) = False := eq_false (by omega)
    have f5 : ((c.toNat : Int) = 95) = False := eq_false (by omega)
    have f6 : ((c.toNat : Int) = 45) = False := eq_false (by omega)
    refine Safe.rg rfl ?_
    simp only [a1X, f1, f2, f3, f4, f5, f6, E3, seval]
    refine Safe.cd rfl ?_
    simp only [E3, seval]
    refine Safe.rg rfl ?_
    simp only [a7W, E3, seval]
    refine Safe.rt rfl ?_
    simp only [E3, seval]
    exact ⟨by rw [bad (by unfold okC; rw [decide_eq_false_iff_not]; omega)], _, rfl⟩
  have f1 : ((97 : Int) ≤ (c.toNat : Int)) = False := eq_false (by omega)
  by_cases a3 : 48 ≤ c.toNat
  ·have f3 : ((48 : Int) ≤ (c.toNat : Int)) = True := eq_true (by omega)
   by_cases a4 : c.toNat ≤ 57
   ·have f4 : ((c.toNat : Int) ≤ 57) = True := eq_true (by omega)
    refine Safe.rg rfl ?_
    simp only [a1X, f1, f3, f4, E3, seval]
    refine Safe.cd rfl ?_
    simp only [E3, seval]
    refine Safe.rg rfl ?_
    simp only [a4t, hiw, E3, seval]
    refine Safe.keep [0, 24, 25] ?_
    simp only [E3, seval]
    exact ih (next (by unfold okC; rw [decide_eq_true_eq]; omega))
   ·have f4 : ((c.toNat : Int) ≤ 57) = False := eq_false (by omega)
    have f6 : ((c.toNat : Int) = 45) = False := eq_false (by omega)
    by_cases a5 : c.toNat = 95
    ·have f5 : ((c.toNat : Int) = 95) = True := eq_true (by omega)
     refine Safe.rg rfl ?_
     simp only [a1X, f1, f3, f4, f5, E3, seval]
     refine Safe.cd rfl ?_
     simp only [E3, seval]
     refine Safe.rg rfl ?_
     simp only [a4t, hiw, E3, seval]
     refine Safe.keep [0, 24, 25] ?_
     simp only [E3, seval]
     exact ih (next (by unfold okC; rw [decide_eq_true_eq]; omega))
    ·have f5 : ((c.toNat : Int) = 95) = False := eq_false (by omega)
     refine Safe.rg rfl ?_
     simp only [a1X, f1, f3, f4, f5, f6, E3, seval]
     refine Safe.cd rfl ?_
     simp only [E3, seval]
     refine Safe.rg rfl ?_
     simp only [a7W, E3, seval]
     refine Safe.rt rfl ?_
     simp only [E3, seval]
     exact ⟨by rw [bad (by unfold okC; rw [decide_eq_false_iff_not]; omega)], _, rfl⟩
  ·have f3 : ((48 : Int) ≤ (c.toNat : Int)) = False := eq_false (by omega)
   have f5 : ((c.toNat : Int) = 95) = False := eq_false (by omega)
   by_cases a6 : c.toNat = 45
   ·have f6 : ((c.toNat : Int) = 45) = True := eq_true (by omega)
    refine Safe.rg rfl ?_
    simp only [a1X, f1, f3, f5, f6, E3, seval]
    refine Safe.cd rfl ?_
    simp only [E3, seval]
    refine Safe.rg rfl ?_
    simp only [a4t, hiw, E3, seval]
    refine Safe.keep [0, 24, 25] ?_
    simp only [E3, seval]
    exact ih (next (by unfold okC; rw [decide_eq_true_eq]; omega))
   ·have f6 : ((c.toNat : Int) = 45) = False := eq_false (by omega)
    refine Safe.rg rfl ?_
    simp only [a1X, f1, f3, f5, f6, E3, seval]
    refine Safe.cd rfl ?_
    simp only [E3, seval]
    refine Safe.rg rfl ?_
    simp only [a7W, E3, seval]
    refine Safe.rt rfl ?_
    simp only [E3, seval]
    exact ⟨by rw [bad (by unfold okC; rw [decide_eq_false_iff_not]; omega)], _, rfl⟩
 ·refine Safe.inLoop ?_
  have hlt : ((l.length : Int) < (l.length : Int)) = False := eq_false (by omega)
  have hall : l.all okC = true := List.all_eq_true.2 fun x hx => by
   obtain ⟨j, hj, rfl⟩ := List.getElem_of_mem hx
   have := ho j hj
   rwa [List.getD_eq_getElem?_getD, List.getElem?_eq_getElem hj] at this
  refine Safe.rg rfl ?_
  simp only [b1J, hlt, E3, seval]
  refine Safe.cd rfl ?_
  simp only [E3, seval]
  refine Safe.rg rfl ?_
  simp only [b4T, E3, seval]
  refine Safe.rt rfl ?_
  simp only [E3, seval]
  exact ⟨by rw [hall], _, rfl⟩
end Go.Abs
namespace Go.Abs
open Go.Proofs
theorem a0b (q : Nat) (m k : Src) (env : Env) (H : Heap) : pv (.smap q m k) env H = c2J q H (m.ev env) (k.ev env) := rfl
theorem a0c (n0 q : Nat) (m k v : Src) (env : Env) (H : Heap) : ev n0 (.smut q m k v) env H = b6A q (m.ev env) (k.ev env) (v.ev env) env H := rfl
theorem a0d (p q : Bool) (a : Src) (env : Env) (H : Heap) : pv (.isn p q a) env H = isnV p q H (a.ev env) := rfl
theorem a0a (a : Src) (env : Env) (H : Heap) : pv (.ment a) env H = e5a H (a.ev env) := rfl
def HC (f : FuncId) (args : List AV) (H : Heap) (r : AV) : Prop := a0h Pr f args H fun r' H' => r' = r ∧ H' = H
theorem HC.acall {f : FuncId} {args : List AV} {H : Heap} {r : AV} {R : AV → Heap → Prop} (h : HC f args H r) (k : R r H) : a0h Pr f args H R := h.mono fun r' H' e => by rw [e.1, e.2]; exact k
theorem HC.intro {mu : Nat → Nat → Bool} {f : FuncId} {fn : Func} (hf : Pr.funcs[f]? = some fn) {ac : ACode} {rs : List ResV} {nt : Nat} (hc : fchk Pr mu fn = some (ac, rs, nt))
  {args : List AV} {H : Heap} {r : AV} (ha : args.length ≤ nt) (hr : Ref (· < H.length) r) (h : a0z H → Safe ⟨Pr, mu, f, nt, rs, H.length⟩ [.code ac] (b2o 0 args) (hap H []) fun r' H' => r' = r ∧ ∃ L, H' = hap H L) : HC f args H r := by
 refine a0h.cut hr (a0h.intro hf hc ha fun hH => ?_)
 have := h hH
 rw [a1Y] at this
 exact this
theorem a0f.hc {f : FuncId} {args : List AV} {r : AV} (h : a0f Pr f args r) (H : Heap) : HC f args H r := h H
def kB (l : List UInt8) : ByteArray := ⟨l.toArray⟩
theorem e3v {a b : List UInt8} : kB a = kB b ↔ a = b := by
 unfold kB
 constructor
 ·intro h; have := congrArg (fun x : ByteArray => x.data.toList) h; simpa using this
 ·intro h; rw [h]
def ix : List (List UInt8) → List UInt8 → Option Nat
 | [], _ => none
 | x :: r, k => if k = x then some 0 else (ix r k).map (· + 1)
theorem c1D : ∀ (ks : List (List UInt8)) (k : List UInt8), sidx (ks.map kB) (kB k) = ix ks k
 | [], _ => rfl
 | x :: r, k => by
  simp only [List.map_cons, sidx, ix, c1D r k]
  by_cases h : k = x
  ·rw [if_pos h, if_pos (e3v.2 h)]
  ·rw [if_neg h, if_neg fun e => h (e3v.1 e)]
theorem d8G : ∀ {ks : List (List UInt8)} {k : List UInt8} {i : Nat}, ix ks k = some i → i < ks.length
 | [], _, _, h => by simp [ix] at h
 | x :: r, k, i, h => by
  simp only [ix] at h
  split at h
  ·cases h; simp
  ·simp only [Option.map_eq_some_iff] at h
   obtain ⟨j, h1, rfl⟩ := h
   have := d8G h1
   simp; omega
theorem d8H : ∀ {ks : List (List UInt8)} {k : List UInt8} {i : Nat}, ix ks k = some i → ks[i]? = some k
 | [], _, _, h => by simp [ix] at h
 | x :: r, k, i, h => by
  simp only [ix] at h
  split at h
  ·rename_i e; cases h; simp [e]
  ·simp only [Option.map_eq_some_iff] at h
   obtain ⟨j, h1, rfl⟩ := h
   simpa using d8H h1
theorem d2u : ∀ {ks : List (List UInt8)} {k : List UInt8}, ix ks k = none ↔ k ∉ ks
 | [], k => by simp [ix]
 | x :: r, k => by
  simp only [ix, List.mem_cons, not_or]
  split
  ·rename_i e; simp [e]
  ·rename_i e; simp only [Option.map_eq_none_iff, d2u (ks := r)]; exact ⟨fun h => ⟨e, h⟩, fun h => h.2⟩
structure Bk where
 bs : List Nat
 ks : List (List UInt8)
 ls : List (List (List ZI))
 n : Nat
def Bk.av (B : Bk) : AV := .ms B.bs (B.ks.map kB) (B.ls.map matV) B.n
def Bk.blk (B : Bk) : Blk := ⟨0, [B.av]⟩
def Bk.get? (B : Bk) (k : List UInt8) : Option (List (List ZI)) := (ix B.ks k).map fun i => B.ls.getD i []
def Bk.put (B : Bk) (k : List UInt8) (l : List (List ZI)) : Bk := match ix B.ks k with
 | some i => ⟨B.bs, B.ks, B.ls.set i l, B.n⟩
 | none => ⟨B.bs ++ [B.n], B.ks ++ [k], B.ls ++ [l], B.n + 1⟩
def Bk.drop (B : Bk) (k : List UInt8) : Bk := match ix B.ks k with
 | some i => ⟨B.bs.eraseIdx i, B.ks.eraseIdx i, B.ls.eraseIdx i, B.n⟩
 | none => B
def bk0 : Bk := ⟨[], [], [], 0⟩
structure Bk.Ok (B : Bk) : Prop where
 l1 : B.ks.length = B.bs.length
 l2 : B.ls.length = B.bs.length
 lt : ∀ b ∈ B.bs, b < B.n
 nd : B.bs.Nodup
 kd : B.ks.Nodup
def optV : Option (List (List ZI)) → AV
 | some l => matV l
 | none => .nil
theorem e4M (o : Option (List (List ZI))) : Cl (optV o) := by cases o <;> first | exact .nil | exact a9V _
theorem Bk.blk_flat (B : Bk) : B.blk.flat = [] := rfl
structure InB (H : Heap) (ib im : Nat) (B : Bk) : Prop where
 b : H[ib]? = some (some ⟨1, [.agg [.mp true im]]⟩)
 m : H[im]? = some (some B.blk)
 ok : B.Ok
section
variable {H L : Heap} {ib im : Nat} {B : Bk}
theorem a5L {H L : Heap} {i : Nat} {x : Option Blk} (h : H[i]? = some x) : (hap H L)[i]? = some x := by
 unfold hap; rw [List.getElem?_append_left (a0k h)]; exact h
theorem InB.hap (h : InB H ib im B) (L : Heap) : InB (hap H L) ib im B := ⟨a5L h.b, a5L h.m, h.ok⟩
theorem InB.ne (h : InB H ib im B) : ib ≠ im := fun e => by
 have := h.b
 rw [e, h.m] at this
 simp [Bk.blk] at this
theorem InB.at (h : InB H ib im B) : atV (Abs.hap H L) (.loc ib 0 0) = some [.mp true im] := by
 have := a5L (L := L) h.b
 rw [b3U]; simp [hrow, this, AV.cells]
theorem InB.liv (h : InB H ib im B) : (hrow (Abs.hap H L) ib).isSome = true := by
 have := a5L (L := L) h.b
 simp [hrow, this]
theorem InB.livm (h : InB H ib im B) : (hrow (Abs.hap H L) im).isSome = true := by
 have := a5L (L := L) h.m
 simp [hrow, this]
theorem a5z {H : Heap} (h : H[im]? = some (some B.blk)) : a2P H (.mp true im) = some (B.bs, B.ks.map kB, B.ls.map matV, B.n) := by
 simp [a2P, hrow, h, Bk.blk, Bk.av]
theorem d7z (hok : B.Ok) (k : List UInt8) : sget (B.ks.map kB) (B.ls.map matV) (kB k) = optV (B.get? k) := by
 unfold sget Bk.get?
 rw [c1D]
 cases h : ix B.ks k with
 | none => rfl
 | some i =>
  have := d8G h
  have hl : i < B.ls.length := by rw [hok.l2, ← hok.l1]; exact this
  simp [optV, List.getD_eq_getElem?_getD, List.getElem?_eq_getElem hl]
theorem InB.look (h : InB H ib im B) (k : List UInt8) : c2J 0 (Abs.hap H L) (.mp true im) (strU k) = some (.tup [optV (B.get? k), .bool (B.get? k).isSome]) := by
 simp only [c2J, a5z (a5L (L := L) h.m), strU]
 rw [show (⟨k.toArray⟩ : ByteArray) = kB k from rfl, d7z h.ok, c1D]
 simp [Bk.get?]
theorem InB.look1 (h : InB H ib im B) (k : List UInt8) : c2J 1 (Abs.hap H L) (.mp true im) (strU k) = some (optV (B.get? k)) := by
 simp only [c2J, a5z (a5L (L := L) h.m), strU]
 rw [show (⟨k.toArray⟩ : ByteArray) = kB k from rfl, d7z h.ok]
theorem InB.size (h : InB H ib im B) (k : AV) : c2J 2 (Abs.hap H L) (.mp true im) k = some (.int .i64 B.ks.length) := by
 simp [c2J, a5z (a5L (L := L) h.m)]
theorem InB.store (h : InB H ib im B) (k : List UInt8) (l : List (List ZI)) (env : Env) : b6A 1 (.mp true im) (strU k) (matV l) env (Abs.hap H L) = some (.top, env, Abs.hap (H.set im (some (B.put k l).blk)) L) := by
 have hs : (matV l).solid = true := rfl
 simp only [b6A, a5z (a5L (L := L) h.m), strU]
 rw [if_pos ⟨hs, b4S (a9V l)⟩, d1D _ _ _ _ (a0k h.m), show (⟨k.toArray⟩ : ByteArray) = kB k from rfl, c1D]
 unfold Bk.put Bk.blk Bk.av
 cases ix B.ks k with
 | none => simp
 | some i => simp
theorem Bk.Ok.put (h : B.Ok) (k : List UInt8) (l : List (List ZI)) : (B.put k l).Ok := by
 unfold Bk.put
 cases hx : ix B.ks k with
 | some i => exact ⟨h.l1, by simpa using h.l2, h.lt, h.nd, h.kd⟩
 | none =>
  refine ⟨by simp [h.l1], by simp [h.l2], fun b hb => ?_, ?_, ?_⟩
  ·rcases List.mem_append.1 hb with hb | hb
   ·have := h.lt b hb; show b < B.n + 1; omega
   ·simp at hb; subst hb; show B.n < B.n + 1; omega
  ·refine List.nodup_append.2 ⟨h.nd, by simp, fun a ha b hb => ?_⟩
   simp at hb; subst hb
   have := h.lt a ha; omega
  ·refine List.nodup_append.2 ⟨h.kd, by simp, fun a ha b hb => ?_⟩
   simp at hb; subst hb
   intro e; subst e; exact d2u.1 hx ha
theorem Bk.Ok.drop (h : B.Ok) (k : List UInt8) : (B.drop k).Ok := by
 unfold Bk.drop
 cases hx : ix B.ks k with
 | some i => exact ⟨by simp [List.length_eraseIdx, h.l1], by simp [List.length_eraseIdx, h.l2], fun b hb => h.lt b (List.mem_of_mem_eraseIdx hb), h.nd.eraseIdx i, h.kd.eraseIdx i⟩
 | none => exact h
theorem InB.set (h : InB H ib im B) {B' : Bk} (hb : B'.Ok) : InB (H.set im (some B'.blk)) ib im B' :=
 ⟨by rw [List.getElem?_set, if_neg (Ne.symm h.ne)]; exact h.b, by rw [List.getElem?_set, if_pos rfl, if_pos (a0k h.m)], hb⟩
theorem InB.refs (h : InB H ib im B) (hH : a0z H) (B' : Bk) : a0z (H.set im (some B'.blk)) := a0z.set hH im fun a ha => by rw [Bk.blk_flat] at ha; cases ha
end
def Un (H : Heap) (b : AV) : Prop := b = .lit (.pointer none) ∨ ∃ ib, b = .loc ib 0 0 ∧ H[ib]? = some (some ⟨1, [.agg [.lit (.map none)]]⟩)
theorem Un.hap {H : Heap} {b : AV} (h : Un H b) (L : Heap) : Un (hap H L) b := h.imp id fun ⟨ib, h1, h2⟩ => ⟨ib, h1, a5L h2⟩
section
variable {H : Heap} {ib im : Nat} {B : Bk} (h : InB H ib im B)
include h
theorem d1P : HC a2x [.loc ib 0 0] H (.bool false) := by
 have e1 : isnV true false (hap H []) (.loc ib 0 0) = some (.bool false) := by simp only [isnV]; rw [if_pos h.liv]
 have e2 : isnV false false (hap H []) (.mp true im) = some (.bool false) := by simp only [isnV]; rw [if_pos h.livm]
 have hl := h.liv (L := [])
 have hat := h.at (L := [])
 refine HC.intro b9d b9c (Nat.le_of_ble_eq_true rfl) (.bool _) fun hH => ?_
 refine Safe.rg rfl ?_
 simp only [b0D, E3, a0b, a0c, a0d, a0a, seval]
 refine Safe.rg rfl ?_
 simp only [b0C, e1, hl, hat, e2, E3, a0b, a0c, a0d, a0a, seval]
 refine Safe.rt rfl ?_
 simp only [E3, a0b, a0c, a0d, a0a, seval]
 exact ⟨_, rfl⟩
theorem d9n (k : List UInt8) : HC a7e [.loc ib 0 0, strU k] H (.tup [optV (B.get? k), .int .i64 (if (B.get? k).isSome then 0 else 6)]) := by
 have hl := h.liv (L := [])
 have hat := h.at (L := [])
 have hlk := h.look (L := []) k
 have hn := d1P (h.hap [])
 refine HC.intro b9g b9f (Nat.le_of_ble_eq_true rfl) ((Cl.tup _ fun c hc => by simp at hc; rcases hc with rfl | rfl; exact e4M _; exact .int _ _).ref) fun hH => ?_
 refine Safe.rg rfl ?_
 simp only [b0I, E3, a0b, a0c, a0d, a0a, seval]
 refine Safe.rg rfl ?_
 simp only [b0H, E3, a0b, a0c, a0d, a0a, seval]
 first | refine (hn).acall ?_ | refine (hn).dcall ?_ | refine (hn).dgcall ?_
 try simp only [E3, a0b, a0c, a0d, a0a, seval]
 refine Safe.cd rfl ?_
 simp only [E3, a0b, a0c, a0d, a0a, seval]
 refine Safe.rg rfl ?_
 simp only [b0G, hl, hat, hlk, E3, a0b, a0c, a0d, a0a, seval]
 cases hg : B.get? k with
 | none =>
  simp only [Option.isSome_none, optV, E3, a0b, a0c, a0d, a0a, seval]
  refine Safe.rg rfl ?_
  simp only [a5W, E3, a0b, a0c, a0d, a0a, seval]
  refine Safe.cd rfl ?_
  simp only [E3, a0b, a0c, a0d, a0a, seval]
  refine Safe.rg rfl ?_
  simp only [b0F, E3, a0b, a0c, a0d, a0a, seval]
  refine Safe.rt rfl ?_
  simp only [E3, a0b, a0c, a0d, a0a, seval]
  exact ⟨_, rfl⟩
 | some l =>
  simp only [Option.isSome_some, optV, E3, a0b, a0c, a0d, a0a, seval]
  refine Safe.rg rfl ?_
  simp only [a5W, E3, a0b, a0c, a0d, a0a, seval]
  refine Safe.cd rfl ?_
  simp only [E3, a0b, a0c, a0d, a0a, seval]
  refine Safe.rg rfl ?_
  simp only [b0E, E3, a0b, a0c, a0d, a0a, seval]
  refine Safe.rt rfl ?_
  simp only [E3, a0b, a0c, a0d, a0a, seval]
  exact ⟨_, rfl⟩
def b8h (B : Bk) (k : List UInt8) : Int := if a3S k = false then 270 else if (B.get? k).isSome then 271 else if 64 ≤ B.ks.length then 2 else 0
theorem d7H (k : List UInt8) (hk : k.length ≤ 4294967296) : HC a3I [.loc ib 0 0, strU k] H (.int .i64 (b8h B k)) := by
 have hl := h.liv (L := [])
 have hat := h.at (L := [])
 have hlk := h.look (L := []) k
 have hnm := d5V k hk
 have hsz := h.size (L := []) .nil
 unfold b8h
 refine HC.intro b9b b9a (Nat.le_of_ble_eq_true rfl) (.int _ _) fun hH => ?_
 refine Safe.rg rfl ?_
 simp only [b0B, E3, a0b, a0c, a0d, a0a, seval]
 refine Safe.rg rfl ?_
 simp only [b0A, E3, a0b, a0c, a0d, a0a, seval]
 first | refine (hnm).acall ?_ | refine (hnm).dcall ?_ | refine (hnm).dgcall ?_
 try simp only [E3, a0b, a0c, a0d, a0a, seval]
 cases hn : a3S k with
 | false =>
  simp only [E3, a0b, a0c, a0d, a0a, seval]
  refine Safe.cd rfl ?_
  simp only [E3, a0b, a0c, a0d, a0a, seval]
  refine Safe.rg rfl ?_
  simp only [b0z, E3, a0b, a0c, a0d, a0a, seval]
  refine Safe.rt rfl ?_
  simp only [E3, a0b, a0c, a0d, a0a, seval]
  exact ⟨_, rfl⟩
 | true =>
  simp only [E3, a0b, a0c, a0d, a0a, seval]
  refine Safe.cd rfl ?_
  simp only [E3, a0b, a0c, a0d, a0a, seval]
  refine Safe.rg rfl ?_
  simp only [b0y, hl, hat, hlk, E3, a0b, a0c, a0d, a0a, seval]
  cases hg : (B.get? k).isSome with
  | true =>
   simp only [E3, a0b, a0c, a0d, a0a, seval]
   refine Safe.rg rfl ?_
   simp only [a5V, E3, a0b, a0c, a0d, a0a, seval]
   refine Safe.cd rfl ?_
   simp only [E3, a0b, a0c, a0d, a0a, seval]
   refine Safe.rg rfl ?_
   simp only [b0x, E3, a0b, a0c, a0d, a0a, seval]
   refine Safe.rt rfl ?_
   simp only [E3, a0b, a0c, a0d, a0a, seval]
   exact ⟨_, rfl⟩
  | false =>
   simp only [E3, a0b, a0c, a0d, a0a, seval]
   refine Safe.rg rfl ?_
   simp only [a5V, E3, a0b, a0c, a0d, a0a, seval]
   refine Safe.cd rfl ?_
   simp only [E3, a0b, a0c, a0d, a0a, seval]
   by_cases hc : 64 ≤ B.ks.length
   ·have hge : ((B.ks.length : Int) ≥ 64) = True := eq_true (by omega)
    refine Safe.rg rfl ?_
    simp only [a5U, hl, hat, hsz, hge, E3, a0b, a0c, a0d, a0a, seval]
    refine Safe.cd rfl ?_
    simp only [E3, a0b, a0c, a0d, a0a, seval]
    refine Safe.rg rfl ?_
    simp only [b0w, E3, a0b, a0c, a0d, a0a, seval]
    refine Safe.rt rfl ?_
    simp only [E3, a0b, a0c, a0d, a0a, seval]
    exact ⟨by rw [if_pos hc], _, rfl⟩
   ·have hge : ((B.ks.length : Int) ≥ 64) = False := eq_false (by omega)
    refine Safe.rg rfl ?_
    simp only [a5U, hl, hat, hsz, hge, E3, a0b, a0c, a0d, a0a, seval]
    refine Safe.cd rfl ?_
    simp only [E3, a0b, a0c, a0d, a0a, seval]
    refine Safe.rg rfl ?_
    simp only [b0v, E3, a0b, a0c, a0d, a0a, seval]
    refine Safe.rt rfl ?_
    simp only [E3, a0b, a0c, a0d, a0a, seval]
    exact ⟨by rw [if_neg hc], _, rfl⟩
end
end Go.Abs
namespace Go.Abs
open Go.Proofs
def EC (f : FuncId) (args : List AV) (H : Heap) (r : AV) (H1 : Heap) : Prop := a0h Pr f args H fun r' H' => r' = r ∧ H' = H1
theorem EC.acall {f : FuncId} {args : List AV} {H H1 : Heap} {r : AV} {R : AV → Heap → Prop} (h : EC f args H r H1) (k : R r H1) : a0h Pr f args H R := h.mono fun r' H' e => by rw [e.1, e.2]; exact k
def setB (H : Heap) (im : Nat) (B : Bk) : Heap := H.set im (some B.blk)
theorem e0U (H : Heap) (im : Nat) (B : Bk) : (setB H im B).length = H.length := by simp [setB]
theorem c9t {H : Heap} {im : Nat} {B : Bk} (h : H[im]? = some (some B.blk)) : setB H im B = H := d3A h
theorem d3B {H L : Heap} {im : Nat} (B : Bk) (h : im < H.length) : setB (hap H L) im B = hap (setB H im B) L := d1D _ _ _ _ h
section
variable {H : Heap} {ib im : Nat} {B : Bk} (h : InB H ib im B)
include h
theorem ltB : im < H.length := a0k h.m
theorem finB (hH : a0z H) {B' : Bk} {L : Heap} {r : AV} (hr : Ref (· < H.length) r) : ∃ H1 L', hap (setB H im B') L = hap H1 L' ∧ H1.length = H.length ∧ a0z H1 ∧ Ref (· < H.length) r ∧ H1 = setB H im B' :=
 ⟨setB H im B', L, rfl, e0U _ _ _, h.refs hH B', hr, rfl⟩
omit h in
theorem d2H (hH : a0z H) {L : Heap} {r : AV} (hr : Ref (· < H.length) r) : ∃ H1 L', hap H L = hap H1 L' ∧ H1.length = H.length ∧ a0z H1 ∧ Ref (· < H.length) r ∧ H1 = H :=
 ⟨H, L, rfl, rfl, hH, hr, rfl⟩
noncomputable def putE (m : List (List ZI)) : Int := valE true m
noncomputable def putB (B : Bk) (k : List UInt8) (m : List (List ZI)) : Bk := if putE m = 0 then B.put k (a1q m) else B
theorem d7N (k : List UInt8) (m : List (List ZI)) (e : Nat) (hm : Mok e m) (he : GB e + GB e + 8 < 17592186044000) : EC a2k [.loc ib 0 0, strU k, matV m] H (.int .i64 (putE m)) (setB H im (putB B k m)) := by
 have hv := d4P m e hm he
 have hf := d5X m (hm.mono (by unfold GB at he; omega))
 have hl := h.liv (L := [])
 have hat := h.at (L := [])
 have hst := fun env => h.store (L := []) k (a1q m) env
 unfold putE putB putE
 refine a0h.eff c1p c1o (Nat.le_of_ble_eq_true rfl) fun hH => ?_
 refine Safe.rg rfl ?_
 simp only [b2c, E3, a0b, a0c, a0d, a0a, seval]
 refine Safe.rg rfl ?_
 simp only [b2b, E3, a0b, a0c, a0d, a0a, seval]
 first | refine (hv).acall ?_ | refine (hv).dcall ?_ | refine (hv).dgcall ?_
 try simp only [E3, a0b, a0c, a0d, a0a, seval]
 by_cases h0 : valE true m = 0
 ·rw [if_pos h0, h0]
  refine Safe.rg rfl ?_
  simp only [a6W, E3, a0b, a0c, a0d, a0a, seval]
  refine Safe.cd rfl ?_
  simp only [E3, a0b, a0c, a0d, a0a, seval]
  refine Safe.rg rfl ?_
  simp only [b1Z, hl, hat, E3, a0b, a0c, a0d, a0a, seval]
  first | refine (hf).acall ?_ | refine (hf).dcall ?_ | refine (hf).dgcall ?_
  try simp only [E3, a0b, a0c, a0d, a0a, seval]
  simp only [hst, E3, a0b, a0c, a0d, a0a, seval]
  refine Safe.rg rfl ?_
  simp only [b1Y, E3, a0b, a0c, a0d, a0a, seval]
  refine Safe.rt rfl ?_
  simp only [E3, a0b, a0c, a0d, a0a, seval]
  exact finB h hH (.int _ _)
 ·have hne : (valE true m = 0) = False := eq_false h0
  rw [if_neg h0, c9t h.m]
  refine Safe.rg rfl ?_
  simp only [a6W, hne, E3, a0b, a0c, a0d, a0a, seval]
  refine Safe.cd rfl ?_
  simp only [E3, a0b, a0c, a0d, a0a, seval]
  refine Safe.rg rfl ?_
  simp only [b2a, E3, a0b, a0c, a0d, a0a, seval]
  refine Safe.rt rfl ?_
  simp only [E3, a0b, a0c, a0d, a0a, seval]
  exact d2H hH (.int _ _)
noncomputable def addE (B : Bk) (k : List UInt8) (m : List (List ZI)) : Int := if b8h B k = 0 then putE m else b8h B k
noncomputable def addB (B : Bk) (k : List UInt8) (m : List (List ZI)) : Bk := if b8h B k = 0 then putB B k m else B
theorem e7Y (k : List UInt8) (hk : k.length ≤ 4294967296) (m : List (List ZI)) (e : Nat) (hm : Mok e m) (he : GB e + GB e + 8 < 17592186044000) : EC a8Q [.loc ib 0 0, strU k, matV m] H (.int .i64 (addE B k m)) (setB H im (addB B k m)) := by
 have hn := d1P (h.hap [])
 have hr := d7H (h.hap []) k hk
 have hp := d7N (h.hap []) k m e hm he
 rw [d3B _ (ltB h)] at hp
 unfold addE addB
 refine a0h.eff c1v c1u (Nat.le_of_ble_eq_true rfl) fun hH => ?_
 refine Safe.rg rfl ?_
 simp only [b2m, E3, a0b, a0c, a0d, a0a, seval]
 refine Safe.rg rfl ?_
 simp only [b2l, E3, a0b, a0c, a0d, a0a, seval]
 first | refine (hn).acall ?_ | refine (hn).dcall ?_ | refine (hn).dgcall ?_
 try simp only [E3, a0b, a0c, a0d, a0a, seval]
 refine Safe.cd rfl ?_
 simp only [E3, a0b, a0c, a0d, a0a, seval]
 refine Safe.rg rfl ?_
 simp only [b2k, E3, a0b, a0c, a0d, a0a, seval]
 first | refine (hr).acall ?_ | refine (hr).dcall ?_ | refine (hr).dgcall ?_
 try simp only [E3, a0b, a0c, a0d, a0a, seval]
 by_cases h0 : b8h B k = 0
 ·rw [if_pos h0, if_pos h0, h0]
  refine Safe.rg rfl ?_
  simp only [a7a, E3, a0b, a0c, a0d, a0a, seval]
  refine Safe.cd rfl ?_
  simp only [E3, a0b, a0c, a0d, a0a, seval]
  refine Safe.rg rfl ?_
  simp only [b2i, E3, a0b, a0c, a0d, a0a, seval]
  first | refine (hp).acall ?_ | refine (hp).dcall ?_ | refine (hp).dgcall ?_
  try simp only [E3, a0b, a0c, a0d, a0a, seval]
  refine Safe.rt rfl ?_
  simp only [E3, a0b, a0c, a0d, a0a, seval]
  exact finB h hH (.int _ _)
 ·have hne : (b8h B k = 0) = False := eq_false h0
  rw [if_neg h0, if_neg h0, c9t h.m]
  refine Safe.rg rfl ?_
  simp only [a7a, hne, E3, a0b, a0c, a0d, a0a, seval]
  refine Safe.cd rfl ?_
  simp only [E3, a0b, a0c, a0d, a0a, seval]
  refine Safe.rg rfl ?_
  simp only [b2j, E3, a0b, a0c, a0d, a0a, seval]
  refine Safe.rt rfl ?_
  simp only [E3, a0b, a0c, a0d, a0a, seval]
  exact d2H hH (.int _ _)
end
end Go.Abs
namespace Go.Abs
open Go.Proofs
def newL (H : Heap) : Heap := [some bk0.blk, some ⟨1, [.agg [.mp true (lid H 0)]]⟩]
theorem e3o (H : Heap) : a0h Pr b4n [] H fun r' H' => r' = .loc (lid H 1) 0 0 ∧ H' = hap H (newL H) := by
 have hs : ∀ env, b6A 0 .nil .nil .nil env (hap H []) = some (.mp true (lid H 0), env, hap H [some bk0.blk]) := fun env => by
  simp only [b6A, b8M, b9k]; rfl
 have f1 : (AV.mp true (lid H 0)).fit = true := rfl
 refine a0h.open d3b d3a (Nat.le_of_ble_eq_true rfl) fun hH => ?_
 refine Safe.rg rfl ?_
 simp only [c4Y, E3, a0b, a0c, a0d, a0a, seval]
 refine Safe.rg rfl ?_
 simp only [c4X, hs, b7N, b7M, e2E, f1, c2I, List.take_zero, List.drop_succ_cons, List.drop_nil, List.append_nil, List.length_cons, List.length_nil, E3, a0b, a0c, a0d, a0a, seval]
 refine Safe.rt rfl ?_
 simp only [E3, a0b, a0c, a0d, a0a, seval]
 rfl
theorem d4s : bk0.Ok := ⟨rfl, rfl, (fun b hb => nomatch hb), List.nodup_nil, List.nodup_nil⟩
end Go.Abs
namespace Go.Abs
open Go.Proofs Go.RowKit
theorem d4r : ∃ j, Pr.info? 83 = some j ∧ j.size = 2 := by
 have h : (Pr.info? 83).map (·.size) = some 2 := by kernel_rfl
 exact Option.map_eq_some_iff.1 h
set_option maxHeartbeats 1000000 in
set_option maxRecDepth 100000 in
theorem c5z (b : Nat) (w : World) (h0 : w.cell? ⟨b, 0, none⟩ = some (.pointer (some ⟨b, 0, none⟩))) :
  Calls Pr a1J #[.pointer (some ⟨b, 0, none⟩)] w fun e w' => e = .returned (.tuple #[]) ∧ w' = w := by
 obtain ⟨j, hj, _⟩ := d4r
 have t70 := Tryz.underlying80
 go_enter Tryz.func56, Tryz.ntmps56
 go_wp2
 rw [Lib.run_neq_ptr_same w _ t70 hj]
 go_wp2
 go_end0
 exact ⟨rfl, rfl⟩
set_option maxHeartbeats 1000000 in
set_option maxRecDepth 100000 in
theorem c4T (b : Nat) (w : World) (h0 : w.cell? ⟨b, 0, none⟩ = some (.pointer none)) (hsh : w.shape? b = some (83, 2)) (hfz : w.frozen? ⟨b, 0, none⟩ = false) :
  Calls Pr a1J #[.pointer (some ⟨b, 0, none⟩)] w fun e w' => e = .returned (.tuple #[]) ∧ w' = w.setCell ⟨b, 0, none⟩ (.pointer (some ⟨b, 0, none⟩)) := by
 obtain ⟨j, hj, hjs⟩ := d4r
 have t70 := Tryz.underlying80
 have t164 := Tryz.underlying148
 go_enter Tryz.func56, Tryz.ntmps56
 go_wp2
 rw [Lib.run_to_unsafe w ⟨b, 0, none⟩ t70 t164 hj (by rw [hjs]; decide) hsh (Nat.zero_lt_succ 1)]
 simp only [Result.andThen]
 rw [Oper.upon_value]
 go_wp2
 rw [run_callFunc_extern Tryz.func103 (by kernel_rfl) (by kernel_rfl) (by kernel_rfl) (e := Extern.AbiNoEscape.same) (by kernel_rfl)]
 rw [Lib.run_noEscape]
 simp only [Result.andThen]
 rw [Oper.upon_value]
 go_wp2
 rw [Lib.run_from_unsafe w ⟨b, 0, none⟩ t164 t70 hj hsh (by kernel_rfl)]
 simp only [Result.andThen]
 rw [Oper.upon_value]
 go_wp2
 go_end0
 exact ⟨rfl, rfl⟩
end Go.Abs
namespace Go.Abs
open Go.Proofs Go.RowKit
def d1c (v : Value) (l : List Value) (w : World) : Prop :=
 (v = .slice none 0 0 ∧ l = []) ∨ ∃ g cap cur, v = .slice (some ⟨g, 0, none⟩) l.length cap ∧ w.heap[g]? = some (.cells cur 5 (0, 0)) ∧ l.length ≤ cap ∧ cap ≤ maxLen ∧ cur.size = cap ∧ cur.toList.take l.length = l
structure Turns (w w' : World) (own : Option Nat) : Prop where
 os : w'.os = w.os
 tape : w'.tape = w.tape
 output : w'.output = w.output
 size : w.heap.size ≤ w'.heap.size
 block : ∀ k, k < w.heap.size → some k ≠ own → w'.heap[k]? = w.heap[k]?
 tags : ∀ k, k < w.heap.size → tagW w' k = tagW w k
theorem d1c.own {v : Value} {l : List Value} {w : World} (h : d1c v l w) {g : Nat} (hg : v.ownBlock = some g) : ∃ cap cur, v = .slice (some ⟨g, 0, none⟩) l.length cap ∧ w.heap[g]? = some (.cells cur 5 (0, 0)) ∧ l.length ≤ cap ∧ cap ≤ maxLen ∧ cur.size = cap ∧ cur.toList.take l.length = l := by
 rcases h with ⟨rfl, _⟩ | ⟨g', cap, cur, rfl, h⟩
 ·cases hg
 ·simp only [Value.ownBlock, Option.some.injEq] at hg; subst hg; exact ⟨cap, cur, rfl, h⟩
theorem d1c.isSlice {v : Value} {l : List Value} {w : World} (h : d1c v l w) : ∃ ao n c, v = .slice ao n c := by
 rcases h with ⟨rfl, _⟩ | ⟨g', cap, cur, rfl, h⟩ <;> exact ⟨_, _, _, rfl⟩
theorem e6s {t u ty : TypeId} {i : TypeInfo} (ht : Pr.underlying t = some (.slice 5)) (hu : Pr.underlying u = some .string) (hi : Pr.info? 5 = some i) (hz : i.zero = some (.int .u8 0)) (hsize : i.size = 1) (hby : i.bytes = 1)
  (w : World) (v : Value) (l : List Value) (h : d1c v l w) (s : ByteArray) (hlen : l.length + s.size ≤ 140737488355328) :
  ∃ v' w', (Builtin.append_ #[t, u] ty #[v, .string s]).run Pr w = .ok v' w' ∧ d1c v' (l ++ Lib.strCells s) w' ∧ Turns w w' v.ownBlock ∧ (v'.ownBlock = v.ownBlock ∨ v'.ownBlock = some w.heap.size) ∧ (v = .slice none 0 0 → s.size = 0 → v' = .slice none 0 0) := by
 have hmax : maxLen = 9223372036854775807 := rfl
 have hsl := Lib.strCells_length s
 have hz1 : (Value.int IntKind.u8 0).cells.size = 1 := rfl
 rcases h with ⟨rfl, rfl⟩ | ⟨g, cap, cur, rfl, hg, hnc, hcm, hcs, htake⟩
 ·by_cases hs : s.size = 0
  ·have h0 : Lib.strCells s = [] := List.eq_nil_of_length_eq_zero (by omega)
   refine ⟨.slice none 0 0, w, ?_, .inl ⟨rfl, by rw [h0]; rfl⟩, ⟨rfl, rfl, rfl, Nat.le_refl _, fun _ _ _ => rfl, fun _ _ => rfl⟩, .inl rfl, fun _ _ => rfl⟩
   have hf := Lib.run_firstCells_string (P := Pr) w 1 s
   rw [hs] at hf
   simp [Builtin.append_, run_underlying ht, run_underlying hu, sizeOf, typeInfo, hi, hsize, Builtin.lenOf, hs, hf]
  ·have hr := run_append_nil_string (P := Pr) w t u ty 5 i (.int .u8 0) ht hu hi hz s (by omega) (by simp at hlen; omega) (by rw [hby]; simp at hlen; omega)
   have e1 : (s.data.map fun b => Value.int .u8 b.toNat) = (Lib.strCells s).toArray := by
    apply Array.ext'
    simp [Lib.strCells]
   have hge := grownCap_ge w s.size 0 5
   refine ⟨_, _, hr, .inr ⟨w.heap.size, _, _, by simp [hsl], heap_alloc_new w.drew _, by simp [hsl]; exact hge, grownCap_le_maxLen w s.size 0 5 (by simp at hlen; omega), ?_, ?_⟩, ⟨rfl, rfl, rfl, by simp, fun k hk _ => heap_alloc_old w.drew _ hk, fun k hk => b9O (heap_alloc_old w.drew _ hk)⟩, .inr rfl, fun _ h => absurd h hs⟩
   ·rw [e1]
    simp only [Array.size_append, List.size_toArray, size_zeroCells, hz1, hsl]
    omega
   ·rw [e1, List.nil_append]
    simp only [Array.toList_append]
    exact List.take_left
 ·by_cases hroom : l.length + s.size ≤ cap
  ·have hr := Lib.run_append_room_string (P := Pr) w t u ty 5 i ht hu hi hsize g l.length cap cur hg s hroom (by omega)
   refine ⟨_, _, hr, .inr ⟨g, cap, _, by simp [hsl], setRow_heap w g cur _ _ _ hg, by simp [hsl]; exact hroom, hcm, ?_, ?_⟩, ⟨rfl, rfl, rfl, by simp, fun k _ hk => a1D w g k _ (fun e => hk (by simp [Value.ownBlock, e])), fun k _ => b4a hg (by simp only [List.size_toArray, List.length_append, List.length_take, List.length_drop, Array.length_toList, hsl]; omega) k⟩, .inl rfl, fun h => by cases h⟩
   ·simp only [List.size_toArray, List.length_append, List.length_take, List.length_drop, Array.length_toList, hsl]
    omega
   ·rw [htake, List.append_assoc]
    simp only [← List.append_assoc]
    exact List.take_left
  ·have holds : ∀ j u, l[j]? = some u → w.cell? ((⟨g, 0, none⟩ : Addr).add j) = some u := by
    intro j u hj
    have hjl := a0i hj
    rw [← htake, List.getElem?_take, if_pos hjl] at hj
    have hadd : (⟨g, 0, none⟩ : Addr).add j = ⟨g, j, none⟩ := by unfold Addr.add; split <;> simp_all
    rw [hadd]
    simp only [World.cell?, hg]
    simpa using hj
   have hr := Lib.run_append_grow_string (P := Pr) w t u ty 5 i (.int .u8 0) ht hu hi hz ⟨g, 0, none⟩ l.length cap l (by rw [hsize]; simp) holds s (by omega) (by omega) (by rw [hby]; exact growslice_fits (by omega) (by omega))
   have hge := grownCap_ge w (l.length + s.size) cap 5
   refine ⟨_, _, hr, .inr ⟨w.heap.size, _, _, by simp [hsl], heap_alloc_new w.drew _, by simp [hsl]; exact hge, grownCap_le_maxLen w (l.length + s.size) cap 5 (by omega), ?_, ?_⟩, ⟨rfl, rfl, rfl, by simp, fun k hk _ => heap_alloc_old w.drew _ hk, fun k hk => b9O (heap_alloc_old w.drew _ hk)⟩, .inr rfl, fun h => by cases h⟩
   ·simp only [Array.size_append, List.size_toArray, size_zeroCells, hz1, hsl]
    omega
   ·simp only [Array.toList_append, List.append_assoc]
    rw [← List.append_assoc]
    exact List.take_left
theorem e3Y : ∃ i, Pr.info? 5 = some i ∧ i.zero = some (.int .u8 0) ∧ i.size = 1 ∧ i.bytes = 1 := by
 have h : (Pr.info? 5).map (fun i => (i.zero, i.size, i.bytes)) = some (some (.int .u8 0), 1, 1) := by kernel_rfl
 obtain ⟨i, h1, h2⟩ := Option.map_eq_some_iff.1 h
 simp only [Prod.mk.injEq] at h2
 exact ⟨i, h1, h2.1, h2.2.1, h2.2.2⟩
structure BAt (bb : Nat) (p v : Value) (l : List Value) (w : World) : Prop where
 heap : w.heap[bb]? = some (.cells #[p, v] 83 (0, 0))
 ptr : p = .pointer none ∨ p = .pointer (some ⟨bb, 0, none⟩)
 buf : d1c v l w
 ne : v.ownBlock ≠ some bb
theorem BAt.cell0 {bb : Nat} {p v : Value} {l : List Value} {w : World} (h : BAt bb p v l w) : w.cell? ⟨bb, 0, none⟩ = some p := by simp [World.cell?, h.heap]
theorem BAt.cell1 {bb : Nat} {p v : Value} {l : List Value} {w : World} (h : BAt bb p v l w) : w.cell? ⟨bb, 1, none⟩ = some v := by simp [World.cell?, h.heap]
theorem BAt.shape {bb : Nat} {p v : Value} {l : List Value} {w : World} (h : BAt bb p v l w) : w.shape? bb = some (83, 2) := by simp [World.shape?, h.heap]
theorem BAt.lt {bb : Nat} {p v : Value} {l : List Value} {w : World} (h : BAt bb p v l w) : bb < w.heap.size := by
 rcases Nat.lt_or_ge bb w.heap.size with h' | h'
 ·exact h'
 ·have := h.heap; simp [Array.getElem?_eq_none h'] at this
theorem c2K {w : World} {bb : Nat} {c : Array Value} {e : TypeId} (h : w.heap[bb]? = some (.cells c e (0, 0))) (k : Nat) (v : Value) : w.setCell ⟨bb, k, none⟩ v = w.setRow bb (c.setIfInBounds k v) := setCell_eq_setRow w bb k c e (0, 0) v h
theorem b6C {w : World} {b : Nat} {c c' : Array Value} {e : TypeId} (h : w.heap[b]? = some (.cells c e (0, 0))) (hs : c'.size = c.size) : Turns w (w.setRow b c') (some b) :=
 ⟨rfl, rfl, rfl, by simp, fun k _ hk => a1D _ _ _ _ (fun e => hk (by rw [e])), fun k _ => b4a h hs k⟩
structure Turns2 (w w' : World) (a b : Option Nat) : Prop where
 os : w'.os = w.os
 tape : w'.tape = w.tape
 output : w'.output = w.output
 size : w.heap.size ≤ w'.heap.size
 block : ∀ k, k < w.heap.size → some k ≠ a → some k ≠ b → w'.heap[k]? = w.heap[k]?
 tags : ∀ k, k < w.heap.size → tagW w' k = tagW w k
theorem d9K (bb : Nat) (p v : Value) (l : List Value) (w : World) (h : BAt bb p v l w) :
  Calls Pr a1J #[.pointer (some ⟨bb, 0, none⟩)] w fun e w' => e = .returned (.tuple #[]) ∧ BAt bb (.pointer (some ⟨bb, 0, none⟩)) v l w' ∧ Turns w w' (some bb) := by
 rcases h.ptr with hp | hp
 ·subst hp
  refine (c4T bb w h.cell0 h.shape (Lib.frozen_of_heap h.heap 0)).mono ?_
  rintro e w' ⟨rfl, rfl⟩
  rw [c2K h.heap]
  have hb2 : (w.setRow bb (#[Value.pointer none, v].setIfInBounds 0 (.pointer (some ⟨bb, 0, none⟩)))).heap[bb]? = some (.cells #[.pointer (some ⟨bb, 0, none⟩), v] 83 (0, 0)) := setRow_heap w bb _ _ _ _ h.heap
  refine ⟨rfl, ⟨hb2, .inr rfl, ?_, h.ne⟩, b6C h.heap (by simp)⟩
  rcases h.buf with q | ⟨g, cap, cur, q1, q2, q3⟩
  ·exact .inl q
  ·refine .inr ⟨g, cap, cur, q1, ?_, q3⟩
   rw [a1D _ _ _ _ (fun e => h.ne (by rw [q1]; simp [Value.ownBlock, e]))]
   exact q2
 ·subst hp
  refine (c5z bb w h.cell0).mono ?_
  rintro e w' ⟨rfl, rfl⟩
  exact ⟨rfl, h, ⟨rfl, rfl, rfl, Nat.le_refl _, fun _ _ _ => rfl, fun _ _ => rfl⟩⟩
theorem d4N {ops : Array Oper} {rest : List Oper} {o : Oper} {a : Act} {w w' : World} {Q : Exit → Act → World → Prop} (hgd : o.guard = none) (sl x : Operand) (t u : TypeId)
  (ho : o.op = .call { callee := .builtin .append, args := #[sl, x], argTypes := #[t, u] }) {v xv v' : Value} (hs : a.eval sl = v) (hx : a.eval x = xv)
  (hr : (Builtin.append_ #[t, u] o.type #[v, xv]).run Pr w = .ok v' w') (h : wpList Pr ops Q rest (a.put o.dst v') w') : wpList Pr ops Q (o :: rest) a w := by
 refine wpList_plain hgd fun K hK => ?_
 unfold Oper.wp execOp
 simp only [ho, resolve, invoke, builtin, Sem.run_bind, Sem.run_pure, Result.andThen_ok, List.map_toArray, List.map_cons, List.map_nil, hs, hx, hr]
 exact hK _ _ h
set_option maxHeartbeats 2000000 in
set_option maxRecDepth 100000 in
theorem d4K (bb : Nat) (p v : Value) (l : List Value) (s : ByteArray) (w : World) (h : BAt bb p v l w) (hlen : l.length + s.size ≤ 140737488355328) :
  Calls Pr a0s #[.pointer (some ⟨bb, 0, none⟩), .string s] w fun e w' => e = .returned (.tuple #[.int .i64 s.size, .nilIface]) ∧
   ∃ v', BAt bb (.pointer (some ⟨bb, 0, none⟩)) v' (l ++ Lib.strCells s) w' ∧ Turns2 w w' (some bb) v.ownBlock ∧ (v'.ownBlock = v.ownBlock ∨ ∃ g, v'.ownBlock = some g ∧ w.heap.size ≤ g) ∧ (v = .slice none 0 0 → s.size = 0 → v' = .slice none 0 0) := by
 obtain ⟨i0, hi, hz0, hz1, hz2⟩ := e3Y
 go_enter Tryz.func31, Tryz.ntmps31
 go_wp2
 refine (d9K bb p v l _ h).mono ?_
 rintro e w1 ⟨rfl, h1, hk1⟩
 have c0 := h1.cell0
 have c1 := h1.cell1
 have t37 := Tryz.underlying81
 have t9 := Tryz.underlying9
 obtain ⟨v', w2, hrun, hb2, ht2, hown, hnil⟩ := e6s (ty := 81) t37 t9 hi hz0 hz1 hz2 w1 v l h1.buf s hlen
 have hlt := h1.lt
 have hbk : w2.heap[bb]? = some (.cells #[.pointer (some ⟨bb, 0, none⟩), v] 83 (0, 0)) := by
  rw [ht2.block bb hlt (fun e => h1.ne e.symm)]; exact h1.heap
 have d1 : w2.cell? ⟨bb, 1, none⟩ = some v := by simp [World.cell?, hbk]
 have f1 : w2.frozen? ⟨bb, 1, none⟩ = false := Lib.frozen_of_heap hbk 1
 obtain ⟨ao, n', cap, rfl⟩ := hb2.isSlice
 go_wp2_with (at_builtin; refine d4N rfl _ _ _ _ rfl rfl rfl hrun ?_)
 go_wp2
 go_ret2
 have hnb : (Value.slice ao n' cap).ownBlock ≠ some bb := by
  rcases hown with h' | h'
  ·rw [h']; exact h1.ne
  ·rw [h']; intro e; cases e; exact absurd hlt (Nat.lt_irrefl _)
 rw [c2K hbk]
 have hset := b6C (c' := #[Value.pointer (some ⟨bb, 0, none⟩), v].setIfInBounds 1 (Value.slice ao n' cap)) hbk (by simp)
 refine ⟨rfl, .slice ao n' cap, ⟨setRow_heap w2 bb _ _ _ _ hbk, .inr rfl, ?_, hnb⟩, ⟨?_, ?_, ?_, ?_, ?_, ?_⟩, ?_, hnil⟩
 ·rcases hb2 with q | ⟨g, c2, cur, q1, q2, q3⟩
  ·exact .inl q
  ·refine .inr ⟨g, c2, cur, q1, ?_, q3⟩
   rw [a1D _ _ _ _ (fun e => hnb (by rw [q1]; simp [Value.ownBlock, e]))]
   exact q2
 ·rw [hset.os, ht2.os, hk1.os]
 ·rw [hset.tape, ht2.tape, hk1.tape]
 ·rw [hset.output, ht2.output, hk1.output]
 ·exact Nat.le_trans hk1.size (Nat.le_trans ht2.size hset.size)
 ·intro k hk n1 n2
  rw [hset.block k (Nat.lt_of_lt_of_le hk (Nat.le_trans hk1.size ht2.size)) n1, ht2.block k (Nat.lt_of_lt_of_le hk hk1.size) n2, hk1.block k hk n1]
 ·intro k hk
  rw [hset.tags k (Nat.lt_of_lt_of_le hk (Nat.le_trans hk1.size ht2.size)), ht2.tags k (Nat.lt_of_lt_of_le hk hk1.size), hk1.tags k hk]
 ·rcases hown with h' | h'
  ·exact .inl h'
  ·exact .inr ⟨_, h', hk1.size⟩
end Go.Abs
namespace Go.Abs
open Go.Proofs Go.RowKit
def RB (p v : Value) (l : List UInt8) : Heap := [some ⟨2, [.agg [.lit p, .lit v]]⟩, some ⟨1, byts l⟩]
structure TB (H : Heap) (bb : Nat) (p v : Value) (l : List UInt8) (φ : Nat → Option Nat) (w : World) : Prop where
 ib : φ (lid H 0) = some bb
 tag : tagW w bb = some (2, 83)
 ptr : p = .pointer none ∨ p = .pointer (some ⟨bb, 0, none⟩)
 buf : (v = .slice none 0 0 ∧ φ (lid H 1) = none ∧ l = []) ∨ ∃ g cap, v = .slice (some ⟨g, 0, none⟩) l.length cap ∧ φ (lid H 1) = some g ∧ tagW w g = some (cap, 5) ∧ l.length ≤ cap ∧ cap ≤ maxLen ∧ l ≠ []
theorem c9l {w : World} {b n : Nat} {e : TypeId} (h : tagW w b = some (n, e)) : b < w.heap.size ∧ ∃ c fz, w.heap[b]? = some (.cells c e fz) ∧ c.size = n := by
 unfold tagW at h
 split at h
 ·rename_i c e' fz hb
  simp only [Option.some.injEq, Prod.mk.injEq] at h
  obtain ⟨h1, rfl⟩ := h
  refine ⟨?_, c, fz, hb, h1⟩
  rcases Nat.lt_or_ge b w.heap.size with h' | h'
  ·exact h'
  ·simp [Array.getElem?_eq_none h'] at hb
 ·cases h
theorem TB.stab {H : Heap} {bb : Nat} {p v : Value} {l : List UInt8} {n : Nat} (hn : lid H 1 < n) : Stab (TB H bb p v l) n := by
 intro φ H1 w φ' H' w' hl hok h hx
 have h0 : φ' (lid H 0) = φ (lid H 0) := hx.phi _ (by show lid H 0 < n; unfold lid at hn ⊢; omega) (by show lid H 0 < H1.length; unfold lid at hn ⊢; omega)
 have h1 : φ' (lid H 1) = φ (lid H 1) := hx.phi _ hn (by show lid H 1 < H1.length; omega)
 refine ⟨h0.trans h.ib, ?_, h.ptr, ?_⟩
 ·exact (hx.tags bb (c9l h.tag).1).trans h.tag
 ·rcases h.buf with ⟨a, b, c⟩ | ⟨g, cap, a, b, c, d⟩
  ·exact .inl ⟨a, h1.trans b, c⟩
  ·exact .inr ⟨g, cap, a, h1.trans b, (hx.tags g (c9l c).1).trans c, d⟩
theorem e2G (l : List UInt8) : ∀ (k : Nat) (a : AV), (byts l)[k]? = some a → ∃ b, l[k]? = some b ∧ a = .int .u8 (b.toNat : Int) := by
 intro k a h
 simp only [byts, List.getElem?_map, Option.map_eq_some_iff] at h
 obtain ⟨b, h1, h2⟩ := h
 exact ⟨b, h1, h2.symm⟩
theorem b1c {E : Emb} {u v : Value} (h : Rep E u (.lit v)) : u = v := by
 cases h with
 | lit => rfl
 | dead v a id hr hd h1 => simp [AV.ref] at hr
section
variable {H : Heap} {bb : Nat} {p v : Value} {l : List UInt8} {φ : Nat → Option Nat} {w : World}
theorem d3i (H : Heap) (p v : Value) (l : List UInt8) : (hap H (RB p v l))[lid H 0]? = some (some ⟨2, [.agg [.lit p, .lit v]]⟩) := by simp [hap, lid, RB]
theorem c5i (H : Heap) (p v : Value) (l : List UInt8) : (hap H (RB p v l))[lid H 1]? = some (some ⟨1, byts l⟩) := by simp [hap, lid, RB]
theorem TB.at (h : TB H bb p v l φ w) (hok : HOk ⟨φ, hap H (RB p v l), w⟩) : BAt bb p v (Lib.byteCells l) w := by
 obtain ⟨c, e, r⟩ := hok.row (lid H 0) _ bb (d3i H p v l) h.ib
 have hh := r.heap (Nat.zero_lt_succ _)
 simp only at hh
 have ht := h.tag
 simp only [tagW, hh, Option.some.injEq, Prod.mk.injEq] at ht
 obtain ⟨hs, rfl⟩ := ht
 have hc : c = #[p, v] := by
  apply Array.ext
  ·simp [hs]
  ·intro k h1 h2
   have hk : k < 2 := by omega
   have hr := r.rep k c[k]
   match k, hk with
   | 0, _ => exact b1c (hr (.lit p) (by simp [h1]) rfl)
   | 1, _ => exact b1c (hr (.lit v) (by simp [h1]) rfl)
 subst hc
 have hbuf : d1c v (Lib.byteCells l) w := by
  rcases h.buf with ⟨a, b, rfl⟩ | ⟨g, cap, a, b, c, d, e, _⟩
  ·exact .inl ⟨a, rfl⟩
  ·obtain ⟨cur, e', r1⟩ := hok.row (lid H 1) _ g (c5i H p v l) b
   have hg := r1.heap (Nat.zero_lt_succ _)
   simp only at hg
   simp only [tagW, hg, Option.some.injEq, Prod.mk.injEq] at c
   obtain ⟨hs1, rfl⟩ := c
   have hbl := Lib.byteCells_length l
   refine .inr ⟨g, cap, cur, by rw [hbl]; exact a, hg, by omega, e, hs1, ?_⟩
   apply List.ext_getElem?
   intro k
   rw [List.getElem?_take, hbl]
   split
   ·rename_i hk
    have hkc : k < cur.size := by omega
    have hb : (byts l)[k]? = some (.int .u8 (l[k].toNat : Int)) := by simp [byts, hk]
    have := a0F (r1.rep k cur[k] _ (by simp [hkc]) (by rw [Blk.flat, b0u]; exact hb))
    simp [Lib.byteCells, hk, hkc, this]
   ·rename_i hk
    rw [List.getElem?_eq_none (by rw [hbl]; omega)]
 refine ⟨hh, h.ptr, hbuf, ?_⟩
 intro e
 rcases h.buf with ⟨a, b, _⟩ | ⟨g, cap, a, b, _⟩
 ·rw [a] at e; cases e
 ·rw [a] at e
  simp only [Value.ownBlock, Option.some.injEq] at e
  subst e
  have := hok.inj _ _ _ _ _ (d3i H p v l) (c5i H p v l) h.ib b
  simp [lid] at this
theorem d8t (p v : Value) : ∀ a ∈ (Blk.mk 2 [.agg [.lit p, .lit v]]).flat, Cl a := by
 intro a ha
 simp [Blk.flat, AV.cells] at ha
 rcases ha with rfl | rfl <;> exact .lit _
theorem c7o (l : List UInt8) : ∀ a ∈ (Blk.mk 1 (byts l)).flat, Cl a := by
 intro a ha
 rw [Blk.flat, b0u] at ha
 obtain ⟨k, hk, rfl⟩ := List.getElem_of_mem ha
 simp only [byts, List.getElem_map]; exact .int _ _
theorem e4N {bb : Nat} {p v : Value} {l : List Value} {w : World} (h : BAt bb p v l w) : p.oneCell' = true ∧ v.oneCell' = true := by
 obtain ⟨ao, n, c, rfl⟩ := h.buf.isSlice
 rcases h.ptr with rfl | rfl <;> exact ⟨rfl, rfl⟩
theorem e6x (hH : a0z H) (h : TB H bb p v l φ w) (hok : HOk ⟨φ, hap H (RB p v l), w⟩) {p' v' : Value} {l' : List UInt8} {w' : World} (hb : BAt bb p' v' (Lib.byteCells l') w') (ht : Turns2 w w' (some bb) v.ownBlock) (ho : v'.ownBlock = v.ownBlock ∨ ∃ g, v'.ownBlock = some g ∧ w.heap.size ≤ g) (hne : v' ≠ .slice none 0 0 → l' ≠ []) :
  ∃ φ', TB H bb p' v' l' φ' w' ∧ HOk ⟨φ', hap H (RB p' v' l'), w'⟩ ∧ Ext (fun i => i ≠ lid H 0 ∧ i ≠ lid H 1) ⟨φ, hap H (RB p v l), w⟩ ⟨φ', hap H (RB p' v' l'), w'⟩ := by
 have hB := h.at hok
 have hlt := hB.lt
 have hbl := Lib.byteCells_length l'
 have hfree : ∀ (i j : Nat) bj, j ≠ lid H i → (hap H (RB p v l))[j]? = some (some bj) → ∀ a ∈ bj.flat, Ref (· ≠ lid H i) a := by
  intro i j bj hj hb' a ha
  rcases Nat.lt_or_ge j H.length with h' | h'
  ·simp only [hap] at hb'
   rw [List.getElem?_append_left h'] at hb'
   exact (hH j bj hb' a ha).mono fun k hk => by show k ≠ lid H i; have : k < H.length := hk; unfold lid; omega
  ·simp only [hap] at hb'
   rw [List.getElem?_append_right h'] at hb'
   generalize j - H.length = m at hb'
   match m with
   | 0 => simp [RB] at hb'; subst hb'; exact (d8t p v a ha).ref
   | 1 => simp [RB] at hb'; subst hb'; exact (c7o l a ha).ref
   | m + 2 => simp [RB] at hb'
 -- the world between: the builder's own block aXs it was
 have hmid : ∀ k, (w'.setRow bb #[p, v]).heap[k]? = if k = bb then w.heap[bb]? else w'.heap[k]? := by
  intro k
  by_cases hk : k = bb
  ·subst hk; rw [if_pos rfl, setRow_heap w' k _ _ _ _ hb.heap, hB.heap]
  ·rw [if_neg hk, a1D _ _ _ _ hk]
 have hback : (w'.setRow bb #[p, v]).setRow bb #[p', v'] = w' := by
  rw [setRow_setRow]; exact setRow_self w' bb _ _ _ hb.heap
 have hmt := b6C (c' := #[p, v]) hb.heap (by simp)
 have msize : w.heap.size ≤ (w'.setRow bb #[p, v]).heap.size := Nat.le_trans ht.size hmt.size
 have mtags : ∀ k, k < w.heap.size → tagW (w'.setRow bb #[p, v]) k = tagW w k := fun k hk => (hmt.tags k (Nat.lt_of_lt_of_le hk ht.size)).trans (ht.tags k hk)
 have ne01 : lid H 0 ≠ lid H 1 := by simp [lid]
 have hos : (w'.setRow bb #[p, v]).os = w.os := hmt.os.trans ht.os
 have htp : (w'.setRow bb #[p, v]).tape = w.tape := hmt.tape.trans ht.tape
 have hou : (w'.setRow bb #[p, v]).output = w.output := hmt.output.trans ht.output
 have step1 : ∃ φ1, HOk ⟨φ1, hap H (RB p v l'), w'.setRow bb #[p, v]⟩ ∧ Ext (· ≠ lid H 1) ⟨φ, hap H (RB p v l), w⟩ ⟨φ1, hap H (RB p v l'), w'.setRow bb #[p, v]⟩ ∧ φ1 (lid H 0) = some bb ∧
   ((v' = .slice none 0 0 ∧ φ1 (lid H 1) = none ∧ l' = []) ∨ ∃ g cap, v' = .slice (some ⟨g, 0, none⟩) l'.length cap ∧ φ1 (lid H 1) = some g ∧ tagW w' g = some (cap, 5) ∧ l'.length ≤ cap ∧ cap ≤ maxLen ∧ l' ≠ []) := by
  rcases hb.buf with ⟨a, b⟩ | ⟨g, cap, cur, a, b, c, d, e, f⟩
  ·have hl' : l' = [] := by
    have : (Lib.byteCells l').length = 0 := by rw [b]; rfl
    rw [hbl] at this; exact List.length_eq_zero_iff.1 this
   have hv : v.ownBlock = none := by
    rcases ho with ho | ⟨g, ho, _⟩
    ·rw [← ho, a]; rfl
    ·rw [a] at ho; cases ho
   rcases h.buf with ⟨q1, q2, q3⟩ | ⟨g, cap, q1, _⟩
   ·subst q3
    rw [hl']
    have keep : ∀ k, k < w.heap.size → (w'.setRow bb #[p, v]).heap[k]? = w.heap[k]? := fun k hk => by
     rw [hmid]
     split
     ·rename_i e; rw [e]
     ·rename_i e; exact ht.block k hk (fun e' => e (Option.some.inj e')) (by rw [hv]; exact fun e' => by cases e')
    exact ⟨φ, HOk.of_heap (E := ⟨φ, hap H (RB p v []), w⟩) hos htp hou msize keep hok, Ext.of_heap (E := ⟨φ, hap H (RB p v []), w⟩) hos htp hou msize keep hok, h.ib, .inl ⟨a, q2, rfl⟩⟩
   ·rw [q1] at hv; cases hv
  ·rw [hbl] at a c f
   have hgb : g ≠ bb := fun e => hb.ne (by rw [a]; simp [Value.ownBlock, e])
   have hown : φ (lid H 1) = some g ∨ w.heap.size ≤ g := by
    rcases ho with ho | ⟨g2, ho, hge⟩
    ·rw [a] at ho
     rcases h.buf with ⟨q1, _⟩ | ⟨g3, cap3, q1, q2, _⟩
     ·rw [q1] at ho; cases ho
     ·rw [q1] at ho
      simp only [Value.ownBlock, Option.some.injEq] at ho
      subst ho; exact .inl q2
    ·rw [a] at ho
     simp only [Value.ownBlock, Option.some.injEq] at ho
     subst ho; exact .inr hge
   have hvo : ∀ k, some k = v.ownBlock → φ (lid H 1) = some k := by
    intro k hk
    rcases h.buf with ⟨q1, _⟩ | ⟨g3, cap3, q1, q2, _⟩
    ·rw [q1] at hk; cases hk
    ·rw [q1] at hk
     simp only [Value.ownBlock, Option.some.injEq] at hk
     subst hk; exact q2
   have hcurg : (w'.setRow bb #[p, v]).heap[g]? = some (.cells cur 5 (0, 0)) := by rw [hmid, if_neg hgb]; exact b
   obtain ⟨r1, r2⟩ := hok.rebind (w := w'.setRow bb #[p, v]) hos htp hou msize (c5i H p v l) (Nat.zero_lt_succ _) g hown (fun k hk hne => by
    rw [hmid]
    split
    ·rename_i e; rw [e]
    ·rename_i e; exact ht.block k hk (fun e' => e (Option.some.inj e')) (fun e' => hne (hvo k e'))) (byts l') (fun x hx => by
     obtain ⟨k, hk, rfl⟩ := List.getElem_of_mem hx
     simp only [byts, List.getElem_map]; rfl) hcurg (by rw [b0u]; simp only [byts, List.length_map]; omega) (fun j bj hj hl => hfree 1 j bj hj hl) (fun k u a' hu ha => by
     rw [b0u] at ha
     obtain ⟨x, hx, rfl⟩ := e2G l' k a' ha
     have hk := a0i hx
     have : u = .int .u8 (x.toNat : Int) := by
      have hf := congrArg (fun q : List Value => q[k]?) f
      simp only [List.getElem?_take, if_pos hk, Array.getElem?_toList] at hf
      rw [hu] at hf
      simp [Lib.byteCells, hx] at hf
      exact hf
     rw [this]
     exact ⟨rfl, .int _ _, .int _ _⟩) mtags
   refine ⟨fun j => if j = lid H 1 then some g else φ j, ?_, ?_, ?_, .inr ⟨g, cap, a, ?_, ?_, c, d, hne (by rw [a]; exact fun e => by cases e)⟩⟩
   ·have : (hap H (RB p v l)).set (lid H 1) (some ⟨1, byts l'⟩) = hap H (RB p v l') := by rw [a2Q]; rfl
    rw [← this]; exact r1
   ·have : (hap H (RB p v l)).set (lid H 1) (some ⟨1, byts l'⟩) = hap H (RB p v l') := by rw [a2Q]; rfl
    rw [← this]; exact r2
   ·simp only [if_neg ne01]; exact h.ib
   ·simp
   ·simp [tagW, b, e]
 obtain ⟨φ1, s1, s2, s3, s4⟩ := step1
 have hfree2 : ∀ (j : Nat) bj, j ≠ lid H 0 → (hap H (RB p v l'))[j]? = some (some bj) → ∀ a ∈ bj.flat, Ref (· ≠ lid H 0) a := by
  intro j bj hj hb' a ha
  rcases Nat.lt_or_ge j H.length with h' | h'
  ·simp only [hap] at hb'
   rw [List.getElem?_append_left h'] at hb'
   exact (hH j bj hb' a ha).mono fun k hk => by show k ≠ lid H 0; have : k < H.length := hk; unfold lid; omega
  ·simp only [hap] at hb'
   rw [List.getElem?_append_right h'] at hb'
   generalize j - H.length = m at hb'
   match m with
   | 0 => simp [RB] at hb'; subst hb'; exact (d8t p v a ha).ref
   | 1 => simp [RB] at hb'; subst hb'; exact (c7o l' a ha).ref
   | m + 2 => simp [RB] at hb'
 have hmb : (w'.setRow bb #[p, v]).heap[bb]? = some (.cells #[p, v] 83 (0, 0)) := setRow_heap w' bb _ _ _ _ hb.heap
 have hst2 := b6C (c' := #[p', v']) hmb (by simp)
 rw [hback] at hst2
 have hone := e4N hb
 obtain ⟨r1, r2⟩ := s1.rebind (w := w') hst2.os hst2.tape hst2.output hst2.size (d3i H p v l') (Nat.zero_lt_succ _) bb (.inl s3) (fun k hk hne => hst2.block k hk (fun e => hne (by cases e; exact s3))) [.agg [.lit p', .lit v']] (by simp [AV.cells]) hb.heap (by simp [AV.cells]) hfree2 (fun k u a hu ha => by
  match k with
  | 0 => simp [AV.cells] at hu ha; subst hu; subst ha; exact ⟨hone.1, .lit _, .lit _⟩
  | 1 => simp [AV.cells] at hu ha; subst hu; subst ha; exact ⟨hone.2, .lit _, .lit _⟩
  | k + 2 => simp [AV.cells] at ha) (fun k hk => hst2.tags k hk)
 have hset : (hap H (RB p v l')).set (lid H 0) (some ⟨2, [.agg [.lit p', .lit v']]⟩) = hap H (RB p' v' l') := by rw [a2Q]; rfl
 simp only [hset] at r1 r2
 refine ⟨fun j => if j = lid H 0 then some bb else φ1 j, ⟨by simp, ?_, hb.ptr, ?_⟩, r1, (s2.sub fun i hi => hi.2).trans (r2.sub fun i hi => hi.1)⟩
 ·simp [tagW, hb.heap]
 ·rcases s4 with ⟨a, b, c⟩ | ⟨g, cap, a, b, c⟩
  ·exact .inl ⟨a, by simp only [if_neg (Ne.symm ne01)]; exact b, c⟩
  ·exact .inr ⟨g, cap, a, by simp only [if_neg (Ne.symm ne01)]; exact b, c⟩
end
end Go.Abs
namespace Go.Abs
open Go.Proofs Go.RowKit
structure Froze (w w' : World) (g : Option Nat) : Prop where
 os : w'.os = w.os
 tape : w'.tape = w.tape
 output : w'.output = w.output
 size : w.heap.size ≤ w'.heap.size
 block : ∀ k, k < w.heap.size → some k ≠ g → w'.heap[k]? = w.heap[k]?
 tags : ∀ k, k < w.heap.size → tagW w' k = tagW w k
theorem e2j (w : World) (g n : Nat) : Froze w (w.drew.freeze ⟨g, 0, none⟩ n) (some g) := by
 unfold World.freeze
 split
 ·exact ⟨rfl, rfl, rfl, Nat.le_refl _, fun _ _ _ => rfl, fun _ _ => rfl⟩
 ·refine ⟨rfl, rfl, rfl, by simp, fun k hk hne => ?_, fun k hk => ?_⟩
  ·simp only [Array.getElem?_modify]
   rw [if_neg (fun e => hne (by rw [e]))]
   rfl
  ·show (match (w.heap.modify g _)[k]? with | some (.cells c e _) => some (c.size, e) | _ => none) = tagW w k
   rw [Array.getElem?_modify]
   by_cases hgk : g = k
   ·rw [if_pos hgk]
    unfold tagW
    cases hb : w.heap[k]? with
    | none => rfl
    | some o => cases o <;> rfl
   ·rw [if_neg hgk]; rfl
set_option maxHeartbeats 1000000 in
set_option maxRecDepth 100000 in
theorem e2I (bb : Nat) (p : Value) (w : World) (hbk : w.heap[bb]? = some (.cells #[p, .slice none 0 0] 83 (0, 0))) :
  Calls Pr a0K #[.pointer (some ⟨bb, 0, none⟩)] w fun e w' => e = .returned (.string ⟨#[]⟩) ∧ Froze w w' none := by
 have hUS : (Builtin.unsafeString_ #[110, 3] 9 #[.pointer none, .int .i64 0]).run Pr w.drew = .ok (.string ⟨#[]⟩) w.drew := rfl
 have c1 : w.drew.cell? ⟨bb, 1, none⟩ = some (.slice none 0 0) := by
  have : w.drew.heap[bb]? = some (.cells #[p, .slice none 0 0] 83 (0, 0)) := hbk
  rw [Lib.cell_of_heap this]; rfl
 have hSD : (Builtin.unsafeSliceData_ #[81] 110 #[.slice none 0 0]).run Pr w.drew = .ok (.pointer none) w.drew := rfl
 have mixed : Pr.follows Departure.mixedOrders = true := by kernel_rfl
 go_enter Tryz.func33, Tryz.ntmps33
 go_wp2
 go_region_o
 all_goals (go_wp2; go_ret; exact ⟨rfl, ⟨rfl, rfl, rfl, Nat.le_refl _, fun _ _ _ => rfl, fun _ _ => rfl⟩⟩)
set_option maxHeartbeats 1000000 in
set_option maxRecDepth 100000 in
theorem d9X (bb g cap : Nat) (p : Value) (cur : Array Value) (l : List UInt8) (w : World) (hbk : w.heap[bb]? = some (.cells #[p, .slice (some ⟨g, 0, none⟩) l.length cap] 83 (0, 0))) (hg : w.heap[g]? = some (.cells cur 5 (0, 0)))
  (h0 : l ≠ []) (hnc : l.length ≤ cap) (hcm : cap ≤ maxLen) (hcs : cur.size = cap) (htake : cur.toList.take l.length = Lib.byteCells l) :
  Calls Pr a0K #[.pointer (some ⟨bb, 0, none⟩)] w fun e w' => e = .returned (.string ⟨l.toArray⟩) ∧ Froze w w' (some g) := by
 have hl0 : l.length ≠ 0 := by simpa using h0
 have c1 : w.drew.cell? ⟨bb, 1, none⟩ = some (.slice (some ⟨g, 0, none⟩) l.length cap) := by
  have : w.drew.heap[bb]? = some (.cells #[p, .slice (some ⟨g, 0, none⟩) l.length cap] 83 (0, 0)) := hbk
  rw [Lib.cell_of_heap this]; rfl
 have hSD : (Builtin.unsafeSliceData_ #[81] 110 #[.slice (some ⟨g, 0, none⟩) l.length cap]).run Pr w.drew = .ok (.pointer (some ⟨g, 0, none⟩)) w.drew :=
  Lib.run_unsafeSliceData_row _ _ _ _ _ _ (by omega)
 have hUS : (Builtin.unsafeString_ #[110, 3] 9 #[.pointer (some ⟨g, 0, none⟩), .int .i64 l.length]).run Pr w.drew = .ok (.string ⟨l.toArray⟩) (w.drew.freeze ⟨g, 0, none⟩ l.length) := by
  refine Lib.run_unsafeString_row w.drew 110 3 9 5 Tryz.underlying110 (by kernel_rfl) g cur.size (by have hg' : w.drew.heap[g]? = some (.cells cur 5 (0, 0)) := hg; simp [World.shape?, hg']) l h0 (by omega) (by unfold maxLen at hcm; omega) ?_
  intro j x hx
  have hj := a0i hx
  have hadd : (⟨g, 0, none⟩ : Addr).add j = ⟨g, j, none⟩ := by unfold Addr.add; split <;> simp_all
  rw [hadd]
  have hc := congrArg (fun q : List Value => q[j]?) htake
  simp only [List.getElem?_take, if_pos hj, Array.getElem?_toList, Lib.byteCells, List.getElem?_map, hx, Option.map_some] at hc
  have hg' : w.drew.heap[g]? = some (.cells cur 5 (0, 0)) := hg
  simp [World.cell?, hg', hc]
 have mixed : Pr.follows Departure.mixedOrders = true := by kernel_rfl
 go_enter Tryz.func33, Tryz.ntmps33
 go_wp2
 go_region_o
 all_goals (go_wp2; go_ret; exact ⟨rfl, e2j w g l.length⟩)
end Go.Abs
namespace Go.Abs
open Go.Proofs Go.RowKit
theorem HOk.cutW {E : Emb} (h : HOk E) (m : Nat) (hfree : ∀ (j : Nat) bj, j < m → E.H[j]? = some (some bj) → ∀ a ∈ bj.flat, Ref (· < m) a) {w' : World} (os : w'.os = E.w.os) (tape : w'.tape = E.w.tape) (out : w'.output = E.w.output) (size : E.w.heap.size ≤ w'.heap.size)
  (keepR : ∀ (j : Nat) bj b, j < m → E.H[j]? = some (some bj) → E.φ j = some b → w'.heap[b]? = E.w.heap[b]?) (keepN : ∀ b, b < E.w.heap.size → ¬ E.Mut b → w'.heap[b]? = E.w.heap[b]?) (tags : ∀ b, b < E.w.heap.size → tagW w' b = tagW E.w b) :
  HOk ⟨E.φ, E.H.take m, w'⟩ ∧ Ext (· < m) E ⟨E.φ, E.H.take m, w'⟩ := by
 have hget : ∀ (j : Nat) x, (E.H.take m)[j]? = some x → j < m ∧ E.H[j]? = some x := by
  intro j x hj
  rw [List.getElem?_take] at hj
  split at hj
  ·exact ⟨by omega, hj⟩
  ·simp at hj
 have hx : Ext (· < m) E ⟨E.φ, E.H.take m, w'⟩ :=
  ⟨os, tape, out, size, fun i hi hl => by simp; omega, fun _ _ _ => rfl, fun j blk' _ _ hb => ⟨blk', (hget j _ hb).2, rfl⟩, fun id blk' b _ _ hb hp => by
    simp only [a1M, keepR id blk' b (hget id _ hb).1 (hget id _ hb).2 hp],
   fun b _ ⟨j, blk', hj, e⟩ => ⟨j, blk', (hget j _ hj).2, e⟩, keepN, tags⟩
 exact ⟨h.build hx (fun mid m _ _ _ q blk hj => q blk (hget mid _ hj).2) (fun j b hj => .inl ⟨(hget j _ hj).2, rfl, fun bb hb => keepR j b bb (hget j _ hj).1 (hget j _ hj).2 hb, hfree j b (hget j _ hj).1 (hget j _ hj).2⟩) (fun i j b1 b2 b h1 h2 => h.inj i j b1 b2 b (hget _ _ h1).2 (hget _ _ h2).2), hx⟩
theorem HOk.pad {φ : Nat → Option Nat} {H : Heap} {w : World} (h : HOk ⟨φ, H, w⟩) (n : Nat) : HOk ⟨φ, H ++ List.replicate n none, w⟩ ∧ Ext (· < H.length) ⟨φ, H, w⟩ ⟨φ, H ++ List.replicate n none, w⟩ := by
 have hget : ∀ (j : Nat) b, (H ++ List.replicate n (none : Option Blk))[j]? = some (some b) → H[j]? = some (some b) := by
  intro j b hj
  rcases Nat.lt_or_ge j H.length with hl | hl
  ·rwa [List.getElem?_append_left hl] at hj
  ·rw [List.getElem?_append_right hl, List.getElem?_replicate] at hj
   split at hj <;> simp at hj
 have hx : Ext (· < H.length) ⟨φ, H, w⟩ ⟨φ, H ++ List.replicate n none, w⟩ :=
  ⟨rfl, rfl, rfl, Nat.le_refl _, fun i hi hl => by show i < (H ++ List.replicate n none).length; rw [List.length_append]; have : i < H.length := hi; omega, fun _ _ _ => rfl, fun j b _ _ hb => ⟨b, hget j b hb, rfl⟩, fun _ _ _ _ _ _ _ => rfl,
   fun b _ ⟨j, blk', hj, e⟩ => ⟨j, blk', hget j blk' hj, e⟩, fun _ _ _ => rfl, fun _ _ => rfl⟩
 exact ⟨h.build hx (fun mid m _ _ _ q blk hj => q blk (hget mid blk hj)) (fun j b hj => .inl ⟨hget j b hj, rfl, fun _ _ => rfl, h.refs (E := ⟨φ, H, w⟩) (hget j b hj)⟩) (fun i j b1 b2 b h1 h2 => h.inj i j b1 b2 b (hget _ _ h1) (hget _ _ h2)), hx⟩
section
variable {H : Heap} {bb : Nat} {p v : Value} {l : List UInt8} {φ : Nat → Option Nat} {w : World}
theorem d1z (s : List UInt8) : Lib.strCells ⟨s.toArray⟩ = Lib.byteCells s := by simp [Lib.strCells, Lib.byteCells]
theorem c8E (l s : List UInt8) : Lib.byteCells (l ++ s) = Lib.byteCells l ++ Lib.byteCells s := by simp [Lib.byteCells]
theorem e6F (hH : a0z H) (h : TB H bb p v l φ w) (hok : HOk ⟨φ, hap H (RB p v l), w⟩) (s : List UInt8) (hlen : l.length + s.length ≤ 140737488355328) :
  Calls Pr a0s #[.pointer (some ⟨bb, 0, none⟩), .string ⟨s.toArray⟩] w fun e w' => e = .returned (.tuple #[.int .i64 s.length, .nilIface]) ∧
   ∃ p' v' φ', TB H bb p' v' (l ++ s) φ' w' ∧ HOk ⟨φ', hap H (RB p' v' (l ++ s)), w'⟩ ∧ Ext (fun i => i ≠ lid H 0 ∧ i ≠ lid H 1) ⟨φ, hap H (RB p v l), w⟩ ⟨φ', hap H (RB p' v' (l ++ s)), w'⟩ := by
 have hsz : (⟨s.toArray⟩ : ByteArray).size = s.length := rfl
 refine (d4K bb p v (Lib.byteCells l) ⟨s.toArray⟩ w (h.at hok) (by rw [Lib.byteCells_length, hsz]; exact hlen)).mono ?_
 rintro e w' ⟨he, v', hb, ht, ho, hn⟩
 rw [d1z, ← c8E] at hb
 rw [hsz] at he hn
 obtain ⟨φ', q1, q2, q3⟩ := e6x hH h hok hb ht ho (fun hv => by
  intro e
  have e' := List.append_eq_nil_iff.1 e
  rcases h.buf with ⟨a, _⟩ | ⟨g, cap, a, b, c, d, f, hl⟩
  ·exact hv (hn a (by rw [e'.2]; rfl))
  ·exact hl e'.1)
 exact ⟨he, _, v', φ', q1, q2, q3⟩
theorem e7Q (hH : a0z H) (h : TB H bb p v l φ w) (hok : HOk ⟨φ, hap H (RB p v l), w⟩) :
  Calls Pr a0K #[.pointer (some ⟨bb, 0, none⟩)] w fun e w' => e = .returned (.string ⟨l.toArray⟩) ∧ HOk ⟨φ, H, w'⟩ ∧ Ext (· < H.length) ⟨φ, hap H (RB p v l), w⟩ ⟨φ, H, w'⟩ := by
 have hB := h.at hok
 have htake : (hap H (RB p v l)).take H.length = H := by simp [hap]
 have hbase : ∀ {j : Nat} {x}, j < H.length → (hap H (RB p v l))[j]? = some x → H[j]? = some x := by
  intro j x hj hb
  simp only [hap] at hb
  rwa [List.getElem?_append_left hj] at hb
 have fin : ∀ (g : Option Nat) (w' : World), Froze w w' g → (∀ g', g = some g' → φ (lid H 1) = some g') → HOk ⟨φ, H, w'⟩ ∧ Ext (· < H.length) ⟨φ, hap H (RB p v l), w⟩ ⟨φ, H, w'⟩ := by
  intro g w' hf hg
  have := hok.cutW H.length (fun j bj hj hb => hH j bj (hbase hj hb)) (w' := w') hf.os hf.tape hf.output hf.size (fun j bj b hj hb hp => by
   refine hf.block b (hok.lt hb hp) fun e => ?_
   have := hok.inj _ _ _ _ b hb (c5i H p v l) hp (hg b e.symm)
   simp [lid] at this; omega) (fun b hb hm => by
   refine hf.block b hb fun e => hm ⟨lid H 1, _, c5i H p v l, hg b e.symm⟩) hf.tags
  simp only [htake] at this
  exact this
 rcases h.buf with ⟨rfl, b, rfl⟩ | ⟨g, cap, rfl, b, c, d, e, hl⟩
 ·refine (e2I bb p w hB.heap).mono ?_
  rintro e w' ⟨he, hf⟩
  exact ⟨he, fin none w' hf (fun g' e => by cases e)⟩
 ·obtain ⟨cap2, cur, q1, q2, q3, q4, q5, q6⟩ := hB.buf.own (g := g) rfl
  rw [Lib.byteCells_length] at q1 q3 q6
  cases q1
  refine (d9X bb g cap p cur l w hB.heap q2 hl d e q5 q6).mono ?_
  rintro e w' ⟨he, hf⟩
  exact ⟨he, fin (some g) w' hf (fun g' e => by cases e; exact b)⟩
end
def c7r (H : Heap) (env : Env) : Prop := ∀ q ∈ env, Ref (fun i => i ≠ lid H 0 ∧ i ≠ lid H 1) q.2
theorem b8X (H : Heap) : c7r H [] := fun q h => by cases h
theorem b5O {H : Heap} {t : Nat} {a : AV} {env : Env} (h : Ref (fun i => i ≠ lid H 0 ∧ i ≠ lid H 1) a) (k : c7r H env) : c7r H ((t, a) :: env) := fun q hq => by
 rcases List.mem_cons.1 hq with rfl | hq
 ·exact h
 ·exact k q hq
theorem c7r.look {H : Heap} {env : Env} (h : c7r H env) (t : Nat) : Ref (fun i => i ≠ lid H 0 ∧ i ≠ lid H 1) (look env t) := by
 induction env with
 | nil => exact .top
 | cons q env ih =>
  simp only [Abs.look]
  split
  ·exact h q (by simp)
  ·exact ih fun r hr => h r (by simp [hr])
section
variable {H : Heap} {bb : Nat} {p v : Value} {l : List UInt8} {E0 : Emb} {mu : Nat → Nat → Bool} {f : FuncId} {nt n0 : Nat} {rs : List ResV} {R : AV → Heap → Prop}
def e8e (H : Heap) (bb : Nat) (p v : Value) (l : List UInt8) (E0 : Emb) (x : Cx) (kt : List AItem) (R : AV → Heap → Prop) (d : Option Nat) (aa : List AV) (env : Env) (H' : Heap) : Prop :=
 H' = hap H (RB p v l) ∧ c7r H env ∧ ∃ s : List UInt8, aa = [.lit (.pointer (some ⟨bb, 0, none⟩)), strU s] ∧ l.length + s.length ≤ 140737488355328 ∧
  ∀ p' v', a0g (TB H bb p' v' (l ++ s)) E0 x kt (put d (.tup [.int .i64 s.length, .lit .nilIface]) env) (hap H (RB p' v' (l ++ s))) R
theorem c7A : a8d Pr a0s := ⟨_, Tryz.func31, by decide +kernel, by kernel_rfl⟩
theorem c8G : a8d Pr a0K := ⟨_, Tryz.func33, by decide +kernel, by kernel_rfl⟩
theorem a0g.wstr (hH : a0z H) (hE0 : E0.H.length = H.length) (hn : lid H 1 < n0) {env : Env} {k kt : List AItem} {l0 : List AIns} (l1 : List AIns) {d : Option Nat} {aa : List Src} (e : Abs.stl 40 k = .code (.region l0 false) :: kt) (e2 : l0 = l1 ++ [⟨d, none, .call a0s aa⟩])
  (hn2 : n0 ≤ (hap H (RB p v l)).length)
  (h : aops Pr n0 l1 (fun env' H' => e8e H bb p v l E0 ⟨Pr, mu, f, nt, rs, n0⟩ kt R d (aa.map (·.ev env')) env' H') env (hap H (RB p v l))) : a0g (TB H bb p v l) E0 ⟨Pr, mu, f, nt, rs, n0⟩ k env (hap H (RB p v l)) R := by
 refine a0g.rgW l1 [] e e2 (a8g ?_ h)
 rintro env' H' ⟨rfl, hoff, s, has, hlen, hnext⟩
 refine ⟨_, _, rfl, c7A, fun φ w vs hok hT hE hl hr => ?_⟩
 rw [has] at hl hr
 obtain ⟨v0, v1, rfl⟩ : ∃ v0 v1, vs = [v0, v1] := by
  match vs, hl with
  | [v0, v1], _ => exact ⟨v0, v1, rfl⟩
 have h0 := b1c (hr 0 v0 _ rfl rfl)
 have h1 := a0O (hr 1 v1 _ rfl rfl)
 subst h0; subst h1
 refine (e6F hH hT hok s hlen).mono ?_
 rintro e w' ⟨rfl, p', v', φ', q1, q2, q3⟩
 refine ⟨_, _, _, φ', _, env', rfl, TB.stab hn, q1, q2, ?_, fun tmps he t => (he t).mono q3 (hoff.look t), ?_, hE.trans (q3.sub fun i hi => ?_), hnext p' v'⟩
 ·exact .tup [_, _] [.int .i64 s.length, .lit .nilIface] rfl (fun k u a hk ha => by
   rcases k with _ | _ | k
   ·simp at hk ha; subst hk; subst ha; exact .int _ _
   ·simp at hk ha; subst hk; subst ha; exact .lit _
   ·simp at hk)
 ·simpa [hap, RB] using hn2
 ·have : i < E0.H.length := hi
  constructor <;> (intro e; rw [e] at this; unfold lid at this; omega)
theorem a0g.bstr (hH : a0z H) (hE0 : E0.H.length = H.length) {env : Env} {k kt : List AItem} {l0 l2 : List AIns} {d : Option Nat} {aa : List Src} (e : Abs.stl 40 k = .code (.region l0 false) :: kt) (e2 : l0 = ⟨d, none, .call a0K aa⟩ :: l2)
  (has : aa.map (·.ev env) = [.lit (.pointer (some ⟨bb, 0, none⟩))]) (hn : n0 = (hap H (RB p v l)).length)
  (h : aops Pr n0 l2 (fun env' H' => a0g (fun _ _ => True) E0 ⟨Pr, mu, f, nt, rs, n0⟩ kt env' H' R) (put d (strU l) []) (hap H [none, none])) : a0g (TB H bb p v l) E0 ⟨Pr, mu, f, nt, rs, n0⟩ k env (hap H (RB p v l)) R := by
 refine a0g.rgW [] l2 e e2 ?_
 refine ⟨_, _, rfl, c8G, fun φ w vs hok hT hE hl hr => ?_⟩
 rw [has] at hl hr
 obtain ⟨v0, rfl⟩ : ∃ v0, vs = [v0] := by
  match vs, hl with
  | [v0], _ => exact ⟨v0, rfl⟩
 have h0 := b1c (hr 0 v0 _ rfl rfl)
 subst h0
 refine (e7Q hH hT hok).mono ?_
 rintro e w' ⟨rfl, q2, q3⟩
 obtain ⟨r1, r2⟩ := q2.pad 2
 exact ⟨_, strU l, fun _ _ => True, φ, hap H [none, none], [], rfl, fun _ _ _ _ _ _ _ _ _ _ => trivial, trivial, r1, .str _, fun tmps he t => .top _, by rw [hn]; simp [hap, RB], hE.trans (by rw [hE0]; exact q3.trans r2), h⟩
end
end Go.Abs
namespace Go.Abs
open Go.Proofs Go.RowKit
def a6N (l : List (List UInt8)) : List (List UInt8) := l.mergeSort fun x y => decide (x ≤ y)
theorem a5y (l : List (List UInt8)) : (a6N l).Perm l := List.mergeSort_perm _ _
theorem b2I (l : List (List UInt8)) : (a6N l).length = l.length := (a5y l).length_eq
theorem b9Q (l : List (List UInt8)) : (a6N l).Pairwise fun a b => a ≤ b := by
 have := List.pairwise_mergeSort (le := fun x y : List UInt8 => decide (x ≤ y)) (fun a b c h1 h2 => decide_eq_true (List.le_trans (of_decide_eq_true h1) (of_decide_eq_true h2))) (fun a b => by
  rcases List.le_total a b with h | h
  ·rw [decide_eq_true h]; rfl
  ·rw [decide_eq_true h]; exact Bool.or_true _) l
 exact this.imp fun h => of_decide_eq_true h
theorem e0L {l m : List (List UInt8)} (h : l.Perm m) : a6N l = a6N m :=
 List.Perm.eq_of_pairwise (le := fun a b : List UInt8 => a ≤ b) (fun a b _ _ h1 h2 => List.le_antisymm h1 h2) (b9Q l) (b9Q m) (((a5y l).trans h).trans (a5y m).symm)
theorem b6z (l : List (List UInt8)) : (l.map strU).flatMap AV.cells = l.map strU := by
 induction l with
 | nil => rfl
 | cons a l ih => rw [List.map_cons, List.flatMap_cons, ih]; rfl
theorem d5b {G : Heap} {id : Nat} {ss : List (List UInt8)} {oc : Option Nat} (hl : G[id]? = some (some ⟨1, ss.map strU⟩)) (h0 : ss ≠ []) (hsz : ss.length < 4611686018427387904) :
  a0h Pr a1i [.mu id 0 ss.length oc] G fun r' H' => r' = .tup [] ∧ H' = G.set id (some ⟨1, (a6N ss).map strU⟩) := by
 refine ⟨⟨_, Tryz.func30, by decide +kernel, by kernel_rfl⟩, fun φ w vs hok hvl hr => ?_⟩
 obtain ⟨v0, rfl⟩ : ∃ v0, vs = [v0] := by
  match vs, hvl with
  | [v0], _ => exact ⟨v0, rfl⟩
 have r0 := hr 0 v0 _ rfl rfl
 have hn : 0 < ss.length := List.length_pos_iff.2 h0
 generalize hlen : ss.length = n at r0 hn
 cases r0 with
 | mu0 blk _ _ _ hlive hb hoc => omega
 | dead v a i hd hd2 h1 => simp [AV.ref] at hd; subst hd; rw [hl] at hd2; cases hd2
 | mu blk _ _ _ _ b q cap hlive hb hq hlc hsz2 hoc =>
  simp only at hlive hb
  rw [hl] at hlive; cases hlive
  have hq0 : q = 0 := by rcases hq with hq | hq <;> omega
  subst hq0
  obtain ⟨c, e, r⟩ := hok.row id _ b hl hb
  have hheap := r.heap (Nat.zero_lt_succ _)
  simp only at hheap
  have hfl : (Blk.mk 1 (ss.map strU)).flat = ss.map strU := b6z ss
  have hfit := r.fits
  rw [hfl, List.length_map] at hfit
  have hc : ∀ j, (hj : j < ss.length) → c[j]? = some (encStr ss[j]) := by
   intro j hj
   have := r.rep j c[j] (strU ss[j]) (by rw [Array.getElem?_eq_getElem]) (by rw [hfl]; simp [hj])
   rw [Array.getElem?_eq_getElem (by omega)]
   exact congrArg some (a0O this)
  have hH : Go.Sort.Holds encStr w b 0 ss.toArray := by
   intro j hj
   have hj' : j < ss.length := by simpa using hj
   refine ⟨?_, ?_⟩
   ·simp only [Nat.zero_add, World.cell?, hheap]
    rw [getElem!_pos ss.toArray j hj]
    simpa using hc j hj'
   ·simp [World.frozen?, hheap]
  subst hlen
  refine (Tryz.slices_Sort_string b 0 cap ss w hH (hok.lt hl hb) hsz).mono ?_
  rintro e' w' ⟨rfl, n, os, rfl⟩
  have hss := b2I ss
  have hcc : (Go.Sort.putCells encStr 0 (a6N ss).toArray c).size = c.size := by simp [Go.Sort.putCells]
  obtain ⟨g1, g2⟩ := hok.write (E := ⟨φ, G, w⟩) hl hb (Nat.zero_lt_succ _) r (Go.Sort.putCells encStr 0 (a6N ss).toArray c) ((a6N ss).map strU) hcc
   (fun x hx => by obtain ⟨y, _, rfl⟩ := List.mem_map.1 hx; rfl) (by rw [b6z, List.length_map, hss, hcc]; exact hfit) (fun k v a hv ha => by
    rw [b6z] at ha
    have hk : k < (a6N ss).length := by have := a0i ha; simpa using this
    have hv2 : v = encStr (a6N ss)[k] := by
     simp only [Go.Sort.putCells, Array.getElem?_mapIdx, Option.map_eq_some_iff] at hv
     obtain ⟨x, hx, rfl⟩ := hv
     rw [if_pos ⟨Nat.zero_le _, by simpa using hk⟩, Nat.sub_zero, getElem!_pos (a6N ss).toArray k (by simpa using hk)]
     simp
    have ha2 : a = strU (a6N ss)[k] := by simpa [hk] using ha.symm
    subst hv2; subst ha2
    exact ⟨rfl, .str _⟩)
  have hblk : ∀ k, k < w.heap.size → (Go.Sort.grow (Go.Sort.putRow encStr (Go.Sort.ahead w n) b 0 (a6N ss).toArray) os).heap[k]? = (w.setRow b (Go.Sort.putCells encStr 0 (a6N ss).toArray c)).heap[k]? := by
   intro k hk
   simp only [Go.Sort.grow]
   rw [Array.getElem?_append_left (by simp [Go.Sort.ahead]; exact hk)]
   simp only [Go.Sort.putRow, Go.Sort.mapBlock, Go.Sort.ahead, Array.getElem?_modify]
   by_cases hkb : b = k
   ·subst hkb
    rw [if_pos rfl, a5I _ _ _ _ _ _ hheap, hheap]; rfl
   ·rw [if_neg hkb, a1D _ _ _ _ (Ne.symm hkb)]
  have hs1 : (w.setRow b (Go.Sort.putCells encStr 0 (a6N ss).toArray c)).heap.size = w.heap.size := by simp
  have k1 := HOk.of_heap (E := ⟨φ, G.set id (some ⟨1, (a6N ss).map strU⟩), w.setRow b (Go.Sort.putCells encStr 0 (a6N ss).toArray c)⟩) (w := Go.Sort.grow (Go.Sort.putRow encStr (Go.Sort.ahead w n) b 0 (a6N ss).toArray) os) rfl rfl rfl
   (by rw [hs1]; simp [Go.Sort.grow, Go.Sort.ahead]) (fun k hk => hblk k (by rw [hs1] at hk; exact hk)) g1
  have k2 := Ext.of_heap (S := (· < G.length)) (E := ⟨φ, G.set id (some ⟨1, (a6N ss).map strU⟩), w.setRow b (Go.Sort.putCells encStr 0 (a6N ss).toArray c)⟩) (w := Go.Sort.grow (Go.Sort.putRow encStr (Go.Sort.ahead w n) b 0 (a6N ss).toArray) os) rfl rfl rfl
   (by rw [hs1]; simp [Go.Sort.grow, Go.Sort.ahead]) (fun k hk => hblk k (by rw [hs1] at hk; exact hk)) g1
  exact ⟨_, _, φ, _, rfl, ⟨rfl, rfl⟩, k1, .tup [] [] rfl (fun k v a h => by simp at h), by simp, g2.trans k2⟩
end Go.Abs
namespace Go.Abs
open Go.Proofs
theorem c4w : a0f Pr a8P [.int .u64 0] (.int .i64 0) := by
 have h64 : a0f Pr a5Z [.int .u64 0] (.int .i64 0) := by
  have c1 : ((0 : Int) ≥ 4294967296) = False := by decide
  have c2 : ((0 : Int) ≥ 65536) = False := by decide
  have c3 : ((0 : Int) ≥ 256) = False := by decide
  have hw : IntKind.wrap .u8 0 = 0 := by decide
  have hw2 : IntKind.wrap .i64 0 = 0 := by decide
  have hi : ∀ k, idxS (.str c9n) (.int k 0) = some (.int .u8 0) := fun k => by
   have e1 : (0 : Int) < (c9n.size : Int) := by decide +kernel
   have e2 : c9n.data.toList.getD 0 0 = 0 := by decide +kernel
   simp only [idxS]
   rw [if_pos ⟨Int.le_refl _, e1⟩]
   simp only [Int.toNat_zero, e2]; rfl
  refine a0f.intro b7f b7e (Nat.le_of_ble_eq_true rfl) (.int _ _) fun H hH => ?_
  refine Safe.rg rfl ?_
  simp only [a9p, E3, a0b, a0c, a0d, a0a, seval]
  refine Safe.rg rfl ?_
  simp only [a9o, c1, E3, a0b, a0c, a0d, a0a, seval]
  refine Safe.cd rfl ?_
  simp only [E3, a0b, a0c, a0d, a0a, seval]
  refine Safe.rg rfl ?_
  simp only [a9n, c2, E3, a0b, a0c, a0d, a0a, seval]
  refine Safe.cd rfl ?_
  simp only [E3, a0b, a0c, a0d, a0a, seval]
  refine Safe.rg rfl ?_
  simp only [a9m, c3, E3, a0b, a0c, a0d, a0a, seval]
  refine Safe.cd rfl ?_
  simp only [E3, a0b, a0c, a0d, a0a, seval]
  refine Safe.rg rfl ?_
  simp only [a8A, hw, hi, hw2, Int.add_zero, E3, a0b, a0c, a0d, a0a, seval]
  refine Safe.rt rfl ?_
  simp only [E3, a0b, a0c, a0d, a0a, seval]
  exact ⟨_, rfl⟩
 refine a0f.intro c1j c1i (Nat.le_of_ble_eq_true rfl) (.int _ _) fun H hH => ?_
 refine Safe.rg rfl ?_
 simp only [b1X, E3, a0b, a0c, a0d, a0a, seval]
 refine Safe.cd rfl ?_
 simp only [E3, a0b, a0c, a0d, a0a, seval]
 refine Safe.rg rfl ?_
 simp only [b1W, E3, a0b, a0c, a0d, a0a, seval]
 first | refine (h64).acall ?_ | refine (h64).dcall ?_ | refine (h64).dgcall ?_
 try simp only [E3, a0b, a0c, a0d, a0a, seval]
 refine Safe.rt rfl ?_
 simp only [E3, a0b, a0c, a0d, a0a, seval]
 exact ⟨_, rfl⟩
theorem d2U : Cl (.tup []) := .tup _ fun c hc => by cases hc
theorem b8S (G : Heap) (a : AV) : HC a0S [a, .int .i64 0, .int .i64 0] G (.tup []) := by
 have hw : IntKind.wrap .i64 (0 + 1) = 1 := by decide
 have c1 : ((1 : Int) < 0) = False := by decide
 refine HC.intro a3w a3t (Nat.le_of_ble_eq_true rfl) d2U.ref fun hH => ?_
 refine Safe.rg rfl ?_
 simp only [a1A, hw, E3, a0b, a0c, a0d, a0a, seval]
 refine Safe.lp rfl ?_
 refine Safe.inLoop ?_
 refine Safe.rg rfl ?_
 simp only [a1z, c1, E3, a0b, a0c, a0d, a0a, seval]
 refine Safe.cd rfl ?_
 simp only [E3, a0b, a0c, a0d, a0a, seval]
 refine Safe.stl 40 _ ?_
 refine Safe.donen ?_
 simp only [E3, a0b, a0c, a0d, a0a, seval]
 exact ⟨_, rfl⟩
theorem d1K (G : Heap) (a : AV) (n : Int) : HC a0A [a, .int .i64 0, .int .i64 0, .int .i64 n] G (.tup []) := by
 have hw : IntKind.wrap .i64 (0 - 0) = 0 := by decide
 have c1 : ((0 : Int) ≤ 12) = True := by decide
 refine HC.intro a5H a5F (Nat.le_of_ble_eq_true rfl) d2U.ref fun hH => ?_
 refine Safe.rg rfl ?_
 simp only [a2g, E3, a0b, a0c, a0d, a0a, seval]
 refine Safe.rg rfl ?_
 simp only [a2f, E3, a0b, a0c, a0d, a0a, seval]
 refine Safe.lp rfl ?_
 refine Safe.inLoop ?_
 refine Safe.rg rfl ?_
 simp only [a2e, hw, E3, a0b, a0c, a0d, a0a, seval]
 refine Safe.rg rfl ?_
 simp only [a2d, c1, E3, a0b, a0c, a0d, a0a, seval]
 refine Safe.cd rfl ?_
 simp only [E3, a0b, a0c, a0d, a0a, seval]
 refine Safe.rg rfl ?_
 simp only [a2c, E3, a0b, a0c, a0d, a0a, seval]
 first | refine (b8S (hap G []) a).acall ?_ | refine (b8S (hap G []) a).dcall ?_ | refine (b8S (hap G []) a).dgcall ?_
 try simp only [E3, a0b, a0c, a0d, a0a, seval]
 refine Safe.rt rfl ?_
 simp only [E3, a0b, a0c, a0d, a0a, seval]
 exact ⟨_, rfl⟩
theorem c7H (G : Heap) (a : AV) (ha : lenV G a = some (.int .i64 0)) : HC a1i [a] G (.tup []) := by
 have ha' : lenV (hap G []) a = some (.int .i64 0) := by rw [a1Y]; exact ha
 have hw : IntKind.wrap .u64 0 = 0 := by decide
 refine HC.intro a7E a7D (Nat.le_of_ble_eq_true rfl) d2U.ref fun hH => ?_
 refine Safe.rg rfl ?_
 simp only [a2J, ha', E3, a0b, a0c, a0d, a0a, seval]
 refine Safe.rg rfl ?_
 simp only [a2I, hw, E3, a0b, a0c, a0d, a0a, seval]
 first | refine (c4w).acall ?_ | refine (c4w).dcall ?_ | refine (c4w).dgcall ?_
 try simp only [E3, a0b, a0c, a0d, a0a, seval]
 first | refine (d1K (hap G []) a 0).acall ?_ | refine (d1K (hap G []) a 0).dcall ?_ | refine (d1K (hap G []) a 0).dgcall ?_
 try simp only [E3, a0b, a0c, a0d, a0a, seval]
 refine Safe.stl 40 _ ?_
 refine Safe.donen ?_
 simp only [E3, a0b, a0c, a0d, a0a, seval]
 exact ⟨_, rfl⟩
end Go.Abs
namespace Go.Abs
open Go.Proofs
def kAt : List Nat → List (List UInt8) → Nat → List UInt8
 | b :: bs, k :: ks, c => if b = c then k else kAt bs ks c
 | _, _, _ => []
theorem d8C : ∀ {bs : List Nat} {ks : List (List UInt8)}, bs.Nodup → ks.length = bs.length → bs.map (kAt bs ks) = ks
 | [], [], _, _ => rfl
 | b :: bs, k :: ks, hn, hl => by
  obtain ⟨h1, h2⟩ := List.nodup_cons.1 hn
  have ih := d8C h2 (show ks.length = bs.length by simpa using hl)
  rw [List.map_cons]
  congr 1
  ·simp [kAt]
  ·rw [← ih]
   apply List.map_congr_left
   intro c hc
   have : b ≠ c := fun e => h1 (e ▸ hc)
   rw [kAt, if_neg this, ih]
 | [], _ :: _, _, h => by simp at h
 | _ :: _, [], _, h => by simp at h
theorem d7B : ∀ {bs : List Nat} {ks : List (List UInt8)} {ls : List (List (List ZI))} {c : Nat}, ks.length = bs.length → ls.length = bs.length → c ∈ bs → ∃ l, sent bs (ks.map kB) (ls.map matV) c = some (.tup [.str (kB (kAt bs ks c)), matV l])
 | b :: bs, k :: ks, l :: ls, c, h1, h2, hc => by
  simp only [List.map_cons, sent, kAt]
  by_cases hb : b = c
  ·exact ⟨l, by rw [if_pos hb, if_pos hb]⟩
  ·rw [if_neg hb, if_neg hb]
   exact d7B (by simpa using h1) (by simpa using h2) ((List.mem_cons.1 hc).resolve_left (fun e => hb e.symm))
 | [], _, _, _, _, _, h => by cases h
 | _ :: _, [], _, _, h, _, _ => by simp at h
 | _ :: _, _ :: _, [], _, _, h, _ => by simp at h
theorem b1h : ∀ {s t : List Nat}, s.Nodup → (∀ x ∈ s, x ∈ t) → s.length ≤ t.length
 | [], t, _, _ => Nat.zero_le _
 | a :: s, t, hn, hs => by
  obtain ⟨h1, h2⟩ := List.nodup_cons.1 hn
  have ha := hs a (by simp)
  have := b1h (s := s) (t := t.erase a) h2 fun x hx => by
   have hxa : x ≠ a := fun e => h1 (e ▸ hx)
   exact (List.mem_erase_of_ne hxa).2 (hs x (by simp [hx]))
  rw [List.length_erase_of_mem ha] at this
  have := List.length_pos_of_mem ha
  simp; omega
section
variable {H L : Heap} {ib im : Nat} {B : Bk}
theorem InB.rng (h : InB H ib im B) (k v : AV) (env : Env) : b6A 3 (.mp true im) k v env (Abs.hap H L) = some (.mp false (lid H L.length), env, Abs.hap H (L ++ [some ⟨0, [.io im B.n []]⟩])) := by
 simp only [b6A, a5z (a5L (L := L) h.m), b8M, b9k]
theorem InB.nxt (h : InB H ib im B) {i : Nat} {seen : List Nat} (hl : L[i]? = some (some ⟨0, [.io im B.n seen]⟩)) {K : AV → Heap → Prop}
  (h1 : ∀ b k l, b ∈ B.bs → b ∉ seen → K (.tup [.bool true, k, l]) (Abs.hap H (L.set i (some ⟨0, [.io im B.n (seen ++ [b])]⟩))))
  (h2 : (∀ b ∈ B.bs, b ∈ seen) → K (.tup [.bool false]) (Abs.hap H L)) : d1Q (.mp false (lid H i)) (Abs.hap H L) K := by
 have hm := a5z (a5L (L := L) h.m)
 simp only [d1Q, c7i hl, b1s hm, hm]
 refine ⟨trivial, h.ok.lt, fun j b k v hb hj _ _ => ?_, h2⟩
 rw [a2Q]
 exact h1 b _ _ (List.mem_of_getElem? hj) hb
theorem InB.ent (h : InB H ib im B) {i : Nat} {seen : List Nat} {c : Nat} (hl : L[i]? = some (some ⟨0, [.io im B.n (seen ++ [c])]⟩)) (hc : c ∈ B.bs) :
  ∃ l, e5a (Abs.hap H L) (.mp false (lid H i)) = some (.tup [strU (kAt B.bs B.ks c), matV l]) := by
 have hm := a5z (a5L (L := L) h.m)
 obtain ⟨l, hs⟩ := d7B h.ok.l1 h.ok.l2 hc
 refine ⟨l, ?_⟩
 simp only [e5a, c7i hl, b1s hm, List.getLast?_append, List.getLast?_singleton, Option.some_or, hm, Option.bind_some, if_true, hs]
 rfl
theorem d3K {H : Heap} {ib : Nat} (h : ib < H.length) (i k off : Nat) : nref (lid H i) (.loc ib k off) = true := a0l.2 (.loc _ _ _ (by show ib ≠ lid H i; unfold lid; omega))
def a0W (B : Bk) : List (List UInt8) := a6N B.ks
theorem e1L (l : List (List UInt8)) : Cl (.sl 1 (l.map strU)) := .sl _ _ fun a ha => by
 rw [b6z] at ha
 obtain ⟨x, _, rfl⟩ := List.mem_map.1 ha
 exact a1l x
theorem c1K (h : InB H ib im B) (hB : B.bs.length ≤ 1048576) : HC a3l [.loc ib 0 0] H (.sl 1 ((a0W B).map strU)) := by
 have hn := d1P (h.hap [])
 have hl := h.liv (L := [])
 have hat := h.at (L := [])
 have hrng := fun env => h.rng (L := []) .nil .nil env
 refine HC.intro b7L b7J (Nat.le_of_ble_eq_true rfl) (e1L _).ref fun hH => ?_
 refine Safe.rg rfl ?_
 simp only [a9O, E3, a0b, a0c, a0d, a0a, seval]
 refine Safe.rg rfl ?_
 simp only [a9N, E3, a0b, a0c, a0d, a0a, seval]
 first | refine (hn).acall ?_ | refine (hn).dcall ?_ | refine (hn).dgcall ?_
 try simp only [E3, a0b, a0c, a0d, a0a, seval]
 refine Safe.cd rfl ?_
 simp only [E3, a0b, a0c, a0d, a0a, seval]
 refine Safe.rg rfl ?_
 simp only [a9M, E3, a0b, a0c, a0d, a0a, seval]
 refine Safe.rg rfl ?_
 simp only [a9L, hl, hat, hrng, List.length_nil, List.nil_append, E3, a0b, a0c, a0d, a0a, seval]
 refine Safe.nilrow 3 1 (by decide) (by simp only [E3, a0b, a0c, a0d, a0a, seval]) ?_
 refine Safe.lp rfl ?_
 refine Safe.keep [0, 3, 11] ?_
 simp only [E3, a0b, a0c, a0d, a0a, seval]
 refine Safe.loopW (fun seen : List Nat => B.bs.length - seen.length) (fun seen => [(0, .loc ib 0 0), (3, .mu (lid H 1) 0 seen.length none), (11, .mp false (lid H 0))])
  (fun seen => hap H [some ⟨0, [.io im B.n seen]⟩, some ⟨1, (seen.map (kAt B.bs B.ks)).map strU⟩]) (fun seen => seen.Nodup ∧ ∀ b ∈ seen, b ∈ B.bs) [] rfl rfl ⟨List.nodup_nil, fun b hb => nomatch hb⟩ ?_
 rintro seen ⟨hnd, hsub⟩ ih
 have hlen := b1h hnd hsub
 refine Safe.inLoop ?_
 refine Safe.rg rfl ?_
 simp only [a9K, e0f, E3, a0b, a0c, a0d, a0a, seval]
 refine h.nxt (i := 0) rfl ?_ ?_
 ·intro b kk ll hb hbs
  have hnd2 : (seen ++ [b]).Nodup := List.nodup_append.2 ⟨hnd, by simp, fun x hx y hy => by simp at hy; subst hy; exact fun e => hbs (e ▸ hx)⟩
  have hsub2 : ∀ x ∈ seen ++ [b], x ∈ B.bs := fun x hx => by
   rcases List.mem_append.1 hx with hx | hx
   ·exact hsub x hx
   ·simp at hx; subst hx; exact hb
  have hlen2 := b1h hnd2 hsub2
  simp only [List.length_append, List.length_cons, List.length_nil] at hlen2
  obtain ⟨l, hent⟩ := h.ent (i := 0) (L := [some ⟨0, [.io im B.n (seen ++ [b])]⟩, some ⟨1, (seen.map (kAt B.bs B.ks)).map strU⟩]) rfl hb
  simp only [E3, a0b, a0c, a0d, a0a, seval]
  refine Safe.cd rfl ?_
  simp only [E3, a0b, a0c, a0d, a0a, seval]
  refine Safe.rg rfl ?_
  simp only [a9J, hent, E3, a0b, a0c, a0d, a0a, seval]
  refine Safe.rg rfl ?_
  simp only [a9I, a3e, c1C, b4S (a1l _), E3, a0b, a0c, a0d, a0a, seval]
  rw [e0h hH 1 (a5g H 1) a1l (seen.map (kAt B.bs B.ks)) (kAt B.bs B.ks b) ((seen ++ [b]).map (kAt B.bs B.ks)) (by simp) rfl (RC.io (RC.row a1l RC.nil)) rfl (by simp) (by omega) (by omega)]
  simp only [d3K (a0k h.b), a7J H 1 0 false (by decide), E3, a0b, a0c, a0d, a0a, seval]
  refine Safe.keep [0, 3, 11] ?_
  simp only [E3, a0b, a0c, a0d, a0a, seval]
  refine Safe.inBlock ?_
  have := ih (seen ++ [b]) ⟨hnd2, hsub2⟩ (by simp; omega)
  simp only [List.length_append, List.length_cons, List.length_nil, Nat.zero_add] at this
  exact this
 ·intro hall
  have hperm : (seen.map (kAt B.bs B.ks)).Perm B.ks := by
   have hp : seen.Perm B.bs := (List.perm_ext_iff_of_nodup hnd h.ok.nd).2 fun a => ⟨hsub a, hall a⟩
   have := hp.map (kAt B.bs B.ks)
   rwa [d8C h.ok.nd h.ok.l1] at this
  have hS : a6N (seen.map (kAt B.bs B.ks)) = a0W B := e0L hperm
  simp only [E3, a0b, a0c, a0d, a0a, seval]
  refine Safe.cd rfl ?_
  simp only [E3, a0b, a0c, a0d, a0a, seval]
  by_cases h0 : seen = []
  ·subst h0
   have hz : a0W B = [] := by rw [← hS]; simp [a6N]
   rw [hz]
   have hlv : lenV (hap H [some ⟨0, [.io im B.n []]⟩, some ⟨1, []⟩]) (.mu (lid H 1) 0 0 none) = some (.int .i64 0) := by
    rw [c8h, a0Q]; rfl
   refine Safe.rg rfl ?_
   simp only [a4D, List.length_nil, List.map_nil, E3, a0b, a0c, a0d, a0a, seval]
   first | refine (c7H _ _ hlv).acall ?_ | refine (c7H _ _ hlv).dcall ?_ | refine (c7H _ _ hlv).dgcall ?_
   try simp only [E3, a0b, a0c, a0d, a0a, seval]
   refine Safe.rg rfl ?_
   simp only [a4C, E3, a0b, a0c, a0d, a0a, seval]
   refine Safe.freeze 1 hH rfl rfl (a4E 1 strU [] a1l) ?_
   have hfz : frz (lid H 1) ⟨1, []⟩ (.mu (lid H 1) 0 0 none) = .sl 1 [] := a8F 1 1 strU [] 0 none rfl
   refine Safe.keep [2] ?_
   simp only [hfz, E3, a0b, a0c, a0d, a0a, seval]
   refine Safe.rt rfl ?_
   simp only [E3, a0b, a0c, a0d, a0a, seval]
   exact ⟨_, rfl⟩
  ·have hsc := d5b (G := hap H [some ⟨0, [.io im B.n seen]⟩, some ⟨1, (seen.map (kAt B.bs B.ks)).map strU⟩]) (id := lid H 1) (ss := seen.map (kAt B.bs B.ks)) (oc := none) (by simp [hap, lid]) (by simpa using h0) (by rw [List.length_map]; omega)
   rw [List.length_map, hS] at hsc
   refine Safe.rg rfl ?_
   simp only [a4D, E3, a0b, a0c, a0d, a0a, seval]
   refine hsc.mono ?_
   rintro r' H' ⟨rfl, rfl⟩
   simp only [E3, a0b, a0c, a0d, a0a, seval]
   refine Safe.rg rfl ?_
   simp only [a4C, E3, a0b, a0c, a0d, a0a, seval]
   have hlen3 : seen.length = (a0W B).length := by rw [← hS, b2I, List.length_map]
   refine Safe.freeze 1 hH rfl rfl (a4E 1 strU (a0W B) a1l) ?_
   refine Safe.keep [2] ?_
   simp only [a8F 1 1 strU (a0W B) seen.length none hlen3, E3, a0b, a0c, a0d, a0a, seval]
   refine Safe.rt rfl ?_
   simp only [E3, a0b, a0c, a0d, a0a, seval]
   exact ⟨_, rfl⟩
end
end Go.Abs
namespace Go.Abs
open Go.Proofs Go.RowKit
theorem e2L (w : World) : (zeroValue 83).run Pr w = .ok (.agg #[.pointer none, .slice none 0 0]) w := Tryz.zeroValue83 w
theorem e0H : a9e Tryz.f13 1 = #[{ dst := some 3, op := .alloc 83, type := 0, pos := "book.go:170", after := #[], guard := none }] := by kernel_rfl
theorem d4S {H : Heap} (hH : a0z H) {env : Env} {R : AV → Heap → Prop} {todo k : List AItem} (e : Abs.stl 40 k = .code (.raw 1 (a9e Tryz.f13 1) false) :: todo) {mu : Nat → Nat → Bool} {f : FuncId} {nt : Nat} {rs : List ResV} (hnt : 3 < nt)
  (h : ∀ (E0 : Emb) (bb : Nat), E0.H = H → a0g (TB H bb (.pointer none) (.slice none 0 0) []) E0 ⟨Pr, mu, f, nt, rs, lid H 2⟩ todo ((3, .lit (.pointer (some ⟨bb, 0, none⟩))) :: env) (hap H (RB (.pointer none) (.slice none 0 0) [])) R) :
  Safe ⟨Pr, mu, f, nt, rs, H.length⟩ k env (hap H []) R := by
 rw [a1Y]
 refine Safe.enterT e rfl (lid H 2) fun φ w tmps hok he hsz => ?_
 rw [e0H]
 refine wp_region_list ?_
 have hrun : (execOp (Act.eval ⟨tmps, []⟩) { dst := some 3, op := .alloc 83, type := 0, pos := "book.go:170", after := #[], guard := none }).run Pr w = .ok (.value (.pointer (some ⟨w.heap.size, 0, none⟩))) (w.alloc (.cells #[.pointer none, .slice none 0 0] 83)) := by
  simp [execOp, Instr.alloc, e2L, newVar, newRow, Value.cells]
 obtain ⟨a1, a2⟩ := hok.alloc (w := w.alloc (.cells #[.pointer none, .slice none 0 0] 83)) rfl rfl rfl (by simp) (some w.heap.size) (fun b hb => by cases hb; exact Nat.le_refl _) (a1t _ _) ⟨2, [.agg [.lit (.pointer none), .lit (.slice none 0 0)]]⟩ (Nat.zero_lt_succ _) (by simp [AV.cells])
  (.inr ⟨w.heap.size, _, _, rfl, heap_alloc_new _ _, by simp [Blk.flat, AV.cells], fun k u a hu ha => by
   match k with
   | 0 => simp [Blk.flat, AV.cells] at hu ha; subst hu; subst ha; exact ⟨rfl, .lit _⟩
   | 1 => simp [Blk.flat, AV.cells] at hu ha; subst hu; subst ha; exact ⟨rfl, .lit _⟩
   | k + 2 => simp [Blk.flat, AV.cells] at ha⟩)
 obtain ⟨b1, b2⟩ := a1.alloc rfl rfl rfl (Nat.le_refl _) none (by simp) (fun _ _ => rfl) ⟨1, byts []⟩ (Nat.zero_lt_succ _) (by simp [byts]) (.inl ⟨rfl, rfl⟩)
 have hrows : (H ++ [some (Blk.mk 2 [.agg [.lit (.pointer none), .lit (.slice none 0 0)]])]) ++ [some (Blk.mk 1 (byts []))] = hap H (RB (.pointer none) (.slice none 0 0) []) := by simp [hap, RB]
 simp only [hrows] at b1 b2
 have hx : Ext (· < H.length) ⟨φ, H, w⟩ ⟨_, hap H (RB (.pointer none) (.slice none 0 0) []), w.alloc (.cells #[.pointer none, .slice none 0 0] 83)⟩ := a2.trans (b2.sub fun i hi => by show i < (H ++ [_]).length; rw [List.length_append]; have : i < H.length := hi; omega)
 unfold wpList
 rw [if_pos (by rfl)]
 refine .inl ?_
 simp only [Oper.wp, hrun, Oper.upon]
 unfold wpList
 refine ⟨rfl, TB H w.heap.size (.pointer none) (.slice none 0 0) [], _, (3, .lit (.pointer (some ⟨w.heap.size, 0, none⟩))) :: env, _, TB.stab (by unfold lid; omega), by unfold lid; omega, by simp [hap, RB, lid], ⟨?_, ?_, .inl rfl, .inl ⟨rfl, ?_, rfl⟩⟩, b1, ?_, rfl, ?_, hx, h ⟨φ, H, w⟩ w.heap.size rfl⟩
 ·simp [lid]
 ·simp only [tagW, heap_alloc_new]; rfl
 ·simp [lid]
 ·exact a2i (d := some 3) (fun t => (he t).mono hx (he t).ref) (by simp [d2K]; rw [hsz]; exact hnt) (.lit _)
 ·rw [a4c]; exact hsz
end Go.Abs
namespace Go.Abs
open Go.Proofs
def rowT (r : List ZI) : List UInt8 := 32 :: (txV r ++ [10])
def a6P (l : List (List ZI)) : List UInt8 := l.flatMap rowT
def sLat : List UInt8 := [108, 97, 116, 116, 105, 99, 101, 32]
def sEnd : List UInt8 := [101, 110, 100, 10]
def latT (k : List UInt8) (l : List (List ZI)) : List UInt8 := ((sLat ++ k) ++ [10]) ++ (a6P l ++ sEnd)
def getL (B : Bk) (k : List UInt8) : List (List ZI) := (B.get? k).getD []
def a3z (B : Bk) (ns : List (List UInt8)) : List UInt8 := ns.flatMap fun k => latT k (getL B k)
def b6w (B : Bk) : List UInt8 := a3z B (a0W B)
structure TxOk (B : Bk) : Prop where
 nb : B.bs.length ≤ 1048576
 row : ∀ k, (getL B k).length ≤ 2097152 ∧ ∀ r ∈ getL B k, Vok 8796093022208 r ∧ (txV r).length ≤ 1073741824
 key : ∀ k ∈ B.ks, k.length ≤ 1073741824
 all : (b6w B).length ≤ 140737488355328
theorem d7f : AV.str ⟨#[108, 97, 116, 116, 105, 99, 101, 32]⟩ = strU sLat := rfl
theorem e4e : AV.str ⟨#[101, 110, 100, 10]⟩ = strU sEnd := rfl
noncomputable abbrev txX (H : Heap) : Cx := ⟨Pr, fun r k => (r == 1 && k == 1000000), a1k, 39, [.tmp 2], lid H 2⟩
theorem d1F {H : Heap} {ib : Nat} (h : ib < H.length) (k off : Nat) : Ref (fun i => i ≠ lid H 0 ∧ i ≠ lid H 1) (.loc ib k off) := .loc _ _ _ ⟨by unfold lid; omega, by unfold lid; omega⟩
theorem d4z (H : Heap) (p v : Value) (l : List UInt8) : (hap H (RB p v l)).length = lid H 2 := by simp [hap, RB, lid]
section
variable {H : Heap} {ib im : Nat} {B : Bk} {E0 : Emb} {bb : Nat}
theorem d7a (hH : a0z H) (hE0 : E0.H.length = H.length) (hib : ib < H.length) {rest : List AItem} {R : AV → Heap → Prop} (ns : List (List UInt8)) (j : Nat) (rows : List (List ZI)) (hrows : rows.length ≤ 2097152 ∧ ∀ r ∈ rows, Vok 8796093022208 r ∧ (txV r).length ≤ 1073741824) (pr : List UInt8)
  (hpr : (pr ++ a6P rows).length ≤ 140737488355328)
  (h : ∀ p v, a0g (TB H bb p v (pr ++ a6P rows)) E0 (txX H) rest [(0, .loc ib 0 0), (3, .lit (.pointer (some ⟨bb, 0, none⟩))), (9, .sl 1 (ns.map strU)), (10, .int .i64 ns.length), (11, .int .i64 j)] (hap H (RB p v (pr ++ a6P rows))) R) :
  ∀ (m i : Nat), i + m = rows.length → ∀ p v, a0g (TB H bb p v (pr ++ a6P (rows.take i))) E0 (txX H) (.inLoop a9H :: .inBlock 2 :: rest)
   [(0, .loc ib 0 0), (3, .lit (.pointer (some ⟨bb, 0, none⟩))), (9, .sl 1 (ns.map strU)), (10, .int .i64 ns.length), (11, .int .i64 j), (24, matV rows), (25, .int .i64 rows.length), (26, .int .i64 i)] (hap H (RB p v (pr ++ a6P (rows.take i)))) R := by
 intro m
 induction m with
 | zero =>
  intro i hi p v
  have hin : i = rows.length := by omega
  subst hin
  rw [List.take_length]
  refine a0g.inLoop ?_
  have hlt : ((rows.length : Int) < (rows.length : Int)) = False := eq_false (by omega)
  refine a0g.rg rfl ?_
  simp only [a4y, hlt, E3, a0b, a0c, a0d, a0a, seval]
  refine a0g.cd rfl ?_
  simp only [E3, a0b, a0c, a0d, a0a, seval]
  refine a0g.keep [0, 3, 9, 10, 11] ?_
  simp only [E3, a0b, a0c, a0d, a0a, seval]
  exact a0g.exit rfl (h p v)
 | succ m ih =>
  intro i hi p v
  have hlt : ((i : Int) < (rows.length : Int)) = True := eq_true (by omega)
  have hir : i < rows.length := by omega
  have hv := hrows.2 rows[i] (List.getElem_mem hir)
  have htv := d6X rows[i] hv.1 (by omega)
  have hg : rows.getD i [] = rows[i] := by rw [List.getD_eq_getElem?_getD, List.getElem?_eq_getElem hir]; rfl
  have hix := a9U (hap H (RB p v (pr ++ a6P (rows.take i)))) rows .i64 i hir
  have htk : a6P (rows.take (i + 1)) = a6P (rows.take i) ++ rowT rows[i] := by
   unfold a6P; rw [b2F rows hir, List.flatMap_append]; simp
  have htk2 : (pr ++ a6P (rows.take i)) ++ 32 :: (txV rows[i] ++ [10]) = pr ++ a6P (rows.take (i + 1)) := by rw [htk, List.append_assoc]; rfl
  have hle : (pr ++ a6P (rows.take i)).length + (rowT rows[i]).length ≤ 140737488355328 := by
   have h1 : rows = rows.take (i + 1) ++ rows.drop (i + 1) := (List.take_append_drop _ _).symm
   have h2 : a6P rows = a6P (rows.take (i + 1)) ++ a6P (rows.drop (i + 1)) := by
    unfold a6P; rw [← List.flatMap_append, ← h1]
   rw [h2, htk] at hpr
   simp only [List.length_append] at hpr ⊢
   omega
  have hw : IntKind.wrap .i64 ((i : Int) + 1) = ((i + 1 : Nat) : Int) := by rw [a0e] <;> omega
  have ha1 := b2K [32] (txV rows[i]) (by simp; omega)
  have ha2 : binV .add (strU (32 :: txV rows[i])) (strU [10]) = some (strU (32 :: (txV rows[i] ++ [10]))) := b2K (32 :: txV rows[i]) [10] (by simp; omega)
  refine a0g.inLoop ?_
  refine a0g.rg rfl ?_
  simp only [a4y, hlt, E3, a0b, a0c, a0d, a0a, seval]
  refine a0g.cd rfl ?_
  simp only [E3, a0b, a0c, a0d, a0a, seval]
  refine a0g.rg rfl ?_
  simp only [a9C, hix, b7W, E3, a0b, a0c, a0d, a0a, seval]
  refine a0g.wstr (n0 := lid H 2) hH hE0 (by unfold lid; omega) (a4x.take 4) rfl rfl (by rw [d4z]; exact Nat.le_refl _) ?_
  simp only [a4x, List.take_succ_cons, List.take_zero]
  simp only [E3, a0b, a0c, a0d, a0a, seval]
  first | refine (htv).acall ?_ | refine (htv).dcall ?_ | refine (htv).dgcall ?_
  try simp only [E3, a0b, a0c, a0d, a0a, seval]
  simp only [d3w, ha1, ha2, E3, a0b, a0c, a0d, a0a, seval]
  refine ⟨rfl, ?_, _, rfl, hle, fun p' v' => ?_⟩
  ·repeat (first | exact b8X _ | refine b5O ?_ ?_ | exact d1F hib _ _ | exact .lit _ | exact .int _ _ | exact .str _ | exact .sl _ _ | exact .bool _ | exact .ro _ _ | exact .nil | exact .top)
  rw [htk2]
  simp only [E3, a0b, a0c, a0d, a0a, seval]
  refine a0g.rg rfl ?_
  simp only [a9B, hw, E3, a0b, a0c, a0d, a0a, seval]
  refine a0g.keep [0, 3, 9, 10, 11, 24, 25, 26] ?_
  simp only [E3, a0b, a0c, a0d, a0a, seval]
  exact ih (i + 1) (by omega) p' v'
theorem d1x {ns : List (List UInt8)} {i : Nat} (h : i < ns.length) : a3z B (ns.take (i + 1)) = a3z B (ns.take i) ++ latT ns[i] (getL B ns[i]) := by
 unfold a3z; rw [b2F ns h, List.flatMap_append]; simp
theorem d7b {ns : List (List UInt8)} (i : Nat) : (a3z B (ns.take i)).length ≤ (a3z B ns).length := by
 have h1 : ns = ns.take i ++ ns.drop i := (List.take_append_drop _ _).symm
 have h2 : a3z B ns = a3z B (ns.take i) ++ a3z B (ns.drop i) := by unfold a3z; rw [← List.flatMap_append, ← h1]
 rw [h2, List.length_append]; omega
theorem d8Y (hB : B.Ok) {k : List UInt8} (hk : k ∈ B.ks) : optV (B.get? k) = matV (getL B k) := by
 unfold getL
 cases hg : B.get? k with
 | some l => rfl
 | none =>
  unfold Bk.get? at hg
  simp only [Option.map_eq_none_iff] at hg
  exact absurd hk (d2u.1 hg)
theorem c6S {k : List UInt8} (h : k ∈ a0W B) : k ∈ B.ks := (a5y B.ks).mem_iff.1 h
theorem d4R (h : InB H ib im B) (hT : TxOk B) (hH : a0z H) (hE0 : E0.H.length = H.length) {rest : List AItem} {R : AV → Heap → Prop}
  (hlast : ∀ p v, a0g (TB H bb p v (b6w B)) E0 (txX H) rest [(3, .lit (.pointer (some ⟨bb, 0, none⟩)))] (hap H (RB p v (b6w B))) R) :
  ∀ (m i : Nat), i + m = (a0W B).length → ∀ p v, a0g (TB H bb p v (a3z B ((a0W B).take i))) E0 (txX H) (.inLoop a4B :: .inBlock 0 :: rest)
   [(0, .loc ib 0 0), (3, .lit (.pointer (some ⟨bb, 0, none⟩))), (9, .sl 1 ((a0W B).map strU)), (10, .int .i64 (a0W B).length), (11, .int .i64 i)] (hap H (RB p v (a3z B ((a0W B).take i)))) R := by
 have hib := a0k h.b
 have hnb : (a0W B).length ≤ 1048576 := by unfold a0W; rw [b2I, h.ok.l1]; exact hT.nb
 intro m
 induction m with
 | zero =>
  intro i hi p v
  have hin : i = (a0W B).length := by omega
  subst hin
  rw [List.take_length]
  refine a0g.inLoop ?_
  have hlt : (((a0W B).length : Int) < ((a0W B).length : Int)) = False := eq_false (by omega)
  refine a0g.rg rfl ?_
  simp only [a4A, hlt, E3, a0b, a0c, a0d, a0a, seval]
  refine a0g.cd rfl ?_
  simp only [E3, a0b, a0c, a0d, a0a, seval]
  refine a0g.keep [3] ?_
  simp only [E3, a0b, a0c, a0d, a0a, seval]
  exact a0g.exit rfl (hlast p v)
 | succ m ih =>
  intro i hi p v
  have hlt : ((i : Int) < ((a0W B).length : Int)) = True := eq_true (by omega)
  have hir : i < (a0W B).length := by omega
  generalize hk : (a0W B)[i] = k
  have hmem : k ∈ B.ks := c6S (by rw [← hk]; exact List.getElem_mem hir)
  have hkl := hT.key k hmem
  have hrow := hT.row k
  have hall := hT.all
  have htk := d1x (B := B) hir
  rw [hk] at htk
  have htl := d7b (B := B) (ns := a0W B) (i + 1)
  have hbig : (a3z B ((a0W B).take i)).length + (latT k (getL B k)).length ≤ 140737488355328 := by
   rw [← List.length_append, ← htk]; exact Nat.le_trans htl hall
  have hlat : (latT k (getL B k)).length = ((sLat ++ k) ++ [10]).length + ((a6P (getL B k)).length + sEnd.length) := by
   unfold latT; simp only [List.length_append]
  have hix : ∀ G : Heap, idxV G 1 (.sl 1 ((a0W B).map strU)) (.int .i64 (i : Int)) = some (.ro (strU k) 0) := fun G => by rw [← hk]; exact d3x G 1 strU (a0W B) .i64 i hir
  have ha1 := b2K sLat k (by show 8 + k.length ≤ _; omega)
  have ha2 := b2K (sLat ++ k) [10] (by rw [List.length_append]; show 8 + k.length + 1 ≤ _; omega)
  have hw : IntKind.wrap .i64 ((i : Int) + 1) = ((i + 1 : Nat) : Int) := by rw [a0e] <;> omega
  refine a0g.inLoop ?_
  refine a0g.rg rfl ?_
  simp only [a4A, hlt, E3, a0b, a0c, a0d, a0a, seval]
  refine a0g.cd rfl ?_
  simp only [E3, a0b, a0c, a0d, a0a, seval]
  refine a0g.rg rfl ?_
  simp only [a9E, hix, a3e, E3, a0b, a0c, a0d, a0a, seval]
  refine a0g.wstr (n0 := lid H 2) hH hE0 (by unfold lid; omega) (a4z.take 3) rfl rfl (by rw [d4z]; exact Nat.le_refl _) ?_
  simp only [a4z, List.take_succ_cons, List.take_zero]
  simp only [d7f, d3w, ha1, ha2, E3, a0b, a0c, a0d, a0a, seval]
  refine ⟨rfl, ?_, _, rfl, by omega, fun p' v' => ?_⟩
  ·repeat (first | exact b8X _ | refine b5O ?_ ?_ | exact d1F hib _ _ | exact .lit _ | exact .int _ _ | exact .str _ | exact .sl _ _ | exact .bool _ | exact .ro _ _ | exact .nil | exact .top)
  have hl := h.liv (L := RB p' v' (a3z B ((a0W B).take i) ++ ((sLat ++ k) ++ [10])))
  have hat := h.at (L := RB p' v' (a3z B ((a0W B).take i) ++ ((sLat ++ k) ++ [10])))
  have hlk := h.look1 (L := RB p' v' (a3z B ((a0W B).take i) ++ ((sLat ++ k) ++ [10]))) k
  rw [d8Y h.ok hmem] at hlk
  have hml : lenV (hap H (RB p' v' (a3z B ((a0W B).take i) ++ ((sLat ++ k) ++ [10])))) (matV (getL B k)) = some (.int .i64 (getL B k).length) := b5G _ _
  simp only [E3, a0b, a0c, a0d, a0a, seval]
  refine a0g.rg rfl ?_
  simp only [a9D, hl, hat, hlk, hml, E3, a0b, a0c, a0d, a0a, seval]
  refine a0g.lp rfl ?_
  refine a0g.keep [0, 3, 9, 10, 11, 24, 25, 26] ?_
  simp only [E3, a0b, a0c, a0d, a0a, seval]
  have hrows := d7a (R := R) (rest := .code (.region a8G false) :: .inBlock 1 :: .code (.region a3J false) :: .inLoop a4B :: .inBlock 0 :: rest) hH hE0 hib (a0W B) i (getL B k) hrow (a3z B ((a0W B).take i) ++ ((sLat ++ k) ++ [10])) (bb := bb) (by rw [List.length_append, List.length_append]; omega) ?_ (getL B k).length 0 (by omega) p' v'
  ·rw [List.take_zero, show a6P ([] : List (List ZI)) = [] from rfl, List.append_nil] at hrows
   exact hrows
  ·intro p2 v2
   refine a0g.wstr (n0 := lid H 2) hH hE0 (by unfold lid; omega) [] rfl rfl (by rw [d4z]; exact Nat.le_refl _) ?_
   simp only [e4e, E3, a0b, a0c, a0d, a0a, seval]
   have hfin : (a3z B ((a0W B).take i) ++ ((sLat ++ k) ++ [10]) ++ a6P (getL B k)) ++ sEnd = a3z B ((a0W B).take (i + 1)) := by
    rw [htk]; unfold latT; simp only [List.append_assoc]
   refine ⟨rfl, ?_, sEnd, rfl, ?_, fun p3 v3 => ?_⟩
   ·repeat (first | exact b8X _ | refine b5O ?_ ?_ | exact d1F hib _ _ | exact .lit _ | exact .int _ _ | exact .str _ | exact .sl _ _ | exact .bool _ | exact .ro _ _ | exact .nil | exact .top)
   ·rw [List.length_append, List.length_append]; omega
   rw [hfin]
   simp only [E3, a0b, a0c, a0d, a0a, seval]
   refine a0g.rg rfl ?_
   simp only [a3J, hw, E3, a0b, a0c, a0d, a0a, seval]
   refine a0g.keep [0, 3, 9, 10, 11] ?_
   simp only [E3, a0b, a0c, a0d, a0a, seval]
   exact ih (i + 1) (by omega) p3 v3
theorem d1w (h : InB H ib im B) (hT : TxOk B) : HC a1k [.loc ib 0 0] H (strU (b6w B)) := by
 have hib := a0k h.b
 have hns := hT.nb
 refine HC.intro b7H b7G (Nat.le_of_ble_eq_true rfl) (a1l _).ref fun hH => ?_
 refine Safe.rg rfl ?_
 simp only [a9G, E3, a0b, a0c, a0d, a0a, seval]
 refine d4S hH rfl (by decide) fun E0 bb hE0 => ?_
 have hE0' : E0.H.length = H.length := by rw [hE0]
 refine a0g.keep [0, 3] ?_
 simp only [E3, a0b, a0c, a0d, a0a, seval]
 refine a0g.rg rfl ?_
 simp only [a9F, E3, a0b, a0c, a0d, a0a, seval]
 first | refine (c1K (h.hap _) hns).acall ?_ | refine (c1K (h.hap _) hns).dcall ?_ | refine (c1K (h.hap _) hns).dgcall ?_
 try simp only [E3, a0b, a0c, a0d, a0a, seval]
 simp only [c8g, List.length_map, E3, a0b, a0c, a0d, a0a, seval]
 refine a0g.lp rfl ?_
 refine a0g.keep [0, 3, 9, 10, 11] ?_
 simp only [E3, a0b, a0c, a0d, a0a, seval]
 refine d4R h hT hH hE0' (fun p v => ?_) (a0W B).length 0 (by omega) (.pointer none) (.slice none 0 0)
 refine a0g.bstr (n0 := lid H 2) hH hE0' rfl rfl rfl (by rw [d4z]) ?_
 simp only [E3, a0b, a0c, a0d, a0a, seval]
 refine a0g.rt rfl ?_
 simp only [E3, a0b, a0c, a0d, a0a, seval]
 exact ⟨_, rfl⟩
end
end Go.Abs
namespace Go.Abs
open Go.Proofs
def b6q (t : List UInt8) : Option Int := if t.length ≤ 65536 then tokV t else none
theorem d4B {t : List UInt8} (hlen : 65536 < t.length) : a0f Pr a3b [strU t] (.tup [b4W, .int .i64 0, .int .i64 2]) := by
 have hgt : ((t.length : Int) > 65536) = True := eq_true (by omega)
 have hst : ∀ (H : Heap) env, a5f 2 (.loc (lid H 0) 0 0) (.agg [.bool false, .nil]) env (hap H [some ⟨2, [.agg [.bool false, .nil]]⟩]) = some (.top, env, hap H [some ⟨2, [.agg [.bool false, .nil]]⟩]) := fun H env =>
  a5x env H [some ⟨2, [.agg [.bool false, .nil]]⟩] 2 0 0 0 (.agg [.bool false, .nil]) rfl (by simp) rfl rfl (by simp)
 refine a0f.intro b2C b2A (Nat.le_of_ble_eq_true rfl) (b5Q d3o (.int _ _) (.int _ _)) fun H hH => ?_
 refine Safe.rg rfl ?_
 simp only [b2z, E3, a0b, a0c, a0d, a0a, seval]
 refine Safe.rg rfl ?_
 simp only [b2y, a0u, hgt, E3, a0b, a0c, a0d, a0a, seval]
 refine Safe.cd rfl ?_
 simp only [E3, a0b, a0c, a0d, a0a, seval]
 refine Safe.rg rfl ?_
 simp only [b9I, b7M, hst, E3, a0b, a0c, a0d, a0a, seval]
 refine Safe.rt rfl ?_
 simp only [one3, E3, a0b, a0c, a0d, a0a, seval]
 exact ⟨rfl, _, rfl⟩
theorem e0u {t : List UInt8} (h : b6q t = none) (H : Heap) : a0h Pr a3b [strU t] H fun r' H' => (∃ a e : Int, e ≠ 0 ∧ r' = .tup [b4W, .int .i64 a, .int .i64 e]) ∧ H' = H := by
 unfold b6q at h
 split at h
 ·rename_i hl
  exact (d6H hl h H).mono fun r' H' ⟨⟨a, e⟩, h2⟩ => ⟨⟨a, 4, by decide, e⟩, h2⟩
 ·rename_i hl
  exact (d4B (by omega) H).mono fun r' H' ⟨e, h2⟩ => ⟨⟨0, 2, by decide, e⟩, h2⟩
theorem c2e {t : List UInt8} {z : Int} (h : b6q t = some z) : a0f Pr a3b [strU t] (.tup [Z z, .int .i64 0, .int .i64 0]) := by
 unfold b6q at h
 split at h
 ·rename_i hl; exact e0t hl h
 ·cases h
def rdB (H : Heap) (nx nm rw : AV) : Option Blk := some ⟨4, [.agg [.loc (lid H 1) 0 0, nx, nm, rw]]⟩
def rdL (H : Heap) (B : Bk) (nx nm rw : AV) (X : Heap) : Heap := some B.blk :: some ⟨1, [.agg [.mp true (lid H 0)]]⟩ :: rdB H nx nm rw :: X
abbrev fOut (H : Heap) : AV := .bfn a0X [.loc (lid H 2) 0 0]
abbrev fIn (H : Heap) : AV := .bfn a1j [.loc (lid H 2) 0 0]
section
variable {H X : Heap} {B : Bk} {nx nm rw : AV}
theorem d3I (hB : B.Ok) : InB (hap H (rdL H B nx nm rw X)) (lid H 1) (lid H 0) B := by
 refine ⟨?_, ?_, hB⟩ <;> simp [hap, lid, rdL]
theorem d2G (f : FuncId) (bs : List AV) : (AV.bfn f bs).fit = true := rfl
theorem c4W (f : FuncId) (bs : List AV) : (AV.bfn f bs).cells = [.bfn f bs] := rfl
def outE (B : Bk) (line : List UInt8) : Int := if pre sLat line = false then 4 else b8h B (line.drop 8)
theorem d5r (hB : B.Ok) (line : List UInt8) (hl : line.length ≤ 4294967296) : a0h Pr a0X [.loc (lid H 2) 0 0, strU line] (hap H (rdL H B nx nm rw X)) fun r' H' =>
  r' = .int .i64 (outE B line) ∧ H' = if outE B line = 0 then hap H (rdL H B (fIn H) (strU (line.drop 8)) .nil X) else hap H (rdL H B nx nm rw X) := by
 have hcp := b4R line sLat hl
 have hroom := fun nx' nm' rw' => d7H (d3I (H := H) (X := X) (nx := nx') (nm := nm') (rw := rw') hB) (line.drop 8) (by rw [List.length_drop]; omega)
 unfold outE
 simp only [rdL, rdB] at hroom ⊢
 refine a0h.open b2q b2p (Nat.le_of_ble_eq_true rfl) fun hH => ?_
 rw [a1Y]
 refine Safe.rg rfl ?_
 simp only [a5p, E3, a0b, a0c, a0d, a0a, Nat.reduceLeDiff, Nat.reduceSub, Nat.reduceAdd, Nat.reduceEqDiff, reduceCtorEq, ↓reduceIte]
 refine Safe.rg rfl ?_
 simp only [a5o, d7f, E3, a0b, a0c, a0d, a0a, Nat.reduceLeDiff, Nat.reduceSub, Nat.reduceAdd, Nat.reduceEqDiff, reduceCtorEq, ↓reduceIte]
 first | refine (hcp).acall ?_ | refine (hcp).dcall ?_ | refine (hcp).dgcall ?_
 try simp only [E3, a0b, a0c, a0d, a0a, Nat.reduceLeDiff, Nat.reduceSub, Nat.reduceAdd, Nat.reduceEqDiff, reduceCtorEq, ↓reduceIte]
 cases hp : pre sLat line with
 | false =>
  simp only [E3, a0b, a0c, a0d, a0a, Nat.reduceLeDiff, Nat.reduceSub, Nat.reduceAdd, Nat.reduceEqDiff, reduceCtorEq, ↓reduceIte]
  refine Safe.rg rfl ?_
  simp only [a2C, E3, a0b, a0c, a0d, a0a, Nat.reduceLeDiff, Nat.reduceSub, Nat.reduceAdd, Nat.reduceEqDiff, reduceCtorEq, ↓reduceIte]
  refine Safe.cd rfl ?_
  simp only [E3, a0b, a0c, a0d, a0a, Nat.reduceLeDiff, Nat.reduceSub, Nat.reduceAdd, Nat.reduceEqDiff, reduceCtorEq, ↓reduceIte]
  refine Safe.rg rfl ?_
  simp only [a5n, E3, a0b, a0c, a0d, a0a, Nat.reduceLeDiff, Nat.reduceSub, Nat.reduceAdd, Nat.reduceEqDiff, reduceCtorEq, ↓reduceIte]
  refine Safe.rt rfl ?_
  simp only [E3, a0b, a0c, a0d, a0a, Nat.reduceLeDiff, Nat.reduceSub, Nat.reduceAdd, Nat.reduceEqDiff, reduceCtorEq, ↓reduceIte]
  rw [if_neg (by decide)]
 | true =>
  have h8 : sLat.length = 8 := rfl
  simp only [h8, E3, a0b, a0c, a0d, a0a, Nat.reduceLeDiff, Nat.reduceSub, Nat.reduceAdd, Nat.reduceEqDiff, reduceCtorEq, ↓reduceIte]
  refine Safe.rg rfl ?_
  simp only [a2C, E3, a0b, a0c, a0d, a0a, Nat.reduceLeDiff, Nat.reduceSub, Nat.reduceAdd, Nat.reduceEqDiff, reduceCtorEq, ↓reduceIte]
  refine Safe.cd rfl ?_
  simp only [E3, a0b, a0c, a0d, a0a, Nat.reduceLeDiff, Nat.reduceSub, Nat.reduceAdd, Nat.reduceEqDiff, reduceCtorEq, ↓reduceIte]
  refine Safe.rg rfl ?_
  simp only [a5m, E3, a0b, a0c, a0d, a0a, Nat.reduceLeDiff, Nat.reduceSub, Nat.reduceAdd, Nat.reduceEqDiff, reduceCtorEq, ↓reduceIte]
  refine (hroom nx nm rw).acall ?_
  simp only [E3, a0b, a0c, a0d, a0a, Nat.reduceLeDiff, Nat.reduceSub, Nat.reduceAdd, Nat.reduceEqDiff, reduceCtorEq, ↓reduceIte]
  by_cases h0 : b8h B (line.drop 8) = 0
  ·rw [h0]
   refine Safe.rg rfl ?_
   simp only [a2B, E3, a0b, a0c, a0d, a0a, Nat.reduceLeDiff, Nat.reduceSub, Nat.reduceAdd, Nat.reduceEqDiff, reduceCtorEq, ↓reduceIte]
   refine Safe.cd rfl ?_
   simp only [E3, a0b, a0c, a0d, a0a, Nat.reduceLeDiff, Nat.reduceSub, Nat.reduceAdd, Nat.reduceEqDiff, reduceCtorEq, ↓reduceIte]
   refine Safe.rg rfl ?_
   simp only [a5k, c1C, a3e, E3, a0b, a0c, a0d, a0a, Nat.reduceLeDiff, Nat.reduceSub, Nat.reduceAdd, Nat.reduceEqDiff, reduceCtorEq, ↓reduceIte]
   refine Safe.rg rfl ?_
   simp only [a5j, d1J, d2G, c4W, E3, a0b, a0c, a0d, a0a, Nat.reduceLeDiff, Nat.reduceSub, Nat.reduceAdd, Nat.reduceEqDiff, reduceCtorEq, ↓reduceIte]
   refine Safe.rg rfl ?_
   simp only [a5i, E3, a0b, a0c, a0d, a0a, Nat.reduceLeDiff, Nat.reduceSub, Nat.reduceAdd, Nat.reduceEqDiff, reduceCtorEq, ↓reduceIte]
   refine Safe.rt rfl ?_
   simp only [E3, a0b, a0c, a0d, a0a, Nat.reduceLeDiff, Nat.reduceSub, Nat.reduceAdd, Nat.reduceEqDiff, reduceCtorEq, ↓reduceIte]
   rfl
  ·have hne : (b8h B (line.drop 8) = 0) = False := eq_false h0
   refine Safe.rg rfl ?_
   simp only [a2B, hne, E3, a0b, a0c, a0d, a0a, Nat.reduceLeDiff, Nat.reduceSub, Nat.reduceAdd, Nat.reduceEqDiff, reduceCtorEq, ↓reduceIte]
   refine Safe.cd rfl ?_
   simp only [E3, a0b, a0c, a0d, a0a, Nat.reduceLeDiff, Nat.reduceSub, Nat.reduceAdd, Nat.reduceEqDiff, reduceCtorEq, ↓reduceIte]
   refine Safe.rg rfl ?_
   simp only [a5l, E3, a0b, a0c, a0d, a0a, Nat.reduceLeDiff, Nat.reduceSub, Nat.reduceAdd, Nat.reduceEqDiff, reduceCtorEq, ↓reduceIte]
   refine Safe.rt rfl ?_
   simp only [hne, E3, a0b, a0c, a0d, a0a, Nat.reduceLeDiff, Nat.reduceSub, Nat.reduceAdd, Nat.reduceEqDiff, reduceCtorEq, ↓reduceIte]
end
end Go.Abs
namespace Go.Abs
open Go.Proofs
def gz (w : List UInt8) : ZI := canZ ((b6q w).getD 0)
def wsV (ws : List (List UInt8)) : Option (List ZI) := if ws.all (fun w => (b6q w).isSome) then some (ws.map gz) else none
def b5K (l : List UInt8) : Option (List ZI) := if pre [32] l then wsV (a1L 32 (l.drop 1)) else none
def cap0 : Nat → Option Nat
 | 0 => some 0
 | _ + 1 => none
theorem d9G {D : List UInt8} (h : ∀ c ∈ D, isDg c) {n : Nat} (hn : D.length ≤ n) : decV D < LB ^ n :=
 Nat.lt_of_lt_of_le (b5P h) (Nat.le_trans (Nat.pow_le_pow_left (show 10 ≤ LB by decide) _) (Nat.pow_le_pow_right (by decide) hn))
theorem e4b {t : List UInt8} {z : Int} (h : tokV t = some z) {n : Nat} (hn : t.length ≤ n) : z.natAbs < LB ^ n := by
 unfold tokV at h
 split at h
 ·split at h
  ·rename_i hb
   cases h
   rw [b5g]
   exact d9G (b1g.1 hb).2.1 (by simp at hn; omega)
  ·cases h
 ·split at h
  ·rename_i hb
   cases h
   rw [b5g]
   exact d9G (b1g.1 hb).2.1 hn
  ·cases h
theorem e7x {w : List UInt8} (h : (b6q w).isSome = true) {n : Nat} (hn : 65536 ≤ n) : Zok n (gz w) := by
 unfold gz
 cases hw : b6q w with
 | none => rw [hw] at h; cases h
 | some z =>
  unfold b6q at hw
  split at hw
  ·rename_i hl; exact a3m (e4b hw (Nat.le_trans hl hn))
  ·cases hw
theorem e8q {w : List UInt8} (h : (b6q w).isSome = true) : Zok 65536 (gz w) := e7x h (Nat.le_refl _)
theorem c9o (c : UInt8) (l : List UInt8) : (a1L c l).length ≤ l.length + 1 := by
 rw [b8c]
 have := List.count_le_length (a := c) (l := l)
 omega
theorem e1U {l : List UInt8} (hl : l.length ≤ 262144) {v : List ZI} (h : b5K l = some v) : v.length ≤ 262145 ∧ Vok 65536 v := by
 unfold b5K at h
 split at h
 ·unfold wsV at h
  split at h
  ·rename_i ha
   cases h
   have h1 := c9o 32 (l.drop 1)
   have h2 : (l.drop 1).length ≤ l.length := by rw [List.length_drop]; omega
   refine ⟨by rw [List.length_map]; omega, by rw [List.length_map]; omega, fun x hx => ?_⟩
   obtain ⟨w, hw, rfl⟩ := List.mem_map.1 hx
   exact e8q (List.all_eq_true.1 ha w hw)
  ·cases h
 ·cases h
theorem e6t {H : Heap} (hH : a0z H) {n0 : Nat} (hn : n0 ≤ lid H 0) (v : List ZI) (x : ZI) (v' : List ZI) {L : Heap} (hL : RC (some ⟨2, v.map ZI.av⟩ :: L)) {n : Nat} (hv : n = v.length) (hv' : v' = v ++ [x]) (hl : n ≤ 1048576) (env : Env) :
  appV n0 2 32 false (.mu (lid H 0) 0 n (cap0 n)) (.sl 2 [x.av]) env (hap H (some ⟨2, v.map ZI.av⟩ :: L)) = some (.mu (lid H 0) 0 (n + 1) (cap0 (n + 1)), scrub (lid H 0) env, hap H (some ⟨2, v'.map ZI.av⟩ :: L)) := by
 subst hv'
 have := b7P n0 env H (some ⟨2, v.map ZI.av⟩ :: L) 2 32 false 0 n (cap0 n) (.sl 2 [x.av]) (v.map ZI.av) [x.av] hH rfl (by rw [List.length_map]; exact hv) hn (a2b _ 2 _) (b4k hL) (by
  intro a ha
  simp at ha
  exact (a5T x.cl a ha).ref) (by simp; omega) (by simp; omega) (by
   cases n with
   | zero => rfl
   | succ n => rfl)
 rw [this]
 have hc : a1f (cap0 n) (n + [x.av].length) = cap0 (n + 1) := by
  cases n with
  | zero => rfl
  | succ n => rfl
 rw [hc]
 simp [List.map_append]
noncomputable abbrev insX (n0 : Nat) : Cx := ⟨Pr, fun r k => (r == 3 && k == 1000000) || (k == 0), a1j, 71, [.tmp 4], n0⟩
theorem d8L {H : Heap} (hH : a0z H) {n0 : Nat} (hn : n0 ≤ H.length) {rd : AV} (hrd : Ref (· < H.length) rd) {s : List UInt8} (hs : s.length ≤ 262144) {R : AV → Heap → Prop} {T : List AItem}
  (hyes : ∀ v, wsV (a1L 32 s) = some v → Safe (insX n0) [.code (.seq (.region a1h false) (.seq (.region a1g false) .ret))] [(0, rd), (7, vecV v)] (hap H []) R)
  (hno : wsV (a1L 32 s) = none → ∀ L, R (.int .i64 4) (hap H L)) :
  Safe (insX n0) [.code (.seq (.region a2F false) (.seq (.seq (.region a2E false) (.block 0 (.loop a5v))) (.seq (.region a1h false) (.seq (.region a1g false) .ret))))] [(0, rd), (5, strU s)] (hap H []) R := by
 have hrn : ∀ j, nref (lid H j) rd = true := fun j => a0l.2 (hrd.mono fun k hk => by have : k < H.length := hk; show k ≠ H.length + j; omega)
 have hsp := d4Z s 32 hs
 have hle := c9o 32 s
 generalize hW : a1L 32 s = ws at hyes hno hsp hle
 refine Safe.rg rfl ?_
 simp only [a2F, E3, a0b, a0c, a0d, a0a, seval]
 refine Safe.rg rfl ?_
 simp only [a2E, E3, a0b, a0c, a0d, a0a, seval]
 first | refine (hsp).acall ?_ | refine (hsp).dcall ?_ | refine (hsp).dgcall ?_
 try simp only [E3, a0b, a0c, a0d, a0a, seval]
 simp only [List.length_map]
 refine Safe.lp rfl ?_
 refine Safe.keep [0, 7, 42, 43, 44] ?_
 try simp only [E3, a0b, a0c, a0d, a0a, seval]
 refine Safe.loopP (ws.length) (fun i => [(0, rd), (7, .mu (lid H 0) 0 i (cap0 i)), (42, .sl 1 (ws.map strU)), (43, .int .i64 ws.length), (44, .int .i64 i)]) (fun i => hap H [some ⟨2, ((ws.take i).map gz).map ZI.av⟩]) (fun i => ∀ j (hj : j < ws.length), j < i → (b6q ws[j]).isSome = true) rfl rfl ?_ (fun i hi ho ih => ?_) (fun ho => ?_)
 ·intro j hj h; omega
 ·have hlt : ((i : Int) < (ws.length : Int)) = True := eq_true (by omega)
  have hiw : IntKind.wrap .i64 ((i : Int) + 1) = ((i + 1 : Nat) : Int) := by rw [a0e] <;> omega
  have hix : ∀ L, idxV L 1 (.sl 1 (ws.map strU)) (.int .i64 (i : Nat)) = some (.ro (strU ws[i]) 0) := fun L => d3x L 1 strU ws .i64 i hi
  refine Safe.inLoop ?_
  refine Safe.rg rfl ?_
  simp only [a2D, hlt, E3, a0b, a0c, a0d, a0a, seval]
  refine Safe.cd rfl ?_
  simp only [E3, a0b, a0c, a0d, a0a, seval]
  refine Safe.rg rfl ?_
  simp only [a5q, hix, a3e, E3, a0b, a0c, a0d, a0a, seval]
  cases hw : b6q ws[i] with
  | none =>
   refine Safe.rg rfl ?_
   simp only [a2s, E3, a0b, a0c, a0d, a0a, seval]
   refine (e0u hw _).mono fun r' H' ⟨⟨a, e, he, hr⟩, hH'⟩ => ?_
   subst hr
   subst hH'
   have hne : (e = 0) = False := eq_false he
   simp only [E3, a0b, a0c, a0d, a0a, seval]
   refine Safe.rg rfl ?_
   simp only [a2r, hne, E3, a0b, a0c, a0d, a0a, seval]
   refine Safe.cd rfl ?_
   simp only [E3, a0b, a0c, a0d, a0a, seval]
   refine Safe.rg rfl ?_
   simp only [a4s, E3, a0b, a0c, a0d, a0a, seval]
   refine Safe.rt rfl ?_
   simp only [E3, a0b, a0c, a0d, a0a, seval]
   refine hno ?_ _
   unfold wsV
   rw [if_neg]
   intro hall
   have := List.all_eq_true.1 hall ws[i] (List.getElem_mem hi)
   rw [hw] at this
   cases this
  | some z =>
   refine Safe.rg rfl ?_
   simp only [a2s, E3, a0b, a0c, a0d, a0a, seval]
   first | refine (c2e hw).acall ?_ | refine (c2e hw).dcall ?_ | refine (c2e hw).dgcall ?_
   try simp only [E3, a0b, a0c, a0d, a0a, seval]
   refine Safe.rg rfl ?_
   simp only [a2r, E3, a0b, a0c, a0d, a0a, seval]
   refine Safe.cd rfl ?_
   simp only [E3, a0b, a0c, a0d, a0a, seval]
   refine Safe.rg rfl ?_
   simp only [a4r, E3, a0b, a0c, a0d, a0a, seval]
   have ha : AV.agg [.bool (decide (z < 0)), natV (limbs z.natAbs)] = (gz ws[i]).av := by unfold gz; rw [hw]; rfl
   have hrc : RC [some ⟨2, ((ws.take i).map gz).map ZI.av⟩, some ⟨2, [Z z]⟩] := by repeat (first | exact RC.nil | refine RC.none ?_ | refine RC.mo ?_ | refine RC.io ?_ | refine RC.row ZI.cl ?_ | refine RC.cons (a1I _) ?_ | refine RC.row a0x ?_ | refine RC.emp ?_ | refine RC.zero ?_ | refine RC.one (Z_cl _) ?_ | refine RC.one (ZI.cl _) ?_ | refine RC.one (a0x _) ?_)
   have happ := e6t hH (Nat.le_trans hn (a5g H 0)) ((ws.take i).map gz) (gz ws[i]) ((ws.take (i + 1)).map gz) hrc (n := i) (by rw [List.length_map, List.length_take]; omega) (by rw [List.take_add_one, List.map_append, List.getElem?_eq_getElem hi]; rfl) (by omega)
   simp only [ha, happ, c7m]
   refine Safe.keep [0, 7, 42, 43, 44] ?_
   simp only [hrn, E3, a0b, a0c, a0d, a0a, seval]
   refine Safe.dropG (L := [_]) (o := _) hH hn (by simp only [List.all_cons, List.all_nil, hrn, E3, a0b, a0c, a0d, a0a, seval]) (by
    intro b hb a ha'
    have hrc' : RC [some ⟨2, ((ws.take (i + 1)).map gz).map ZI.av⟩] := by repeat (first | exact RC.nil | refine RC.none ?_ | refine RC.mo ?_ | refine RC.io ?_ | refine RC.row ZI.cl ?_ | refine RC.cons (a1I _) ?_ | refine RC.row a0x ?_ | refine RC.emp ?_ | refine RC.zero ?_ | refine RC.one (Z_cl _) ?_ | refine RC.one (ZI.cl _) ?_ | refine RC.one (a0x _) ?_)
    exact a0J (hrc' b hb a ha')) ?_
   refine Safe.rg rfl ?_
   simp only [a4q, hiw, E3, a0b, a0c, a0d, a0a, seval]
   refine Safe.keep [0, 7, 42, 43, 44] ?_
   simp only [E3, a0b, a0c, a0d, a0a, seval]
   exact ih fun j hj hj' => by
    rcases Nat.lt_or_ge j i with h | h
    ·exact ho j hj h
    ·have : j = i := by omega
     subst this; rw [hw]; rfl
 ·refine Safe.inLoop ?_
  have hlt : ((ws.length : Int) < (ws.length : Int)) = False := eq_false (by omega)
  refine Safe.rg rfl ?_
  simp only [a2D, hlt, E3, a0b, a0c, a0d, a0a, seval]
  refine Safe.cd rfl ?_
  simp only [E3, a0b, a0c, a0d, a0a, seval]
  refine Safe.keep [0, 7] ?_
  simp only [E3, a0b, a0c, a0d, a0a, seval]
  have hall : wsV ws = some (ws.map gz) := by
   unfold wsV
   rw [if_pos]
   rw [List.all_eq_true]
   intro w hw
   obtain ⟨j, hj, rfl⟩ := List.mem_iff_getElem.1 hw
   exact ho j hj hj
  rw [List.take_length]
  refine Safe.freezeB 0 hH hn rfl (a4E 2 ZI.av _ ZI.cl) ?_
  refine Safe.keep [0, 7] ?_
  have hrf : ∀ b, frz (lid H 0) b rd = rd := fun b => a4l (a0l.1 (hrn 0))
  simp only [hrf, e5q H 0 (ws.map gz) ws.length (cap0 ws.length) (by rw [List.length_map]), E3, a0b, a0c, a0d, a0a, seval]
  refine Safe.dropG (L := []) (o := none) hH hn ?_ (fun b hb => nomatch hb) ?_
  ·simp only [List.all_cons, List.all_nil, hrn, E3, a0b, a0c, a0d, a0a, seval]
  ·refine Safe.exit rfl ?_
   exact hyes _ hall
theorem Safe.dropN {x : Cx} {todo : List AItem} {env : Env} {H L : Heap} {R : AV → Heap → Prop} {o : Option Blk} (hH : a0z H) (hx : x.n0 ≤ lid H L.length) (he : env.all (fun p => nref (lid H L.length) p.2) = true)
  (hL : ∀ b, some b ∈ L → ∀ a ∈ b.flat, nref (lid H L.length) a = true) (h : Safe x todo env (hap H L) R) : Safe x todo env (hap H (L ++ [o])) R := by
 intro φ w tmps b k cs hg hn hb hk htd hsz hok hrep
 have hlen : (hap H (L ++ [o])).length = lid H L.length + 1 := by simp [hap, lid, Nat.add_assoc]
 have lt : ∀ {a}, Ref (· < (hap H (L ++ [o])).length) a → Ref (· ≠ lid H L.length) a → Ref (· < lid H L.length) a := fun h1 h2 => (h1.both h2).mono fun i ⟨q1, q2⟩ => by rw [hlen] at q1; show i < _; omega
 have htake : (hap H (L ++ [o])).take (lid H L.length) = hap H L := by
  simp only [hap, lid, ← List.append_assoc]
  rw [show H.length + L.length = (H ++ L).length by simp, List.take_left']
  rfl
 have hcut := HOk.cut (E := ⟨φ, hap H (L ++ [o]), w⟩) hok (lid H L.length) (by
  intro j bj hj hbj a ha
  refine lt (hok.refs hbj a ha) ?_
  simp only [hap] at hbj
  rcases Nat.lt_or_ge j H.length with hlt | hge
  ·rw [List.getElem?_append_left hlt] at hbj
   exact (hH j bj hbj a ha).mono fun i hi => by show i ≠ H.length + L.length; have : i < H.length := hi; omega
  ·rw [List.getElem?_append_right hge] at hbj
   have hj2 : j - H.length < L.length := by simp only [lid] at hj; omega
   rw [List.getElem?_append_left hj2] at hbj
   exact a0l.1 (hL bj (List.mem_of_getElem? hbj) a ha))
 simp only [htake] at hcut
 obtain ⟨v, w', fr, r, φ', H', q1, q2, q3, q4, q5, q6⟩ := h φ w tmps b k cs hg (by simp [hap]; unfold lid at hx; omega) hb hk htd hsz hcut.1 (fun t => (hrep t).mono hcut.2 (lt (hrep t).ref (b7l he t)))
 exact ⟨v, w', fr, r, φ', H', q1, q2, q3, q4, (hcut.2.sub fun i hi => by show i < H.length + L.length; have : i < x.n0 := hi; unfold lid at hx; omega).trans q5, q6⟩
theorem Safe.freezeN {x : Cx} {todo : List AItem} {env : Env} {H : Heap} {R : AV → Heap → Prop} (i : Nat) {L : Heap} {b : Blk} (hH : a0z H) (hx : x.n0 ≤ lid H i) (hl : L[i]? = some (some b)) (hcl : ∀ c ∈ b.flat, Cl c)
  (h : Safe x todo (frzE (lid H i) b env) (hap H ((frzL (lid H i) b L).set i none)) R) (hpos : 0 < b.wd := by exact Nat.zero_lt_succ _) : Safe x todo env (hap H L) R := by
 refine Safe.freezeG (id := lid H i) (b := b) hx ?_ hcl ?_ hpos
 ·unfold hap lid
  rw [List.getElem?_append_right (by omega), Nat.add_sub_cancel_left]; exact hl
 ·rw [c8x hH]; exact h
theorem e0T {H X : Heap} {B B' : Bk} {nx nm rw : AV} : setB (hap H (rdL H B nx nm rw X)) (lid H 0) B' = hap H (rdL H B' nx nm rw X) := by
 unfold setB
 rw [a2Q]
 rfl
theorem d8N : deps (a9e Tryz.f49 3) = [[], [0], [1], [2], [], [4], [5], [6], [], [8], [9], [10], [3, 7, 11], [12, 12, 0, 1, 2, 3, 4, 5, 6, 7, 8, 9, 10, 11, 12]] := by kernel_rfl
theorem e1X : a5S Pr (fun _ k => k == 0) 71 3 (a9e Tryz.f49 3) 0 (a9e Tryz.f49 3).toList = some a2Z := by kernel_rfl
theorem e1Y : (Pr.follows .mixedOrders && b3T 0 (a9e Tryz.f49 3).toList) = true := by kernel_rfl
theorem e7A : GB 65536 + GB 65536 + 8 < 17592186044000 := by unfold GB; decide
theorem d8M {H : Heap} {B : Bk} (hB : B.Ok) {nm : List UInt8} {m : List (List ZI)} (hmo : Mok 65536 m) {rw : AV} (hle : Le rw (matV m)) {R : AV → Heap → Prop} {todo : List AItem} (hR : R (.int .i64 (putE m)) (hap H (rdL H (putB B nm m) (fOut H) (strU nm) rw []))) :
  Safe (insX (lid H 3)) (.code (.seq (.raw 3 (a9e Tryz.f49 3) true) .ret) :: todo) [(0, .loc (lid H 2) 0 0)] (hap H (rdL H B (fOut H) (strU nm) rw [])) R := by
 have hput := d7N (d3I (H := H) (X := []) (nx := fOut H) (nm := strU nm) (rw := rw) hB) nm m 65536 hmo e7A
 rw [e0T] at hput
 have hput2 : ∀ {R : AV → Heap → Prop}, R (.int .i64 (putE m)) (hap H (rdL H (putB B nm m) (fOut H) (strU nm) rw [])) → a0h Pr a2k [.loc (lid H 1) 0 0, strU nm, rw] (hap H (rdL H B (fOut H) (strU nm) rw [])) R := fun h => a0h.argsLe (args' := [.loc (lid H 1) 0 0, strU nm, matV m]) rfl (by
  intro k a c ha hc
  match k with
  | 0 => simp at ha hc; subst ha; subst hc; exact .refl _
  | 1 => simp at ha hc; subst ha; subst hc; exact .refl _
  | 2 => simp at ha hc; subst ha; subst hc; exact hle
  | k + 3 => simp at ha) (hput.acall h)
 refine Safe.seq ?_
 refine Safe.rawT rfl e1X e1Y ⟨[[], [0], [1], [2], [], [4], [5], [6], [], [8], [9], [10], [3, 7, 11], [12, 12, 0, 1, 2, 3, 4, 5, 6, 7, 8, 9, 10, 11, 12]], [12], 4⟩ d8N (by decide)
  [.loc (lid H 2) 0 0, .loc (lid H 2) 0 0, .loc (lid H 2) 0 0, .loc (lid H 1) 0 0, .loc (lid H 2) 0 0, .loc (lid H 2) 0 0, .loc (lid H 2) 0 2, strU nm, .loc (lid H 2) 0 0, .loc (lid H 2) 0 0, .loc (lid H 2) 0 3, rw, .int .i64 (putE m), .int .i64 (putE m)] rfl (by decide) [0] (by decide) (by decide)
  (fun k => if k = 0 then hap H (rdL H B (fOut H) (strU nm) rw []) else hap H (rdL H (putB B nm m) (fOut H) (strU nm) rw [])) rfl ?_ ?_
 ·simp only [a2Z, d4w, Nat.zero_add, Nat.reduceAdd]
  refine ⟨?_, ?_, ?_, ?_, ?_, ?_, ?_, ?_, ?_, ?_, ?_, ?_, ?_, ?_, trivial⟩
  all_goals intro k hk hm env2 hd ho K hK
  all_goals obtain rfl | rfl := (show k = 0 ∨ k = 1 from by have : k ≤ 1 := hk; omega)
  all_goals first | (exfalso; revert hm; decide) | (simp only [Know, Was, Plan.d, List.getD_eq_getElem?_getD, List.getElem?_cons_zero, List.getElem?_cons_succ, Option.getD_some, Option.bind_some, E3, a0b, a0c, a0d, a0a, seval] at hd ho; simp only [hd, ho, E3, a0b, a0c, a0d, a0a, seval]; first | exact hK | (refine hput2 ?_; simp only [E3, a0b, a0c, a0d, a0a, seval]; exact hK))
 ·simp only [outs, a2Z, List.length_cons, List.length_nil]
  simp only [E3, a0b, a0c, a0d, a0a, seval]
  refine Safe.rt rfl ?_
  simp only [E3, a0b, a0c, a0d, a0a, seval]
  exact hR
def b1a (m : List (List ZI)) : Heap := if m = [] then [] else [some ⟨1, m.map vecV⟩]
def b1b (H : Heap) (m : List (List ZI)) : AV := if m = [] then .nil else .mu (lid H 3) 0 m.length none
def c9x : List UInt8 := [101, 110, 100]
theorem d3v : AV.str ⟨#[101, 110, 100]⟩ = strU c9x := rfl
theorem e4d : AV.str ⟨#[32]⟩ = strU [32] := rfl
def InsR (H : Heap) (B : Bk) (nm : List UInt8) (m : List (List ZI)) (line : List UInt8) (r : AV) (H' : Heap) : Prop :=
 if line = c9x then r = .int .i64 (putE m) ∧ ∃ rw, Cl rw ∧ H' = hap H (rdL H (putB B nm m) (fOut H) (strU nm) rw [])
 else match b5K line with
  | some v => r = .int .i64 0 ∧ H' = hap H (rdL H B (fIn H) (strU nm) (b1b H (m ++ [v])) (b1a (m ++ [v])))
  | none => r = .int .i64 4 ∧ ∃ L, H' = hap H L
theorem e2g {H : Heap} {B : Bk} {nm : List UInt8} {m : List (List ZI)} : (frzL (lid H 3) ⟨1, m.map vecV⟩ (rdL H B (fOut H) (strU nm) (.mu (lid H 3) 0 m.length none) [some ⟨1, m.map vecV⟩])).set 3 none = rdL H B (fOut H) (strU nm) (matV m) [none] := by
 have h1 : frz (lid H 3) ⟨1, m.map vecV⟩ B.av = B.av := by unfold Bk.av; simp only [frz]
 have h2 : frz (lid H 3) ⟨1, m.map vecV⟩ (fOut H) = fOut H := a4l (.bfn _ _ fun c hc => by
  simp only [List.mem_singleton] at hc
  subst hc
  exact .loc _ _ _ (by unfold lid; omega))
 simp only [rdL, rdB, Bk.blk, d0C, d3Z, List.map_cons, List.map_nil, h1, h2, d9h, a7T, d0z, c7F, d9e H 3 m m.length none rfl, d2p, E3, a0b, a0c, a0d, a0a, seval]
theorem Safe.heq {x : Cx} {todo : List AItem} {env : Env} {H H' : Heap} {R : AV → Heap → Prop} (e : H = H') (h : Safe x todo env H' R) : Safe x todo env H R := e ▸ h
theorem e1h {H : Heap} {B : Bk} {nx nm rw : AV} {i : Nat} (hi : 3 ≤ i) (h1 : nref (lid H i) nx = true) (h2 : nref (lid H i) nm = true) (h3 : nref (lid H i) rw = true) : ∀ b, some b ∈ rdL H B nx nm rw [] → ∀ a ∈ b.flat, nref (lid H i) a = true := by
 intro b hb a ha
 simp only [rdL, rdB, List.mem_cons, Option.some.injEq, List.not_mem_nil, or_false] at hb
 rcases hb with rfl | rfl | rfl
 ·simp [Blk.flat, Bk.blk, Bk.av, AV.cells] at ha
 ·simp [Blk.flat, AV.cells] at ha
  subst ha
  exact a7J H i 0 true (by omega)
 ·simp [Blk.flat, AV.cells] at ha
  rcases ha with rfl | rfl | rfl | rfl
  ·exact a0l.2 (.loc _ _ _ (by unfold lid; omega))
  ·exact h1
  ·exact h2
  ·exact h3
theorem d9o {H : Heap} {i : Nat} (hi : 3 ≤ i) : nref (lid H i) (fOut H) = true := a0l.2 (.bfn _ _ fun c hc => by
 simp only [List.mem_singleton] at hc
 subst hc
 exact .loc _ _ _ (by unfold lid; omega))
theorem e2p {H : Heap} {i : Nat} (hi : 3 ≤ i) : nref (lid H i) (fIn H) = true := a0l.2 (.bfn _ _ fun c hc => by
 simp only [List.mem_singleton] at hc
 subst hc
 exact .loc _ _ _ (by unfold lid; omega))
theorem d5k {id : Nat} {cs : List AV} (h : nref id (.agg cs) = false) : a3B id (.agg cs) = .agg (cs.map (topd id)) := by
 unfold a3B; rw [if_neg (by rw [h]; decide)]
theorem d7E {H : Heap} {B : Bk} {nm : List UInt8} {m : List (List ZI)} {n : Nat} (v : List ZI) : (a2a (lid H 3) (rdL H B (fIn H) (strU nm) (.mu (lid H 3) 0 n none) [some ⟨1, m.map vecV⟩])).set 3 (some ⟨1, m.map vecV ++ [vecV v]⟩) = rdL H B (fIn H) (strU nm) .top [some ⟨1, (m ++ [v]).map vecV⟩] := by
 have n1 : nref (lid H 3) (.loc (lid H 1) 0 0) = true := a0l.2 (.loc _ _ _ (by unfold lid; omega))
 have n2 := e2p (H := H) (Nat.le_refl 3)
 have n3 : nref (lid H 3) (strU nm) = true := a0J (a1l _)
 have n4 : nref (lid H 3) (.mu (lid H 3) 0 n none) = false := by
  rw [Bool.eq_false_iff]
  intro h
  cases a0l.1 h with | mu _ _ _ _ h => exact h rfl
 have n5 : nref (lid H 3) (.mp true (lid H 0)) = true := a7J H 3 0 true (by omega)
 have n6 : nref (lid H 3) B.av = true := a0l.2 (by unfold Bk.av; exact .ms _ _ _ _)
 have e : a3B (lid H 3) (.agg [.loc (lid H 1) 0 0, fIn H, strU nm, .mu (lid H 3) 0 n none]) = .agg [.loc (lid H 1) 0 0, fIn H, strU nm, .top] := by
  rw [d5k (by rw [b6N]; simp [n4])]
  simp only [List.map_cons, List.map_nil, topd, n1, n2, n3, n4, ↓reduceIte, Bool.false_eq_true]
 have e2 : a3B (lid H 3) (.agg [.mp true (lid H 0)]) = .agg [.mp true (lid H 0)] := b0Z (by rw [b6N]; simp [n5])
 simp only [rdL, rdB, Bk.blk, b5h, b8g, c2L, List.map_cons, List.map_nil, e, e2, b0Z n6, List.set_cons_succ, List.set_cons_zero, List.map_append]
theorem d8K {H : Heap} (hH : a0z H) {B : Bk} (hB : B.Ok) {nm : List UInt8} {m : List (List ZI)} (hm : m.length ≤ 262144) (hmo : Mok 65536 m) {line : List UInt8} (hl : line.length ≤ 262144) :
  b0a Pr a1j (lid H 3) [.loc (lid H 2) 0 0, strU line] (hap H (rdL H B (fIn H) (strU nm) (b1b H m) (b1a m))) (InsR H B nm m line) := by
 have hcp := b4R line [32] (by omega)
 refine b0a.open b2t b2r (Nat.le_of_ble_eq_true rfl) (by simp [hap, lid, rdL]) fun hG => ?_
 rw [a1Y]
 refine Safe.rg rfl ?_
 simp only [a5u, E3, a0b, a0c, a0d, a0a, seval]
 by_cases hend : line = c9x
 ·have he : binV .eql (strU line) (strU c9x) = some (.bool true) := by rw [a2h, hend]; simp
  refine Safe.rg rfl ?_
  simp only [a2H, d3v, he, E3, a0b, a0c, a0d, a0a, seval]
  refine Safe.cd rfl ?_
  simp only [E3, a0b, a0c, a0d, a0a, seval]
  refine Safe.keep [0] ?_
  simp only [E3, a0b, a0c, a0d, a0a, seval]
  refine Safe.rg rfl ?_
  simp only [a5t, rdL, rdB, d1J, d2G, c4W, E3, a0b, a0c, a0d, a0a, seval]
  refine Safe.keep [0] ?_
  simp only [E3, a0b, a0c, a0d, a0a, seval]
  have hR : ∀ rw, Cl rw → InsR H B nm m line (.int .i64 (putE m)) (hap H (rdL H (putB B nm m) (fOut H) (strU nm) rw [])) := fun rw hc => by
   unfold InsR; rw [if_pos hend]; exact ⟨rfl, rw, hc, rfl⟩
  by_cases hm0 : m = []
  ·rw [show b1b H m = .nil from by unfold b1b; rw [if_pos hm0], show b1a m = [] from by unfold b1a; rw [if_pos hm0]]
   exact d8M hB hmo (by rw [hm0]; exact Le.nil 1 (by decide)) (hR _ .nil)
  ·rw [show b1b H m = .mu (lid H 3) 0 m.length none from by unfold b1b; rw [if_neg hm0], show b1a m = [some ⟨1, m.map vecV⟩] from by unfold b1a; rw [if_neg hm0]]
   refine Safe.freezeN 3 hH (Nat.le_refl _) rfl (a4E 1 vecV _ a0x) ?_
   refine Safe.keep [0] ?_
   have hfz := e2g (H := H) (B := B) (nm := nm) (m := m)
   refine Safe.heq (congrArg (hap H) hfz) ?_
   simp only [a7T, E3, a0b, a0c, a0d, a0a, seval]
   refine Safe.dropN (L := rdL H B (fOut H) (strU nm) (matV m) []) (o := none) hH (Nat.le_refl _) ?_ (e1h (Nat.le_refl 3) (d9o (Nat.le_refl 3)) (a0J (a1l _)) (b3B _ _)) ?_
   ·show (([(0, AV.loc (lid H 2) 0 0)] : Env).all fun p => nref (lid H 3) p.2) = true
    simp only [List.all_cons, List.all_nil, c1I, E3, a0b, a0c, a0d, a0a, seval]
   ·exact d8M hB hmo (Le.refl _) (hR _ (a9V m))
 ·have he : binV .eql (strU line) (strU c9x) = some (.bool false) := by rw [a2h]; simp [hend]
  refine Safe.rg rfl ?_
  simp only [a2H, d3v, he, E3, a0b, a0c, a0d, a0a, seval]
  refine Safe.cd rfl ?_
  simp only [E3, a0b, a0c, a0d, a0a, seval]
  refine Safe.rg rfl ?_
  simp only [a5s, e4d, E3, a0b, a0c, a0d, a0a, seval]
  first | refine (hcp).acall ?_ | refine (hcp).dcall ?_ | refine (hcp).dgcall ?_
  try simp only [E3, a0b, a0c, a0d, a0a, seval]
  cases hp : pre [32] line with
  | false =>
   simp only [E3, a0b, a0c, a0d, a0a, seval]
   refine Safe.rg rfl ?_
   simp only [a2G, E3, a0b, a0c, a0d, a0a, seval]
   refine Safe.cd rfl ?_
   simp only [E3, a0b, a0c, a0d, a0a, seval]
   refine Safe.rg rfl ?_
   simp only [a5r, E3, a0b, a0c, a0d, a0a, seval]
   refine Safe.rt rfl ?_
   simp only [E3, a0b, a0c, a0d, a0a, seval]
   unfold InsR b5K
   rw [if_neg hend, hp]
   exact ⟨rfl, _, rfl⟩
  | true =>
   simp only [E3, a0b, a0c, a0d, a0a, seval]
   refine Safe.rg rfl ?_
   simp only [a2G, E3, a0b, a0c, a0d, a0a, seval]
   refine Safe.cd rfl ?_
   simp only [E3, a0b, a0c, a0d, a0a, seval]
   refine Safe.keep [0, 5] ?_
   simp only [E3, a0b, a0c, a0d, a0a, seval]
   refine Safe.skip ?_
   refine Safe.heq (a1Y _).symm ?_
   have hdl : (line.drop 1).length ≤ 262144 := by rw [List.length_drop]; omega
   refine d8L (H := hap H (rdL H B (fIn H) (strU nm) (b1b H m) (b1a m))) hG (by simp [hap, lid, rdL]) (.loc _ _ _ (by simp [hap, lid, rdL])) hdl (T := []) (fun v hv => ?_) (fun hno L => ?_)
   ·have hlv : b5K line = some v := by unfold b5K; rw [if_pos hp]; exact hv
    have hR : InsR H B nm m line (.int .i64 0) (hap H (rdL H B (fIn H) (strU nm) (b1b H (m ++ [v])) (b1a (m ++ [v])))) := by
     unfold InsR
     rw [if_neg hend, hlv]
     exact ⟨rfl, rfl⟩
    rw [a1Y]
    rw [show b1b H (m ++ [v]) = .mu (lid H 3) 0 (m.length + 1) none from by unfold b1b; rw [if_neg (by simp)]; simp, show b1a (m ++ [v]) = [some ⟨1, (m ++ [v]).map vecV⟩] from by unfold b1a; rw [if_neg (by simp)]] at hR
    have hsrc : ∀ H', a0Z H' 1 false (.sl 1 [vecV v]) = some [vecV v] := fun H' => a2b H' 1 [vecV v]
    by_cases hm0 : m = []
    ·rw [show b1b H m = .nil from by unfold b1b; rw [if_pos hm0], show b1a m = [] from by unfold b1a; rw [if_pos hm0]]
     subst hm0
     have happ := fun env => c8N (n0 := lid H 3) (env := env) (H := H) (L := rdL H B (fIn H) (strU nm) .nil []) 1 24 false (.sl 1 [vecV v]) [vecV v] (hsrc _) (by decide) (by simp) (by simp)
     simp only [rdL, rdB] at happ ⊢
     refine Safe.rg rfl ?_
     simp only [a1h, happ, E3, a0b, a0c, a0d, a0a, seval]
     refine Safe.rg rfl ?_
     simp only [a1g, E3, a0b, a0c, a0d, a0a, seval]
     refine Safe.rt rfl ?_
     simp only [E3, a0b, a0c, a0d, a0a, seval]
     exact hR
    ·rw [show b1b H m = .mu (lid H 3) 0 m.length none from by unfold b1b; rw [if_neg hm0], show b1a m = [some ⟨1, m.map vecV⟩] from by unfold b1a; rw [if_neg hm0]]
     have happ := fun env => d3e (env := env) (L := rdL H B (fIn H) (strU nm) (.mu (lid H 3) 0 m.length none) [some ⟨1, m.map vecV⟩]) hH (i := 3) (n0 := lid H 3) (wd := 1) (bytes := 24) (len := m.length) (y := .sl 1 [vecV v]) (xs := m.map vecV) (ys := [vecV v]) rfl (by rw [List.length_map]) (Nat.le_refl _) (hsrc _) (by
      intro a ha
      simp only [List.flatMap_cons, List.flatMap_nil, List.append_nil] at ha
      exact a0J (a5T (a0x v) a ha)) (by
      intro x hx
      obtain ⟨y, _, rfl⟩ := List.mem_map.1 hx
      exact c9i _ y) (by simp; omega) (by simp; omega)
     simp only [d7E] at happ
     simp only [rdL, rdB] at happ ⊢
     refine Safe.rg rfl ?_
     simp only [a1h, happ, c1I, a0J (a0x v), E3, a0b, a0c, a0d, a0a, seval]
     refine Safe.rg rfl ?_
     simp only [a1g, E3, a0b, a0c, a0d, a0a, seval]
     refine Safe.rt rfl ?_
     simp only [E3, a0b, a0c, a0d, a0a, seval]
     exact hR
   ·unfold InsR
    rw [if_neg hend]
    rw [show b5K line = none from by unfold b5K; rw [if_pos hp]; exact hno]
    exact ⟨rfl, rdL H B (fIn H) (strU nm) (b1b H m) (b1a m) ++ L, by simp [hap]⟩
end Go.Abs
namespace Go.Abs
open Go.Proofs
theorem e3w : ∀ (ks : List (List UInt8)) (k k' : List UInt8), ix (ks ++ [k]) k' = match ix ks k' with
  | some i => some i
  | none => if k' = k then some ks.length else none
 | [], k, k' => by simp [ix]
 | x :: r, k, k' => by
  simp only [List.cons_append, ix, e3w r k k']
  by_cases h : k' = x
  ·rw [if_pos h, if_pos h]
  ·rw [if_neg h, if_neg h]
   cases ix r k' with
   | some i => rfl
   | none =>
    by_cases h2 : k' = k
    ·simp [h2]
    ·simp [h2]
theorem e7v {ks : List (List UInt8)} {a b : List UInt8} {i : Nat} (h1 : ix ks a = some i) (h2 : ix ks b = some i) : a = b := by
 have q1 := d8H h1
 have q2 := d8H h2
 rw [q1] at q2
 exact Option.some.inj q2
theorem d8X {B : Bk} (hB : B.Ok) (k k' : List UInt8) (l : List (List ZI)) : (B.put k l).get? k' = if k' = k then some l else B.get? k' := by
 unfold Bk.put Bk.get?
 cases hk : ix B.ks k with
 | some i =>
  simp only
  cases hk' : ix B.ks k' with
  | none =>
   rw [if_neg]
   ·rfl
   ·intro e; subst e; rw [hk] at hk'; cases hk'
  | some j =>
   by_cases e : k' = k
   ·subst e
    rw [hk] at hk'
    cases hk'
    have := d8G hk
    rw [if_pos rfl]
    simp only [Option.map_some, Option.some.injEq]
    rw [List.getD_eq_getElem?_getD, List.getElem?_set_self (by rw [hB.l2, ← hB.l1]; exact this)]
    rfl
   ·rw [if_neg e]
    have hij : i ≠ j := fun h => by subst h; exact e (e7v hk' hk)
    simp only [Option.map_some, Option.some.injEq]
    rw [List.getD_eq_getElem?_getD, List.getElem?_set_ne hij, ← List.getD_eq_getElem?_getD]
 | none =>
  simp only [e3w]
  cases hk' : ix B.ks k' with
  | some j =>
   have hj := d8G hk'
   have e : k' ≠ k := fun e => by subst e; rw [hk] at hk'; cases hk'
   ·simp only [if_neg e, Option.map_some, Option.some.injEq]
    rw [List.getD_eq_getElem?_getD, List.getElem?_append_left (by rw [hB.l2, ← hB.l1]; exact hj), ← List.getD_eq_getElem?_getD]
  | none =>
   by_cases e : k' = k
   ·subst e
    simp only [↓reduceIte, Option.map_some, Option.some.injEq]
    rw [List.getD_eq_getElem?_getD, List.getElem?_append_right (by rw [hB.l2, ← hB.l1]; exact Nat.le_refl _), hB.l1, hB.l2, Nat.sub_self]
    rfl
   ·simp [e]
structure RS where
 B : Bk
 nm : List UInt8
 m : List (List ZI)
 inn : Bool
noncomputable def a8s (s : RS) (line : List UInt8) : Sum RS Int :=
 if line = [] ∨ line.getD 0 0 = 35 then .inl s
 else if s.inn then
  if line = c9x then (if putE s.m = 0 then .inl ⟨putB s.B s.nm s.m, s.nm, [], false⟩ else .inr (putE s.m))
  else match b5K line with
   | some v => .inl ⟨s.B, s.nm, s.m ++ [v], true⟩
   | none => .inr 4
 else if outE s.B line = 0 then .inl ⟨s.B, line.drop 8, [], true⟩ else .inr (outE s.B line)
noncomputable def runR : RS → Nat → List (List UInt8) → Sum (RS × Nat) (Nat × Int)
 | s, n, [] => .inl (s, n)
 | s, n, line :: r => match a8s s line with
  | .inl s' => runR s' (n + 1) r
  | .inr e => .inr (n + 1, e)
def c0D : Nat → List UInt8 → List (List UInt8)
 | 0, _ => []
 | n + 1, l => if l = [] then [] else cutA 10 l :: c0D n (cutB 10 l)
def c0C (l : List UInt8) : List (List UInt8) := c0D l.length l
theorem d2R (c : UInt8) {l : List UInt8} (h : l ≠ []) : (cutB c l).length < l.length := by
 unfold cutB
 rw [List.length_tail]
 have h1 := (List.dropWhile_sublist (p := (· != c)) (l := l)).length_le
 have : 0 < l.length := List.length_pos_iff.2 h
 omega
theorem e5T (c : UInt8) (l : List UInt8) : (cutA c l).length ≤ l.length := (List.takeWhile_sublist _).length_le
theorem d0e : ∀ (n m : Nat) (l : List UInt8), l.length ≤ n → l.length ≤ m → c0D n l = c0D m l
 | 0, 0, l, _, _ => rfl
 | 0, m + 1, l, h, _ => by
  have : l = [] := List.length_eq_zero_iff.1 (Nat.le_zero.1 h)
  simp [c0D, this]
 | n + 1, 0, l, _, h => by
  have : l = [] := List.length_eq_zero_iff.1 (Nat.le_zero.1 h)
  simp [c0D, this]
 | n + 1, m + 1, l, h1, h2 => by
  simp only [c0D]
  by_cases h : l = []
  ·rw [if_pos h, if_pos h]
  ·have := d2R 10 h
   rw [if_neg h, if_neg h, d0e n m (cutB 10 l) (by omega) (by omega)]
theorem d2q {l : List UInt8} (h : l ≠ []) : c0C l = cutA 10 l :: c0C (cutB 10 l) := by
 have h1 := d2R 10 h
 unfold c0C
 obtain ⟨n, hn⟩ : ∃ n, l.length = n + 1 := ⟨l.length - 1, by omega⟩
 rw [hn]
 simp only [c0D]
 rw [if_neg h, d0e n _ _ (by omega) (Nat.le_refl _)]
noncomputable def finR : Sum (RS × Nat) (Nat × Int) → Sum Bk (Nat × Int)
 | .inl (s, n) => if s.inn then .inr (n + 1, 4) else .inl s.B
 | .inr p => .inr p
def rs0 : RS := ⟨bk0, [], [], false⟩
noncomputable def d1I (text : List UInt8) : Sum Bk (Nat × Int) := if 262144 < text.length then .inr (0, 2) else finR (runR rs0 0 (c0C text))
structure RInv (s : RS) : Prop where
 ok : s.B.Ok
 mok : Mok 65536 s.m
 yes : s.inn = true → s.nm ≠ [] ∧ s.B.get? s.nm = none
 no : s.inn = false → s.nm = [] ∨ (s.B.get? s.nm).isSome = true
theorem mokn (k : Nat) : Mok k [] := ⟨by simp, fun v hv => nomatch hv⟩
theorem e4q : RInv rs0 := ⟨d4s, mokn _, (by intro h; cases h), fun _ => .inl rfl⟩
theorem d5l {B : Bk} {k : List UInt8} (h : b8h B k = 0) : a3S k = true ∧ B.get? k = none ∧ B.ks.length < 64 := by
 unfold b8h at h
 split at h
 ·cases h
 ·rename_i h1
  split at h
  ·cases h
  ·rename_i h2
   split at h
   ·cases h
   ·rename_i h3
    exact ⟨by simpa using h1, by simpa using h2, by omega⟩
theorem d8h {k : List UInt8} (h : a3S k = true) : k ≠ [] := by
 intro e; subst e; simp [a3S] at h
theorem e4J {B : Bk} (h : B.Ok) (k : List UInt8) (m : List (List ZI)) : (putB B k m).Ok := by
 unfold putB
 split
 ·exact h.put _ _
 ·exact h
theorem d7i {s s' : RS} (h : RInv s) {line : List UInt8} (hl : line.length ≤ 262144) (hm : s.m.length < 2097152) (e : a8s s line = .inl s') : RInv s' ∧ s'.m.length ≤ s.m.length + 1 := by
 unfold a8s at e
 split at e
 ·cases e; exact ⟨h, by omega⟩
 ·split at e
  ·rename_i hin
   split at e
   ·split at e
    ·rename_i h0
     cases e
     refine ⟨⟨e4J h.ok _ _, mokn _, (by intro h; cases h), fun _ => .inr ?_⟩, by simp⟩
     unfold putB
     rw [if_pos h0, d8X h.ok, if_pos rfl]
     rfl
    ·cases e
   ·split at e
    ·rename_i v hv
     cases e
     have := e1U hl hv
     refine ⟨⟨h.ok, ⟨by simp; omega, fun x hx => ?_⟩, fun _ => h.yes hin, (by intro h; cases h)⟩, by simp⟩
     rcases List.mem_append.1 hx with hx | hx
     ·exact h.mok.el x hx
     ·simp at hx; subst hx; exact this.2
    ·cases e
  ·split at e
   ·rename_i h0
    cases e
    unfold outE at h0
    split at h0
    ·cases h0
    ·have := d5l h0
     exact ⟨⟨h.ok, mokn _, fun _ => ⟨d8h this.1, this.2.1⟩, (by intro h; cases h)⟩, by simp⟩
   ·cases e
end Go.Abs
namespace Go.Abs
open Go.Proofs
def rsH (H : Heap) (s : RS) (rw : AV) : Heap := if s.inn then hap H (rdL H s.B (fIn H) (strU s.nm) (b1b H s.m) (b1a s.m)) else hap H (rdL H s.B (fOut H) (strU s.nm) rw [])
abbrev nilP : AV := .lit (.pointer none)
theorem b0d (a b : List UInt8) : binV .neq (strU a) (strU b) = some (.bool (a != b)) := by
 unfold strU
 rw [d0X]
 simp [bne]
theorem b2G : AV.str ⟨#[]⟩ = strU [] := rfl
noncomputable abbrev rdX (H : Heap) : Cx := ⟨Pr, fun _ _ => false, b1R, 82, [.tmp 2, .tmp 3, .tmp 4], H.length⟩
abbrev rdTl : List AItem := [.code (.seq (.seq (.region a3k false) (.cond (.t 58) (.seq (.region a7Z true) (.seq (.region a7Y false) (.cond (.t 75) (.seq (.region b1K false) (.ret)) (.skip)))) (.skip))) (.seq (.region a7X false) (.ret)))]
abbrev e1i : List AItem := .inBlock 0 :: rdTl
theorem d3H {H : Heap} {R : AV → Heap → Prop} {at' : Nat} {G : Heap} (hdone : Safe (rdX H) rdTl [(5, .loc (lid H 2) 0 0), (6, .int .i64 at')] G R) :
  Safe (rdX H) (.inLoop a6M :: e1i) [(5, .loc (lid H 2) 0 0), (6, .int .i64 at'), (7, strU [])] G R := by
 have he : binV .neq (strU []) (strU []) = some (.bool false) := by rw [b0d]; rfl
 refine Safe.inLoop ?_
 refine Safe.rg rfl ?_
 simp only [b3R, b2G, he, E3, a0b, a0c, a0d, a0a, seval]
 refine Safe.cd rfl ?_
 simp only [E3, a0b, a0c, a0d, a0a, seval]
 refine Safe.keep [5, 6] ?_
 simp only [E3, a0b, a0c, a0d, a0a, seval]
 exact Safe.exit rfl hdone
theorem b7O {H : Heap} {i j k off : Nat} (h : i < j) : Ref (· < lid H j) (.loc (lid H i) k off) := .loc _ _ _ (by show lid H i < lid H j; unfold lid; omega)
theorem c2b {H : Heap} {j : Nat} {a : AV} (h : Cl a) : Ref (· < lid H j) a := h.ref
theorem d9p {H : Heap} : Ref (· < lid H 3) (fIn H) := .bfn _ _ fun c hc => by
 simp only [List.mem_singleton] at hc
 subst hc
 exact b7O (by omega)
theorem d6r {H : Heap} : Ref (· < lid H 3) (fOut H) := .bfn _ _ fun c hc => by
 simp only [List.mem_singleton] at hc
 subst hc
 exact b7O (by omega)
theorem d7L {H : Heap} (hH : a0z H) {R : AV → Heap → Prop} : ∀ (n : Nat) (s : RS) (at' : Nat) (l : List UInt8) (rw : AV), l.length ≤ n → RInv s → s.m.length + l.length ≤ 262144 → at' + l.length ≤ 262144 → Cl rw →
  (∀ s1 at1 rw1, runR s at' (c0C l) = .inl (s1, at1) → at1 ≤ 262144 → RInv s1 → Cl rw1 → Safe (rdX H) rdTl [(5, .loc (lid H 2) 0 0), (6, .int .i64 at1)] (rsH H s1 rw1) R) →
  (∀ at1 e, runR s at' (c0C l) = .inr (at1, e) → ∀ L, R (.tup [nilP, .int .i64 at1, .int .i64 e]) (hap H L)) →
  Safe (rdX H) (.inLoop a6M :: e1i) [(5, .loc (lid H 2) 0 0), (6, .int .i64 at'), (7, strU l)] (rsH H s rw) R := by
 intro n
 induction n with
 | zero =>
  intro s at' l rw hn hI hml hal hrw hdone herr
  have hl : l = [] := List.length_eq_zero_iff.1 (Nat.le_zero.1 hn)
  subst hl
  exact d3H (hdone s at' rw rfl (by omega) hI hrw)
 | succ n ih =>
  intro s at' l rw hn hI hml hal hrw hdone herr
  by_cases hl : l = []
  ·subst hl
   exact d3H (hdone s at' rw rfl (by omega) hI hrw)
  have he : binV .neq (strU l) (strU []) = some (.bool true) := by rw [b0d]; simp [hl]
  have hcut := e2y l 10 (by omega)
  have hlt := d2R 10 hl
  have hle := e5T 10 l
  have hpos : 0 < l.length := List.length_pos_iff.2 hl
  rw [d2q hl] at hdone herr
  generalize hA : cutA 10 l = line at hcut hle hdone herr
  generalize hB : cutB 10 l = rest at hcut hlt hdone herr
  have hw : IntKind.wrap .i64 ((at' : Int) + 1) = ((at' + 1 : Nat) : Int) := by rw [a0e] <;> omega
  refine Safe.inLoop ?_
  refine Safe.rg rfl ?_
  simp only [b3R, b2G, he, E3, a0b, a0c, a0d, a0a, seval]
  refine Safe.cd rfl ?_
  simp only [E3, a0b, a0c, a0d, a0a, seval]
  refine Safe.rg rfl ?_
  simp only [c0T, show AV.str ⟨#[10]⟩ = strU [10] from rfl, E3, a0b, a0c, a0d, a0a, seval]
  first | refine (hcut).acall ?_ | refine (hcut).dcall ?_ | refine (hcut).dgcall ?_
  try simp only [E3, a0b, a0c, a0d, a0a, seval]
  refine Safe.rg rfl ?_
  simp only [c0S, E3, a0b, a0c, a0d, a0a, seval]
  refine Safe.rg rfl ?_
  simp only [b7F, hw, E3, a0b, a0c, a0d, a0a, seval]
  refine Safe.keep [5, 6, 7, 8] ?_
  simp only [E3, a0b, a0c, a0d, a0a, seval]
  have next : ∀ s' rw', a8s s line = .inl s' → RInv s' → s'.m.length ≤ s.m.length + 1 → Cl rw' → Safe (rdX H) (.inLoop a6M :: e1i) [(5, .loc (lid H 2) 0 0), (6, .int .i64 ((at' + 1 : Nat) : Int)), (7, strU rest)] (rsH H s' rw') R := fun s' rw' hs hI' hm' hrw' =>
   ih s' (at' + 1) rest rw' (by omega) hI' (by omega) (by omega) hrw' (fun s1 at1 rw1 h => hdone s1 at1 rw1 (by simp only [runR, hs]; exact h)) (fun at1 e h => herr at1 e (by simp only [runR, hs]; exact h))
  have stop : ∀ e, a8s s line = .inr e → ∀ L, R (.tup [nilP, .int .i64 ((at' + 1 : Nat) : Int), .int .i64 e]) (hap H L) := fun e hs => herr (at' + 1) e (by simp only [runR, hs])
  by_cases h0 : line = []
  ·subst h0
   have hs : a8s s [] = .inl s := by unfold a8s; rw [if_pos (.inl rfl)]
   have e0 : binV .eql (strU []) (strU []) = some (.bool true) := by rw [a2h]; rfl
   refine Safe.rg rfl ?_
   simp only [a8b, b2G, e0, E3, a0b, a0c, a0d, a0a, seval]
   refine Safe.cd rfl ?_
   simp only [E3, a0b, a0c, a0d, a0a, seval]
   refine Safe.keep [5, 6, 7] ?_
   simp only [E3, a0b, a0c, a0d, a0a, seval]
   refine Safe.exit rfl ?_
   exact next s rw hs hI (by omega) hrw
  have e0 : binV .eql (strU line) (strU []) = some (.bool false) := by rw [a2h]; simp [h0]
  have hi0 := b3E line .i64 (List.length_pos_iff.2 h0)
  by_cases h1 : line.getD 0 0 = 35
  ·have hs : a8s s line = .inl s := by unfold a8s; rw [if_pos (.inr h1)]
   have e1 : (((line.getD 0 0).toNat : Int) = 35) = True := eq_true (by rw [h1]; rfl)
   refine Safe.rg rfl ?_
   simp only [a8b, b2G, e0, hi0, e1, E3, a0b, a0c, a0d, a0a, seval]
   refine Safe.cd rfl ?_
   simp only [E3, a0b, a0c, a0d, a0a, seval]
   refine Safe.keep [5, 6, 7] ?_
   simp only [E3, a0b, a0c, a0d, a0a, seval]
   refine Safe.exit rfl ?_
   exact next s rw hs hI (by omega) hrw
  have e1 : (((line.getD 0 0).toNat : Int) = 35) = False := eq_false (fun h => h1 (by
   have h2 : (line.getD 0 0).toNat = 35 := by omega
   exact UInt8.toNat_inj.1 h2))
  refine Safe.rg rfl ?_
  simp only [a8b, b2G, e0, hi0, e1, E3, a0b, a0c, a0d, a0a, seval]
  refine Safe.cd rfl ?_
  simp only [E3, a0b, a0c, a0d, a0a, seval]
  refine Safe.keep [5, 6, 7, 8] ?_
  simp only [E3, a0b, a0c, a0d, a0a, seval]
  have hskip : ¬(line = [] ∨ line.getD 0 0 = 35) := fun h => h.elim h0 h1
  have hll : line.length ≤ 262144 := by omega
  have tail : ∀ (e : Int) (G : Heap) (env : Env), look env 6 = .int .i64 ((at' + 1 : Nat) : Int) → look env 5 = .loc (lid H 2) 0 0 → look env 7 = strU rest →
    (e = 0 → ∃ s' rw', a8s s line = .inl s' ∧ Cl rw' ∧ G = rsH H s' rw') → (e ≠ 0 → a8s s line = .inr e ∧ ∃ L, G = hap H L) →
    Safe (rdX H) (.code (.seq (.region a8a false) (.cond (.t 51) (.seq (.region b1L false) .ret) .skip)) :: .inBlock 1 :: .inLoop a6M :: e1i) ((11, .int .i64 e) :: env) G R := by
   intro e G env h6 h5 h7 hz hnz
   by_cases he : e = 0
   ·obtain ⟨s', rw', q1, q2, rfl⟩ := hz he
    subst he
    refine Safe.rg rfl ?_
    simp only [a8a, E3, a0b, a0c, a0d, a0a, seval]
    refine Safe.cd rfl ?_
    simp only [E3, a0b, a0c, a0d, a0a, seval]
    refine Safe.keep [5, 6, 7] ?_
    simp only [h5, h6, h7, E3, a0b, a0c, a0d, a0a, seval]
    refine Safe.skip ?_
    refine Safe.inBlock ?_
    have := d7i hI hll (by omega) q1
    exact next s' rw' q1 this.1 this.2 q2
   ·obtain ⟨q1, L, rfl⟩ := hnz he
    have hne : (e = 0) = False := eq_false he
    refine Safe.rg rfl ?_
    simp only [a8a, hne, E3, a0b, a0c, a0d, a0a, seval]
    refine Safe.cd rfl ?_
    simp only [E3, a0b, a0c, a0d, a0a, seval]
    refine Safe.rg rfl ?_
    simp only [b1L, h6, E3, a0b, a0c, a0d, a0a, seval]
    refine Safe.rt rfl ?_
    simp only [h6, E3, a0b, a0c, a0d, a0a, seval]
    exact stop e q1 L
  refine Safe.skip ?_
  cases hin : s.inn with
  | true =>
   have hrs : rsH H s rw = hap H (rdL H s.B (fIn H) (strU s.nm) (b1b H s.m) (b1a s.m)) := by unfold rsH; rw [if_pos hin]
   rw [hrs]
   refine Safe.rgN [⟨some 44, none, .p (.mv (.t 5))⟩, ⟨some 45, none, .p (.fldp (.t 44) 0)⟩, ⟨some 46, none, .p (.fldp (.t 45) 1)⟩, ⟨some 47, none, .p (.load none (.t 46))⟩, ⟨some 48, none, .p (.mv (.t 8))⟩] [⟨some 11, none, .p (.mv (.t 49))⟩] (d := some 49) (c := .callv (.t 47) [.t 48]) rfl rfl ?_
   simp only [rdL, rdB, E3, a0b, a0c, a0d, a0a, seval]
   refine ⟨lid H 3, a1j, [.loc (lid H 2) 0 0, strU line], a5g H 3, rfl, ?_, ?_⟩
   ·repeat (first | exact c0Q _ | refine b7y ?_ ?_ | exact b7O (by omega) | exact d9p | exact c2b (a1l _) | exact c2b (.int _ _))
   ·refine (d8K hH hI.ok (by omega) hI.mok hll).mono fun r H' hr => ?_
    have hst : a8s s line = if line = c9x then (if putE s.m = 0 then .inl ⟨putB s.B s.nm s.m, s.nm, [], false⟩ else .inr (putE s.m)) else match b5K line with
      | some v => .inl ⟨s.B, s.nm, s.m ++ [v], true⟩
      | none => .inr 4 := by unfold a8s; rw [if_neg hskip, if_pos hin]; first | done | rfl
    unfold InsR at hr
    by_cases hend : line = c9x
    ·rw [if_pos hend] at hr hst
     obtain ⟨rfl, rw', hc, rfl⟩ := hr
     simp only [E3, a0b, a0c, a0d, a0a, seval]
     refine tail _ _ _ rfl rfl rfl (fun h => ?_) (fun h => ?_)
     ·rw [if_pos h] at hst
      exact ⟨_, rw', hst, hc, rfl⟩
     ·rw [if_neg h] at hst
      exact ⟨hst, _, rfl⟩
    ·rw [if_neg hend] at hr hst
     cases hlv : b5K line with
     | some v =>
      rw [hlv] at hr hst
      obtain ⟨rfl, rfl⟩ := hr
      simp only [E3, a0b, a0c, a0d, a0a, seval]
      exact tail _ _ _ rfl rfl rfl (fun h => ⟨_, .nil, hst, .nil, rfl⟩) (fun h => absurd rfl h)
     | none =>
      rw [hlv] at hr hst
      obtain ⟨rfl, L, rfl⟩ := hr
      simp only [E3, a0b, a0c, a0d, a0a, seval]
      exact tail _ _ _ rfl rfl rfl (fun h => absurd h (by decide)) (fun h => ⟨hst, L, rfl⟩)
  | false =>
   have hrs : rsH H s rw = hap H (rdL H s.B (fOut H) (strU s.nm) rw []) := by unfold rsH; rw [if_neg (by rw [hin]; decide)]
   rw [hrs]
   refine Safe.rgN [⟨some 44, none, .p (.mv (.t 5))⟩, ⟨some 45, none, .p (.fldp (.t 44) 0)⟩, ⟨some 46, none, .p (.fldp (.t 45) 1)⟩, ⟨some 47, none, .p (.load none (.t 46))⟩, ⟨some 48, none, .p (.mv (.t 8))⟩] [⟨some 11, none, .p (.mv (.t 49))⟩] (d := some 49) (c := .callv (.t 47) [.t 48]) rfl rfl ?_
   simp only [rdL, rdB, E3, a0b, a0c, a0d, a0a, seval]
   refine ⟨lid H 3, a0X, [.loc (lid H 2) 0 0, strU line], a5g H 3, rfl, ?_, ?_⟩
   ·repeat (first | exact c0Q _ | refine b7y ?_ ?_ | exact b7O (by omega) | exact d6r | exact c2b (a1l _) | exact c2b (.int _ _))
   ·refine ((d5r (X := []) hI.ok line (by omega)).toN (by simp [hap, lid, rdL])).mono fun r H' hr => ?_
    have hst : a8s s line = if outE s.B line = 0 then .inl ⟨s.B, line.drop 8, [], true⟩ else .inr (outE s.B line) := by unfold a8s; rw [if_neg hskip, if_neg (by rw [hin]; decide)]
    obtain ⟨rfl, rfl⟩ := hr
    simp only [E3, a0b, a0c, a0d, a0a, seval]
    refine tail _ _ _ rfl rfl rfl (fun h => ?_) (fun h => ?_)
    ·rw [if_pos h] at hst ⊢
     exact ⟨_, .nil, hst, .nil, rfl⟩
    ·rw [if_neg h] at hst ⊢
     exact ⟨hst, _, rfl⟩
def bkL (H : Heap) (B : Bk) : Heap := [some B.blk, some ⟨1, [.agg [.mp true (lid H 0)]]⟩]
theorem d0V {H : Heap} {B : Bk} (hB : B.Ok) : InB (hap H (bkL H B)) (lid H 1) (lid H 0) B := by
 refine ⟨?_, ?_, hB⟩ <;> simp [hap, lid, bkL]
def e8a (H : Heap) (q : Sum Bk (Nat × Int)) (r : AV) (H' : Heap) : Prop := match q with
 | .inl B => r = .tup [.loc (lid H 1) 0 0, .int .i64 0, .int .i64 0] ∧ H' = hap H (bkL H B) ∧ B.Ok
 | .inr (n, e) => r = .tup [nilP, .int .i64 n, .int .i64 e] ∧ ∃ L, H' = hap H L
theorem e4x (H : Heap) (text : List UInt8) : a0h Pr b1R [strU text] H (e8a H (d1I text)) := by
 refine a0h.open d0R d0Q (Nat.le_of_ble_eq_true rfl) fun hH => ?_
 refine Safe.rg rfl ?_
 simp only [c0Z, E3, a0b, a0c, a0d, a0a, seval]
 by_cases hlong : 262144 < text.length
 ·have hv : d1I text = .inr (0, 2) := by unfold d1I; rw [if_pos hlong]
  have hgt : ((text.length : Int) > 262144) = True := eq_true (by omega)
  rw [hv]
  refine Safe.rg rfl ?_
  simp only [b3S, a0u, hgt, E3, a0b, a0c, a0d, a0a, seval]
  refine Safe.cd rfl ?_
  simp only [E3, a0b, a0c, a0d, a0a, seval]
  refine Safe.rg rfl ?_
  simp only [c0Y, E3, a0b, a0c, a0d, a0a, seval]
  refine Safe.rt rfl ?_
  simp only [E3, a0b, a0c, a0d, a0a, seval]
  exact ⟨rfl, [], rfl⟩
 ·have hv : d1I text = finR (runR rs0 0 (c0C text)) := by unfold d1I; rw [if_neg hlong]
  have hgt : ((text.length : Int) > 262144) = False := eq_false (by omega)
  rw [hv]
  have hnew := e3o H
  refine Safe.rg rfl ?_
  simp only [b3S, a0u, hgt, E3, a0b, a0c, a0d, a0a, seval]
  refine Safe.cd rfl ?_
  simp only [E3, a0b, a0c, a0d, a0a, seval]
  have h4 : (0 < 4) = True := by decide
  refine Safe.heq (a1Y H) ?_
  refine Safe.rg rfl ?_
  simp only [c0X, b2G, b7N, b7M, E3, a0b, a0c, a0d, a0a, seval]
  refine hnew.mono fun r' H' hr => ?_
  obtain ⟨rfl, rfl⟩ := hr
  simp only [newL]
  simp only [b7N, b7M, c2I, List.take_zero, List.drop_succ_cons, List.drop_zero, List.drop_nil, List.append_nil, List.length_cons, List.length_nil, a3e, c1C, h4, E3, a0b, a0c, a0d, a0a, seval]
  refine Safe.rg rfl ?_
  simp only [c0W, d1J, d2G, c4W, E3, a0b, a0c, a0d, a0a, seval]
  refine Safe.rg rfl ?_
  simp only [c0V, E3, a0b, a0c, a0d, a0a, seval]
  refine Safe.rg rfl ?_
  simp only [c0U, E3, a0b, a0c, a0d, a0a, seval]
  refine Safe.lp rfl ?_
  refine Safe.keep [5, 6, 7] ?_
  simp only [E3, a0b, a0c, a0d, a0a, seval]
  refine Safe.heq (show _ = rsH H rs0 .nil from rfl) ?_
  refine d7L hH text.length rs0 0 text .nil (Nat.le_refl _) e4q (by simp [rs0]; omega) (by omega) .nil ?_ ?_
  ·intro s1 at1 rw1 hrun hat hI hc
   have hw : IntKind.wrap .i64 ((at1 : Int) + 1) = ((at1 + 1 : Nat) : Int) := by rw [a0e] <;> omega
   rw [hrun]
   cases hin : s1.inn with
   | true =>
    have hf : finR (.inl (s1, at1)) = .inr (at1 + 1, 4) := by show (if s1.inn = true then _ else _) = _; rw [if_pos hin]
    rw [hf, show rsH H s1 rw1 = hap H (rdL H s1.B (fIn H) (strU s1.nm) (b1b H s1.m) (b1a s1.m)) from by unfold rsH; rw [if_pos hin]]
    obtain ⟨hne, hget⟩ := hI.yes hin
    have he : binV .neq (strU s1.nm) (strU []) = some (.bool true) := by rw [b0d]; simp [hne]
    have hlook := (d3I (H := H) (X := b1a s1.m) (nx := fIn H) (nm := strU s1.nm) (rw := b1b H s1.m) hI.ok).look (L := []) s1.nm
    rw [a1Y, hget] at hlook
    simp only [rdL, rdB, optV, Option.isSome_none] at hlook ⊢
    refine Safe.rg rfl ?_
    simp only [a3k, b2G, he, E3, a0b, a0c, a0d, a0a, seval]
    refine Safe.cd rfl ?_
    simp only [E3, a0b, a0c, a0d, a0a, seval]
    refine Safe.rg rfl ?_
    simp only [a7Z, hlook, E3, a0b, a0c, a0d, a0a, seval]
    refine Safe.rg rfl ?_
    simp only [a7Y, E3, a0b, a0c, a0d, a0a, seval]
    refine Safe.cd rfl ?_
    simp only [E3, a0b, a0c, a0d, a0a, seval]
    refine Safe.rg rfl ?_
    simp only [b1K, hw, E3, a0b, a0c, a0d, a0a, seval]
    refine Safe.rt rfl ?_
    simp only [E3, a0b, a0c, a0d, a0a, seval]
    exact ⟨rfl, _, rfl⟩
   | false =>
    have hf : finR (.inl (s1, at1)) = .inl s1.B := by show (if s1.inn = true then _ else _) = _; rw [if_neg (by rw [hin]; decide)]
    rw [hf, show rsH H s1 rw1 = hap H (rdL H s1.B (fOut H) (strU s1.nm) rw1 []) from by unfold rsH; rw [if_neg (by rw [hin]; decide)]]
    have fin : ∀ (k : List AItem), Safe (rdX H) (.code (.seq (.region a7X false) .ret) :: k) [(5, .loc (lid H 2) 0 0)] (hap H (rdL H s1.B (fOut H) (strU s1.nm) rw1 [])) (e8a H (.inl s1.B)) := fun k => by
     simp only [rdL, rdB]
     refine Safe.rg rfl ?_
     simp only [a7X, E3, a0b, a0c, a0d, a0a, seval]
     refine Safe.keep [2, 3, 4] ?_
     simp only [E3, a0b, a0c, a0d, a0a, seval]
     refine Safe.dropG (L := bkL H s1.B) (o := _) hH (Nat.le_refl _) ?_ ?_ ?_
     ·show (([(2, .loc (lid H 1) 0 0), (3, .int .i64 0), (4, .int .i64 0)] : Env).all fun p => nref (lid H 2) p.2) = true
      simp only [List.all_cons, List.all_nil, c1I, E3, a0b, a0c, a0d, a0a, seval]
     ·intro b hb a ha
      simp only [bkL, List.mem_cons, Option.some.injEq, List.not_mem_nil, or_false] at hb
      rcases hb with rfl | rfl
      ·rw [Bk.blk_flat] at ha; cases ha
      ·simp [Blk.flat, AV.cells] at ha
       subst ha
       exact a7J H 2 0 true (by omega)
     ·refine Safe.rt rfl ?_
      simp only [E3, a0b, a0c, a0d, a0a, seval]
      exact ⟨rfl, rfl, hI.ok⟩
    simp only [rdL, rdB] at fin ⊢
    rcases hI.no hin with h | h
    ·have he : binV .neq (strU s1.nm) (strU []) = some (.bool false) := by rw [h, b0d]; rfl
     refine Safe.rg rfl ?_
     simp only [a3k, b2G, he, E3, a0b, a0c, a0d, a0a, seval]
     refine Safe.cd rfl ?_
     simp only [E3, a0b, a0c, a0d, a0a, seval]
     refine Safe.keep [5] ?_
     simp only [E3, a0b, a0c, a0d, a0a, seval]
     refine Safe.skip ?_
     exact fin _
    ·by_cases hnm : s1.nm = []
     ·have he : binV .neq (strU s1.nm) (strU []) = some (.bool false) := by rw [hnm, b0d]; rfl
      refine Safe.rg rfl ?_
      simp only [a3k, b2G, he, E3, a0b, a0c, a0d, a0a, seval]
      refine Safe.cd rfl ?_
      simp only [E3, a0b, a0c, a0d, a0a, seval]
      refine Safe.keep [5] ?_
      simp only [E3, a0b, a0c, a0d, a0a, seval]
      refine Safe.skip ?_
      exact fin _
     ·have he : binV .neq (strU s1.nm) (strU []) = some (.bool true) := by rw [b0d]; simp [hnm]
      have hlook := (d3I (H := H) (X := []) (nx := fOut H) (nm := strU s1.nm) (rw := rw1) hI.ok).look (L := []) s1.nm
      rw [a1Y, h] at hlook
      simp only [rdL, rdB] at hlook
      refine Safe.rg rfl ?_
      simp only [a3k, b2G, he, E3, a0b, a0c, a0d, a0a, seval]
      refine Safe.cd rfl ?_
      simp only [E3, a0b, a0c, a0d, a0a, seval]
      refine Safe.rg rfl ?_
      simp only [a7Z, hlook, E3, a0b, a0c, a0d, a0a, seval]
      refine Safe.rg rfl ?_
      simp only [a7Y, E3, a0b, a0c, a0d, a0a, seval]
      refine Safe.cd rfl ?_
      simp only [E3, a0b, a0c, a0d, a0a, seval]
      refine Safe.keep [5] ?_
      simp only [E3, a0b, a0c, a0d, a0a, seval]
      refine Safe.skip ?_
      exact fin _
  ·intro at1 e hrun L
   rw [hrun]
   exact ⟨rfl, L, rfl⟩
end Go.Abs
namespace Go.Abs
open Go.Proofs
def uM : List (List ZI) := [[canZ 1, canZ 0], [canZ 0, canZ 1]]
def c8O : List UInt8 := [108, 97, 116, 116, 105, 99, 101, 32, 122, 10, 32, 49, 32, 48, 10, 32, 48, 32, 49, 10, 101, 110, 100, 10]
theorem d3h : c0C c8O = [[108, 97, 116, 116, 105, 99, 101, 32, 122], [32, 49, 32, 48], [32, 48, 32, 49], [101, 110, 100]] := by decide
theorem u_zg (i j : Nat) : zg (mg uM i) j = if i = j ∧ i < 2 then 1 else 0 := by
 match i, j with
 | 0, 0 => exact a5h 1
 | 0, 1 => exact a5h 0
 | 1, 0 => exact a5h 0
 | 1, 1 => exact a5h 1
 | 0, j + 2 => rfl
 | 1, j + 2 => simp [zg, mg, uM, ZI.z, sgn, val]
 | i + 2, j => simp [zg, mg, uM, ZI.z, sgn, val]
theorem u_gr (i j : Nat) (hi : i < 2) (hj : j < 2) : Gr uM i j = if i = j then 1 else 0 := by
 have h0 : (mg uM i).length = 2 := by
  match i, hi with
  | 0, _ => rfl
  | 1, _ => rfl
 unfold Gr dotZ
 rw [h0]
 simp only [b0X, u_zg]
 match i, j, hi, hj with
 | 0, 0, _, _ => rfl
 | 0, 1, _, _ => rfl
 | 1, 0, _, _ => rfl
 | 1, 1, _, _ => rfl
theorem u_ok (p : Nat) (hp : 1 ≤ p) : Mok p uM := by
 have h1 : Zok p (canZ 1) := (a3m (k := 1) (by decide)).mono hp
 have h0 : Zok p (canZ 0) := (a3m (k := 1) (by decide)).mono hp
 refine ⟨by simp [uM], fun v hv => ?_⟩
 simp only [uM, List.mem_cons, List.not_mem_nil, or_false] at hv
 rcases hv with rfl | rfl
 ·exact ⟨by simp, fun x hx => by simp only [List.mem_cons, List.not_mem_nil, or_false] at hx; rcases hx with rfl | rfl; exact h1; exact h0⟩
 ·exact ⟨by simp, fun x hx => by simp only [List.mem_cons, List.not_mem_nil, or_false] at hx; rcases hx with rfl | rfl; exact h0; exact h1⟩
theorem e6L : putE uM = 0 := by
 have h1 : Sg (Gr uM) 0 0 0 = 1 := by rw [b5T, u_gr 0 0 (by omega) (by omega)]; rfl
 have p0 := e0p (Gr uM)
 have d1 : Dg (Gr uM) 1 = 1 := by rw [b9q p0, c8R, h1, Rat.one_mul]
 have p1 : Pv (Gr uM) 1 := e0q p0 (by rw [h1]; decide)
 have h2 : Sg (Gr uM) 1 1 1 = 1 := by
  rw [c8P 1 (by omega), h1, b5T, b5T, b5T, u_gr 1 1 (by omega) (by omega), u_gr 1 0 (by omega) (by omega), u_gr 0 1 (by omega) (by omega), if_pos rfl, if_neg (by omega), if_neg (by omega), Rat.mul_zero]
  grind
 have d2 : Dg (Gr uM) 2 = 1 := by rw [b9q p1, d1, h2, Rat.one_mul]
 have hb : b4z uM 2 ≤ 256 := by
  show b8D (b8D 0 (fun k => blen (zg (mg uM 0) k).natAbs) 2) (fun k => blen (zg (mg uM 1) k).natAbs) 2 ≤ 256
  simp only [b8D, u_zg]
  decide
 have hs : shE true uM = 0 := by
  unfold shE
  rw [if_neg, if_neg, if_pos]
  ·intro i hi
   match i, hi with
   | 0, _ => rfl
   | 1, _ => rfl
  ·decide
  ·have : ¬(256 < b4z uM uM.length) := by show ¬(256 < b4z uM 2); omega
   unfold bigB
   rw [decide_eq_false this]
   decide
 unfold putE valE
 rw [if_neg (by rw [hs]; decide), if_pos]
 show gd (Gr uM) 2 = 2
 have g1 : gd (Gr uM) 1 = 1 := by
  rw [b5L, if_pos ⟨rfl, by rw [d1]; decide⟩]
 rw [b5L, if_pos ⟨g1, by rw [d2]; decide⟩]
theorem e6M : a1q uM = uM := by
 show [[canZ (zg (mg uM 0) 0), canZ (zg (mg uM 0) 1)], [canZ (zg (mg uM 1) 0), canZ (zg (mg uM 1) 1)]] = uM
 simp only [u_zg]
 rfl
def uB : Bk := ⟨[0], [[122]], [uM], 1⟩
theorem e6K : d1I c8O = .inl uB := by
 have s1 : a8s rs0 [108, 97, 116, 116, 105, 99, 101, 32, 122] = .inl ⟨bk0, [122], [], true⟩ := by
  unfold a8s
  rw [if_neg (by decide), if_neg (by decide), if_pos (by decide)]
  rfl
 have w1 : b6q [49] = some 1 := by decide
 have w0 : b6q [48] = some 0 := by decide
 have l2 : b5K [32, 49, 32, 48] = some [canZ 1, canZ 0] := by
  unfold b5K
  rw [if_pos (by decide), show a1L 32 (List.drop 1 [32, 49, 32, 48]) = [[49], [48]] from by decide]
  unfold wsV
  simp only [List.all_cons, List.all_nil, w1, w0, List.map_cons, List.map_nil, gz]
  rfl
 have l3 : b5K [32, 48, 32, 49] = some [canZ 0, canZ 1] := by
  unfold b5K
  rw [if_pos (by decide), show a1L 32 (List.drop 1 [32, 48, 32, 49]) = [[48], [49]] from by decide]
  unfold wsV
  simp only [List.all_cons, List.all_nil, w1, w0, List.map_cons, List.map_nil, gz]
  rfl
 have s2 : a8s ⟨bk0, [122], [], true⟩ [32, 49, 32, 48] = .inl ⟨bk0, [122], [[canZ 1, canZ 0]], true⟩ := by
  unfold a8s
  rw [if_neg (by decide), if_pos rfl, if_neg (by decide), l2]
  rfl
 have s3 : a8s ⟨bk0, [122], [[canZ 1, canZ 0]], true⟩ [32, 48, 32, 49] = .inl ⟨bk0, [122], uM, true⟩ := by
  unfold a8s
  rw [if_neg (by decide), if_pos rfl, if_neg (by decide), l3]
  rfl
 have s4 : a8s ⟨bk0, [122], uM, true⟩ [101, 110, 100] = .inl ⟨putB bk0 [122] uM, [122], [], false⟩ := by
  unfold a8s
  rw [if_neg (by decide), if_pos rfl, if_pos (by decide), if_pos e6L]
 have hp : putB bk0 [122] uM = uB := by
  unfold putB
  rw [if_pos e6L, e6M]
  rfl
 unfold d1I
 rw [if_neg (by decide), d3h]
 simp only [runR, s1, s2, s3, s4, hp]
 rfl
theorem d6T : b6w uB = c8O := by
 have hd1 : decI 1 = [49] := by
  show dec 1 = [49]
  unfold dec
  rw [if_neg (by decide), c1W (by decide), show 1 / 10 = 0 from rfl, b7A]
  decide
 have hd0 : decI 0 = [48] := by
  show dec 0 = [48]
  rfl
 have r0 : txV [canZ 1, canZ 0] = [49, 32, 48] := by
  unfold txV
  have : (tx [canZ 1, canZ 0].length fun i => decI (zg [canZ 1, canZ 0] i)) = [decI (zg (mg uM 0) 0), decI (zg (mg uM 0) 1)] := rfl
  rw [this]
  simp only [u_zg]
  show Lib.join [decI 1, decI 0] [32] = _
  rw [hd1, hd0]
  decide
 have r1 : txV [canZ 0, canZ 1] = [48, 32, 49] := by
  unfold txV
  have : (tx [canZ 0, canZ 1].length fun i => decI (zg [canZ 0, canZ 1] i)) = [decI (zg (mg uM 1) 0), decI (zg (mg uM 1) 1)] := rfl
  rw [this]
  simp only [u_zg]
  show Lib.join [decI 0, decI 1] [32] = _
  rw [hd1, hd0]
  decide
 have hn : a0W uB = [[122]] := by
  have := (a5y [[122]]).length_eq
  exact List.perm_singleton.1 (a5y [[122]])
 unfold b6w
 rw [hn]
 show latT [122] uM ++ [] = c8O
 unfold latT a6P uM
 simp only [List.flatMap_cons, List.flatMap_nil, rowT, r0, r1]
 rfl
theorem u_tx : TxOk uB := by
 have hl : ∀ k, getL uB k = uM ∨ getL uB k = [] := fun k => by
  unfold getL
  have : uB.get? k = (bk0.put [122] uM).get? k := rfl
  rw [this, d8X d4s]
  by_cases h : k = [122]
  ·rw [if_pos h]; exact .inl rfl
  ·rw [if_neg h]; exact .inr rfl
 have hm := u_ok 8796093022208 (by omega)
 refine ⟨by decide, fun k => ?_, by decide, by rw [d6T]; decide⟩
 rcases hl k with h | h
 ·rw [h]
  refine ⟨by decide, fun r hr => ⟨hm.el r hr, ?_⟩⟩
  have h2 : b6w uB = latT [122] uM := by
   have hn : a0W uB = [[122]] := List.perm_singleton.1 (a5y [[122]])
   unfold b6w
   rw [hn]
   exact List.append_nil _
  have h3 := congrArg List.length d6T
  rw [h2] at h3
  unfold latT a6P at h3
  have h4 : (rowT r).length ≤ (uM.flatMap rowT).length := by
   simp only [uM, List.mem_cons, List.not_mem_nil, or_false] at hr
   rcases hr with rfl | rfl <;> simp only [uM, List.flatMap_cons, List.flatMap_nil, List.length_append, List.append_nil] <;> omega
  have h5 : c8O.length = 24 := rfl
  have h6 : (rowT r).length = (txV r).length + 2 := by simp [rowT]
  simp only [List.length_append] at h3
  omega
 ·rw [h]
  exact ⟨by simp, fun r hr => nomatch hr⟩
theorem e6P : AV.str ⟨#[108, 97, 116, 116, 105, 99, 101, 32, 122, 10, 32, 49, 32, 48, 10, 32, 48, 32, 49, 10, 101, 110, 100, 10]⟩ = strU c8O := rfl
theorem e6N : uB.Ok := ⟨rfl, rfl, by decide, by decide, by decide⟩
theorem e3x {G : Heap} {ib im : Nat} {B : Bk} (h : InB G ib im B) (neg : Bool) : isnV true neg G (.loc ib 0 0) = some (.bool neg) := by
 have hl := h.liv (L := [])
 rw [a1Y] at hl
 simp only [isnV]
 rw [if_pos hl]
theorem b9j : a0f Pr b1Q [] (.bool true) := by
 refine a0f.intro c5x c5w (Nat.le_of_ble_eq_true rfl) (.bool _) fun H hH => ?_
 refine Safe.rg rfl ?_
 simp only [b4M, E3, a0b, a0c, a0d, a0a, seval]
 refine Safe.heq (a1Y H) ?_
 refine Safe.rg rfl ?_
 simp only [b4L, e6P, E3, a0b, a0c, a0d, a0a, seval]
 refine (e4x H c8O).mono fun r' H' hr => ?_
 rw [e6K] at hr
 obtain ⟨rfl, rfl, -⟩ := hr
 simp only [E3, a0b, a0c, a0d, a0a, seval]
 have he : binV .eql (strU c8O) (strU c8O) = some (.bool true) := by rw [a2h]; simp
 have htx := d1w (d0V (H := H) e6N) u_tx
 rw [d6T] at htx
 have hin := e3x (d0V (H := H) e6N) true
 refine Safe.rg rfl ?_
 simp only [b4K, e6P, he, hin, E3, a0b, a0c, a0d, a0a, seval]
 refine htx.acall ?_
 simp only [he, E3, a0b, a0c, a0d, a0a, seval]
 refine Safe.rt rfl ?_
 simp only [E3, a0b, a0c, a0d, a0a, seval]
 exact ⟨_, rfl⟩
end Go.Abs

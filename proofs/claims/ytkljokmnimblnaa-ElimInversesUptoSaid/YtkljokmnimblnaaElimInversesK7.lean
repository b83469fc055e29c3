/- Part 7 of the proof of ElimInverses: W36, W37, W38, W40, W42, W43, W44, O1, O2, O3. -/
import Derived.Test.YtkljokmnimblnaaElimInversesK6
import Derived.Test.YtkljokmnimblnaaRows
import Derived.OpenShut
import Derived.ChangeArms
import Derived.Carry
import Derived.WalkKit
import Derived.ProofKit
import Derived.JoinedCond
set_option linter.unusedVariables false
set_option linter.unusedSimpArgs false
namespace Go.Abs
def gcdF (d : Int) (q : Nat → Int) : Nat → Nat
  | 0 => d.natAbs
  | n + 1 => Int.gcd (gcdF d q n) (q n)
def sgD (d : Int) : Int := if d < 0 then -1 else 1
theorem b6J (d : Int) (q : Nat → Int) : ∀ n, (gcdF d q n : Int) ∣ d
  | 0 => by rw [gcdF]; exact Int.natAbs_dvd.2 (Int.dvd_refl d)
  | n + 1 => Int.dvd_trans (Int.gcd_dvd_left ..) (b6J d q n)
theorem d4h (d : Int) (q : Nat → Int) : ∀ {n i : Nat}, i < n → (gcdF d q n : Int) ∣ q i
  | 0, _, h => absurd h (by omega)
  | n + 1, i, h => by
    rw [gcdF]
    by_cases e : i = n
    · subst e; exact Int.gcd_dvd_right ..
    · exact Int.dvd_trans (Int.gcd_dvd_left ..) (d4h d q (by omega))
theorem d8l {d : Int} (hd : d ≠ 0) (q : Nat → Int) (n : Nat) : gcdF d q n ≠ 0 := fun h => by
  have := b6J d q n
  rw [h] at this
  exact hd (Int.zero_dvd.1 this)
theorem e2M {d : Int} (hd : d ≠ 0) (q : Nat → Int) (n : Nat) : gcdF d q n ≤ d.natAbs := Nat.le_of_dvd (by omega) (Int.ofNat_dvd_left.1 (b6J d q n))
theorem d1c (c d : Int) (q p : Nat → Int) : ∀ n, (∀ i, i < n → p i = c * q i) → gcdF (c * d) p n = c.natAbs * gcdF d q n
  | 0, _ => by rw [gcdF, gcdF, Int.natAbs_mul]
  | n + 1, h => by
    rw [gcdF, gcdF, d1c c d q p n fun i hi => h i (by omega), h n (by omega)]
    rw [Int.gcd, Int.gcd, Int.natAbs_mul, Int.natAbs_natCast, Int.natAbs_natCast, Nat.gcd_mul_left]
/-- Over the least denominator nothing more can be taken out. -/
theorem e0x (x : Nat → Rat) (n : Nat) : gcdF (a0K x n) (outI x n) n = 1 := by
  have hL := b0U x n
  have hL0 : (a0K x n : Int) ≠ 0 := by omega
  have hg := d8l hL0 (outI x n) n
  obtain ⟨l, hl⟩ := b6J (a0K x n) (outI x n) n
  have hd := fun i (hi : i < n) => d4h (a0K x n) (outI x n) hi
  generalize gcdF (a0K x n) (outI x n) n = g at *
  have hl0 : l ≠ 0 := fun e => hL0 (by rw [hl, e, Int.mul_zero])
  have hdv : a0K x n ∣ l.natAbs := b0V fun i hi => by
    obtain ⟨o, ho⟩ := hd i hi
    refine d1p (z := o) hl0 ?_
    have h1 := c7R x hi
    have h2 : ((a0K x n : Nat) : Rat) = (((a0K x n : Nat) : Int) : Rat) := rfl
    rw [ho, h2, hl, Rat.intCast_mul, Rat.intCast_mul] at h1
    have hgr : (((g : Nat) : Int) : Rat) ≠ 0 := fun e => hg (by have := Rat.intCast_inj.1 (show (((g : Nat) : Int) : Rat) = ((0 : Int) : Rat) from e); omega)
    have h3 : (((g : Nat) : Int) : Rat) * ((l : Rat) * x i - (o : Rat)) = 0 := by grind
    rcases Rat.mul_eq_zero.1 h3 with h | h
    · exact absurd h hgr
    · grind
  obtain ⟨k, hk⟩ := hdv
  have h1 : a0K x n = g * l.natAbs := by
    have := congrArg Int.natAbs hl
    rwa [Int.natAbs_natCast, Int.natAbs_mul, Int.natAbs_natCast] at this
  rw [hk] at h1
  have h2 : a0K x n * 1 = a0K x n * (g * k) := by rw [Nat.mul_one, Nat.mul_left_comm]; exact h1
  exact Nat.eq_one_of_mul_eq_one_right (Nat.eq_of_mul_eq_mul_left hL h2).symm
/-- Numbers over one denominator, brought into lowest terms. -/
theorem d6O {d : Int} (hd : d ≠ 0) {q : Nat → Int} {x : Nat → Rat} {n : Nat} (h : ∀ i, i < n → ((q i : Int) : Rat) = (d : Rat) * x i) :
    d = sgD d * (gcdF d q n : Int) * (a0K x n : Int) ∧ ∀ i, i < n → q i = sgD d * (gcdF d q n : Int) * outI x n i := by
  have hL := b0U x n
  have hdv : (a0K x n : Int) ∣ d := Int.ofNat_dvd_left.2 (b0V fun i hi => d1p hd (h i hi).symm)
  obtain ⟨c, hc⟩ := hdv
  have hq : ∀ i, i < n → q i = c * outI x n i := fun i hi => by
    refine Rat.intCast_inj.1 ?_
    rw [h i hi, hc, Rat.intCast_mul, Rat.intCast_mul, ← c7R x hi]
    have h3 : (((a0K x n : Nat) : Int) : Rat) = ((a0K x n : Nat) : Rat) := rfl
    rw [h3]
    grind
  have hg : gcdF d q n = c.natAbs := by
    rw [hc, Int.mul_comm, d1c c (a0K x n) (outI x n) q n hq, e0x, Nat.mul_one]
  have hs : sgD d * (c.natAbs : Int) = c := by
    unfold sgD
    by_cases hn : d < 0
    · rw [if_pos hn]
      have : c < 0 := Classical.byContradiction fun hge => by
        have := Int.mul_nonneg (show (0 : Int) ≤ (a0K x n : Int) by omega) (show 0 ≤ c by omega)
        omega
      omega
    · rw [if_neg hn]
      have : 0 ≤ c := Classical.byContradiction fun hlt => by
        have := Int.mul_neg_of_pos_of_neg (show (0 : Int) < (a0K x n : Int) by omega) (show c < 0 by omega)
        omega
      omega
  rw [hg, hs]
  exact ⟨by rw [Int.mul_comm]; exact hc, hq⟩
theorem d4V (q P : Nat → Int) (d D : Int) {n K : Nat} (hq : ∀ i, i < n → (q i).natAbs < LB ^ K) (hd : d.natAbs < LB ^ K) (hK : K < 17592186043000) (hn : n ≤ 2097152) (hd0 : d ≠ 0)
    (hD : d = sgD d * (gcdF d q n : Int) * D) (hP : ∀ i, i < n → q i = sgD d * (gcdF d q n : Int) * P i) : a0d Pr a6z [vecV (vec n q), Z d] (.tup [vecV (vec n P), Z D]) := by
  have hgl : ∀ i, gcdF d q i < LB ^ K := fun i => Nat.lt_of_le_of_lt (e2M hd0 q i) hd
  have hg0 := d8l hd0 q n
  have hvq : Vok K (vec n q) := d1C hn hq
  have hzq : ∀ i, (h : i < n) → Zok K (canZ (q i)) := fun i hi => a0k (hq i hi)
  refine a0d.intro c8r c8p (Nat.le_of_ble_eq_true rfl) (b1s (a0e _) (Z_cl _)) fun H hH => ?_
  refine Safe.rg rfl ?_
  simp only [b6U, E3, seval]
  refine Safe.rg rfl ?_
  simp only [b6T, E3, seval]
  refine (d6E (canZ d) ((a0k hd).mono (by omega))).acall ?_
  simp only [a0s, E3, seval]
  refine Safe.rg rfl ?_
  simp only [b6S, d1T, a0l, E3, seval]
  refine Safe.lp rfl ?_
  refine Safe.keep [0, 3, 4, 5, 6, 20, 21, 22] ?_
  try simp only [E3, seval]
  refine Safe.loopN (n) (fun i => [(0, vecV (vec n q)), (3, .loc (lid H 0) 0 0), (4, .nil), (5, .loc (lid H 1) 0 0), (6, .loc (lid H 2) 0 0), (20, vecV (vec n q)), (21, .int .i64 n), (22, .int .i64 i)]) (fun i => hap H [some ⟨2, [Z d]⟩, some ⟨2, [.agg [.bool false, .nil]]⟩, some ⟨2, [Z (gcdF d q i : Nat)]⟩]) rfl rfl (fun i hi ih => ?_) ?_
  · have hlt : ((i : Int) < (n : Int)) = True := eq_true (by omega)
    have hiw : IntKind.wrap .i64 ((i : Int) + 1) = ((i + 1 : Nat) : Int) := by rw [a0a] <;> omega
    refine Safe.inLoop ?_
    refine Safe.rg rfl ?_
    simp only [a8W, hlt, E3, seval]
    refine Safe.cd rfl ?_
    simp only [E3, seval]
    refine Safe.rg rfl ?_
    simp only [b6R, c2b _ (vec n q) _ i (by rw [a0l]; exact hi), d1U, E3, seval]
    refine Safe.rg rfl ?_
    simp only [b6Q, E3, seval]
    have hg := d6C (canZ (gcdF d q i : Nat)) (canZ (q i)) K (a0k (by exact hgl i)) (hzq i hi) (by omega)
    rw [a0s, a0s] at hg
    refine hg.acall ?_
    simp only [E3, seval]
    refine Safe.rg rfl ?_
    simp only [b6P, hiw, E3, seval]
    refine Safe.keep [0, 3, 4, 5, 6, 20, 21, 22] ?_
    simp only [E3, seval]
    refine Safe.drop3 hH rfl (by simp only [List.all_cons, List.all_nil, E3, seval]) (by repeat (first | exact RC.nil | refine RC.none ?_ | refine RC.row ZI.cl ?_ | refine RC.cons (a0j _) ?_ | refine RC.row a0e ?_ | refine RC.emp ?_ | refine RC.zero ?_ | refine RC.one (Z_cl _) ?_ | refine RC.one (ZI.cl _) ?_ | refine RC.one (a0e _) ?_)) ?_
    exact ih
  · refine Safe.inLoop ?_
    refine Safe.rg rfl ?_
    simp only [a8W, Int.lt_irrefl, E3, seval]
    refine Safe.cd rfl ?_
    simp only [E3, seval]
    refine Safe.rg rfl ?_
    simp only [b6O, E3, seval]
    refine (a3o (canZ d) ((a0k hd).mono (by omega))).acall ?_
    simp only [a0s, E3, seval]
    have main : ∀ Q : Int, Q = sgD d * (gcdF d q n : Int) → Safe ⟨Pr, fun _ _ => false, a6z, 62, [.tmp 4, .cell 5 (some 2)], H.length⟩
        [.code ((ACode.region a8V false).seq (((ACode.region a6P false).seq (.block 2 (.loop b6V))).seq ((ACode.region a6N false).seq ((ACode.region a6M true).seq .ret))))]
        [(0, vecV (vec n q)), (3, .loc (lid H 0) 0 0), (4, .nil), (5, .loc (lid H 1) 0 0), (6, .loc (lid H 2) 0 0)] (hap H [some ⟨2, [Z d]⟩, some ⟨2, [.agg [.bool false, .nil]]⟩, some ⟨2, [Z Q]⟩]) fun r' H' => r' = .tup [vecV (vec n P), Z D] ∧ ∃ L, H' = hap H L := by
      intro Q hQ
      have hs1 : sgD d = 1 ∨ sgD d = -1 := by unfold sgD; split <;> simp
      have hQ0 : Q ≠ 0 := by rw [hQ]; exact Int.mul_ne_zero (by rcases hs1 with h | h <;> omega) (by omega)
      have hQk : Q.natAbs < LB ^ K := by
        have : Q.natAbs = gcdF d q n := by
          rw [hQ, Int.natAbs_mul]
          rcases hs1 with h | h <;> rw [h] <;> simp
        rw [this]; exact hgl _
      refine Safe.rg rfl ?_
      simp only [a8V, E3, seval]
      refine Safe.nilrow 9 2 (by decide) (by simp only [E3, seval]) ?_
      refine Safe.rg rfl ?_
      simp only [a6P, d1T, a0l, E3, seval]
      refine Safe.lp rfl ?_
      refine Safe.keep [3, 4, 5, 6, 9, 35, 36, 37] ?_
      try simp only [E3, seval]
      refine Safe.loopN (n) (fun i => [(3, .loc (lid H 0) 0 0), (4, .nil), (5, .loc (lid H 1) 0 0), (6, .loc (lid H 2) 0 0), (9, .mu (lid H 3) 0 i none), (35, vecV (vec n q)), (36, .int .i64 n), (37, .int .i64 i)]) (fun i => hap H [some ⟨2, [Z d]⟩, some ⟨2, [.agg [.bool false, .nil]]⟩, some ⟨2, [Z Q]⟩, some ⟨2, (vec i P).map ZI.av⟩]) rfl rfl (fun i hi ih => ?_) ?_
      · have hlt : ((i : Int) < (n : Int)) = True := eq_true (by omega)
        have hiw : IntKind.wrap .i64 ((i : Int) + 1) = ((i + 1 : Nat) : Int) := by rw [a0a] <;> omega
        refine Safe.inLoop ?_
        refine Safe.rg rfl ?_
        simp only [a6O, hlt, E3, seval]
        refine Safe.cd rfl ?_
        simp only [E3, seval]
        refine Safe.rg rfl ?_
        simp only [b2R, c2b _ (vec n q) _ i (by rw [a0l]; exact hi), d1U, E3, seval]
        refine Safe.rg rfl ?_
        simp only [b2Q, E3, seval]
        have hfl := b0k (canZ (q i)) (canZ Q) K (hzq i hi) (a0k hQk) (by omega) (P i) (by rw [a0s]; exact hQ0) (by rw [a0s, a0s, hQ]; exact hP i hi)
        refine hfl.acall ?_
        simp only [E3, seval]
        refine Safe.rg rfl ?_
        simp only [b2P, E3, seval]
        rw [a6T hH 3 (a1k H 3) ZI.cl (vec i P) (canZ (P i)) (vec (i + 1) P) ?hlen ?hl ?hL ?hy ?hl2 ?hb ?hbb]
        case hlen => first | rfl | (simp only [a0l, a0i, List.length_map, List.length_take]; done) | (simp only [a0l, a0i, List.length_map, List.length_take]; omega)
        case hl => rfl
        case hL => repeat (first | exact RC.nil | refine RC.none ?_ | refine RC.row ZI.cl ?_ | refine RC.cons (a0j _) ?_ | refine RC.row a0e ?_ | refine RC.emp ?_ | refine RC.zero ?_ | refine RC.one (Z_cl _) ?_ | refine RC.one (ZI.cl _) ?_ | refine RC.one (a0e _) ?_)
        case hy => rfl
        case hl2 => first | exact a7T _ _ | exact a3U _ _ | exact a5m _ (by omega) | exact a1H _ _ (by omega)
        case hb => omega
        case hbb => omega
        simp only [E3, seval]
        refine Safe.rg rfl ?_
        simp only [b2O, hiw, E3, seval]
        refine Safe.keep [3, 4, 5, 6, 9, 35, 36, 37] ?_
        simp only [E3, seval]
        refine Safe.dropC (L := [_, _, _, _, _, _]) hH rfl (by simp only [List.all_cons, List.all_nil, E3, seval]) (by repeat (first | exact RC.nil | refine RC.none ?_ | refine RC.row ZI.cl ?_ | refine RC.cons (a0j _) ?_ | refine RC.row a0e ?_ | refine RC.emp ?_ | refine RC.zero ?_ | refine RC.one (Z_cl _) ?_ | refine RC.one (ZI.cl _) ?_ | refine RC.one (a0e _) ?_)) ?_
        refine Safe.dropC (L := [_, _, _, _, _]) hH rfl (by simp only [List.all_cons, List.all_nil, E3, seval]) (by repeat (first | exact RC.nil | refine RC.none ?_ | refine RC.row ZI.cl ?_ | refine RC.cons (a0j _) ?_ | refine RC.row a0e ?_ | refine RC.emp ?_ | refine RC.zero ?_ | refine RC.one (Z_cl _) ?_ | refine RC.one (ZI.cl _) ?_ | refine RC.one (a0e _) ?_)) ?_
        refine Safe.drop4 hH rfl (by simp only [List.all_cons, List.all_nil, E3, seval]) (by repeat (first | exact RC.nil | refine RC.none ?_ | refine RC.row ZI.cl ?_ | refine RC.cons (a0j _) ?_ | refine RC.row a0e ?_ | refine RC.emp ?_ | refine RC.zero ?_ | refine RC.one (Z_cl _) ?_ | refine RC.one (ZI.cl _) ?_ | refine RC.one (a0e _) ?_)) ?_
        exact ih
      · refine Safe.inLoop ?_
        refine Safe.rg rfl ?_
        simp only [a6O, Int.lt_irrefl, E3, seval]
        refine Safe.cd rfl ?_
        simp only [E3, seval]
        refine Safe.freeze 3 hH rfl rfl (a1T 2 ZI.av _ ZI.cl) ?_
        refine Safe.keep [3, 4, 5, 6, 9] ?_
        simp only [b1b H 3 (vec n P) (n) (none) (by simp only [a0l, a0i]), a1G, a0C, a5z, a2M, E3, seval]
        refine Safe.rg rfl ?_
        simp only [a6N, E3, seval]
        have hfl := b0k (canZ d) (canZ Q) K (a0k hd) (a0k hQk) (by omega) D (by rw [a0s]; exact hQ0) (by rw [a0s, a0s, hQ]; exact hD)
        refine hfl.acall ?_
        simp only [E3, seval]
        refine Safe.rg rfl ?_
        simp only [a6M, E3, seval]
        refine Safe.rt rfl ?_
        simp only [E3, seval]
        first | exact ⟨rfl, _, rfl⟩ | exact ⟨_, rfl⟩ | exact ⟨trivial, _, rfl⟩
    by_cases hng : d < 0
    · have hc : (d.sign < 0) = True := eq_true (Int.sign_neg_iff.2 hng)
      simp only [hc, E3, seval]
      refine Safe.cd rfl ?_
      simp only [E3, seval]
      refine Safe.rg rfl ?_
      simp only [b6N, E3, seval]
      have hn2 := b3Y (canZ (gcdF d q n : Nat)) ((a0k (by exact hgl _)).mono (by omega))
      rw [a0s] at hn2
      refine hn2.acall ?_
      simp only [E3, seval]
      refine Safe.keep [0, 3, 4, 5, 6] ?_
      simp only [E3, seval]
      exact main _ (by rw [sgD, if_pos hng, Int.neg_mul, Int.one_mul])
    · have hc : (d.sign < 0) = False := eq_false fun h => hng (Int.sign_neg_iff.1 h)
      simp only [hc, E3, seval]
      refine Safe.cd rfl ?_
      simp only [E3, seval]
      refine Safe.keep [0, 3, 4, 5, 6] ?_
      simp only [E3, seval]
      refine Safe.skip ?_
      exact main _ (by rw [sgD, if_neg hng, Int.one_mul])
end Go.Abs
set_option linter.unusedVariables false
set_option linter.unusedSimpArgs false
namespace Go.Abs
theorem d7g (x : Nat → Rat) {c K : Nat} (hS : Sz x c K) (hc : c ≤ 2097152) (hK : K + K + K < 17592186043000) : a0d Pr a6U [rvV x c] (.tup [vecV (vec c (outI x c)), Z (a0K x c : Nat)]) := by
  have hlc := fun n (h : n ≤ c) => e1y hS h
  have hdl := fun i (h : i < c) => e4O hS h
  have hol := fun i (h : i < c) => e1w hS h
  have hnl := fun i (h : i < c) => e4u hS h
  have hl0 := b0U x
  refine a0d.intro c2t c2q (Nat.le_of_ble_eq_true rfl) (b1s (a0e _) (Z_cl _)) fun H hH => ?_
  refine Safe.rg rfl ?_
  simp only [b0z, E3, seval]
  refine Safe.rg rfl ?_
  simp only [b0y, E3, seval]
  first | refine (a2b 1 (by decide) (by decide)).acall ?_ | refine (a2b 1 (by decide) (by decide)).dcall ?_
  try simp only [E3, seval]
  refine Safe.rg rfl ?_
  simp only [b0x, E3, seval]
  refine Safe.lp rfl ?_
  refine Safe.keep [0, 2, 3, 4, 5] ?_
  try simp only [E3, seval]
  refine Safe.loopN (c) (fun i => [(0, rvV x c), (2, .nil), (3, .loc (lid H 0) 0 0), (4, .loc (lid H 1) 0 0), (5, .int .i64 i)]) (fun i => hap H [some ⟨2, [.agg [.bool false, .nil]]⟩, some ⟨2, [Z (a0K x i : Nat)]⟩]) rfl rfl (fun i hi ih => ?_) ?_
  · have hlt : ((i : Int) < (c : Int)) = True := eq_true (by omega)
    have hiw : IntKind.wrap .i64 ((i : Int) + 1) = ((i + 1 : Nat) : Int) := by rw [a0a] <;> omega
    have hli := hlc i (by omega)
    have hdi := hdl i hi
    have hl1 := hlc (i + 1) (by omega)
    have hsucc : a0K x (i + 1) = a0K x i * ((x i).den / Nat.gcd (a0K x i) (x i).den) := rfl
    have hg0 : Nat.gcd (a0K x i) (x i).den ≠ 0 := fun h => by have := Nat.gcd_eq_zero_iff.1 h; have := hl0 i; omega
    have hgk : Nat.gcd (a0K x i) (x i).den < LB ^ K := d4g hli hdi
    refine Safe.inLoop ?_
    refine Safe.rg rfl ?_
    simp only [a5q, d3O, hlt, E3, seval]
    refine Safe.cd rfl ?_
    simp only [E3, seval]
    refine Safe.rg rfl ?_
    simp only [b0w, d3P _ x .i64 hi, d9i, E3, seval]
    have hg := d5n (canZ (a0K x i : Nat)) (dZ (x i).den) K (a0k (by exact hli)) (b7Z hdi) (by omega)
    rw [a0s, dZ_z] at hg
    refine hg.dcall ?_
    simp only [E3, seval]
    have hfl := c0m (dZ (x i).den) (canZ ((Nat.gcd (a0K x i) (x i).den : Nat) : Int)) K (b7Z hdi) (a0k (by exact hgk)) (by omega) (by rw [a0s]; omega)
    rw [a0s, dZ_z] at hfl
    have hq : ((x i).den : Int).fdiv ((Nat.gcd (a0K x i) (x i).den : Nat) : Int) = (((x i).den / Nat.gcd (a0K x i) (x i).den : Nat) : Int) := by
      rw [Int.fdiv_eq_ediv_of_nonneg _ (Int.natCast_nonneg _)]; rfl
    rw [hq] at hfl
    have hqk : (x i).den / Nat.gcd (a0K x i) (x i).den < LB ^ K := Nat.lt_of_le_of_lt (Nat.div_le_self _ _) hdi
    refine Safe.rx rfl (by simp only [a4a, a6a, a5A, E3, seval]) ?_
    simp only [b0v, a9x, a9w, d3P _ x .i64 hi, d9i, a0G, E3, seval]
    refine hfl.dcall ?_
    simp only [E3, seval]
    refine ⟨?_, ?_⟩
    all_goals
      refine Safe.rg rfl ?_
      simp only [b0u, E3, seval]
      have hm := c2B (a := ((a0K x i : Nat) : Int)) (b := (((x i).den / Nat.gcd (a0K x i) (x i).den : Nat) : Int)) (k := K) (l := K) (by exact hli) (by exact hqk) (by omega)
      rw [← Int.natCast_mul, ← hsucc] at hm
      refine hm.acall ?_
      simp only [E3, seval]
      refine Safe.rg rfl ?_
      simp only [b0t, hiw, E3, seval]
      refine Safe.keep [0, 2, 3, 4, 5] ?_
      simp only [E3, seval]
      refine Safe.drop4 hH rfl (by simp only [List.all_cons, List.all_nil, b1D, E3, seval]) (by repeat (first | exact RC.nil | refine RC.none ?_ | refine RC.row ZI.cl ?_ | refine RC.cons (a0j _) ?_ | refine RC.row a0e ?_ | refine RC.emp ?_ | refine RC.zero ?_ | refine RC.one (Z_cl _) ?_ | refine RC.one (ZI.cl _) ?_ | refine RC.one (a0e _) ?_)) ?_
      refine Safe.drop3 hH rfl (by simp only [List.all_cons, List.all_nil, b1D, E3, seval]) (by repeat (first | exact RC.nil | refine RC.none ?_ | refine RC.row ZI.cl ?_ | refine RC.cons (a0j _) ?_ | refine RC.row a0e ?_ | refine RC.emp ?_ | refine RC.zero ?_ | refine RC.one (Z_cl _) ?_ | refine RC.one (ZI.cl _) ?_ | refine RC.one (a0e _) ?_)) ?_
      refine Safe.drop2 hH rfl (by simp only [List.all_cons, List.all_nil, b1D, E3, seval]) (by repeat (first | exact RC.nil | refine RC.none ?_ | refine RC.row ZI.cl ?_ | refine RC.cons (a0j _) ?_ | refine RC.row a0e ?_ | refine RC.emp ?_ | refine RC.zero ?_ | refine RC.one (Z_cl _) ?_ | refine RC.one (ZI.cl _) ?_ | refine RC.one (a0e _) ?_)) ?_
      exact ih
  · refine Safe.inLoop ?_
    refine Safe.rg rfl ?_
    simp only [a5q, d3O, Int.lt_irrefl, E3, seval]
    refine Safe.cd rfl ?_
    simp only [E3, seval]
    refine Safe.rg rfl ?_
    simp only [b0s, E3, seval]
    refine Safe.nilrow 9 2 (by decide) (by simp only [E3, seval]) ?_
    refine Safe.rg rfl ?_
    simp only [b0r, E3, seval]
    have hL := hlc c (Nat.le_refl c)
    have hL0 := hl0 c
    refine Safe.lp rfl ?_
    refine Safe.keep [0, 2, 3, 4, 9, 10] ?_
    try simp only [E3, seval]
    refine Safe.loopN (c) (fun i => [(0, rvV x c), (2, .nil), (3, .loc (lid H 0) 0 0), (4, .loc (lid H 1) 0 0), (9, .mu (lid H 2) 0 i none), (10, .int .i64 i)]) (fun i => hap H [some ⟨2, [.agg [.bool false, .nil]]⟩, some ⟨2, [Z (a0K x c : Nat)]⟩, some ⟨2, (vec i (outI x c)).map ZI.av⟩]) rfl rfl (fun i hi ih => ?_) ?_
    · have hlt : ((i : Int) < (c : Int)) = True := eq_true (by omega)
      have hiw : IntKind.wrap .i64 ((i : Int) + 1) = ((i + 1 : Nat) : Int) := by rw [a0a] <;> omega
      have hdi := hdl i hi
      have hd0 := (x i).den_pos
      have hni := hnl i hi
      have hoi := hol i hi
      refine Safe.inLoop ?_
      refine Safe.rg rfl ?_
      simp only [a4s, d3O, hlt, E3, seval]
      refine Safe.cd rfl ?_
      simp only [E3, seval]
      have hfl := c0m (canZ ((a0K x c : Nat) : Int)) (dZ (x i).den) K (a0k (by exact hL)) (b7Z hdi) (by omega) (by rw [dZ_z]; omega)
      rw [a0s, dZ_z] at hfl
      have hq : ((a0K x c : Nat) : Int).fdiv ((x i).den : Int) = ((a0K x c / (x i).den : Nat) : Int) := by
        rw [Int.fdiv_eq_ediv_of_nonneg _ (Int.natCast_nonneg _)]; rfl
      rw [hq] at hfl
      have hqk : a0K x c / (x i).den < LB ^ K := Nat.lt_of_le_of_lt (Nat.div_le_self _ _) hL
      refine Safe.rx rfl (by simp only [a4a, a6a, a5A, E3, seval]) ?_
      simp only [a9B, a7g, a7f, d3P _ x .i64 hi, d9i, a0G, E3, seval]
      refine hfl.dcall ?_
      simp only [E3, seval]
      refine ⟨?_, ?_⟩
      all_goals
        refine Safe.rg rfl ?_
        simp only [a9A, d3P _ x .i64 hi, e5a, a0G, E3, seval]
        have hm := c2B (a := (x i).num) (b := ((a0K x c / (x i).den : Nat) : Int)) (k := K) (l := K) hni (by exact hqk) (by omega)
        refine hm.dcall ?_
        simp only [E3, seval]
        rw [a6T hH 2 (a1k H 2) ZI.cl (vec i (outI x c)) (canZ (outI x c i)) (vec (i + 1) (outI x c)) ?hlen ?hl ?hL ?hy ?hl2 ?hb ?hbb]
        case hlen => first | rfl | (simp only [a0l, a0i, List.length_map, List.length_take]; done) | (simp only [a0l, a0i, List.length_map, List.length_take]; omega)
        case hl => rfl
        case hL => repeat (first | exact RC.nil | refine RC.none ?_ | refine RC.row ZI.cl ?_ | refine RC.cons (a0j _) ?_ | refine RC.row a0e ?_ | refine RC.emp ?_ | refine RC.zero ?_ | refine RC.one (Z_cl _) ?_ | refine RC.one (ZI.cl _) ?_ | refine RC.one (a0e _) ?_)
        case hy => rfl
        case hl2 => first | exact a7T _ _ | exact a3U _ _ | exact a5m _ (by omega) | exact a1H _ _ (by omega)
        case hb => omega
        case hbb => omega
        simp only [b1D, E3, seval]
        refine Safe.rg rfl ?_
        simp only [a9z, hiw, E3, seval]
        refine Safe.keep [0, 2, 3, 4, 9, 10] ?_
        simp only [E3, seval]
        refine Safe.drop4 hH rfl (by simp only [List.all_cons, List.all_nil, b1D, E3, seval]) (by repeat (first | exact RC.nil | refine RC.none ?_ | refine RC.row ZI.cl ?_ | refine RC.cons (a0j _) ?_ | refine RC.row a0e ?_ | refine RC.emp ?_ | refine RC.zero ?_ | refine RC.one (Z_cl _) ?_ | refine RC.one (ZI.cl _) ?_ | refine RC.one (a0e _) ?_)) ?_
        refine Safe.drop3 hH rfl (by simp only [List.all_cons, List.all_nil, b1D, E3, seval]) (by repeat (first | exact RC.nil | refine RC.none ?_ | refine RC.row ZI.cl ?_ | refine RC.cons (a0j _) ?_ | refine RC.row a0e ?_ | refine RC.emp ?_ | refine RC.zero ?_ | refine RC.one (Z_cl _) ?_ | refine RC.one (ZI.cl _) ?_ | refine RC.one (a0e _) ?_)) ?_
        exact ih
    · refine Safe.inLoop ?_
      refine Safe.rg rfl ?_
      simp only [a4s, d3O, Int.lt_irrefl, E3, seval]
      refine Safe.cd rfl ?_
      simp only [E3, seval]
      refine Safe.freeze 2 hH rfl rfl (a1T 2 ZI.av _ ZI.cl) ?_
      refine Safe.keep [2, 3, 4, 9] ?_
      simp only [b1b H 2 (vec c (outI x c)) (c) (none) (by simp only [a0l, a0i]), a1G, a0C, a5z, a2M, E3, seval]
      refine Safe.rg rfl ?_
      simp only [a9y, E3, seval]
      refine Safe.rt rfl ?_
      simp only [E3, seval]
      first | exact ⟨rfl, _, rfl⟩ | exact ⟨_, rfl⟩ | exact ⟨trivial, _, rfl⟩
theorem b3I (l : List ZI) : ∀ a ∈ (Blk.mk 2 (l.map ZI.av)).flat, Cl a := a1T 2 ZI.av _ ZI.cl
end Go.Abs
set_option linter.unusedVariables false
set_option linter.unusedSimpArgs false
namespace Go.Abs
section
variable (b : List (List ZI)) (v : List ZI)
theorem e1n (l r : List ZI) (k : Nat) : zg (l ++ r) k = if k < l.length then zg l k else zg r (k - l.length) := by
  unfold zg
  rw [List.getD_eq_getElem?_getD, List.getD_eq_getElem?_getD, List.getD_eq_getElem?_getD, List.getElem?_append]
  split <;> rfl
variable {e : Nat} (hm : Mok e b) (hv : Vok e v)
include hm hv
end
end Go.Abs
set_option linter.unusedVariables false
set_option linter.unusedSimpArgs false
namespace Go.Abs
theorem b3d : ∀ a ∈ (Blk.mk 2 [AV.agg [.bool false, .nil]]).flat, Cl a := fun a ha => by
  simp [Blk.flat, AV.cells] at ha
  rcases ha with rfl | rfl
  · exact .bool _
  · exact .nil
end Go.Abs
set_option linter.unusedVariables false
set_option linter.unusedSimpArgs false
namespace Go.Abs
theorem d4S (H : Heap) (v : List ZI) (k : IntKind) {n : Nat} (h : n ≤ v.length) : slcV H 2 (vecV v) (some (.int k n)) none none = some (vecV (v.drop n)) := by
  simp only [vecV, slcV, a2t, Option.bind_some]
  rw [if_pos ⟨trivial, by omega, by rw [List.length_map]; omega, Int.le_refl _⟩]
  rw [Int.toNat_natCast, Int.toNat_natCast, ← List.map_drop, List.take_of_length_le (by rw [List.length_map, List.length_map, List.length_drop]; exact Nat.le_refl _)]
theorem d1y (x : Int) : binV .rem (.int .i64 x) (.int .i64 2) = some (.int .i64 (x.tmod 2)) := rfl
/-- A row without its k-th entry. -/
def cutR (v : List ZI) (k : Nat) : List ZI := v.take k ++ v.drop (k + 1)
theorem d4r {v : List ZI} {k : Nat} (h : k < v.length) : (cutR v k).length = v.length - 1 := by
  unfold cutR; rw [List.length_append, List.length_take, List.length_drop]; omega
theorem e3T (v : List ZI) (k j : Nat) (h : k < v.length) : zg (cutR v k) j = zg v (skip k j) := by
  unfold cutR
  rw [e1n, List.length_take]
  have hm : min k v.length = k := by omega
  rw [hm]
  unfold zg skip
  by_cases e : j < k
  · rw [if_pos e, if_pos e, List.getD_eq_getElem?_getD, List.getElem?_take, if_pos e, ← List.getD_eq_getElem?_getD]
  · rw [if_neg e, if_neg e, List.getD_eq_getElem?_getD, List.getElem?_drop, ← List.getD_eq_getElem?_getD, show k + 1 + (j - k) = j + 1 by omega]
/-- The rows but the i-th that stand ahead of row r, each without its k-th entry. -/
def cutM (b : List (List ZI)) (i k m : Nat) : List (List ZI) := mat m fun r => cutR (mg b (skip i r)) k
def cnt (i r : Nat) : Nat := if r ≤ i then r else r - 1
/-- The determinant without a row and a column, with its sign. -/
def cofI (b : List (List ZI)) (i k : Nat) : Int := if (i + k) % 2 = 1 then -detI (b.length - 1) (Bm (cutM b i k (b.length - 1))) else detI (b.length - 1) (Bm (cutM b i k (b.length - 1)))
theorem d7I {b : List (List ZI)} {e m i k : Nat} (h : Mok e b) (hm : m ≤ 2097152) (hk : ∀ r, k < (mg b r).length ∨ b.length ≤ r) (hl : ∀ r, r < m → skip i r < b.length) : Mok e (cutM b i k m) := c7U hm fun r hr => by
  have hv := h.row (skip i r)
  refine ⟨?_, fun x hx => ?_⟩
  · rcases hk (skip i r) with h1 | h1
    · rw [d4r h1]; have := hv.len; omega
    · have := hl r hr; omega
  · rcases List.mem_append.1 hx with h | h
    · exact hv.el x (List.mem_of_mem_take h)
    · exact hv.el x (List.mem_of_mem_drop h)
section
variable (b : List (List ZI)) {e : Nat} (hm : Mok e b) (hn : b.length ≤ 64) (hb : ∀ i, (h : i < b.length) → b[i].length = b.length) (hK : KB e + 1 < 1099511627776)
include hm hn hb hK
theorem c8z {p q : Nat} (hp : p < b.length) (hq : q < b.length) : a0d Pr a5P [matV b, .int .i64 p, .int .i64 q] (Z (cofI b p q)) := by
  have hrow : ∀ r, r < b.length → (mg b r).length = b.length := fun r hr => by rw [a3H hr]; exact hb r hr
  have hcut : ∀ r, r < b.length → (cutR (mg b r) q).length = b.length - 1 := fun r hr => by rw [d4r (by rw [hrow r hr]; exact hq), hrow r hr]
  have hc0 : cnt p 0 = 0 := by unfold cnt; rw [if_pos (Nat.zero_le _)]
  refine a0d.intro c1q c1o (Nat.le_of_ble_eq_true rfl) (Z_cl _) fun H hH => ?_
  refine Safe.rg rfl ?_
  simp only [a9K, E3, seval]
  refine Safe.rg rfl ?_
  simp only [a9J, E3, seval]
  refine Safe.nilrow 7 1 (by decide) (by simp only [E3, seval]) ?_
  refine Safe.rg rfl ?_
  simp only [a9I, E3, seval]
  refine Safe.lp rfl ?_
  refine Safe.keep [0, 1, 2, 6, 7, 11, 12] ?_
  simp only [E3, seval]
  refine Safe.loopN b.length (fun i => [(0, matV b), (1, .int .i64 p), (2, .int .i64 q), (6, .loc (lid H 0) 0 0), (7, .mu (lid H 1) 0 (cnt p i) none), (11, .int .i64 b.length), (12, .int .i64 i)]) (fun i => hap H [some ⟨2, [.agg [.bool false, .nil]]⟩, some ⟨1, (cutM b p q (cnt p i)).map vecV⟩]) (by rw [hc0]; rfl) (by rw [hc0]; rfl) (fun i hi ih => ?_) ?_
  · have hlt : ((i : Int) < (b.length : Int)) = True := eq_true (by omega)
    have hiw : IntKind.wrap .i64 ((i : Int) + 1) = ((i + 1 : Nat) : Int) := by rw [a0a] <;> omega
    refine Safe.inLoop ?_
    refine Safe.rg rfl ?_
    simp only [a4z, hlt, E3, seval]
    refine Safe.cd rfl ?_
    simp only [E3, seval]
    refine Safe.rg rfl ?_
    simp only [a9H, E3, seval]
    by_cases hip : i = p
    · have he : ((i : Int) = (p : Int)) = True := eq_true (by omega)
      have hcp : cnt p (i + 1) = cnt p i := by unfold cnt; rw [if_neg (by omega), if_pos (by omega)]; omega
      rw [hcp] at ih
      refine Safe.rg rfl ?_
      simp only [a4y, he, E3, seval]
      refine Safe.cd rfl ?_
      simp only [E3, seval]
      refine Safe.rg rfl ?_
      simp only [a4x, hiw, E3, seval]
      refine Safe.keep [0, 1, 2, 6, 7, 11, 12] ?_
      simp only [E3, seval]
      exact ih
    · have he : ((i : Int) = (p : Int)) = False := eq_false (by omega)
      have hcp : cnt p (i + 1) = cnt p i + 1 := by
        unfold cnt
        by_cases h : i ≤ p
        · rw [if_pos h, if_pos (by omega)]
        · rw [if_neg h, if_neg (by omega)]; omega
      have hsk : skip p (cnt p i) = i := by
        unfold cnt skip
        by_cases h : i ≤ p
        · rw [if_pos h, if_pos (by omega)]
        · rw [if_neg h, if_neg (by omega)]; omega
      have hcl : cnt p i ≤ i := by unfold cnt; split <;> omega
      rw [hcp] at ih
      have hq1 : IntKind.wrap .i64 ((q : Int) + 1) = ((q + 1 : Nat) : Int) := by rw [a0a] <;> omega
      have hbi : b[i].length = b.length := hb i hi
      have hmg : mg b i = b[i] := a3H hi
      have s1 : ∀ H', slcV H' 2 (vecV b[i]) none (some (.int .i64 q)) none = some (vecV (b[i].take q)) := fun H' => e1S H' b[i] .i64 (by omega)
      have s2 : ∀ H', slcV H' 2 (vecV b[i]) (some (.int .i64 ((q + 1 : Nat) : Int))) none none = some (vecV (b[i].drop (q + 1))) := fun H' => d4S H' b[i] .i64 (by omega)
      have a1 : ∀ env, appV H.length 2 32 false .nil (vecV (b[i].take q)) env (hap H [some ⟨2, [.agg [.bool false, .nil]]⟩, some ⟨1, (cutM b p q (cnt p i)).map vecV⟩]) =
          some (.mu (lid H 2) 0 q none, env, hap H [some ⟨2, [.agg [.bool false, .nil]]⟩, some ⟨1, (cutM b p q (cnt p i)).map vecV⟩, some ⟨2, (b[i].take q).map ZI.av⟩]) := by
        intro env
        have hl : ((b[i].take q).map ZI.av).length = q := by rw [List.length_map, List.length_take]; omega
        have := d4D H.length env H [some ⟨2, [.agg [.bool false, .nil]]⟩, some ⟨1, (cutM b p q (cnt p i)).map vecV⟩] 2 32 false (vecV (b[i].take q)) ((b[i].take q).map ZI.av) (a1X _ 2 _) (by decide) (by rw [hl]; omega) (by rw [hl]; omega)
        rw [hl] at this
        exact this
      have a2 : ∀ env, appV H.length 2 32 false (.mu (lid H 2) 0 q none) (vecV (b[i].drop (q + 1))) env (hap H [some ⟨2, [.agg [.bool false, .nil]]⟩, some ⟨1, (cutM b p q (cnt p i)).map vecV⟩, some ⟨2, (b[i].take q).map ZI.av⟩]) =
          some (.mu (lid H 2) 0 (b.length - 1) none, scrub (lid H 2) env, hap H [some ⟨2, [.agg [.bool false, .nil]]⟩, some ⟨1, (cutM b p q (cnt p i)).map vecV⟩, some ⟨2, (cutR b[i] q).map ZI.av⟩]) := by
        intro env
        have hl : ((b[i].drop (q + 1)).map ZI.av).length = b.length - (q + 1) := by rw [List.length_map, List.length_drop]; omega
        have := a5g H.length env H [some ⟨2, [.agg [.bool false, .nil]]⟩, some ⟨1, (cutM b p q (cnt p i)).map vecV⟩, some ⟨2, (b[i].take q).map ZI.av⟩] 2 32 false 2 q none (vecV (b[i].drop (q + 1))) ((b[i].take q).map ZI.av) ((b[i].drop (q + 1)).map ZI.av) hH rfl (by rw [List.length_map, List.length_take]; omega) (a1k H 2)
          (a1X _ 2 _) (a5f (by repeat (first | exact RC.nil | refine RC.none ?_ | refine RC.row ZI.cl ?_ | refine RC.cons (a0j _) ?_ | refine RC.row a0e ?_ | refine RC.emp ?_ | refine RC.zero ?_ | refine RC.one (Z_cl _) ?_ | refine RC.one (ZI.cl _) ?_ | refine RC.one (a0e _) ?_))) (fun a ha => (b3I (b[i].drop (q + 1)) a ha).ref) (by rw [hl]; omega) (by rw [hl]; omega) rfl
        rw [hl] at this
        simp only [a0S, Option.bind_none, List.set_cons_succ, List.set_cons_zero, ← List.map_append] at this
        rw [show q + (b.length - (q + 1)) = b.length - 1 by omega] at this
        exact this
      have a3 : ∀ env, appV H.length 1 24 false (.mu (lid H 1) 0 (cnt p i) none) (.mu (lid H 3) 0 1 (some 1)) env (hap H [some ⟨2, [.agg [.bool false, .nil]]⟩, some ⟨1, (cutM b p q (cnt p i)).map vecV⟩, some ⟨2, (cutR b[i] q).map ZI.av⟩, some ⟨1, [.mu (lid H 2) 0 (b.length - 1) none]⟩]) =
          some (.mu (lid H 1) 0 (cnt p i + 1) none, scrub (lid H 1) env, hap H [some ⟨2, [.agg [.bool false, .nil]]⟩, some ⟨1, (cutM b p q (cnt p i)).map vecV ++ [.mu (lid H 2) 0 (b.length - 1) none]⟩, some ⟨2, (cutR b[i] q).map ZI.av⟩, some ⟨1, [.mu (lid H 2) 0 (b.length - 1) none]⟩]) := by
        intro env
        have h01 : lid H 2 ≠ lid H 1 := by simp [lid]
        have := a5g H.length env H [some ⟨2, [.agg [.bool false, .nil]]⟩, some ⟨1, (cutM b p q (cnt p i)).map vecV⟩, some ⟨2, (cutR b[i] q).map ZI.av⟩, some ⟨1, [.mu (lid H 2) 0 (b.length - 1) none]⟩] 1 24 false 1 (cnt p i) none (.mu (lid H 3) 0 1 (some 1)) ((cutM b p q (cnt p i)).map vecV) [.mu (lid H 2) 0 (b.length - 1) none] hH rfl (by rw [List.length_map, cutM, a0i]) (a1k H 1)
          (c8Z H _ 1 3 0 1 (some 1) [.mu (lid H 2) 0 (b.length - 1) none] rfl (Nat.le_refl _)) (by
            intro j r hj a ha
            match j with
            | 0 => cases hj; exact (b3d a ha).ref
            | 1 => cases hj; exact (a1T 1 vecV _ a0e a ha).ref
            | 2 => cases hj; exact (b3I _ a ha).ref
            | 3 =>
              cases hj
              simp [Blk.flat, AV.cells] at ha
              subst ha
              exact .mu _ _ _ _ h01
            | j + 4 => simp at hj) (by
            intro a ha
            simp [AV.cells] at ha
            subst ha
            exact .mu _ _ _ _ h01) (by simp; omega) (by simp; omega) rfl
        simp only [a0S, Option.bind_none, List.length_cons, List.length_nil, Nat.zero_add, List.set_cons_succ, List.set_cons_zero] at this
        exact this
      refine Safe.rg rfl ?_
      simp only [a4y, he, E3, seval]
      refine Safe.cd rfl ?_
      simp only [E3, seval]
      refine Safe.rx rfl ?_ ?_
      · simp only [a4a, a6a, E3, seval]
        exact ⟨b3F _, .int _ _, .top, .top, .top, .int _ _, .top⟩
      simp only [a9G, a7H, a7G, a2u _ b _ i hi, s1, s2, hq1, a1, a2, a3, and_self, E3, seval]
      refine Safe.freeze 2 hH rfl rfl (b3I _) ?_
      have hfz : ((cutM b p q (cnt p i)).map vecV ++ [AV.mu (lid H 2) 0 (b.length - 1) none]).map (frz (lid H 2) ⟨2, (cutR b[i] q).map ZI.av⟩) = (cutM b p q (cnt p i + 1)).map vecV := by
        rw [List.map_append, a2M, List.map_cons, List.map_nil, b1b H 2 (cutR b[i] q) _ none (by rw [← hmg]; exact (hcut i hi).symm)]
        unfold cutM
        rw [a3U, List.map_append, hsk, hmg]; rfl
      have hfy : [AV.mu (lid H 2) 0 (b.length - 1) none].map (frz (lid H 2) ⟨2, (cutR b[i] q).map ZI.av⟩) = [vecV (cutR b[i] q)] := by
        rw [List.map_cons, List.map_nil, b1b H 2 (cutR b[i] q) _ none (by rw [← hmg]; exact (hcut i hi).symm)]
      simp only [hfz, hfy, a1G, a0C, E3, seval]
      refine Safe.rg rfl ?_
      simp only [a4x, hiw, E3, seval]
      refine Safe.keep [0, 1, 2, 6, 7, 11, 12] ?_
      simp only [E3, seval]
      refine Safe.drop3 hH rfl (by simp only [List.all_cons, List.all_nil, E3, seval]) (by repeat (first | exact RC.nil | refine RC.none ?_ | refine RC.row ZI.cl ?_ | refine RC.cons (a0j _) ?_ | refine RC.row a0e ?_ | refine RC.emp ?_ | refine RC.zero ?_ | refine RC.one (Z_cl _) ?_ | refine RC.one (ZI.cl _) ?_ | refine RC.one (a0e _) ?_)) ?_
      refine Safe.drop2 hH rfl (by simp only [List.all_cons, List.all_nil, E3, seval]) (by repeat (first | exact RC.nil | refine RC.none ?_ | refine RC.row ZI.cl ?_ | refine RC.cons (a0j _) ?_ | refine RC.row a0e ?_ | refine RC.emp ?_ | refine RC.zero ?_ | refine RC.one (Z_cl _) ?_ | refine RC.one (ZI.cl _) ?_ | refine RC.one (a0e _) ?_)) ?_
      exact ih
  · refine Safe.inLoop ?_
    refine Safe.rg rfl ?_
    simp only [a4z, Int.lt_irrefl, E3, seval]
    refine Safe.cd rfl ?_
    simp only [E3, seval]
    have hcn : cnt p b.length = b.length - 1 := by unfold cnt; rw [if_neg (by omega)]
    rw [hcn]
    refine Safe.freeze 1 hH rfl rfl (a1T 1 vecV _ a0e) ?_
    refine Safe.keep [1, 2, 6, 7] ?_
    simp only [c8j H 1 (cutM b p q (b.length - 1)) (b.length - 1) none (by rw [cutM, a0i]), a0C, E3, seval]
    refine Safe.drop1 hH rfl (by simp only [List.all_cons, List.all_nil, E3, seval]) (by repeat (first | exact RC.nil | refine RC.none ?_ | refine RC.row ZI.cl ?_ | refine RC.cons (a0j _) ?_ | refine RC.row a0e ?_ | refine RC.emp ?_ | refine RC.zero ?_ | refine RC.one (Z_cl _) ?_ | refine RC.one (ZI.cl _) ?_ | refine RC.one (a0e _) ?_)) ?_
    have hw : Mok e (cutM b p q (b.length - 1)) := d7I hm (by omega) (fun r => by
      rcases Nat.lt_or_ge r b.length with h | h
      · exact .inl (by rw [hrow r h]; exact hq)
      · exact .inr h) (fun r hr => by unfold skip; split <;> omega)
    have hd := c8v (cutM b p q (b.length - 1)) hw (n := b.length - 1) (by rw [cutM, a0i]) (by omega) hK (fun r hr => by
      have hr' : r < b.length - 1 := by rw [cutM, a0i] at hr; exact hr
      have : (cutM b p q (b.length - 1))[r] = cutR (mg b (skip p r)) q := d2N hr
      rw [this]
      exact hcut _ (by unfold skip; split <;> omega))
    refine Safe.rg rfl ?_
    simp only [a9F, E3, seval]
    refine hd.acall ?_
    simp only [E3, seval]
    have hs : IntKind.wrap .i64 ((p : Int) + (q : Int)) = ((p + q : Nat) : Int) := by rw [a0a] <;> omega
    have hmod : (((p + q : Nat) : Int).tmod 2) = (((p + q) % 2 : Nat) : Int) := by rfl
    have hdk : (detI (b.length - 1) (Bm (cutM b p q (b.length - 1)))).natAbs < LB ^ (KB e + 1) := d3s hw (by omega) hK
    unfold cofI
    by_cases hodd : (p + q) % 2 = 1
    · have h1 : ((((p + q) % 2 : Nat) : Int) = 1) = True := eq_true (by omega)
      rw [if_pos hodd]
      refine Safe.rg rfl ?_
      simp only [a4w, hs, d1y, hmod, h1, E3, seval]
      refine Safe.cd rfl ?_
      simp only [E3, seval]
      refine Safe.rg rfl ?_
      simp only [a7J, E3, seval]
      have hng := b3Y (canZ (detI (b.length - 1) (Bm (cutM b p q (b.length - 1))))) ((a0k hdk).mono (by omega))
      rw [a0s] at hng
      refine hng.acall ?_
      simp only [E3, seval]
      refine Safe.rt rfl ?_
      simp only [E3, seval]
      first | exact ⟨rfl, _, rfl⟩ | exact ⟨_, rfl⟩ | exact ⟨trivial, _, rfl⟩
    · have h1 : ((((p + q) % 2 : Nat) : Int) = 1) = False := eq_false (by omega)
      rw [if_neg hodd]
      refine Safe.rg rfl ?_
      simp only [a4w, hs, d1y, hmod, h1, E3, seval]
      refine Safe.cd rfl ?_
      simp only [E3, seval]
      refine Safe.rg rfl ?_
      simp only [a7I, E3, seval]
      refine Safe.rt rfl ?_
      simp only [E3, seval]
      first | exact ⟨rfl, _, rfl⟩ | exact ⟨_, rfl⟩ | exact ⟨trivial, _, rfl⟩
end
end Go.Abs
set_option linter.unusedVariables false
set_option linter.unusedSimpArgs false
namespace Go.Abs
theorem d1S (H : Heap) (v : List ZI) (k k' k2 : IntKind) {lo hi : Nat} (h1 : lo ≤ hi) (h2 : hi ≤ v.length) : slcV H 2 (vecV v) (some (.int k lo)) (some (.int k' hi)) (some (.int k2 hi)) = some (vecV ((v.drop lo).take (hi - lo))) := by
  simp only [vecV, slcV, a2t, Option.bind_some]
  rw [if_pos ⟨trivial, rfl, by omega, by omega, Int.le_refl _, by rw [List.length_map]; omega⟩]
  rw [Int.toNat_natCast, Int.toNat_natCast, ← List.map_drop, ← List.map_take]
theorem c8W (H : Heap) (v : List ZI) (k k' : IntKind) {lo hi : Nat} (h1 : lo ≤ hi) (h2 : hi ≤ v.length) : slcV H 2 (vecV v) (some (.int k lo)) (some (.int k' hi)) none = some (vecV ((v.drop lo).take (hi - lo))) := by
  simp only [vecV, slcV, a2t, Option.bind_some]
  rw [if_pos ⟨trivial, by omega, by omega, by rw [List.length_map]; omega⟩]
  rw [Int.toNat_natCast, Int.toNat_natCast, ← List.map_drop, ← List.map_take]
theorem d6H {f : Nat → Int} {lo n m : Nat} (h : lo + n ≤ m) : ((vec m f).drop lo).take n = vec n fun k => f (lo + k) := by
  apply List.ext_getElem
  · simp [a0l]; omega
  · intro i h1 h2
    simp [vec]
theorem e1u : ∀ n, sg n = if n % 2 = 1 then -1 else 1
  | 0 => rfl
  | n + 1 => by
    rw [c2j, e1u n]
    by_cases h : n % 2 = 1
    · rw [if_pos h, if_neg (by omega)]; grind
    · rw [if_neg h, if_pos (by omega)]
/-- The inverse's entries, one after the other: cofactors, and fractions. -/
def qF (b : List (List ZI)) (t : Nat) : Int := cofI b (t % b.length) (t / b.length)
def xF (b : List (List ZI)) (t : Nat) : Rat := (a1t b.length (a4L b.length (Bm b)) (2 * b.length)).M (t / b.length) (b.length + t % b.length)
theorem e5k (b : List (List ZI)) {i k : Nat} (hk : k < b.length) : qF b (i * b.length + k) = cofI b k i := by
  unfold qF
  rw [Nat.add_comm, Nat.add_mul_mod_self_right, Nat.mod_eq_of_lt hk, Nat.add_mul_div_right _ _ (by omega), Nat.div_eq_of_lt hk, Nat.zero_add]
section
variable (b : List (List ZI)) {e : Nat} (hm : Mok e b) (hn : b.length ≤ 64) (hb : ∀ i, (h : i < b.length) → b[i].length = b.length)
include hm hn hb
theorem e1K {c i : Nat} (hi : i < b.length) : Mok e (cutM b c i (b.length - 1)) := d7I hm (by omega) (fun r => by
  rcases Nat.lt_or_ge r b.length with h | h
  · exact .inl (by rw [a3H h, hb r h]; exact hi)
  · exact .inr h) (fun r hr => by unfold skip; split <;> omega)
theorem e3u {c i : Nat} (hc : c < b.length) (hi : i < b.length) : ((cofI b c i : Int) : Rat) = det b.length (a0J (Bm b) i fun r => if r = c then 1 else 0) := by
  obtain ⟨n, hn'⟩ : ∃ n, b.length = n + 1 := ⟨b.length - 1, by omega⟩
  have hd := c8x (e1K b hm hn hb (c := c) hi) (n := n) (by omega)
  have hdet := c4j (n := n) (t := i) (k := c) (Bm b) (by omega) (by omega)
  rw [hn', hdet]
  have e1 : det n (Bm (cutM b c i (b.length - 1))) = det n fun r k => Bm b (skip c r) (skip i k) := by
    refine a1D fun r k hr hk => ?_
    unfold Bm cutM
    rw [d3Z (by omega), e3T]
    have hs : skip c r < b.length := by unfold skip; split <;> omega
    rw [a3H hs, hb _ hs]; exact hi
  rw [← e1, ← hd, e1u]
  unfold cofI
  rw [hn', Nat.add_sub_cancel, Nat.add_comm c i]
  by_cases h : (i + c) % 2 = 1
  · rw [if_pos h, if_pos h, Rat.intCast_neg]; grind
  · rw [if_neg h, if_neg h]; grind
theorem e4Q {c i : Nat} (hi : i < b.length) (hK : KB e + 1 < 1099511627776) : (cofI b c i).natAbs < LB ^ (KB e + 1) := by
  have := d3s (e1K b hm hn hb (c := c) hi) (n := b.length - 1) (by omega) hK
  unfold cofI
  split
  · rw [Int.natAbs_neg]; exact this
  · exact this
omit hn hb in
theorem d8U : Bd e (a4L b.length (Bm b)) := fun i k => by
  unfold a4L
  split
  · exact d9k hm i k
  · split
    · split
      · exact ⟨1, rfl, Nat.one_le_iff_ne_zero.2 (by have := c3E e; omega)⟩
      · exact ⟨0, rfl, by simp⟩
    · exact ⟨0, rfl, by simp⟩
omit hb in
theorem e3X : Sz (xF b) (b.length * b.length) (KB e + 1) := by
  have hB := d8U b hm
  have hBi : ∀ i k, ∃ z : Int, a4L b.length (Bm b) i k = z := fun i k => by obtain ⟨z, h, _⟩ := hB i k; exact ⟨z, h⟩
  have hok := b1I (n := b.length) hBi (2 * b.length)
  have hBd : Bd e (a1t b.length (a4L b.length (Bm b)) (2 * b.length)).s.B := by rw [a2w]; exact hB.gproc _
  have hl := Nat.le_trans hok.g.len hn
  obtain ⟨l, hl1, hl2⟩ := c8d hok hl hBd
  have hlt : LB ^ KB e < LB ^ (KB e + 1) := Nat.pow_lt_pow_right (by decide) (by omega)
  refine ⟨l, fun h => b6H hok.g.piv (by rw [hl1, h]; rfl), by omega, fun t _ => ?_⟩
  obtain ⟨z, hz, hz1⟩ := d4o hok hl hBd (t / b.length) (b.length + t % b.length)
  exact ⟨z, by rw [← hl1]; exact hz, by omega⟩
theorem e2H (hd : detI b.length (Bm b) ≠ 0) {t : Nat} (ht : t < b.length * b.length) : ((qF b t : Int) : Rat) = ((detI b.length (Bm b) : Int) : Rat) * xF b t := by
  have hn0 : 0 < b.length := Nat.pos_of_ne_zero fun h => by rw [h] at ht; omega
  have h1 : t / b.length < b.length := Nat.div_lt_of_lt_mul ht
  have h2 : t % b.length < b.length := Nat.mod_lt _ hn0
  have hdd := c8x hm hn
  have hd0 : det b.length (Bm b) ≠ 0 := fun h => hd (Rat.intCast_inj.1 (by rw [hdd, h]; rfl))
  have := d3c (B := Bm b) (fun i k => ⟨_, rfl⟩) hd0 h1 h2
  unfold qF xF
  rw [e3u b hm hn hb h2 h1, ← this, hdd]
  grind
theorem d8a (hd : detI b.length (Bm b) ≠ 0) : detI b.length (Bm b) = sgD (detI b.length (Bm b)) * (gcdF (detI b.length (Bm b)) (qF b) (b.length * b.length) : Int) * (a0K (xF b) (b.length * b.length) : Int) ∧
    ∀ i, i < b.length * b.length → qF b i = sgD (detI b.length (Bm b)) * (gcdF (detI b.length (Bm b)) (qF b) (b.length * b.length) : Int) * outI (xF b) (b.length * b.length) i :=
  d6O hd fun i hi => e2H b hm hn hb hd hi
end
/-- The inverse as whole numbers. -/
def invM (b : List (List ZI)) : List (List ZI) := mat b.length fun i => vec b.length fun k => outI (xF b) (b.length * b.length) (i * b.length + k)
theorem cl3m (m : List (List ZI)) (z a : Int) : Cl (.tup [matV m, Z z, .int .i64 a]) := c4t (b3F _) (Z_cl _) (.int _ _)
theorem d9a (a : Int) : Le (.tup [.nil, .agg [.bool false, .nil], .int .i64 a]) (.tup [matV [], Z 0, .int .i64 a]) := Le.tup3 (Le.nil 1 (by decide)) le_zero (Le.refl _)
section
variable (b : List (List ZI)) {e : Nat} (hm : Mok e b) (hK : KB e + 1 < 1099511627776)
include hm hK
omit hK in
theorem d3T (h0 : sqE b ≠ 0) : a0d Pr a1S [matV b] (.tup [matV [], Z 0, .int .i64 (sqE b)]) := by
  have hsq := b3h b hm
  unfold sqT at hsq
  have h0' : (sqE b = 0) = False := eq_false h0
  refine a0d.introL a5M a5L (Nat.le_of_ble_eq_true rfl) (cl3m _ _ _) fun H hH => ?_
  refine Safe.rg rfl ?_
  simp only [a3k, E3, seval]
  refine Safe.rg rfl ?_
  simp only [a3j, E3, seval]
  first | refine (hsq).acall ?_ | refine (hsq).dcall ?_
  try simp only [E3, seval]
  refine Safe.rg rfl ?_
  simp only [a3i, h0', E3, seval]
  refine Safe.cd rfl ?_
  simp only [E3, seval]
  refine Safe.rg rfl ?_
  simp only [b1p, E3, seval]
  refine Safe.rt rfl ?_
  simp only [one3, E3, seval]
  exact ⟨d9a _, _, rfl⟩
theorem d7p (h0 : sqE b = 0) (hd : detI b.length (Bm b) = 0) : a0d Pr a1S [matV b] (.tup [matV [], Z 0, .int .i64 50]) := by
  obtain ⟨hn, hrows⟩ := b3g h0
  have hsq := b3h b hm
  unfold sqT at hsq
  rw [if_pos (c1t h0).1, h0] at hsq
  have hdet := c8v b hm rfl hn hK hrows
  rw [hd] at hdet
  have hs : ((0 : Int).sign = 0) = True := eq_true rfl
  refine a0d.introL a5M a5L (Nat.le_of_ble_eq_true rfl) (cl3m _ _ _) fun H hH => ?_
  refine Safe.rg rfl ?_
  simp only [a3k, E3, seval]
  refine Safe.rg rfl ?_
  simp only [a3j, E3, seval]
  first | refine (hsq).acall ?_ | refine (hsq).dcall ?_
  try simp only [E3, seval]
  refine Safe.rg rfl ?_
  simp only [a3i, E3, seval]
  refine Safe.cd rfl ?_
  simp only [E3, seval]
  refine Safe.rg rfl ?_
  simp only [a5K, E3, seval]
  first | refine (hdet).acall ?_ | refine (hdet).dcall ?_
  try simp only [E3, seval]
  refine Safe.rg rfl ?_
  simp only [a5J, E3, seval]
  refine (a3o (canZ 0) (d9n _)).acall ?_
  simp only [a0s, hs, E3, seval]
  refine Safe.cd rfl ?_
  simp only [E3, seval]
  refine Safe.rg rfl ?_
  simp only [b1o, E3, seval]
  refine Safe.rt rfl ?_
  simp only [one3, E3, seval]
  exact ⟨d9a _, _, rfl⟩
theorem e2t (h0 : sqE b = 0) (hd : detI b.length (Bm b) ≠ 0) : a0d Pr a1S [matV b] (.tup [matV (invM b), Z (a0K (xF b) (b.length * b.length) : Nat), .int .i64 0]) := by
  obtain ⟨hn, hrows⟩ := b3g h0
  have hsq := b3h b hm
  unfold sqT at hsq
  rw [if_pos (c1t h0).1, h0] at hsq
  have hdet := c8v b hm rfl hn hK hrows
  have hdk := d3s hm hn hK
  have hnn : b.length * b.length ≤ 64 * 64 := Nat.mul_le_mul hn hn
  have hcof := fun p q (hp : p < b.length) (hq : q < b.length) => c8z b hm hn hrows hK hp hq
  have hqk : ∀ t, t < b.length * b.length → (qF b t).natAbs < LB ^ (KB e + 1) := fun t ht => e4Q b hm hn hrows (Nat.div_lt_of_lt_mul ht) hK
  have hterm := d8a b hm hn hrows hd
  have hinv : ∀ i, i < b.length → (((vec (b.length * b.length) (outI (xF b) (b.length * b.length))).drop (i * b.length)).take b.length) = vec b.length fun k => outI (xF b) (b.length * b.length) (i * b.length + k) := fun i hi => d6H (by
    have := Nat.mul_le_mul_right b.length (show i + 1 ≤ b.length by omega)
    rw [Nat.succ_mul] at this; exact this)
  have hs : ((detI b.length (Bm b)).sign = 0) = False := eq_false fun h => hd (Int.sign_eq_zero_iff_zero.1 h)
  have hq := fun i k (hk : k < b.length) => e5k b (i := i) hk
  unfold invM
  generalize detI b.length (Bm b) = D at *
  generalize outI (xF b) (b.length * b.length) = P at *
  generalize a0K (xF b) (b.length * b.length) = E at *
  generalize qF b = q at *
  clear hrows h0
  generalize hnd : b.length = n at *
  refine a0d.intro a5M a5L (Nat.le_of_ble_eq_true rfl) (cl3m _ _ _) fun H hH => ?_
  refine Safe.rg rfl ?_
  simp only [a3k, E3, seval]
  refine Safe.rg rfl ?_
  simp only [a3j, E3, seval]
  first | refine (hsq).acall ?_ | refine (hsq).dcall ?_
  try simp only [E3, seval]
  refine Safe.rg rfl ?_
  simp only [a3i, E3, seval]
  refine Safe.cd rfl ?_
  simp only [E3, seval]
  refine Safe.rg rfl ?_
  simp only [a5K, E3, seval]
  first | refine (hdet).acall ?_ | refine (hdet).dcall ?_
  try simp only [E3, seval]
  refine Safe.rg rfl ?_
  simp only [a5J, E3, seval]
  refine (a3o (canZ D) ((a0k hdk).mono (by omega))).acall ?_
  simp only [a0s, hs, E3, seval]
  refine Safe.cd rfl ?_
  simp only [E3, seval]
  refine Safe.rg rfl ?_
  simp only [b1n, E3, seval]
  refine Safe.nilrow 8 2 (by decide) (by simp only [E3, seval]) ?_
  refine Safe.rg rfl ?_
  simp only [b1m, E3, seval]
  refine Safe.lp rfl ?_
  refine Safe.keep [0, 3, 5, 7, 8, 28, 29] ?_
  simp only [E3, seval]
  refine Safe.loopN n (fun i => [(0, matV b), (3, .loc (lid H 0) 0 0), (5, .int .i64 n), (7, .loc (lid H 1) 0 0), (8, .mu (lid H 2) 0 (i * n) none), (28, .int .i64 n), (29, .int .i64 i)]) (fun i => hap H [some ⟨2, [.agg [.bool false, .nil]]⟩, some ⟨2, [Z D]⟩, some ⟨2, (vec (i * n) q).map ZI.av⟩]) (by simp only [Nat.zero_mul]; rfl) (by simp only [Nat.zero_mul]; rfl) (fun i hi ih => ?_) ?_
  · have hlt : ((i : Int) < (n : Int)) = True := eq_true (by omega)
    have hiw : IntKind.wrap .i64 ((i : Int) + 1) = ((i + 1 : Nat) : Int) := by rw [a0a] <;> omega
    have hle : (i + 1) * n ≤ n * n := Nat.mul_le_mul_right _ hi
    rw [Nat.succ_mul] at hle ih
    refine Safe.inLoop ?_
    refine Safe.rg rfl ?_
    simp only [a5I, hlt, E3, seval]
    refine Safe.cd rfl ?_
    simp only [E3, seval]
    refine Safe.rg rfl ?_
    simp only [b0e, E3, seval]
    refine Safe.rg rfl ?_
    simp only [b0d, E3, seval]
    refine Safe.lp rfl ?_
    refine Safe.keep [0, 3, 5, 7, 8, 9, 28, 29, 32, 33] ?_
    simp only [E3, seval]
    refine Safe.loopN n (fun k => [(0, matV b), (3, .loc (lid H 0) 0 0), (5, .int .i64 n), (7, .loc (lid H 1) 0 0), (8, .mu (lid H 2) 0 (i * n + k) none), (9, .int .i64 i), (28, .int .i64 n), (29, .int .i64 i), (32, .int .i64 n), (33, .int .i64 k)]) (fun k => hap H [some ⟨2, [.agg [.bool false, .nil]]⟩, some ⟨2, [Z D]⟩, some ⟨2, (vec (i * n + k) q).map ZI.av⟩]) rfl rfl (fun k hk ihk => ?_) ?_
    · have hlt2 : ((k : Int) < (n : Int)) = True := eq_true (by omega)
      have hkw : IntKind.wrap .i64 ((k : Int) + 1) = ((k + 1 : Nat) : Int) := by rw [a0a] <;> omega
      have hcf := hcof k i hk hi
      rw [← hq i k hk] at hcf
      refine Safe.inLoop ?_
      refine Safe.rg rfl ?_
      simp only [a4J, hlt2, E3, seval]
      refine Safe.cd rfl ?_
      simp only [E3, seval]
      refine Safe.rg rfl ?_
      simp only [b0c, E3, seval]
      refine Safe.rg rfl ?_
      simp only [b0b, E3, seval]
      first | refine (hcf).acall ?_ | refine (hcf).dcall ?_
      try simp only [E3, seval]
      rw [a6T hH 2 (a1k H 2) ZI.cl (vec (i * n + k) q) (canZ (q (i * n + k))) (vec (i * n + k + 1) q) ?hlen ?hl ?hL ?hy ?hl2 ?hb ?hbb]
      case hlen => first | rfl | (simp only [a0l, a0i, List.length_map, List.length_take]; done) | (simp only [a0l, a0i, List.length_map, List.length_take]; omega)
      case hl => rfl
      case hL => repeat (first | exact RC.nil | refine RC.none ?_ | refine RC.row ZI.cl ?_ | refine RC.cons (a0j _) ?_ | refine RC.row a0e ?_ | refine RC.emp ?_ | refine RC.zero ?_ | refine RC.one (Z_cl _) ?_ | refine RC.one (ZI.cl _) ?_ | refine RC.one (a0e _) ?_)
      case hy => rfl
      case hl2 => first | exact a7T _ _ | exact a3U _ _ | exact a5m _ (by omega) | exact a1H _ _ (by omega)
      case hb => omega
      case hbb => omega
      simp only [E3, seval]
      refine Safe.rg rfl ?_
      simp only [b0a, hkw, E3, seval]
      refine Safe.keep [0, 3, 5, 7, 8, 9, 28, 29, 32, 33] ?_
      simp only [E3, seval]
      exact ihk
    · refine Safe.inLoop ?_
      refine Safe.rg rfl ?_
      simp only [a4J, Int.lt_irrefl, E3, seval]
      refine Safe.cd rfl ?_
      simp only [E3, seval]
      refine Safe.rg rfl ?_
      simp only [a9Z, hiw, E3, seval]
      refine Safe.keep [0, 3, 5, 7, 8, 28, 29] ?_
      simp only [E3, seval]
      exact ih
  · refine Safe.inLoop ?_
    refine Safe.rg rfl ?_
    simp only [a5I, Int.lt_irrefl, E3, seval]
    refine Safe.cd rfl ?_
    simp only [E3, seval]
    refine Safe.freeze 2 hH rfl rfl (a1T 2 ZI.av _ ZI.cl) ?_
    refine Safe.keep [3, 5, 7, 8] ?_
    simp only [b1b H 2 (vec (n * n) q) (n * n) (none) (by simp only [a0l, a0i]), a1G, a0C, a5z, a2M, E3, seval]
    refine Safe.drop2 hH rfl (by simp only [List.all_cons, List.all_nil, E3, seval]) (by repeat (first | exact RC.nil | refine RC.none ?_ | refine RC.row ZI.cl ?_ | refine RC.cons (a0j _) ?_ | refine RC.row a0e ?_ | refine RC.emp ?_ | refine RC.zero ?_ | refine RC.one (Z_cl _) ?_ | refine RC.one (ZI.cl _) ?_ | refine RC.one (a0e _) ?_)) ?_
    have ht := d4V q P D (E : Nat) hqk hdk (by omega) (by omega) hd hterm.1 hterm.2
    refine Safe.rg rfl ?_
    simp only [a9Y, E3, seval]
    refine ht.acall ?_
    simp only [E3, seval]
    refine Safe.rg rfl ?_
    simp only [a9X, E3, seval]
    refine Safe.nilrow 11 1 (by decide) (by simp only [E3, seval]) ?_
    refine Safe.rg rfl ?_
    simp only [a9W, E3, seval]
    refine Safe.lp rfl ?_
    refine Safe.keep [3, 5, 7, 8, 11, 51, 52] ?_
    try simp only [E3, seval]
    refine Safe.loopN (n) (fun i => [(3, .loc (lid H 0) 0 0), (5, .int .i64 n), (7, .loc (lid H 1) 0 0), (8, vecV (vec (n * n) P)), (11, .mu (lid H 2) 0 i none), (51, .int .i64 n), (52, .int .i64 i)]) (fun i => hap H [some ⟨2, [.agg [.bool false, .nil]]⟩, some ⟨2, [Z (E : Nat)]⟩, some ⟨1, (mat i fun i => vec n fun k => P (i * n + k)).map vecV⟩]) rfl rfl (fun i hi ih => ?_) ?_
    · have hlt : ((i : Int) < (n : Int)) = True := eq_true (by omega)
      have hiw : IntKind.wrap .i64 ((i : Int) + 1) = ((i + 1 : Nat) : Int) := by rw [a0a] <;> omega
      have hle : (i + 1) * n ≤ n * n := Nat.mul_le_mul_right _ hi
      rw [Nat.succ_mul] at hle
      have hm0 : IntKind.wrap .i64 ((i : Int) * (n : Int)) = ((i * n : Nat) : Int) := by rw [← Int.natCast_mul, a0a] <;> omega
      have hm1 : IntKind.wrap .i64 (((i + 1 : Nat) : Int) * (n : Int)) = ((i * n + n : Nat) : Int) := by rw [← Int.natCast_mul, Nat.succ_mul, a0a] <;> omega
      have hsl := d1S (hap H [some ⟨2, [.agg [.bool false, .nil]]⟩, some ⟨2, [Z (E : Nat)]⟩, some ⟨1, (mat i fun i => vec n fun k => P (i * n + k)).map vecV⟩]) (vec (n * n) P) .i64 .i64 .i64 (lo := i * n) (hi := i * n + n) (by omega) (by rw [a0l]; omega)
      rw [show i * n + n - i * n = n by omega, hinv i hi] at hsl
      refine Safe.inLoop ?_
      refine Safe.rg rfl ?_
      simp only [a4I, hlt, E3, seval]
      refine Safe.cd rfl ?_
      simp only [E3, seval]
      refine Safe.rg rfl ?_
      simp only [a9V, E3, seval]
      refine Safe.rg rfl ?_
      simp only [a9U, hm0, hiw, hm1, hsl, E3, seval]
      rw [a6T hH 2 (a1k H 2) a0e (mat i fun i => vec n fun k => P (i * n + k)) (vec n fun k => P (i * n + k)) (mat (i + 1) fun i => vec n fun k => P (i * n + k)) ?hlen ?hl ?hL ?hy ?hl2 ?hb ?hbb]
      case hlen => first | rfl | (simp only [a0l, a0i, List.length_map, List.length_take]; done) | (simp only [a0l, a0i, List.length_map, List.length_take]; omega)
      case hl => rfl
      case hL => repeat (first | exact RC.nil | refine RC.none ?_ | refine RC.row ZI.cl ?_ | refine RC.cons (a0j _) ?_ | refine RC.row a0e ?_ | refine RC.emp ?_ | refine RC.zero ?_ | refine RC.one (Z_cl _) ?_ | refine RC.one (ZI.cl _) ?_ | refine RC.one (a0e _) ?_)
      case hy => rfl
      case hl2 => first | exact a7T _ _ | exact a3U _ _ | exact a5m _ (by omega) | exact a1H _ _ (by omega)
      case hb => omega
      case hbb => omega
      simp only [E3, seval]
      refine Safe.rg rfl ?_
      simp only [a9T, hiw, E3, seval]
      refine Safe.keep [3, 5, 7, 8, 11, 51, 52] ?_
      simp only [E3, seval]
      exact ih
    · refine Safe.inLoop ?_
      refine Safe.rg rfl ?_
      simp only [a4I, Int.lt_irrefl, E3, seval]
      refine Safe.cd rfl ?_
      simp only [E3, seval]
      refine Safe.freeze 2 hH rfl rfl (a1T 1 vecV _ a0e) ?_
      refine Safe.keep [3, 7, 11] ?_
      simp only [c8j H 2 (mat n fun i => vec n fun k => P (i * n + k)) (n) (none) (by simp only [a0l, a0i]), a1G, a0C, a5z, a2M, E3, seval]
      refine Safe.rg rfl ?_
      simp only [a9S, E3, seval]
      refine Safe.rt rfl ?_
      simp only [E3, seval]
      first | exact ⟨rfl, _, rfl⟩ | exact ⟨_, rfl⟩ | exact ⟨trivial, _, rfl⟩
end
end Go.Abs
set_option linter.unusedVariables false
set_option linter.unusedSimpArgs false
namespace Go.Abs
/-- The matrix with the unit behind it, as it is built. -/
def a4m (b : List (List ZI)) (m : Nat) : List (List ZI) := mat m fun i => mg b i ++ mg (a4o b.length) i
theorem e3N (b : List (List ZI)) (hb : ∀ i, (h : i < b.length) → b[i].length = b.length) : ∀ j k, j < b.length → (((zg (mg (a4m b b.length) j) k : Int)) : Rat) = a4L b.length (Bm b) j k := fun j k hj => by
  unfold a4m a4L Bm
  have hl : (mg b j).length = b.length := by rw [a3H hj]; exact hb j hj
  rw [d3Z hj, e1n, hl]
  by_cases h : k < b.length
  · rw [if_pos h, if_pos h]
  · rw [if_neg h, if_neg h]
    unfold a4o
    rw [d3Z hj]
    by_cases h2 : k < 2 * b.length
    · rw [if_pos h2, e3S (by omega)]
      unfold updF
      by_cases h3 : j = k - b.length
      · rw [if_pos h3, if_pos h3.symm]; rfl
      · rw [if_neg h3, if_neg (fun h => h3 h.symm)]; rfl
    · rw [if_neg h2]
      have : zg (vec b.length (updF (fun _ => 0) j 1)) (k - b.length) = 0 := by
        unfold zg; rw [List.getD_eq_getElem?_getD, List.getElem?_eq_none (by rw [a0l]; omega)]; rfl
      rw [this]; rfl
theorem d2L {β n w c : Nat} {oc : Option Nat} {S S' : Nat → Nat → AV} (h : ∀ j k, j < n → S j k = S' j k) : a1i β n w c oc S = a1i β n w c oc S' := by
  unfold a1i
  congr 1
  refine List.map_congr_left fun j hj => ?_
  have hj' := List.mem_range.1 hj
  have : S j = S' j := funext fun k => h j k hj'
  rw [this]
section
variable (b : List (List ZI)) {e : Nat} (hm : Mok e b) (hK : KB e + 1 < 1099511627776)
include hm
theorem d9C (h0 : elE b ≠ 0) : a0d Pr a1s [matV b] (.tup [matV [], Z 0, .int .i64 (elE b)]) := by
  have h0' : (elE b = 0) = False := eq_false h0
  refine a0d.introL a2F a2E (Nat.le_of_ble_eq_true rfl) (cl3m _ _ _) fun H hH => ?_
  refine Safe.rg rfl ?_
  simp only [a1N, E3, seval]
  refine Safe.rg rfl ?_
  simp only [a1M, E3, seval]
  first | refine (a1R b hm).acall ?_ | refine (a1R b hm).dcall ?_
  try simp only [E3, seval]
  refine Safe.rg rfl ?_
  simp only [a1L, h0', E3, seval]
  refine Safe.cd rfl ?_
  simp only [E3, seval]
  refine Safe.rg rfl ?_
  simp only [a9E, E3, seval]
  refine Safe.rt rfl ?_
  simp only [one3, E3, seval]
  exact ⟨d9a _, _, rfl⟩
theorem d5g (h0 : elE b = 0) (hl : b.length ≠ wid b) : a0d Pr a1s [matV b] (.tup [matV [], Z 0, .int .i64 8]) := by
  obtain ⟨hn64, hw, hr, hrows⟩ := b6c h0
  have hl' : ((b.length : Int) = (wid b : Int)) = False := eq_false (by omega)
  refine a0d.introL a2F a2E (Nat.le_of_ble_eq_true rfl) (cl3m _ _ _) fun H hH => ?_
  refine Safe.rg rfl ?_
  simp only [a1N, E3, seval]
  refine Safe.rg rfl ?_
  simp only [a1M, E3, seval]
  first | refine (a1R b hm).acall ?_ | refine (a1R b hm).dcall ?_
  try simp only [E3, seval]
  refine Safe.rg rfl ?_
  simp only [a1L, h0, E3, seval]
  refine Safe.cd rfl ?_
  simp only [E3, seval]
  refine Safe.rg rfl ?_
  simp only [a2D, E3, seval]
  refine Safe.rg rfl ?_
  simp only [a2C, E3, seval]
  first | refine (a4l b hm hr).acall ?_ | refine (a4l b hm hr).dcall ?_
  try simp only [E3, seval]
  simp only [hl', E3, seval]
  refine Safe.cd rfl ?_
  simp only [E3, seval]
  refine Safe.rg rfl ?_
  simp only [a9D, E3, seval]
  refine Safe.rt rfl ?_
  simp only [one3, E3, seval]
  exact ⟨d9a _, _, rfl⟩
include hK
theorem d7h (h0 : elE b = 0) (hl : b.length = wid b) (hr : c1l b.length (wid b) (Bm b) < b.length) : a0d Pr a1s [matV b] (.tup [matV [], Z 0, .int .i64 50]) := by
  obtain ⟨hn64, hw, hrc, hrows⟩ := b6c h0
  have hl' : ((b.length : Int) = (wid b : Int)) = True := eq_true (by omega)
  have hr' : ((c1l b.length (wid b) (Bm b) : Int) < (b.length : Int)) = True := eq_true (by omega)
  refine a0d.introL a2F a2E (Nat.le_of_ble_eq_true rfl) (cl3m _ _ _) fun H hH => ?_
  refine Safe.rg rfl ?_
  simp only [a1N, E3, seval]
  refine Safe.rg rfl ?_
  simp only [a1M, E3, seval]
  first | refine (a1R b hm).acall ?_ | refine (a1R b hm).dcall ?_
  try simp only [E3, seval]
  refine Safe.rg rfl ?_
  simp only [a1L, h0, E3, seval]
  refine Safe.cd rfl ?_
  simp only [E3, seval]
  refine Safe.rg rfl ?_
  simp only [a2D, E3, seval]
  refine Safe.rg rfl ?_
  simp only [a2C, E3, seval]
  first | refine (a4l b hm hrc).acall ?_ | refine (a4l b hm hrc).dcall ?_
  try simp only [E3, seval]
  simp only [hl', E3, seval]
  refine Safe.cd rfl ?_
  simp only [E3, seval]
  refine Safe.rg rfl ?_
  simp only [a4u, E3, seval]
  first | refine (c1w b hm hK h0).acall ?_ | refine (c1w b hm hK h0).dcall ?_
  try simp only [E3, seval]
  refine Safe.rg rfl ?_
  simp only [a4t, hr', E3, seval]
  refine Safe.cd rfl ?_
  simp only [E3, seval]
  refine Safe.rg rfl ?_
  simp only [a9C, E3, seval]
  refine Safe.rt rfl ?_
  simp only [one3, E3, seval]
  exact ⟨d9a _, _, rfl⟩
theorem e2j (h0 : elE b = 0) (hl : b.length = wid b) (hr : c1l b.length (wid b) (Bm b) = b.length) : a0d Pr a1s [matV b] (.tup [matV (invM b), Z (a0K (xF b) (b.length * b.length) : Nat), .int .i64 0]) := by
  obtain ⟨hn, hw, hrc, hrows0⟩ := b6c h0
  have hrows : ∀ i, (h : i < b.length) → b[i].length = b.length := fun i h => by rw [hrows0 i h, hl]
  have hl' : ((b.length : Int) = (wid b : Int)) = True := eq_true (by omega)
  have hr' : ((c1l b.length (wid b) (Bm b) : Int) < (b.length : Int)) = False := eq_false (by omega)
  have hBi : ∀ i k, ∃ z : Int, Bm b i k = z := fun i k => ⟨_, rfl⟩
  have hdet : det b.length (Bm b) ≠ 0 := (c8h hBi).1 (by unfold c1l at hr; rw [← hl] at hr; exact hr)
  obtain ⟨hcl, hci⟩ := d8T hBi hdet
  have hxs := e3X b hm hn
  have hnn : b.length * b.length ≤ 64 * 64 := Nat.mul_le_mul hn hn
  have hB := d8U b hm
  have hul : (a4o b.length).length = b.length := by unfold a4o; rw [a0i]
  have hur : ∀ i, i < b.length → (mg (a4o b.length) i).length = b.length := fun i hi => by unfold a4o; rw [d3Z hi, a0l]
  have hrw : ∀ i, i < b.length → (mg b i).length = b.length := fun i hi => by rw [a3H hi]; exact hrows i hi
  have hm2 : IntKind.wrap .i64 (2 * (b.length : Int)) = ((2 * b.length : Nat) : Int) := by rw [a0a] <;> omega
  have hub := e0e b.length hn
  have hzm : Mok 17592186044416 (a4m b b.length) := c7U (by omega) fun i hi => ⟨by rw [List.length_append, hrw i hi, hur i hi]; omega, fun x hx => by
    rcases List.mem_append.1 hx with h | h
    · exact ((d7J b hm hK).row i).el x h
    · exact ((hub.mono (by omega)).row i).el x h⟩
  have hcm : ∀ i, (h : i < (a4m b b.length).length) → (a4m b b.length)[i].length = 2 * b.length := fun i h => by
    have hi : i < b.length := by simpa [a4m, a0i] using h
    have : (a4m b b.length)[i] = mg b i ++ mg (a4o b.length) i := d2N h
    rw [this, List.length_append, hrw i hi, hur i hi]; omega
  have hlm : (a4m b b.length).length = b.length := by rw [a4m, a0i]
  have hBB := e3N b hrows
  have hinv : ∀ i, i < b.length → (((vec (b.length * b.length) (outI (xF b) (b.length * b.length))).drop (i * b.length)).take b.length) = vec b.length fun k => outI (xF b) (b.length * b.length) (i * b.length + k) := fun i hi => d6H (by
    have := Nat.mul_le_mul_right b.length (show i + 1 ≤ b.length by omega)
    rw [Nat.succ_mul] at this; exact this)
  have hxat : ∀ i k, k < b.length → (a1t b.length (a4L b.length (Bm b)) (2 * b.length)).M i (b.length + k) = xF b (i * b.length + k) := fun i k hk => by
    unfold xF
    rw [show (i * b.length + k) / b.length = i by rw [Nat.add_comm, Nat.add_mul_div_right _ _ (by omega), Nat.div_eq_of_lt hk, Nat.zero_add], show (i * b.length + k) % b.length = k by rw [Nat.add_comm, Nat.add_mul_mod_self_right, Nat.mod_eq_of_lt hk]]
  unfold invM
  refine a0d.intro a2F a2E (Nat.le_of_ble_eq_true rfl) (cl3m _ _ _) fun H hH => ?_
  have hzx : a0L (hap H [some ⟨2, [.agg [.bool false, .nil]]⟩]) := d0X hH fun c hc a ha => by
    have : c = ⟨2, [.agg [.bool false, .nil]]⟩ := by simpa using hc
    subst this
    exact b3d a ha
  refine Safe.rg rfl ?_
  simp only [a1N, E3, seval]
  refine Safe.rg rfl ?_
  simp only [a1M, E3, seval]
  first | refine (a1R b hm).acall ?_ | refine (a1R b hm).dcall ?_
  try simp only [E3, seval]
  refine Safe.rg rfl ?_
  simp only [a1L, h0, E3, seval]
  refine Safe.cd rfl ?_
  simp only [E3, seval]
  refine Safe.rg rfl ?_
  simp only [a2D, E3, seval]
  refine Safe.rg rfl ?_
  simp only [a2C, E3, seval]
  first | refine (a4l b hm hrc).acall ?_ | refine (a4l b hm hrc).dcall ?_
  try simp only [E3, seval]
  simp only [hl', E3, seval]
  refine Safe.cd rfl ?_
  simp only [E3, seval]
  refine Safe.rg rfl ?_
  simp only [a4u, E3, seval]
  first | refine (c1w b hm hK h0).acall ?_ | refine (c1w b hm hK h0).dcall ?_
  try simp only [E3, seval]
  refine Safe.rg rfl ?_
  simp only [a4t, hr', E3, seval]
  refine Safe.cd rfl ?_
  simp only [E3, seval]
  refine Safe.rg rfl ?_
  simp only [a7y, E3, seval]
  first | refine (d3Q b.length hn).acall ?_ | refine (d3Q b.length hn).dcall ?_
  try simp only [E3, seval]
  refine Safe.rg rfl ?_
  simp only [a7x, E3, seval]
  refine Safe.nilrow 11 1 (by decide) (by simp only [E3, seval]) ?_
  refine Safe.rg rfl ?_
  simp only [a7w, E3, seval]
  refine Safe.lp rfl ?_
  refine Safe.keep [0, 3, 6, 9, 11, 12] ?_
  try simp only [E3, seval]
  refine Safe.loopN (b.length) (fun i => [(0, matV b), (3, .loc (lid H 0) 0 0), (6, .int .i64 b.length), (9, matV (a4o b.length)), (11, .mu (lid H 1) 0 i none), (12, .int .i64 i)]) (fun i => hap H [some ⟨2, [.agg [.bool false, .nil]]⟩, some ⟨1, (a4m b i).map vecV⟩]) rfl rfl (fun i hi ih => ?_) ?_
  · have hlt : ((i : Int) < (b.length : Int)) = True := eq_true (by omega)
    have hiw : IntKind.wrap .i64 ((i : Int) + 1) = ((i + 1 : Nat) : Int) := by rw [a0a] <;> omega
    have hmg : mg b i = b[i] := a3H hi
    have hug : mg (a4o b.length) i = (a4o b.length)[i]'(by omega) := a3H (by omega)
    have hbl := hrows i hi
    have hul2 := hur i hi
    rw [hug] at hul2
    refine Safe.inLoop ?_
    refine Safe.rg rfl ?_
    simp only [a3F, hlt, E3, seval]
    refine Safe.cd rfl ?_
    simp only [E3, seval]
    refine Safe.rg rfl ?_
    simp only [a7v, E3, seval]
    refine Safe.nilrow 13 2 (by decide) (by simp only [E3, seval]) ?_
    have a1 : ∀ env, appV H.length 2 32 false (.mu (lid H 2) 0 0 none) (vecV b[i]) env (hap H [some ⟨2, [.agg [.bool false, .nil]]⟩, some ⟨1, (a4m b i).map vecV⟩, some ⟨2, []⟩]) =
        some (.mu (lid H 2) 0 b.length none, scrub (lid H 2) env, hap H [some ⟨2, [.agg [.bool false, .nil]]⟩, some ⟨1, (a4m b i).map vecV⟩, some ⟨2, b[i].map ZI.av⟩]) := by
      intro env
      have := a5g H.length env H [some ⟨2, [.agg [.bool false, .nil]]⟩, some ⟨1, (a4m b i).map vecV⟩, some ⟨2, []⟩] 2 32 false 2 0 none (vecV b[i]) [] (b[i].map ZI.av) hH rfl rfl (a1k H 2)
        (a1X _ 2 _) (a5f (by repeat (first | exact RC.nil | refine RC.none ?_ | refine RC.row ZI.cl ?_ | refine RC.cons (a0j _) ?_ | refine RC.row a0e ?_ | refine RC.emp ?_ | refine RC.zero ?_ | refine RC.one (Z_cl _) ?_ | refine RC.one (ZI.cl _) ?_ | refine RC.one (a0e _) ?_))) (fun a ha => (b3I b[i] a ha).ref) (by rw [List.length_map]; omega) (by rw [List.length_map]; omega) rfl
      simp only [a0S, Option.bind_none, List.length_map, hbl, Nat.zero_add, List.set_cons_succ, List.set_cons_zero, List.nil_append] at this
      exact this
    have a2 : ∀ env, appV H.length 2 32 false (.mu (lid H 2) 0 b.length none) (vecV ((a4o b.length)[i]'(by omega))) env (hap H [some ⟨2, [.agg [.bool false, .nil]]⟩, some ⟨1, (a4m b i).map vecV⟩, some ⟨2, b[i].map ZI.av⟩]) =
        some (.mu (lid H 2) 0 (b.length + b.length) none, scrub (lid H 2) env, hap H [some ⟨2, [.agg [.bool false, .nil]]⟩, some ⟨1, (a4m b i).map vecV⟩, some ⟨2, (b[i] ++ mg (a4o b.length) i).map ZI.av⟩]) := by
      intro env
      have := a5g H.length env H [some ⟨2, [.agg [.bool false, .nil]]⟩, some ⟨1, (a4m b i).map vecV⟩, some ⟨2, b[i].map ZI.av⟩] 2 32 false 2 b.length none (vecV ((a4o b.length)[i]'(by omega))) (b[i].map ZI.av) (((a4o b.length)[i]'(by omega)).map ZI.av) hH rfl (by rw [List.length_map, hbl]) (a1k H 2)
        (a1X _ 2 _) (a5f (by repeat (first | exact RC.nil | refine RC.none ?_ | refine RC.row ZI.cl ?_ | refine RC.cons (a0j _) ?_ | refine RC.row a0e ?_ | refine RC.emp ?_ | refine RC.zero ?_ | refine RC.one (Z_cl _) ?_ | refine RC.one (ZI.cl _) ?_ | refine RC.one (a0e _) ?_))) (fun a ha => (b3I _ a ha).ref) (by rw [List.length_map]; omega) (by rw [List.length_map]; omega) rfl
      rw [hug]
      simp only [a0S, Option.bind_none, List.length_map, hul2, List.set_cons_succ, List.set_cons_zero, ← List.map_append] at this
      exact this
    have a3 : ∀ env, appV H.length 1 24 false (.mu (lid H 1) 0 i none) (.mu (lid H 3) 0 1 (some 1)) env (hap H [some ⟨2, [.agg [.bool false, .nil]]⟩, some ⟨1, (a4m b i).map vecV⟩, some ⟨2, (b[i] ++ mg (a4o b.length) i).map ZI.av⟩, some ⟨1, [.mu (lid H 2) 0 (b.length + b.length) none]⟩]) =
        some (.mu (lid H 1) 0 (i + 1) none, scrub (lid H 1) env, hap H [some ⟨2, [.agg [.bool false, .nil]]⟩, some ⟨1, (a4m b i).map vecV ++ [.mu (lid H 2) 0 (b.length + b.length) none]⟩, some ⟨2, (b[i] ++ mg (a4o b.length) i).map ZI.av⟩, some ⟨1, [.mu (lid H 2) 0 (b.length + b.length) none]⟩]) := by
      intro env
      have h01 : lid H 2 ≠ lid H 1 := by simp [lid]
      have := a5g H.length env H [some ⟨2, [.agg [.bool false, .nil]]⟩, some ⟨1, (a4m b i).map vecV⟩, some ⟨2, (b[i] ++ mg (a4o b.length) i).map ZI.av⟩, some ⟨1, [.mu (lid H 2) 0 (b.length + b.length) none]⟩] 1 24 false 1 i none (.mu (lid H 3) 0 1 (some 1)) ((a4m b i).map vecV) [.mu (lid H 2) 0 (b.length + b.length) none] hH rfl (by rw [List.length_map, a4m, a0i]) (a1k H 1)
        (c8Z H _ 1 3 0 1 (some 1) [.mu (lid H 2) 0 (b.length + b.length) none] rfl (Nat.le_refl _)) (by
          intro j r hj a ha
          match j with
          | 0 => cases hj; exact (b3d a ha).ref
          | 1 => cases hj; exact (a1T 1 vecV _ a0e a ha).ref
          | 2 => cases hj; exact (b3I _ a ha).ref
          | 3 =>
            cases hj
            simp [Blk.flat, AV.cells] at ha
            subst ha
            exact .mu _ _ _ _ h01
          | j + 4 => simp at hj) (by
          intro a ha
          simp [AV.cells] at ha
          subst ha
          exact .mu _ _ _ _ h01) (by simp; omega) (by simp; omega) rfl
      simp only [a0S, Option.bind_none, List.length_cons, List.length_nil, Nat.zero_add, List.set_cons_succ, List.set_cons_zero] at this
      exact this
    refine Safe.rg rfl ?_
    simp only [a7u, a2u _ b _ i hi, a1, E3, seval]
    refine Safe.rg rfl ?_
    simp only [a7t, a2u _ (a4o b.length) _ i (by omega), a2, a3, E3, seval]
    refine Safe.freeze 2 hH rfl rfl (b3I _) ?_
    have hfz : ((a4m b i).map vecV ++ [AV.mu (lid H 2) 0 (b.length + b.length) none]).map (frz (lid H 2) ⟨2, (b[i] ++ mg (a4o b.length) i).map ZI.av⟩) = (a4m b (i + 1)).map vecV := by
      rw [List.map_append, a2M, List.map_cons, List.map_nil, b1b H 2 (b[i] ++ mg (a4o b.length) i) _ none (by rw [List.length_append, hbl, hur i hi])]
      unfold a4m
      rw [a3U, List.map_append, hmg]; rfl
    have hfy : [AV.mu (lid H 2) 0 (b.length + b.length) none].map (frz (lid H 2) ⟨2, (b[i] ++ mg (a4o b.length) i).map ZI.av⟩) = [vecV (b[i] ++ mg (a4o b.length) i)] := by
      rw [List.map_cons, List.map_nil, b1b H 2 (b[i] ++ mg (a4o b.length) i) _ none (by rw [List.length_append, hbl, hur i hi])]
    simp only [hfz, hfy, a1G, a0C, E3, seval]
    refine Safe.rg rfl ?_
    simp only [a7s, hiw, E3, seval]
    refine Safe.keep [0, 3, 6, 9, 11, 12] ?_
    simp only [E3, seval]
    refine Safe.drop3 hH rfl (by simp only [List.all_cons, List.all_nil, E3, seval]) (by repeat (first | exact RC.nil | refine RC.none ?_ | refine RC.row ZI.cl ?_ | refine RC.cons (a0j _) ?_ | refine RC.row a0e ?_ | refine RC.emp ?_ | refine RC.zero ?_ | refine RC.one (Z_cl _) ?_ | refine RC.one (ZI.cl _) ?_ | refine RC.one (a0e _) ?_)) ?_
    refine Safe.drop2 hH rfl (by simp only [List.all_cons, List.all_nil, E3, seval]) (by repeat (first | exact RC.nil | refine RC.none ?_ | refine RC.row ZI.cl ?_ | refine RC.cons (a0j _) ?_ | refine RC.row a0e ?_ | refine RC.emp ?_ | refine RC.zero ?_ | refine RC.one (Z_cl _) ?_ | refine RC.one (ZI.cl _) ?_ | refine RC.one (a0e _) ?_)) ?_
    exact ih
  · refine Safe.inLoop ?_
    refine Safe.rg rfl ?_
    simp only [a3F, Int.lt_irrefl, E3, seval]
    refine Safe.cd rfl ?_
    simp only [E3, seval]
    refine Safe.freeze 1 hH rfl rfl (a1T 1 vecV _ a0e) ?_
    refine Safe.keep [3, 6, 11] ?_
    simp only [c8j H 1 (a4m b b.length) b.length none (by rw [hlm]), a0C, E3, seval]
    refine Safe.drop1 hH rfl (by simp only [List.all_cons, List.all_nil, E3, seval]) (by repeat (first | exact RC.nil | refine RC.none ?_ | refine RC.row ZI.cl ?_ | refine RC.cons (a0j _) ?_ | refine RC.row a0e ?_ | refine RC.emp ?_ | refine RC.zero ?_ | refine RC.one (Z_cl _) ?_ | refine RC.one (ZI.cl _) ?_ | refine RC.one (a0e _) ?_)) ?_
    have hrt := c5j (a4m b b.length) hcm (by omega) (by omega) hzm (hap H [some ⟨2, [.agg [.bool false, .nil]]⟩])
    rw [hlm, d2L (S' := fun j k => Rv (a4L b.length (Bm b) j k)) (fun j k hj => by rw [hBB j k hj])] at hrt
    refine Safe.rg rfl ?_
    simp only [a7r, E3, seval]
    refine hrt.mono ?_
    rintro r' H' ⟨rfl, rfl⟩
    simp only [hm2, E3, seval]
    refine (d0r hB (.inl hn) (by omega) (by omega) hK (A := hap H [some ⟨2, [.agg [.bool false, .nil]]⟩]) hzx).mono ?_
    rintro r' A ⟨h1, ⟨L', hL'⟩, hHr, rfl⟩
    have hA0 : A[lid H 0]? = some (some ⟨2, [.agg [.bool false, .nil]]⟩) := by
      rw [hL']; simp [hap, lid]
    have hbA : lid (hap H [some ⟨2, [.agg [.bool false, .nil]]⟩]) 0 = lid H 1 := by rw [d2Q]; rfl
    rw [hbA] at h1 ⊢
    have hAH : ∃ L, A = hap H L := ⟨_, by rw [hL', a6n]⟩
    clear hL' hrt
    rw [← a2N A]
    have hβA : lid H 1 < A.length := a0m h1
    have hzA : lid H 0 < A.length := a0m hA0
    have hnb : ∀ j (L : Nat) oc, nref (lid A j) (.mu (lid H 1) 0 L oc) = true := fun j L oc => b3n (by unfold lid at *; omega)
    have hn0 : ∀ j, nref (lid A j) (.loc (lid H 0) 0 0) = true := fun j => a0y.2 (.loc _ _ _ (show lid H 0 ≠ lid A j by unfold lid at *; omega))
    have hf0 : ∀ j r, frz (lid A j) r (.loc (lid H 0) 0 0) = .loc (lid H 0) 0 0 := fun j r => b1c (.loc _ _ _ (show lid H 0 ≠ lid A j by unfold lid at *; omega))
    have hHA : H.length ≤ A.length := by unfold lid at *; omega
    have hHl : ∀ j, H.length ≤ lid A j := fun j => by unfold lid at *; omega
    rw [hcl]
    generalize dv b.length (a4L b.length (Bm b)) (2 * b.length) = dvv at *
    generalize (gproc b.length (a4L b.length (Bm b)) (2 * b.length)).cs = cs at *
    generalize (a1t b.length (a4L b.length (Bm b)) (2 * b.length)).M = M at *
    generalize hr0 : lid H 1 = β at *
    generalize hz0 : lid H 0 = ζ at *
    generalize xF b = x at *
    simp only [a0w, a0G, a3m, E3, seval]
    refine Safe.rg rfl ?_
    simp only [a7q, E3, seval]
    refine Safe.nilrow 17 4 (by decide) (by simp only [E3, seval]) ?_
    refine Safe.rg rfl ?_
    simp only [a7p, E3, seval]
    refine Safe.lp rfl ?_
    refine Safe.keep [3, 6, 14, 17, 18] ?_
    simp only [E3, seval]
    refine Safe.loopN b.length (fun i => [(3, .loc ζ 0 0), (6, .int .i64 b.length), (14, .mu β 0 b.length none), (17, .mu (lid A 1) 0 (i * b.length) none), (18, .int .i64 i)]) (fun i => hap A [some ⟨4, [Rv dvv]⟩, some ⟨4, (List.range (i * b.length)).map fun j => Rv (x j)⟩]) (by simp only [Nat.zero_mul]; rfl) (by simp only [Nat.zero_mul]; rfl) (fun i hi ih => ?_) ?_
    · have hlt : ((i : Int) < (b.length : Int)) = True := eq_true (by omega)
      have hiw : IntKind.wrap .i64 ((i : Int) + 1) = ((i + 1 : Nat) : Int) := by rw [a0a] <;> omega
      have hle : (i + 1) * b.length ≤ b.length * b.length := Nat.mul_le_mul_right _ hi
      rw [Nat.succ_mul] at hle ih
      have hslc : slcV (hap A [some ⟨4, [Rv dvv]⟩, some ⟨4, (List.range (i * b.length)).map fun j => Rv (x j)⟩]) 4 (rvV (M i) (2 * b.length)) (some (.int .i64 b.length)) none none = some (.sl 4 ((List.range b.length).map fun k => Rv (x (i * b.length + k)))) := by
        simp only [rvV, slcV, a2t, Option.bind_some, c1c]
        rw [if_pos ⟨trivial, by omega, by omega, Int.le_refl _⟩]
        congr 2
        apply List.ext_getElem
        · simp [fr]; omega
        · intro k g1 g2
          have hk : k < b.length := by simpa using g2
          simp [fr, hxat i k hk]
      have happ : ∀ env, appV H.length 4 64 false (.mu (lid A 1) 0 (i * b.length) none) (.sl 4 ((List.range b.length).map fun k => Rv (x (i * b.length + k)))) env (hap A [some ⟨4, [Rv dvv]⟩, some ⟨4, (List.range (i * b.length)).map fun j => Rv (x j)⟩]) =
          some (.mu (lid A 1) 0 (i * b.length + b.length) none, scrub (lid A 1) env, hap A [some ⟨4, [Rv dvv]⟩, some ⟨4, (List.range (i * b.length + b.length)).map fun j => Rv (x j)⟩]) := by
        intro env
        have := a5g H.length env A [some ⟨4, [Rv dvv]⟩, some ⟨4, (List.range (i * b.length)).map fun j => Rv (x j)⟩] 4 64 false 1 (i * b.length) none (.sl 4 ((List.range b.length).map fun k => Rv (x (i * b.length + k)))) ((List.range (i * b.length)).map fun j => Rv (x j)) ((List.range b.length).map fun k => Rv (x (i * b.length + k))) hHr rfl (by simp) (hHl 1)
          (a1X _ 4 _) (a5f (RC.one (a4M _) (RC.row (fun j => a4M _) RC.nil))) (fun a ha => (a3I (w := 4) (c := b.length) (f := fun k => Rv (x (i * b.length + k))) (fun _ _ => a4M _) a ha).ref) (by simp; omega) (by simp; omega) rfl
        have hcat : ((List.range (i * b.length)).map fun j => Rv (x j)) ++ ((List.range b.length).map fun k => Rv (x (i * b.length + k))) = (List.range (i * b.length + b.length)).map fun j => Rv (x j) := by
          rw [List.range_add, List.map_append, List.map_map]; rfl
        simp only [a0S, Option.bind_none, List.length_map, List.length_range, List.set_cons_succ, List.set_cons_zero, hcat] at this
        exact this
      refine Safe.inLoop ?_
      refine Safe.rg rfl ?_
      simp only [a3E, hlt, E3, seval]
      refine Safe.cd rfl ?_
      simp only [E3, seval]
      refine Safe.rg rfl ?_
      simp only [a7o, e5s h1 _ hi, B_at h1 (fun _ _ => rfl) _ hi, hslc, happ, E3, seval]
      simp only [hnb, hn0, E3, seval]
      refine Safe.rg rfl ?_
      simp only [a7n, hiw, E3, seval]
      refine Safe.keep [3, 6, 14, 17, 18] ?_
      simp only [hnb, hn0, E3, seval]
      exact ih
    · refine Safe.inLoop ?_
      refine Safe.rg rfl ?_
      simp only [a3E, Int.lt_irrefl, E3, seval]
      refine Safe.cd rfl ?_
      simp only [E3, seval]
      have hfz : frz (lid A 1) ⟨4, (List.range (b.length * b.length)).map fun j => Rv (x j)⟩ (.mu (lid A 1) 0 (b.length * b.length) none) = rvV x (b.length * b.length) := by
        rw [a8U A 1 _ _ none (by rw [List.length_map, List.length_range])]; rfl
      refine Safe.freezeB 1 hHr hHA rfl (a3I fun _ _ => a4M _) ?_
      refine Safe.keep [3, 6, 17] ?_
      simp only [hfz, hf0, d9h, E3, seval]
      refine Safe.rg rfl ?_
      simp only [a7m, E3, seval]
      have hlow := d7g x hxs (show b.length * b.length ≤ 2097152 by omega) (by omega)
      refine hlow.acall ?_
      simp only [a0w, E3, seval]
      refine Safe.rg rfl ?_
      simp only [a7l, E3, seval]
      refine Safe.nilrow 21 1 (by decide) (by simp only [E3, seval]) ?_
      refine Safe.rg rfl ?_
      simp only [a7k, E3, seval]
      generalize outI x (b.length * b.length) = P at *
      generalize a0K x (b.length * b.length) = E at *
      refine Safe.lp rfl ?_
      refine Safe.keep [3, 6, 19, 20, 21, 22] ?_
      simp only [E3, seval]
      refine Safe.loopN b.length (fun i => [(3, .loc ζ 0 0), (6, .int .i64 b.length), (19, vecV (vec (b.length * b.length) P)), (20, .loc (lid A 2) 0 0), (21, .mu (lid A 3) 0 i none), (22, .int .i64 i)]) (fun i => hap A [some ⟨4, [Rv dvv]⟩, none, some ⟨2, [Z (E : Nat)]⟩, some ⟨1, (mat i fun i => vec b.length fun k => P (i * b.length + k)).map vecV⟩]) rfl rfl (fun i hi ih => ?_) ?_
      · have hlt : ((i : Int) < (b.length : Int)) = True := eq_true (by omega)
        have hiw : IntKind.wrap .i64 ((i : Int) + 1) = ((i + 1 : Nat) : Int) := by rw [a0a] <;> omega
        have hle : (i + 1) * b.length ≤ b.length * b.length := Nat.mul_le_mul_right _ hi
        rw [Nat.succ_mul] at hle
        have hm0 : IntKind.wrap .i64 ((i : Int) * (b.length : Int)) = ((i * b.length : Nat) : Int) := by rw [← Int.natCast_mul, a0a] <;> omega
        have hm1 : IntKind.wrap .i64 (((i + 1 : Nat) : Int) * (b.length : Int)) = ((i * b.length + b.length : Nat) : Int) := by rw [← Int.natCast_mul, Nat.succ_mul, a0a] <;> omega
        have hsl := c8W (hap A [some ⟨4, [Rv dvv]⟩, none, some ⟨2, [Z (E : Nat)]⟩, some ⟨1, (mat i fun i => vec b.length fun k => P (i * b.length + k)).map vecV⟩]) (vec (b.length * b.length) P) .i64 .i64 (lo := i * b.length) (hi := i * b.length + b.length) (by omega) (by rw [a0l]; omega)
        rw [show i * b.length + b.length - i * b.length = b.length by omega, hinv i hi] at hsl
        have hra := fun env => a6T (H := A) hHr (L := [some ⟨4, [Rv dvv]⟩, none, some ⟨2, [Z (E : Nat)]⟩, some ⟨1, (mat i fun i => vec b.length fun k => P (i * b.length + k)).map vecV⟩]) (n0 := H.length) 3 (hHl 3) (env := env) (wd := 1) (bytes := 24) a0e (mat i fun i => vec b.length fun k => P (i * b.length + k)) (vec b.length fun k => P (i * b.length + k)) (mat (i + 1) fun i => vec b.length fun k => P (i * b.length + k)) (y := vecV (vec b.length fun k => P (i * b.length + k))) (len := i) (a0i _ _).symm rfl (RC.one (a4M _) (RC.none (by repeat (first | exact RC.nil | refine RC.none ?_ | refine RC.row ZI.cl ?_ | refine RC.cons (a0j _) ?_ | refine RC.row a0e ?_ | refine RC.emp ?_ | refine RC.zero ?_ | refine RC.one (Z_cl _) ?_ | refine RC.one (ZI.cl _) ?_ | refine RC.one (a0e _) ?_)))) rfl (a3U _ _) (by omega) (by omega)
        refine Safe.inLoop ?_
        refine Safe.rg rfl ?_
        simp only [a3D, hlt, E3, seval]
        refine Safe.cd rfl ?_
        simp only [E3, seval]
        refine Safe.rg rfl ?_
        simp only [a7j, hm0, hiw, hm1, hsl, E3, seval]
        rw [hra]
        simp only [hn0, E3, seval]
        refine Safe.rg rfl ?_
        simp only [a7i, hiw, E3, seval]
        refine Safe.keep [3, 6, 19, 20, 21, 22] ?_
        simp only [hn0, E3, seval]
        exact ih
      · refine Safe.inLoop ?_
        refine Safe.rg rfl ?_
        simp only [a3D, Int.lt_irrefl, E3, seval]
        refine Safe.cd rfl ?_
        simp only [E3, seval]
        have hfm : frz (lid A 3) ⟨1, (mat b.length fun i => vec b.length fun k => P (i * b.length + k)).map vecV⟩ (.mu (lid A 3) 0 b.length none) = matV (mat b.length fun i => vec b.length fun k => P (i * b.length + k)) := c8j A 3 _ _ none (by rw [a0i])
        refine Safe.freezeB 3 hHr hHA rfl (a1T 1 vecV _ a0e) ?_
        refine Safe.keep [3, 20, 21] ?_
        simp only [hfm, hf0, d9h, a0C, E3, seval]
        refine Safe.rg rfl ?_
        simp only [a7h, E3, seval]
        rw [lst hA0 (by simp) rfl rfl]
        simp only [E3, seval]
        have hld : ∀ v : AV, ∀ L : Heap, atV (hap (A.set ζ (some ⟨2, [v]⟩)) L) (.loc ζ 0 0) = some v.cells := by
          intro v L
          have hlt := a0m hA0
          exact lat (b := ⟨2, [v]⟩) (by rw [List.getElem?_set]; simp [hlt]) (by simp)
        refine Safe.rt rfl ?_
        simp only [hld, E3, seval]
        obtain ⟨L0, hL0⟩ := hAH
        refine ⟨rfl, ?_⟩
        rw [← hz0, hL0, a5n]
        exact ⟨_, a6n _ _ _⟩
end
theorem b7X (b : List (List ZI)) (hb : Mok 1048576 b) : a0d Pr a4O [matV b] (.bool true) := by
  have hb' := hb.mono (show 1048576 ≤ 17592186044416 by omega)
  have hK1 := d7Z
  have h : ∃ (w : List (List ZI)) (z e : Int), Mok (KB 1048576 + 1) w ∧ z.natAbs < LB ^ (KB 1048576 + 1) ∧ a0d Pr a1S [matV b] (.tup [matV w, Z z, .int .i64 e]) ∧ a0d Pr a1s [matV b] (.tup [matV w, Z z, .int .i64 e]) := by
    by_cases h0 : sqE b = 0
    · obtain ⟨hn, hrows⟩ := b3g h0
      obtain ⟨he, hw⟩ := c1t h0
      have hBi : ∀ i k, ∃ z : Int, Bm b i k = z := fun i k => ⟨_, rfl⟩
      have hrn := (a6o (n := b.length) hBi (wid b)).len
      have hfi := c8h (n := b.length) hBi
      have hdd := c8x hb hn
      by_cases hd : detI b.length (Bm b) = 0
      · have hr : c1l b.length (wid b) (Bm b) < b.length := by
          unfold c1l
          rw [← hw] at hrn ⊢
          refine Nat.lt_of_le_of_ne hrn fun h => hfi.1 h ?_
          rw [← hdd, hd]; rfl
        exact ⟨_, _, _, d2M _, c3E _, d7p b hb hK1 h0 hd, d7h b hb hK1 he hw hr⟩
      · have hr : c1l b.length (wid b) (Bm b) = b.length := by
          unfold c1l
          rw [← hw]
          exact hfi.2 fun h => hd (Rat.intCast_inj.1 (by rw [hdd, h]; rfl))
        have hxs := e3X b hb hn
        refine ⟨_, _, _, c7U (by omega) fun i hi => d1C (by omega) fun k hk => e1w hxs ?_, ?_, e2t b hb hK1 h0 hd, e2j b hb hK1 he hw hr⟩
        · have := Nat.mul_le_mul_right b.length (show i + 1 ≤ b.length by omega)
          rw [Nat.succ_mul] at this
          omega
        · exact e1y hxs (Nat.le_refl _)
    · by_cases he : elE b = 0
      · obtain ⟨h1, h2⟩ := e4b h0 he
        have hp := d3T b hb h0
        rw [h2] at hp
        exact ⟨_, _, _, d2M _, c3E _, hp, d5g b hb he h1⟩
      · have h2 : sqE b = elE b := by unfold sqE; rw [if_neg he]
        have hp := d3T b hb h0
        rw [h2] at hp
        exact ⟨_, _, _, d2M _, c3E _, hp, d9C b hb he⟩
  obtain ⟨w, z, e, hw, hz, h1, h2⟩ := h
  have hK := d7Z
  generalize KB 1048576 + 1 = K at *
  refine a0d.intro b0Z b0Y (Nat.le_of_ble_eq_true rfl) (.bool _) fun H hH => ?_
  refine Safe.rg rfl ?_
  simp only [a4h, E3, seval]
  refine Safe.rg rfl ?_
  simp only [a4g, E3, seval]
  first | refine (d0v b hb').acall ?_ | refine (d0v b hb').dcall ?_
  try simp only [E3, seval]
  first | refine (h1).acall ?_ | refine (h1).dcall ?_
  try simp only [E3, seval]
  refine Safe.rg rfl ?_
  simp only [a4f, E3, seval]
  first | refine (h2).acall ?_ | refine (h2).dcall ?_
  try simp only [E3, seval]
  refine Safe.rg rfl ?_
  simp only [a4e, E3, seval]
  first | refine (d4n w (hw.mono (by omega))).acall ?_ | refine (d4n w (hw.mono (by omega))).dcall ?_
  try simp only [E3, seval]
  refine (e0J hz (by omega)).acall ?_
  simp only [E3, seval]
  refine Safe.rt rfl ?_
  simp only [E3, seval]
  first | exact ⟨rfl, _, rfl⟩ | exact ⟨_, rfl⟩ | exact ⟨trivial, _, rfl⟩
end Go.Abs
set_option linter.unusedVariables false
set_option linter.unusedSimpArgs false
namespace Go.Abs
open Go.ChangeShapes Go.WideShapes
open Go.Proofs.Ytkljokmnimblnaa.Rows (uptoBulk uptoBulkAll)
section
variable {K : Type} {enc : TypeId × Value → K} {P : Program} {w : World} {base : Nat} {sp : Nat → Bool} {held : Bool}
theorem e0R (d : DataW K) : 1 ≤ uptoBulk d := by
  cases d with
  | lit l => cases l <;> simp [uptoBulk]
  | nil => simp [uptoBulk]
  | ptr d => simp [uptoBulk]
  | slice elems spare => simp [uptoBulk]
  | agg a1A => simp [uptoBulk]
  | iface t d => simp [uptoBulk]
  | map entries => simp [uptoBulk]
  | held h => simp [uptoBulk]
theorem c8B {d : DataW K} : ∀ {l : List (DataW K)}, d ∈ l → uptoBulk d ≤ uptoBulkAll l
  | [], h => by cases h
  | x :: r, h => by
    simp only [uptoBulkAll]
    rcases List.mem_cons.1 h with e | e
    · subst e; omega
    · have := c8B e; omega
theorem d4v : ∀ (l : List (DataW K)), l.length ≤ uptoBulkAll l
  | [] => by simp [uptoBulkAll]
  | x :: r => by have := e0R x; have := d4v r; simp only [uptoBulkAll, List.length_cons]; omega
theorem b8c (es rs : List (DataW K)) : uptoBulkAll es + 1 ≤ uptoBulk (.slice es rs) := by simp only [uptoBulk]; omega
theorem c2e {α : Type} (W : α → Nat) : ∀ (ds : List (DataW K)) (xs : List α), xs.length = ds.length → (∀ (i : Nat) a, xs[i]? = some a → W a ≤ uptoBulk (ds.getD i .nil)) → (xs.map W).sum ≤ uptoBulkAll ds
  | [], [], _, _ => by simp
  | d :: ds, x :: xs, h, hw => by
    have h1 := hw 0 x rfl
    have h2 := c2e W ds xs (by simpa using h) fun i a ha => by have := hw (i + 1) a (by simpa using ha); simpa using this
    simp only [List.map_cons, List.sum_cons, uptoBulkAll]
    simp at h1
    omega
  | [], _ :: _, h, _ => by simp at h
  | _ :: _, [], h, _ => by simp at h
theorem d1B (a : Addr) (m j : Nat) : (a.add m).add j = a.add (m + j) := by
  unfold Addr.add
  by_cases hm : m = 0 <;> by_cases hj : j = 0 <;> simp [hm, hj, Nat.add_assoc]
/-- No row is the call's own yet. -/
theorem d7w {φ : Nat → Option Nat} {b : Nat} : ¬ (Emb.mk φ [] w).Mut b := by
  rintro ⟨id, blk, h, _⟩; simp at h
theorem e2J (φ : Nat → Option Nat) (w : World) : HOk ⟨φ, [], w⟩ := ⟨fun id b h => by simp at h, fun id b h => by simp at h, fun id b _ h => by simp at h, fun id b h => by simp at h, fun i j b c _ h => by simp at h⟩
/-- A value read xs0 data d stands for the tree a. -/
structure Stands (w : World) (cs : List Value) (a : AV) : Prop where
  one : ∀ c ∈ cs, c.oneCell' = true
  len : cs.length = a.cells.length
  rep : ∀ (φ : Nat → Option Nat) (k : Nat) v c, cs[k]? = some v → a.cells[k]? = some c → Rep ⟨φ, [], w⟩ v c
/-- A slice whose elements' readings stand for trees. -/
theorem d2z {α : Type} (f : α → AV) (good : α → DataW K → Prop) {t e : TypeId} (wd : Nat) (ht : P.underlying t = some (.slice e)) (hc : P.cellsOf e = wd) (hpos : 0 < wd) (hf : ∀ a, (f a).cells.length = wd) (hcl : ∀ a, Cl (f a))
    (hel : ∀ m cs y, DataW.trod enc P w base sp held m e cs = some y → cs.length = wd → ∃ a, good a y.1 ∧ Stands w cs (f a))
    {fuel : Nat} {cs : List Value} {x : DataW K × List MemPlace} (h : DataW.trod enc P w base sp held fuel t cs = some x) :
    ∃ xs0 : List α, Stands w cs (.sl wd (xs0.map f)) ∧ xs0.length ≤ uptoBulk x.1 ∧ (∀ a ∈ xs0, ∃ d : DataW K, good a d ∧ uptoBulk d ≤ uptoBulk x.1) ∧ ∀ W : α → Nat, (∀ a d, good a d → W a ≤ uptoBulk d) → (xs0.map W).sum + 1 ≤ uptoBulk x.1 := by
  rcases DataW.trod_slice ht h with ⟨rfl, rfl⟩ | ⟨ad, len, cap, elems, rest, n, rfl, rfl, rfl, hb, hl, hm, hlen, hget, _, _⟩
  · refine ⟨[], ⟨by simp [Value.oneCell'], rfl, ?_⟩, Nat.zero_le _, by simp, fun W _ => by simp [uptoBulk]⟩
    intro φ k v c hv hc'
    match k with
    | 0 => cases hv; cases hc'; exact b7r wd hpos .nil
    | k + 1 => simp at hv
  · -- each element
    have each : ∀ i, i < len → ∃ a cs', good a ((elems.map (·.1)).getD i .nil) ∧ Stands w cs' (f a) ∧ cs'.length = wd ∧ ∀ j, j < wd → w.cell? (ad.add (i * wd + j)) = cs'[j]? := by
      intro i hi
      have h1 := hget i hi
      have hy : elems[i]? = some (elems[i]'(by omega)) := List.getElem?_eq_getElem (by omega)
      rw [hy, Option.bind_eq_some_iff] at h1
      obtain ⟨cs', h2, h3⟩ := h1
      rw [hc] at h2
      obtain ⟨_, hl2, hcell⟩ := World.cells?_some h2
      obtain ⟨a, g1, g2⟩ := hel n cs' _ h3 hl2
      refine ⟨a, cs', ?_, g2, hl2, fun j hj => ?_⟩
      · rw [List.getD_eq_getElem?_getD, List.getElem?_map, hy]; exact g1
      · have := hcell j hj
        rw [← this]
        rw [d1B]
    -- the list
    have all : ∀ m, m ≤ len → ∃ (xs0 : List α) (vs : List Value), xs0.length = m ∧ vs.length = m * wd ∧ (∀ (i : Nat) a, xs0[i]? = some a → good a ((elems.map (·.1)).getD i .nil)) ∧
        (∀ (k : Nat) v, vs[k]? = some v → w.cell? (ad.add k) = some v ∧ v.oneCell' = true) ∧ (∀ (φ : Nat → Option Nat) (k : Nat) v c, vs[k]? = some v → ((xs0.map f).flatMap AV.cells)[k]? = some c → Rep ⟨φ, [], w⟩ v c) := by
      intro m
      induction m with
      | zero => exact fun _ => ⟨[], [], rfl, by simp, by simp, by simp, by simp⟩
      | succ m ih =>
        intro hm'
        obtain ⟨xs0, vs, q1, q2, q3, q4, q5⟩ := ih (by omega)
        obtain ⟨a, cs', r1, r2, r3, r4⟩ := each m (by omega)
        have hfl : ((xs0.map f).flatMap AV.cells).length = m * wd := by
          rw [a2B (wd := wd) (by intro y hy; obtain ⟨z, _, rfl⟩ := List.mem_map.1 hy; exact hf z), List.length_map, q1]
        refine ⟨xs0 ++ [a], vs ++ cs', by simp [q1], by simp [q2, r3, Nat.add_mul], ?_, ?_, ?_⟩
        · intro i b hb'
          rcases Nat.lt_or_ge i m with hi | hi
          · rw [List.getElem?_append_left (by omega)] at hb'; exact q3 i b hb'
          · have hi' := a0f hb'
            simp at hi'
            have : i = m := by omega
            subst this
            rw [List.getElem?_append_right (by omega)] at hb'
            simp [q1] at hb'
            subst hb'; exact r1
        · intro k v hv
          rcases Nat.lt_or_ge k (m * wd) with hk | hk
          · rw [List.getElem?_append_left (by omega)] at hv; exact q4 k v hv
          · rw [List.getElem?_append_right (by omega), q2] at hv
            have hk2 := a0f hv
            refine ⟨?_, r2.one v (List.mem_of_getElem? hv)⟩
            have := r4 (k - m * wd) (by omega)
            rw [hv] at this
            rw [← this]; congr 2; omega
        · intro φ k v c hv hc'
          rw [List.map_append, List.flatMap_append] at hc'
          rcases Nat.lt_or_ge k (m * wd) with hk | hk
          · rw [List.getElem?_append_left (by omega)] at hv
            rw [List.getElem?_append_left (by omega)] at hc'
            exact q5 φ k v c hv hc'
          · rw [List.getElem?_append_right (by omega), q2] at hv
            rw [List.getElem?_append_right (by omega), hfl] at hc'
            simp at hc'
            exact r2.rep φ (k - m * wd) v c hv hc'
    obtain ⟨xs0, vs, q1, q2, q3, q4, q5⟩ := all len (Nat.le_refl _)
    have hw : ∀ y ∈ xs0.map f, y.cells.length = wd := by intro y hy; obtain ⟨z, _, rfl⟩ := List.mem_map.1 hy; exact hf z
    have hcl' : ∀ c ∈ (xs0.map f).flatMap AV.cells, Cl c := by
      intro c hc'
      obtain ⟨y, hy, hc'⟩ := List.mem_flatMap.1 hc'
      obtain ⟨z, _, rfl⟩ := List.mem_map.1 hy
      exact b3J (hcl z) c hc'
    refine ⟨xs0, ⟨by simp [Value.oneCell'], rfl, ?_⟩, ?_, ?_, ?_⟩
    · intro φ k v c hv hc'
      match k with
      | 0 =>
        cases hv; cases hc'
        have hlen' : len = (xs0.map f).length := by rw [List.length_map, q1]
        rw [hlen']
        rcases Nat.eq_zero_or_pos len with h0 | h0
        · have : xs0 = [] := List.length_eq_zero_iff.1 (by omega)
          subst this
          exact .sl _ cap wd [] [] 0 0 (Nat.zero_le _) hpos (by simp) (by simp) (.inl rfl) rfl (by simp) (by simp)
        · have hv0 : vs[0]? = some (vs[0]'(by rw [q2]; exact Nat.mul_pos h0 hpos)) := List.getElem?_eq_getElem _
          have hspot : ad.spot = none := by
            have h00 := (q4 0 _ hv0).1
            rw [show ad.add 0 = ad by simp [Addr.add]] at h00
            exact World.cell?_spot h00
          obtain ⟨b, o, s⟩ := ad
          simp only at hspot
          subst hspot
          exact .sl (some ⟨b, o, none⟩) cap wd (xs0.map f) vs b o (by rw [List.length_map, q1]; exact hl) hpos hw hcl' (.inr ⟨rfl, d7w⟩) (by rw [a2B hw, List.length_map, q1, q2])
            (fun k v hk => by have := q4 k v hk; rw [Go.WideShapes.add_plain] at this; exact this) (fun k v c hk hc2 => q5 φ k v c hk hc2)
      | k + 1 => simp at hv
    · have h1 := d4v (elems.map (·.1))
      have h2 := b8c (elems.map (·.1)) (rest.map (·.1))
      rw [List.length_map] at h1
      show xs0.length ≤ uptoBulk (.slice (elems.map (·.1)) (rest.map (·.1)))
      omega
    · intro a ha
      obtain ⟨i, hi, rfl⟩ := List.getElem_of_mem ha
      refine ⟨_, q3 i _ (List.getElem?_eq_getElem hi), ?_⟩
      have hm' : (elems.map (·.1)).getD i .nil ∈ elems.map (·.1) := by
        have : i < (elems.map (·.1)).length := by rw [List.length_map]; omega
        rw [List.getD_eq_getElem?_getD, List.getElem?_eq_getElem this]; exact List.getElem_mem this
      have h1 := c8B hm'
      have h2 := b8c (elems.map (·.1)) (rest.map (·.1))
      show uptoBulk _ ≤ uptoBulk (.slice (elems.map (·.1)) (rest.map (·.1)))
      omega
    · intro W hW
      have h1 : (xs0.map W).sum ≤ uptoBulkAll (elems.map (·.1)) := c2e W (elems.map (·.1)) xs0 (by rw [List.length_map]; omega) fun i a ha => hW a _ (q3 i a ha)
      have h2 := b8c (elems.map (·.1)) (rest.map (·.1))
      show (xs0.map W).sum + 1 ≤ uptoBulk (.slice (elems.map (·.1)) (rest.map (·.1)))
      omega
/-- Limbs. -/
theorem d9S {t e : TypeId} (ht : P.underlying t = some (.slice e)) (he : P.underlying e = some (.int .u32)) (hc : P.cellsOf e = 1) {fuel : Nat} {cs : List Value} {x : DataW K × List MemPlace} (h : DataW.trod enc P w base sp held fuel t cs = some x) :
    ∃ l : List Nat, Stands w cs (natV l) ∧ Lim l ∧ l.length ≤ uptoBulk x.1 := by
  obtain ⟨xs0, q1, q2, q3, _⟩ := d2z (enc := enc) (P := P) (w := w) (base := base) (sp := sp) (held := held) (fun n : Nat => .int .u32 (n : Int)) (fun n (_ : DataW K) => n < LB) 1 ht hc (by decide) (fun _ => rfl) (fun _ => .int _ _) (by
    intro m cs y hy hl
    obtain ⟨n, rfl, hx, hwf⟩ := DataW.trod_int he hy
    have hb := bounds_u32 hwf
    refine ⟨n.toNat, by show n.toNat < 4294967296; omega, by simp [Value.oneCell'], rfl, ?_⟩
    intro φ k v c hv hc'
    match k with
    | 0 =>
      cases hv; cases hc'
      have : (n.toNat : Int) = n := by omega
      rw [this]; exact .int _ _
    | k + 1 => simp at hv) h
  exact ⟨xs0, q1, fun d hd => (q3 d hd).choose_spec.1, q2⟩
/-- A whole number. -/
theorem open_z {t tb tm e : TypeId} {fs : Array Field} {f0 f1 : Field} (ht : P.underlying t = some (.struct fs)) (hfs : fs.toList = [f0, f1]) (h0 : f0.type = tb ∧ f0.offset = 0) (h1 : f1.type = tm ∧ f1.offset = 1) (hb : P.underlying tb = some .bool) (hbc : P.cellsOf tb = 1) (hmc : P.cellsOf tm = 1)
    (hm : P.underlying tm = some (.slice e)) (he : P.underlying e = some (.int .u32)) (hc : P.cellsOf e = 1) {fuel : Nat} {cs : List Value} {x : DataW K × List MemPlace} (h : DataW.trod enc P w base sp held fuel t cs = some x) (hl2 : cs.length = 2) :
    ∃ z : ZI, Stands w cs z.av ∧ Zok (uptoBulk x.1) z := by
  obtain ⟨xs, n, rfl, rfl, hl, hxs, hget⟩ := DataW.trod_struct ht h
  have hf0 : fs[0]? = some f0 := by rw [← Array.getElem?_toList, hfs]; rfl
  have hf1 : fs[1]? = some f1 := by rw [← Array.getElem?_toList, hfs]; rfl
  have hsz : fs.size = 2 := by rw [← Array.length_toList, hfs]; rfl
  have g0 := hget 0 f0 hf0
  have g1 := hget 1 f1 hf1
  rw [h0.1, h0.2, hbc] at g0
  rw [h1.1, h1.2, hmc] at g1
  obtain ⟨c0, c1, rfl⟩ : ∃ c0 c1, cs = [c0, c1] := by
    match cs, hl2 with
    | [a, b], _ => exact ⟨a, b, rfl⟩
  have e0 : xs[0]? = some (xs[0]'(by omega)) := List.getElem?_eq_getElem (by omega)
  have e1 : xs[1]? = some (xs[1]'(by omega)) := List.getElem?_eq_getElem (by omega)
  rw [e0] at g0
  rw [e1] at g1
  simp only [List.drop_zero, List.take_succ_cons, List.take_zero, List.drop_succ_cons] at g0 g1
  obtain ⟨b, hb1, _⟩ := DataW.trod_bool hb g0
  obtain ⟨l, q1, q2, q3⟩ := d9S hm he hc g1
  simp only [List.cons.injEq, and_true] at hb1
  subst hb1
  refine ⟨⟨b, l⟩, ⟨?_, rfl, ?_⟩, q2, ?_⟩
  · intro c hc'
    simp only [List.mem_cons, List.not_mem_nil, or_false] at hc'
    rcases hc' with rfl | rfl
    · rfl
    · exact q1.one _ (by simp)
  · intro φ k v c hv hc'
    match k with
    | 0 => cases hv; cases hc'; exact .bool b
    | 1 => cases hv; cases hc'; exact q1.rep φ 0 _ _ rfl rfl
    | k + 2 => simp at hv
  · have hm1 : (xs[1]'(by omega)).1 ∈ xs.map (·.1) := List.mem_map.2 ⟨_, List.getElem_mem _, rfl⟩
    have := c8B hm1
    show l.length ≤ uptoBulk (.agg (xs.map (·.1)))
    simp only [uptoBulk]
    omega
/-- The types of numbers, vectors, matrices in a program. -/
structure Types (P : Program) (tm tv tz tb tn te : TypeId) : Prop where
  mat : P.underlying tm = some (.slice tv)
  vec : P.underlying tv = some (.slice tz)
  num : ∃ fs f0 f1, P.underlying tz = some (.struct fs) ∧ fs.toList = [f0, f1] ∧ (f0.type = tb ∧ f0.offset = 0) ∧ (f1.type = tn ∧ f1.offset = 1)
  bool : P.underlying tb = some .bool
  nat : P.underlying tn = some (.slice te)
  u32 : P.underlying te = some (.int .u32)
  cv : P.cellsOf tv = 1
  cz : P.cellsOf tz = 2
  cb : P.cellsOf tb = 1
  cn : P.cellsOf tn = 1
  ce : P.cellsOf te = 1
variable {tm tv tz tb tn te : TypeId}
theorem Types.open_z (T : Types P tm tv tz tb tn te) {fuel : Nat} {cs : List Value} {x : DataW K × List MemPlace} (h : DataW.trod enc P w base sp held fuel tz cs = some x) (hl2 : cs.length = 2) : ∃ z : ZI, Stands w cs z.av ∧ Zok (uptoBulk x.1) z := by
  obtain ⟨fs, f0, f1, h1, h2, h3, h4⟩ := T.num
  exact Abs.open_z h1 h2 h3 h4 T.bool T.cb T.cn T.nat T.u32 T.ce h hl2
theorem Types.open_vec (T : Types P tm tv tz tb tn te) {fuel : Nat} {cs : List Value} {x : DataW K × List MemPlace} (h : DataW.trod enc P w base sp held fuel tv cs = some x) : ∃ v : List ZI, Stands w cs (vecV v) ∧ v.length ≤ uptoBulk x.1 ∧ (∀ z ∈ v, Zok (uptoBulk x.1) z) ∧ (v.map fun z => z.mag.length).sum ≤ uptoBulk x.1 := by
  obtain ⟨xs0, q1, q2, q3, q4⟩ := d2z (enc := enc) (P := P) (w := w) (base := base) (sp := sp) (held := held) ZI.av (fun z (d : DataW K) => Zok (uptoBulk d) z) 2 T.vec T.cz (by decide) (fun _ => rfl) ZI.cl (by
    intro m cs y hy hl
    obtain ⟨z, r1, r2⟩ := T.open_z hy hl
    exact ⟨z, r2, r1⟩) h
  exact ⟨xs0, q1, q2, fun z hz => (by obtain ⟨d, h1, h2⟩ := q3 z hz; exact h1.mono h2), by have := q4 (fun z => z.mag.length) (fun z d h => h.len); omega⟩
theorem Types.open_mat (T : Types P tm tv tz tb tn te) {fuel : Nat} {cs : List Value} {x : DataW K × List MemPlace} (h : DataW.trod enc P w base sp held fuel tm cs = some x) : ∃ b : List (List ZI), Stands w cs (matV b) ∧ b.length ≤ uptoBulk x.1 ∧ (∀ v ∈ b, v.length ≤ uptoBulk x.1 ∧ ∀ z ∈ v, Zok (uptoBulk x.1) z) ∧ (b.map fun v => v.length).sum ≤ uptoBulk x.1 ∧ (b.map fun v => (v.map fun z => z.mag.length).sum).sum ≤ uptoBulk x.1 := by
  obtain ⟨xs0, q1, q2, q3, q4⟩ := d2z (enc := enc) (P := P) (w := w) (base := base) (sp := sp) (held := held) vecV (fun v (d : DataW K) => v.length ≤ uptoBulk d ∧ (∀ z ∈ v, Zok (uptoBulk d) z) ∧ (v.map fun z => z.mag.length).sum ≤ uptoBulk d) 1 T.mat T.cv (by decide) (fun _ => rfl) a0e (by
    intro m cs y hy hl
    obtain ⟨v, r1, r2, r3, r4⟩ := T.open_vec hy
    exact ⟨v, ⟨r2, r3, r4⟩, r1⟩) h
  refine ⟨xs0, q1, q2, fun v hv => ?_, by have := q4 (fun v => v.length) (fun v d h => h.1); omega, by have := q4 (fun v => (v.map fun z => z.mag.length).sum) (fun v d h => h.2.2); omega⟩
  obtain ⟨d, h1, h2⟩ := q3 v hv
  exact ⟨Nat.le_trans h1.1 h2, fun z hz => (h1.2.1 z hz).mono h2⟩
/-- A value of one cell. -/
theorem Stands.rep1 {v : Value} {a : AV} (h : Stands w [v] a) (ha : a.cells = [a]) (φ : Nat → Option Nat) : Rep ⟨φ, [], w⟩ v a := h.rep φ 0 v a rfl (by rw [ha]; rfl)
end
end Go.Abs
set_option linter.unusedVariables false
set_option linter.unusedSimpArgs false
namespace Go.Abs
open Go.ChangeShapes Go.WideShapes Go.RowKit
/-- A law's walk: it answers, and below the old end nothing turns. -/
theorem d7V {P : Program} {f : FuncId} {ss : List AV} {r : Bool} (hp : a0d P f ss (.bool r)) {args : Array Value} {W : World} (hl : args.size = ss.length) (hr : ∀ (k : Nat) v a, args.toList[k]? = some v → ss[k]? = some a → Rep ⟨fun _ => none, [], W⟩ v a) :
    Calls P f args W fun e W' => e = .returned (.bool r) ∧ Below W.heap.size W W' := by
  have h := (hp []).2 (fun _ => none) W args.toList (e2J _ _) (by simpa using hl) hr
  rw [Array.toArray_toList] at h
  refine h.mono ?_
  rintro e w' ⟨v, r', φ', H', rfl, ⟨rfl, rfl⟩, q1, q2, q3, q4⟩
  refine ⟨by rw [a1Z q2], q4.os, q4.tape, q4.output, q4.size, fun k hk => q4.keep k hk d7w⟩
theorem Below.trodAll {K : Type} {enc : TypeId × Value → K} {P : Program} (hl : laidOutB P = true) {W W' : World} (hb : Below W.heap.size W W') : ∀ {ts : List TypeId} {vs : List Value} {ds : List (DataW K)} {ps : List MemPlace}, (ts.all fun t => P.readableRec t && decide (t < P.types.size)) = true →
    DataW.TrodAll enc P W 0 (fun _ => true) true ts vs ds ps → (∀ x ∈ ps, x.block < W.heap.size) → DataW.TrodAll enc P W' 0 (fun b => decide (b < W.heap.size)) true ts vs ds ps
  | [], [], [], _, _, h, _ => h
  | t :: ts, v :: vs, d :: ds, _, hts, ⟨p, q, h1, h2, e⟩, hlt => by
    simp only [List.all_cons, Bool.and_eq_true, decide_eq_true_eq] at hts
    exact ⟨p, q, Go.RowKit.Below.trod hl hts.1.1 hts.1.2 h1 hb (fun x hx => hlt x (by rw [e]; exact List.mem_append_left _ hx)), Below.trodAll hl hb (by simpa using hts.2) h2 (fun x hx => hlt x (by rw [e]; exact List.mem_append_right _ hx)), e⟩
  | [], _ :: _, _, _, _, h, _ => by simp [DataW.TrodAll] at h
  | [], [], _ :: _, _, _, h, _ => by simp [DataW.TrodAll] at h
  | _ :: _, [], _, _, _, h, _ => by simp [DataW.TrodAll] at h
  | _ :: _, _ :: _, [], _, _, h, _ => by simp [DataW.TrodAll] at h
theorem d3v {P : Program} {W : World} {base : Nat} {t e : TypeId} {v : Value} (ht : P.underlying t = some (.slice e)) (h : Value.okWide P W .any base t v) : v.cells.toList = [v] := by
  cases v <;> first | rfl | (exfalso; simp [Value.okWide, Cell.okWide, Cell.ok, ht] at h)
theorem e3Y {v : List ZI} {n : Nat} (hl : v.length ≤ n) (he : ∀ z ∈ v, Zok n z) (hn : n ≤ 1048576) : Vok 1048576 v := ⟨by omega, fun z hz => (he z hz).mono hn⟩
theorem e4x {b : List (List ZI)} {n : Nat} (hl : b.length ≤ n) (he : ∀ v ∈ b, v.length ≤ n ∧ ∀ z ∈ v, Zok n z) (hn : n ≤ 1048576) : Mok 1048576 b := ⟨by omega, fun v hv => e3Y (he v hv).1 (he v hv).2 hn⟩
/-- A law's promise: it answers true; what was handed in reads as it did. -/
theorem d9B {K : Type} {enc : TypeId × Value → K} {P : Program} {f : Func} {s : ChangeSpec} {fresh handsOn : Bool} {W W' : World} {args : Array Value} {ds gs : List (DataW K)} {before : List MemPlace} {tb : TypeId}
    (hW : DataW.Whole enc P f.params.toList s.vars false W args.toList ds gs before) (hv : s.vars = []) (hfn : s.fn K ds = { results := [.lit (.bool true)], args := ds }) (ht : f.resultTypes = #[tb]) (htb : P.underlying tb = some .bool)
    (hl : laidOutB P = true) (hts : (f.params.toList.all fun t => P.readableRec t && decide (t < P.types.size)) = true) (hb : Below W.heap.size W W') :
    s.post enc P f false fresh handsOn false W args (.bool true) W' := by
  have hW0 := hW
  obtain ⟨p, q, hA, hV, rfl, hz, hn⟩ := hW
  rw [hv] at hV
  obtain ⟨rfl, rfl⟩ := trodVars_none hV
  have hlt : ∀ x ∈ p, x.block < W.heap.size := fun x hx => by simpa using hW0.lt x (by simpa using hx)
  have hA' := Below.trodAll (enc := enc) hl hb hts hA hlt
  refine ⟨ds, [], p ++ [], [], p, [], hW0, ?_, ?_, ?_, ?_, by simp⟩
  · rw [List.append_nil, hfn, ht]
    exact trodAll_cons_mk (shut_bool htb true) trodAll_mk0
  · rw [List.append_nil, hfn]; exact hA'
  · rw [List.append_nil, hfn, hv]; rfl
  · refine ⟨hb.os, hb.output, fun i hi => ?_⟩
    have := (World.keptBut_refl W (fun x => x ∈ p ++ [] ∧ (x ∈ [] ∨ x ∈ p ∨ x ∈ []))).2.2 i hi
    rw [hb.block i hi]
    exact this
end Go.Abs
set_option linter.unusedVariables false
set_option linter.unusedSimpArgs false
namespace Go.Abs
open Go.ChangeShapes Go.WideShapes Go.RowKit
open Go.Proofs.Ytkljokmnimblnaa.Rows (uptoBulk uptoBulkAll)
section
variable {K : Type} {enc : TypeId × Value → K} {P : Program} {w : World} {base : Nat} {sp : Nat → Bool} {held : Bool} {tm tv tz tb tn te : TypeId} {v : Value} {fuel : Nat} {x : DataW K × List MemPlace} {b1 : Nat}
theorem Types.arg_mat (T : Types P tm tv tz tb tn te) (hok : Value.okWide P w .any b1 tm v) (h : DataW.trod enc P w base sp held fuel tm v.cells.toList = some x) (hb : uptoBulk x.1 ≤ 1048576) : ∃ b, Mok 1048576 b ∧ ∀ φ, Rep ⟨φ, [], w⟩ v (matV b) := by
  obtain ⟨b, s, l, e, _⟩ := T.open_mat h
  rw [d3v T.mat hok] at s
  exact ⟨b, e4x l e hb, fun φ => s.rep1 rfl φ⟩
end
end Go.Abs

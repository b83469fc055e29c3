/- Part 7 of the proof of ElimSolves: W10, W11, W12, W13, W14, W15, W16, W17, W18, W19, W20, W21, W22, W23, W24, W25, W26, W27, W28, W29, W30. -/
import Derived.Test.YtkljokmnimblnaaElimSolvesK6
set_option linter.unusedVariables false
set_option linter.unusedSimpArgs false
namespace Go.Abs
theorem e0j (H L M : Heap) : hap (hap H L) M = hap H (L ++ M) := by simp [hap]
theorem b9e (H L : Heap) (i : Nat) : lid (hap H L) i = lid H (L.length + i) := by simp [hap, lid, Nat.add_assoc]
theorem b9a (n : Nat) : limbs (val (limbs n)) = limbs n := by rw [a0b]
theorem e2A {M k n : Nat} (hk : k = (limbs M).length) (hn : k ≤ n) : (fl n (dig M)).take k = limbs M := by
  rw [d5c _ hn, hk]
  have := b9c (a0c M) rfl
  rw [a0b] at this
  exact this.symm
theorem d6i {H : Heap} {i len : Nat} {X : List Nat} (oc : Option Nat) (h : len ≤ X.length) : frz (lid H i) ⟨1, u32s X⟩ (.mu (lid H i) 0 len oc) = natV (X.take len) := by
  simp only [frz, if_true, Nat.zero_add, a0w, h, List.drop_zero, b5l]; rfl
theorem e3k {H : Heap} (hH : a0E H) {n0 : Nat} {env : Env} {L : Heap} {len c : Nat} {X l : List Nat} {o : Option Blk} (hn : n0 ≤ lid H 0) (hlen : len ≤ X.length) (hc : c < len + l.length) (hb : X.length + l.length ≤ 35184372088832) :
    appV n0 1 4 false (.mu (lid H 0) 0 len (some c)) (.sl 1 (u32s l)) env (hap H [some ⟨1, u32s X⟩]) = some (.mu (lid H 0) 0 (len + l.length) none, scrub (lid H 0) env, hap H [some ⟨1, u32s (X.take len ++ l)⟩]) := by
  have hf : free (hap H [some ⟨1, u32s X⟩]) (lid H 0) = true := c9R hH (b2k fun b hb a ha => by
    simp at hb; subst hb; exact a0m X a ha)
  simp only [appV, a3y, Option.bind_some, a1p, List.getElem?_cons_zero, Option.join_some, a3V, List.set_cons_zero]
  rw [if_neg (by simp [a0w]; omega), if_pos]
  · simp only [a0w, b5l, b4f, a1l]
    rw [Option.bind_some, if_neg (by omega)]
  · simp only [a0w, true_and]
    refine ⟨hlen, hn, hf, ?_, ?_, by omega, by omega⟩
    · exact List.all_eq_true.2 fun a ha => a1n (a8u ha)
    · exact List.all_eq_true.2 fun a ha => a1n (a8u ha)
theorem e1w {H L : Heap} {i lo hi len m : Nat} {b : Blk} (hl : L[i]? = some (some b)) {wd : Nat} (hw : b.wd = wd) (oc : Option Nat) (k k' : IntKind) (h1 : hi = lo + m) (h2 : hi ≤ len) :
    slcV (hap H L) wd (.mu (lid H i) 0 len oc) (some (.int k lo)) (some (.int k' hi)) none = some (.mu (lid H i) lo m (oc.map (· - lo))) := by
  subst h1
  simp only [slcV, a1p, hl, Option.join_some, Option.bind_some, a3R]
  rw [if_pos ⟨hw, by omega, by omega, by omega⟩]
  simp
  omega
/-- The rests, from the top. -/
theorem d9l {U V i nv : Nat} (hV : V < LB ^ nv) (hV0 : 0 < V) : (∀ j, xr (dig (U % (V * LB ^ (i + 1)))) i (fl (nv + 1) (dig (U % (V * LB ^ (i + 1)) / LB ^ i % V))) j = dig (U % (V * LB ^ i)) j) ∧
    U % (V * LB ^ (i + 1)) / LB ^ i / V = dig (U / V) i ∧ val (fl (nv + 1) fun t => dig (U % (V * LB ^ (i + 1))) (i + t)) = U % (V * LB ^ (i + 1)) / LB ^ i ∧ U % (V * LB ^ (i + 1)) / LB ^ i < LB * V := by
  have hp := a5y i
  have e1 : V * LB ^ (i + 1) = V * LB ^ i * LB := by rw [Nat.pow_succ, Nat.mul_assoc]
  have hR1 : U % (V * LB ^ (i + 1)) < V * LB ^ (i + 1) := Nat.mod_lt _ (Nat.mul_pos hV0 (a5y _))
  have hS : U % (V * LB ^ (i + 1)) / LB ^ i < LB * V := by
    rw [Nat.div_lt_iff_lt_mul hp]
    have : LB * V * LB ^ i = V * LB ^ (i + 1) := by rw [e1]; rw [Nat.mul_comm LB, Nat.mul_right_comm]
    rw [this]; exact hR1
  have hSl : U % (V * LB ^ (i + 1)) / LB ^ i < LB ^ (nv + 1) := by
    have : LB * V ≤ LB ^ (nv + 1) := by rw [Nat.pow_succ']; exact Nat.mul_le_mul_left _ (Nat.le_of_lt hV)
    omega
  have hR : U % (V * LB ^ i) = U % (V * LB ^ (i + 1)) % (V * LB ^ i) := by
    rw [e1, Nat.mod_mul_right_mod]
  have hq : U % (V * LB ^ (i + 1)) / LB ^ i % V = U % (V * LB ^ i) / LB ^ i := by
    rw [hR, Nat.mul_comm V (LB ^ i), Nat.mod_mul_right_div_self]
  refine ⟨fun j => ?_, ?_, ?_, hS⟩
  · unfold xr
    rw [a1c]
    by_cases h : i ≤ j ∧ j < i + (nv + 1)
    · rw [if_pos h, b7H (by omega), hq, e0D]
      congr 1; omega
    · rw [if_neg h]
      rcases Nat.lt_or_ge j i with h1 | h1
      · have h2 := Nat.mod_add_div (U % (V * LB ^ (i + 1))) (V * LB ^ i)
        rw [← hR] at h2
        have h3 : V * LB ^ i * (U % (V * LB ^ (i + 1)) / (V * LB ^ i)) = LB ^ i * (V * (U % (V * LB ^ (i + 1)) / (V * LB ^ i))) := by rw [Nat.mul_comm V, Nat.mul_assoc]
        rw [h3] at h2
        conv => lhs; rw [← h2]
        exact c5O _ h1
      · have hj : i + (nv + 1) ≤ j := by omega
        have hpj : LB ^ (nv + (i + 1)) ≤ LB ^ j := Nat.pow_le_pow_right (by decide) (by omega)
        have h3 : V * LB ^ (i + 1) ≤ LB ^ (nv + (i + 1)) := by rw [Nat.pow_add LB nv (i + 1)]; exact Nat.mul_le_mul_right _ (Nat.le_of_lt hV)
        have h4 : U % (V * LB ^ i) ≤ U % (V * LB ^ (i + 1)) := by rw [hR]; exact Nat.mod_le _ _
        rw [b2h (by omega), b2h (by omega)]
  · rw [Nat.div_div_eq_div_mul, Nat.mul_comm (LB ^ i), e1, Nat.mod_mul_right_div_self]
    unfold dig
    rw [Nat.div_div_eq_div_mul]
  · have : (fl (nv + 1) fun t => dig (U % (V * LB ^ (i + 1))) (i + t)) = fl (nv + 1) (dig (U % (V * LB ^ (i + 1)) / LB ^ i)) := a3a fun t _ => (e0D _ _ _).symm
    rw [this, a1R hSl]
theorem b7A {l : List Nat} (h : (l.getLast?).getD 1 ≠ 0) (hl : 0 < l.length) : 0 < l.getD (l.length - 1) 0 := by
  rw [List.getLast?_eq_getElem?, List.getElem?_eq_getElem (by omega)] at h
  rw [List.getD_eq_getElem?_getD, List.getElem?_eq_getElem (by omega)]
  simp at h ⊢; omega
theorem d3j {n : Nat} (h : n < LB) : blen n ≤ 32 := by
  rcases Nat.lt_or_ge 32 (blen n) with hc | hc
  · exfalso
    have h0 : n ≠ 0 := by rintro rfl; simp [d3i] at hc
    have := b9v h0
    have h2 : 2 ^ 32 ≤ 2 ^ (blen n - 1) := Nat.pow_le_pow_right (by decide) (by omega)
    have : (2 : Nat) ^ 32 = LB := by decide
    omega
  · exact hc
/-- Doubled till the top bit is set: as many limbs. -/
theorem c9A {l : List Nat} (hl : Lim l) (h0 : 0 < l.length) (ht : 0 < l.getD (l.length - 1) 0) : val l * 2 ^ (32 - blen (l.getD (l.length - 1) 0)) < LB ^ l.length ∧ LB ^ (l.length - 1) ≤ val l := by
  have hd := a0L hl (l.length - 1)
  have hb := d3j hd
  have hs := a3w l (l.length - 1)
  have hdr : val (l.drop (l.length - 1)) = l.getD (l.length - 1) 0 := by
    rw [a2D, show l.length - 1 + 1 = l.length by omega, List.drop_length]; simp [val]
  rw [hdr] at hs
  have htk := a3d hl (l.length - 1)
  generalize l.getD (l.length - 1) 0 = d at *
  have hlt := d0n d
  constructor
  · have h1 : val l < LB ^ (l.length - 1) * 2 ^ blen d := by
      have : LB ^ (l.length - 1) * (d + 1) ≤ LB ^ (l.length - 1) * 2 ^ blen d := Nat.mul_le_mul_left _ hlt
      rw [Nat.mul_add] at this
      omega
    have h2 : LB ^ (l.length - 1) * 2 ^ blen d * 2 ^ (32 - blen d) = LB ^ l.length := by
      rw [Nat.mul_assoc, ← Nat.pow_add, show blen d + (32 - blen d) = 32 by omega, show (2 : Nat) ^ 32 = LB by decide, ← Nat.pow_succ]
      congr 1; omega
    rw [← h2]
    exact Nat.mul_lt_mul_of_pos_right h1 (Nat.pow_pos (by decide))
  · have : LB ^ (l.length - 1) * 1 ≤ LB ^ (l.length - 1) * d := Nat.mul_le_mul_left _ ht
    omega
theorem c2T (r : Nat) : AV.sl 1 [.int .u32 (r : Int)] = natV [r] := rfl
theorem b7l {r : Nat} : val [r] = r := by simp [val]
theorem a9c (a b : List Nat) (ha : Nt a) (hb : Nt b) (hal : a.length < 17592186044000) (hbl : b.length < 17592186044000) (hb0 : val b ≠ 0) : a0d Pr b8p [natV a, natV b] (.tup [natV (limbs (val a / val b)), natV (limbs (val a % val b)), .int .i64 0]) := by
  have hLB : LB = 4294967296 := rfl
  have hna := ha.limbs
  have hnb := hb.limbs
  have hlal : (limbs (val a)).length < 17592186044000 := Nat.lt_of_le_of_lt (a0U ha.lim) hal
  have hlbl : (limbs (val b)).length < 17592186044000 := Nat.lt_of_le_of_lt (a0U hb.lim) hbl
  have hva := a0b (val a)
  have hvb := a0b (val b)
  have hlasta := a5L (val a)
  have hlastb := a5L (val b)
  have hia := b9a (val a)
  have hib := b9a (val b)
  refine a0d.introL d7S d7Q (Nat.le_of_ble_eq_true rfl) (c5W (a0T _) (a0T _) (.int _ _)) fun H hH => ?_
  refine Safe.rg rfl ?_
  simp only [c7M, E3, seval]
  refine Safe.rg rfl ?_
  simp only [c7L, E3, seval]
  first | refine (a0v a ha.lim ha.len).acall ?_ | refine (a0v a ha.lim ha.len).dcall ?_
  try simp only [E3, seval]
  first | refine (a0v b hb.lim hb.len).acall ?_ | refine (a0v b hb.lim hb.len).dcall ?_
  try simp only [E3, seval]
  generalize limbs (val a) = la at *
  generalize limbs (val b) = lb at *
  generalize val a = A at *
  generalize val b = B at *
  subst hva
  subst hvb
  have hb1 : 0 < lb.length := by
    rcases Nat.eq_zero_or_pos lb.length with h | h
    · exfalso; have := List.length_eq_zero_iff.1 h; subst this; exact hb0 rfl
    · exact h
  have hB : 0 < val lb := Nat.pos_of_ne_zero hb0
  refine Safe.rg rfl ?_
  simp only [c7K, show (((lb.length : Nat) : Int) = 0) = False from eq_false (by omega), E3, seval]
  refine Safe.cd rfl ?_
  simp only [E3, seval]
  refine Safe.rg rfl ?_
  simp only [c7J, E3, seval]
  refine (b4m la lb hna hnb).acall ?_
  by_cases hab : val la < val lb
  · have hcm : (cmpI (val la) (val lb) < 0) = True := by rw [b9q]; exact eq_true hab
    simp only [hcm, E3, seval]
    refine Safe.cd rfl ?_
    simp only [E3, seval]
    refine Safe.rg rfl ?_
    simp only [c7I, E3, seval]
    first | refine (a8d la hna).acall ?_ | refine (a8d la hna).dcall ?_
    try simp only [E3, seval]
    refine Safe.rt rfl ?_
    simp only [E3, seval]
    rw [Nat.div_eq_of_lt hab, Nat.mod_eq_of_lt hab, a0G]
    exact ⟨Le.tup3 (Le.nil 1 (by decide)) (Le.refl _) (Le.refl _), _, rfl⟩
  have hcm : (cmpI (val la) (val lb) < 0) = False := by rw [b9q]; exact eq_false hab
  simp only [hcm, E3, seval]
  refine Safe.cd rfl ?_
  simp only [E3, seval]
  have htb := b7A hlastb hb1
  have hdl := a0L hnb.lim (lb.length - 1)
  by_cases hone : lb.length = 1
  · have h1 : (((lb.length : Nat) : Int) = 1) = True := eq_true (by omega)
    refine Safe.rg rfl ?_
    simp only [b8R, h1, E3, seval]
    refine Safe.cd rfl ?_
    simp only [E3, seval]
    have hvb1 : val lb = lb.getD 0 0 := by
      have := a2D lb 0
      rw [List.drop_zero, List.drop_eq_nil_of_le (by omega)] at this
      simpa [val] using this
    have i0 := a0z (hap H []) lb .i64 0 hb1
    rw [Int.natCast_zero] at i0
    have hd0 : 0 < lb.getD 0 0 := by rw [← hvb1]; exact hB
    have hd1 : lb.getD 0 0 < LB := a0L hnb.lim 0
    refine Safe.rg rfl ?_
    simp only [c7H, i0, E3, seval]
    first | refine (c6H la (lb.getD 0 0) hna hd0 hd1).acall ?_ | refine (c6H la (lb.getD 0 0) hna hd0 hd1).dcall ?_
    try simp only [E3, seval]
    have hrl : val la % lb.getD 0 0 < LB := Nat.lt_trans (Nat.mod_lt _ hd0) hd1
    refine Safe.rg rfl ?_
    simp only [c7G, c2T, E3, seval]
    first | refine (a0v [val la % lb.getD 0 0] (by intro d hd; simp at hd; subst hd; exact hrl) (by simp)).acall ?_ | refine (a0v [val la % lb.getD 0 0] (by intro d hd; simp at hd; subst hd; exact hrl) (by simp)).dcall ?_
    try simp only [E3, seval]
    refine Safe.rt rfl ?_
    simp only [E3, seval]
    rw [hvb1, b7l]
    exact ⟨Le.refl _, _, rfl⟩
  have h1 : (((lb.length : Nat) : Int) = 1) = False := eq_false (by omega)
  refine Safe.rg rfl ?_
  simp only [b8R, h1, E3, seval]
  refine Safe.cd rfl ?_
  simp only [E3, seval]
  have w0 : IntKind.wrap .i64 (((lb.length : Nat) : Int) - 1) = ((lb.length - 1 : Nat) : Int) := by rw [a0a] <;> omega
  refine Safe.rg rfl ?_
  simp only [c7F, w0, a0z _ lb _ (lb.length - 1) (by omega), E3, seval]
  first | refine (d6s _ hdl).acall ?_ | refine (d6s _ hdl).dcall ?_
  try simp only [E3, seval]
  obtain ⟨hVl, hBl⟩ := c9A hnb.lim hb1 htb
  have hn32 : 32 - blen (lb.getD (lb.length - 1) 0) < 32 := by
    have : 0 < blen (lb.getD (lb.length - 1) 0) := by unfold blen; rw [if_neg (by omega)]; omega
    omega
  generalize hn : 32 - blen (lb.getD (lb.length - 1) 0) = n at *
  have hp2 : 0 < 2 ^ n := Nat.pow_pos (by decide)
  -- the divisor
  refine Safe.rg rfl ?_
  simp only [c4M, E3, seval]
  refine a0n.mono (d0H lb n hnb (by omega) hb0 hn32 (hap H [])) ?_
  rintro r' H' ⟨rfl, rfl⟩
  simp only [e0j, b9e, List.nil_append, List.length_nil, hib, E3, seval]
  have hVp : 0 < val lb * 2 ^ n := Nat.mul_pos hB hp2
  have hnv1 : (limbs (val lb * 2 ^ n)).length ≤ lb.length := a0j hVl
  have hnv2 : lb.length ≤ (limbs (val lb * 2 ^ n)).length := by
    rcases Nat.lt_or_ge (limbs (val lb * 2 ^ n)).length lb.length with h | h
    · exfalso
      have h2 := a0Z (a0c (val lb * 2 ^ n))
      rw [a0b] at h2
      have h3 : LB ^ (limbs (val lb * 2 ^ n)).length ≤ LB ^ (lb.length - 1) := Nat.pow_le_pow_right (by decide) (by omega)
      have h4 : val lb * 1 ≤ val lb * 2 ^ n := Nat.mul_le_mul_left _ hp2
      omega
    · exact h
  have hnv : (limbs (val lb * 2 ^ n)).length = lb.length := by omega
  refine Safe.freeze 0 hH rfl rfl (a0m _) ?_
  refine Safe.keep [0, 1, 9, 10] ?_
  simp only [d6i (H := H) (i := 0) _ (show (limbs (val lb * 2 ^ n)).length ≤ (fl (lb.length + 1) (dig (val lb * 2 ^ n))).length by rw [a1c]; omega), e2A (M := val lb * 2 ^ n) rfl (show (limbs (val lb * 2 ^ n)).length ≤ lb.length + 1 by omega), E3, seval]
  refine Safe.drop0 hH rfl (by simp only [List.all_cons, List.all_nil, E3, seval]) (by repeat (first | exact RC.nil | refine RC.none ?_ | refine RC.row ZI.cl ?_ | refine RC.cons (a0m _) ?_ | refine RC.row a0e ?_ | refine RC.emp ?_ | refine RC.zero ?_ | refine RC.one (Z_cl _) ?_ | refine RC.one (ZI.cl _) ?_ | refine RC.one (a0e _) ?_)) ?_
  -- the dividend
  have hA0 : val la ≠ 0 := by omega
  have hla1 : 0 < la.length := by
    rcases Nat.eq_zero_or_pos la.length with h | h
    · exfalso; have := List.length_eq_zero_iff.1 h; subst this; exact hA0 rfl
    · exact h
  have hU1 : la.length ≤ (limbs (val la * 2 ^ n)).length := by
    rcases Nat.lt_or_ge (limbs (val la * 2 ^ n)).length la.length with h | h
    · exfalso
      have h2 := a0Z (a0c (val la * 2 ^ n))
      rw [a0b] at h2
      have h3 : LB ^ (limbs (val la * 2 ^ n)).length ≤ LB ^ (la.length - 1) := Nat.pow_le_pow_right (by decide) (by omega)
      have h4 : val la * 1 ≤ val la * 2 ^ n := Nat.mul_le_mul_left _ hp2
      have h5 := (c9A hna.lim hla1 (b7A hlasta hla1)).2
      omega
    · exact h
  have hU2 : val la * 2 ^ n < LB ^ (la.length + 1) := by
    rw [Nat.pow_succ]
    have h2n : 2 ^ n ≤ LB := by
      have : LB = 2 ^ (32 - n) * 2 ^ n := by rw [← Nat.pow_add, show 32 - n + n = 32 by omega]
      rw [this]; exact Nat.le_mul_of_pos_left _ (Nat.pow_pos (by decide))
    exact Nat.lt_of_lt_of_le (Nat.mul_lt_mul_of_pos_right (a0Z hna.lim) hp2) (Nat.mul_le_mul_left _ h2n)
  have hU3 : (limbs (val la * 2 ^ n)).length ≤ la.length + 1 := a0j hU2
  refine Safe.rg rfl ?_
  simp only [c4L, E3, seval]
  refine a0n.mono (d0H la n hna (by omega) hA0 hn32 (hap H [])) ?_
  rintro r' H' ⟨rfl, rfl⟩
  generalize hK : (limbs (val la * 2 ^ n)).length = K at *
  have hrow : (fl (la.length + 1) (dig (val la * 2 ^ n))).take K ++ [0, 0] = fl (K + 2) (dig (val la * 2 ^ n)) := by
    have hh : val la * 2 ^ n < LB ^ K := by have := a0Z (a0c (val la * 2 ^ n)); rwa [a0b, hK] at this
    have hh2 : val la * 2 ^ n < LB ^ (K + 1) := Nat.lt_of_lt_of_le hh (Nat.pow_le_pow_right (by decide) (by omega))
    rw [d5c _ hU3, c9S, c9S, b2h hh, b2h hh2, List.append_assoc]; rfl
  have happ := fun (env : Env) => e3k (H := H) hH (n0 := H.length) (env := env) (L := []) (len := K) (c := la.length + 1) (X := fl (la.length + 1) (dig (val la * 2 ^ n))) (l := [0, 0]) (o := none) (a1v H 0) (by rw [a1c]; exact hU3) (by simp; omega) (by rw [a1c]; simp; omega)
  have w2 : IntKind.wrap .i64 ((la.length : Int) + 1) = ((la.length + 1 : Nat) : Int) := by rw [a0a] <;> omega
  have hslc : slcV (hap H [some ⟨1, u32s (fl (K + 2) (dig (val la * 2 ^ n)))⟩]) 1 (.mu (lid H 0) 0 (K + 2) none) none (some (.int .i64 ((la.length + 1 : Nat) : Int))) none = some (.mu (lid H 0) 0 (la.length + 1) none) := by
    simp only [slcV, a1p, List.getElem?_cons_zero, Option.join_some, Option.bind_some, a3R]
    rw [if_pos ⟨trivial, by omega, by omega, by omega⟩]
    simp
  simp only [c3z, e1s, Int.natCast_zero, List.length_cons, List.length_nil, hrow] at happ
  simp only [e0j, b9e, List.nil_append, List.length_nil, hia, E3, seval]
  simp only [happ, w2, hslc, E3, seval]
  have hle : lb.length ≤ la.length := by
    rcases Nat.lt_or_ge la.length lb.length with h | h
    · exfalso
      have h2 := a0Z hna.lim
      have h3 : LB ^ la.length ≤ LB ^ (lb.length - 1) := Nat.pow_le_pow_right (by decide) (by omega)
      omega
    · exact h
  have w3 : IntKind.wrap .i64 ((la.length : Int) - (lb.length : Int)) = ((la.length - lb.length : Nat) : Int) := by rw [a0a] <;> omega
  generalize hm : la.length - lb.length = m at *
  have w4 : IntKind.wrap .i64 ((m : Int) + 1) = ((m + 1 : Nat) : Int) := by rw [a0a] <;> omega
  refine Safe.rg rfl ?_
  simp only [c4K, w3, w4, b8X (H := H) (L := [some ⟨1, u32s (fl (K + 2) (dig (val la * 2 ^ n)))⟩]) (n := m + 1) (by omega), E3, seval]
  refine Safe.rg rfl ?_
  simp only [c4J, w3, E3, seval]
  have hUV : val la * 2 ^ n < val lb * 2 ^ n * LB ^ (m + 1) := by
    rw [Nat.mul_right_comm]
    refine Nat.mul_lt_mul_of_pos_right ?_ hp2
    have h1 := a0Z hna.lim
    have h2 : LB ^ (lb.length - 1) * LB ^ (m + 1) ≤ val lb * LB ^ (m + 1) := Nat.mul_le_mul_right _ hBl
    rw [← Nat.pow_add, show lb.length - 1 + (m + 1) = la.length by omega] at h2
    omega
  generalize hU : val la * 2 ^ n = U at *
  generalize hV : val lb * 2 ^ n = V at *
  have hvt : 0 < (limbs V).getD (lb.length - 1) 0 := by
    have := b7A (a5L V) (by omega)
    rwa [hnv] at this
  refine Safe.lp rfl ?_
  refine Safe.keep [0, 1, 9, 10, 11, 12, 13] ?_
  simp only [E3, seval]
  refine Safe.loopD (m + 1) (fun i => [(0, natV la), (1, natV lb), (9, .int .i64 n), (10, natV (limbs V)), (11, .mu (lid H 0) 0 (la.length + 1) none), (12, .mu (lid H 1) 0 (m + 1) (some (m + 1))), (13, .int .i64 ((i : Int) - 1))])
    (fun i => hap H [some ⟨1, u32s (fl (K + 2) (dig (U % (V * LB ^ i))))⟩, some ⟨1, u32s (fl (m + 1) fun j => if i ≤ j then dig (U / V) j else 0)⟩]) ?_ ?_ (fun i hi ih => ?_) ?_
  · have : (((m + 1 : Nat) : Int) - 1) = (m : Int) := by omega
    rw [this]
  · rw [b8d, Nat.mod_eq_of_lt hUV]
  · have e1 : ((i + 1 : Nat) : Int) - 1 = (i : Int) := by omega
    rw [e1]
    obtain ⟨s1, s2, s3, s4⟩ := d9l (U := U) (V := V) (i := i) (nv := lb.length) hVl hVp
    refine Safe.inLoop ?_
    refine Safe.rg rfl ?_
    simp only [b4x, Int.natCast_nonneg i, E3, seval]
    refine Safe.cd rfl ?_
    simp only [E3, seval]
    have w5 : IntKind.wrap .i64 ((i : Int) + (lb.length : Int)) = ((i + lb.length : Nat) : Int) := by rw [a0a] <;> omega
    have w6 : IntKind.wrap .i64 (((i + lb.length : Nat) : Int) + 1) = ((i + lb.length + 1 : Nat) : Int) := by rw [a0a] <;> omega
    refine Safe.rg rfl ?_
    simp only [c4I, hnv, w5, w6, e1w (H := H) (i := 0) (L := [some ⟨1, u32s (fl (K + 2) (dig (U % (V * LB ^ (i + 1)))))⟩, some ⟨1, u32s (fl (m + 1) fun j => if i + 1 ≤ j then dig (U / V) j else 0)⟩]) rfl rfl none .i64 .i64 (show i + lb.length + 1 = i + (lb.length + 1) by omega) (show i + lb.length + 1 ≤ la.length + 1 by omega), E3, seval]
    have hcall := d5i (H := hap H [some ⟨1, u32s (fl (K + 2) (dig (U % (V * LB ^ (i + 1)))))⟩, some ⟨1, u32s (fl (m + 1) fun j => if i + 1 ≤ j then dig (U / V) j else 0)⟩]) (id := lid H 0) (off := i) (N := K + 2) (n := lb.length) (oc := none) (v := limbs V) (f := dig (U % (V * LB ^ (i + 1))))
      (e0l rfl) (a0c V) hnv hb1 hvt (by omega) (by omega) (fun j _ => b8f _ _) s3 (by rw [a0b]; exact s4)
    refine a0n.mono hcall ?_
    rintro r' H' ⟨rfl, rfl⟩
    rw [a0b, s2, a3a fun j _ => s1 j]
    simp only [a3V, List.set_cons_zero, e7C (show i < m + 1 by omega), fst1 (show i < m + 1 by omega), b8e, E3, seval]
    refine Safe.inBlock ?_
    refine Safe.rg rfl ?_
    simp only [c4H, a0a (n := (i : Int) - 1) (by omega) (by omega), E3, seval]
    refine Safe.keep [0, 1, 9, 10, 11, 12, 13] ?_
    simp only [E3, seval]
    exact ih
  · refine Safe.inLoop ?_
    refine Safe.rg rfl ?_
    simp only [b4x, show (0 ≤ ((0 : Nat) : Int) - 1) = False by simp, E3, seval]
    refine Safe.cd rfl ?_
    simp only [E3, seval]
    have hR0 : U % (V * LB ^ 0) = U % V := by rw [Nat.pow_zero, Nat.mul_one]
    rw [hR0]
    refine Safe.freeze 0 hH rfl rfl (a0m _) ?_
    refine Safe.keep [9, 11, 12] ?_
    simp only [d6i (H := H) (i := 0) none (show la.length + 1 ≤ (fl (K + 2) (dig (U % V))).length by rw [a1c]; omega), a2u, E3, seval]
    refine Safe.freeze 1 hH rfl rfl (a0m _) ?_
    refine Safe.keep [9, 11, 12] ?_
    simp only [d2P, E3, seval]
    rw [c3a, d5c _ (show la.length + 1 ≤ K + 2 by omega)]
    have hUm : U % V < LB ^ (la.length + 1) := Nat.lt_of_le_of_lt (Nat.mod_le _ _) hU2
    have hUd : U / V < LB ^ (m + 1) := by rw [Nat.div_lt_iff_lt_mul hVp, Nat.mul_comm]; exact hUV
    refine Safe.rg rfl ?_
    simp only [c4G, E3, seval]
    first | refine (a0v _ (a2J (U / V) (m + 1)) (by rw [a1c]; omega)).acall ?_ | refine (a0v _ (a2J (U / V) (m + 1)) (by rw [a1c]; omega)).dcall ?_
    try simp only [E3, seval]
    first | refine (a0v _ (a2J (U % V) (la.length + 1)) (by rw [a1c]; omega)).acall ?_ | refine (a0v _ (a2J (U % V) (la.length + 1)) (by rw [a1c]; omega)).dcall ?_
    try simp only [E3, seval]
    rw [a1R hUm, a1R hUd]
    first | refine (d5C (limbs (U % V)) n ⟨a0c _, Nat.le_trans (a0j hUm) (by omega)⟩ hn32).acall ?_ | refine (d5C (limbs (U % V)) n ⟨a0c _, Nat.le_trans (a0j hUm) (by omega)⟩ hn32).dcall ?_
    try simp only [E3, seval]
    refine Safe.rt rfl ?_
    simp only [E3, seval]
    rw [a0b, ← hU, ← hV, Nat.mul_mod_mul_right, Nat.mul_div_cancel _ hp2, Nat.mul_div_mul_right _ _ hp2]
    exact ⟨Le.refl _, _, rfl⟩
end Go.Abs
set_option linter.unusedVariables false
set_option linter.unusedSimpArgs false
namespace Go.Abs
theorem e4n {n m : Bool} {A B : Nat} {q : Int} (hB : B ≠ 0) (h : sgn n A = sgn m B * q) : A % B = 0 ∧ sgn (!(n == m)) (A / B) = q := by
  have hA : A = B * q.natAbs := by
    have := congrArg Int.natAbs h
    rwa [b4i, Int.natAbs_mul, b4i] at this
  refine ⟨by rw [hA]; exact Nat.mul_mod_right _ _, ?_⟩
  have hne : sgn m B ≠ 0 := by cases m <;> simp [sgn] <;> omega
  refine Int.eq_of_mul_eq_mul_left hne ?_
  rw [← h, c8H]
  have hC : B * (A / B) = A := by rw [hA, Nat.mul_div_cancel_left _ (Nat.pos_of_ne_zero hB)]
  rw [hC]
  cases n <;> cases m <;> rfl
theorem a4N (x y : ZI) (k : Nat) (hx : Zok k x) (hy : Zok k y) (hk : k < 17592186044000) (q : Int) (hy0 : y.z ≠ 0) (hq : x.z = y.z * q) : a0d Pr a2x [x.av, y.av] (.tup [Z q, Z 0, .int .i64 0]) := by
  obtain ⟨n, a⟩ := x
  obtain ⟨m, b⟩ := y
  have hal := hx.len
  have hbl := hy.len
  simp only at hal hbl
  have ha : Nt a := ⟨hx.lim, by omega⟩
  have hb : Nt b := ⟨hy.lim, by omega⟩
  simp only [ZI.av, ZI.z] at *
  have hb0 : val b ≠ 0 := by
    intro h; rw [h, a5s] at hy0; exact hy0 rfl
  obtain ⟨hr, hqq⟩ := e4n hb0 hq
  have hnt : ∀ v, v ≤ val a → Nt (limbs v) := fun v hv => ⟨a0c _, Nat.le_trans (a0j (Nat.lt_of_le_of_lt hv (a0Z ha.lim))) ha.len⟩
  refine a0d.intro c8u c8t (Nat.le_of_ble_eq_true rfl) (c5W (Z_cl _) (Z_cl _) (.int _ _)) fun H hH => ?_
  refine Safe.rg rfl ?_
  simp only [b5f, E3, seval]
  refine Safe.rg rfl ?_
  simp only [b5e, E3, seval]
  first | refine (a9c a b ha hb (by omega) (by omega) hb0).acall ?_ | refine (a9c a b ha hb (by omega) (by omega) hb0).dcall ?_
  try simp only [E3, seval]
  refine Safe.rg rfl ?_
  simp only [b5d, E3, seval]
  refine Safe.cd rfl ?_
  simp only [E3, seval]
  refine Safe.rx rfl (by simp only [a4O, a6K, a4T, E3, seval]) ?_
  simp only [b5c, b2v, b2u, E3, seval]
  refine (a1T (!(n == m)) _ (hnt _ (Nat.div_le_self _ _))).dcall ?_
  rw [a0b, hqq]
  simp only [E3, seval]
  refine (a1T n _ (hnt _ (Nat.mod_le _ _))).dcall ?_
  rw [a0b, hr, a5s]
  simp only [E3, seval]
  refine ⟨?_, ?_⟩
  all_goals
    refine Safe.rg rfl ?_
    simp only [b5b, E3, seval]
    refine (a1w (canZ 0) (a0l (k := 1) (by decide) |>.mono (by omega))).dcall ?_
    rw [a0p]
    simp only [Int.sign_zero, E3, seval]
    refine Safe.cd rfl ?_
    simp only [E3, seval]
    refine Safe.rx rfl (by simp only [a4O, a6K, a4T, E3, seval]) ?_
    simp only [b5a, b2t, b2r, E3, seval]
    refine Safe.rt rfl ?_
    simp only [E3, seval]
    exact ⟨rfl, _, rfl⟩
end Go.Abs
set_option linter.unusedVariables false
set_option linter.unusedSimpArgs false
namespace Go.Abs
theorem c6D {x : Nat} (h : x < LB) : IntKind.wrap .u64 ((x : Int) * 4294967296) = ((x * LB : Nat) : Int) := b8r (x := x) (y := LB) (by
  have : LB = 4294967296 := rfl
  have : x * LB ≤ 4294967295 * LB := Nat.mul_le_mul_right _ (by omega)
  omega)
theorem c6G (a : List Nat) (d : Nat) (ha : Nt a) (hd : 0 < d) (hd2 : d < LB) : a0d Pr a9N [natV a, .int .u64 d] (.tup [natV (limbs (val a / d)), .int .u64 (val a % d : Nat)]) := by
  have hLB : LB = 4294967296 := rfl
  have hlen := ha.len
  have hv := a0Z ha.lim
  refine a0d.intro c6m c6k (Nat.le_of_ble_eq_true rfl) (b1M (a0T _) (.int _ _)) fun H hH => ?_
  refine Safe.rg rfl ?_
  simp only [b3b, E3, seval]
  refine Safe.rg rfl ?_
  simp only [b3a, b8X (H := H) (L := []) (n := a.length) (by omega), E3, seval]
  refine Safe.rg rfl ?_
  simp only [b2Z, E3, seval]
  refine Safe.rg rfl ?_
  simp only [b2Y, a0a (n := (a.length : Int) - 1) (by omega) (by omega), E3, seval]
  refine Safe.lp rfl ?_
  refine Safe.keep [0, 1, 6, 7, 8] ?_
  simp only [E3, seval]
  refine Safe.loopD a.length (fun i => [(0, natV a), (1, .int .u64 d), (6, .mu (lid H 0) 0 a.length (some a.length)), (7, .int .u64 (val a / LB ^ i % d : Nat)), (8, .int .i64 ((i : Int) - 1))])
    (fun i => hap H [some ⟨1, u32s (fl a.length fun j => if i ≤ j then dig (val a / d) j else 0)⟩]) ?_ ?_ (fun i hi ih => ?_) ?_
  · rw [Nat.div_eq_of_lt hv]; rfl
  · rw [b8d]
  · have e1 : ((i + 1 : Nat) : Int) - 1 = (i : Int) := by omega
    rw [e1]
    refine Safe.inLoop ?_
    refine Safe.rg rfl ?_
    simp only [a7r, Int.natCast_nonneg i, E3, seval]
    refine Safe.cd rfl ?_
    simp only [E3, seval]
    have hr : val a / LB ^ (i + 1) % d < LB := Nat.lt_trans (Nat.mod_lt _ hd) hd2
    have hai : a.getD i 0 < LB := a0L ha.lim i
    have hb : val a / LB ^ (i + 1) % d * LB + a.getD i 0 < 18446744073709551616 := by
      have : val a / LB ^ (i + 1) % d * LB ≤ 4294967295 * LB := Nat.mul_le_mul_right _ (by omega)
      omega
    have hmul := c6D hr
    refine Safe.rg rfl ?_
    simp only [b2X, a0z _ a _ i hi, hmul, a2i (x := a.getD i 0) (by omega), a5J hb, E3, seval]
    rw [← d0g ha.lim i] at hb ⊢
    have hs := c3E (val a) d i
    have hq := c3F (val a) d i
    refine Safe.rg rfl ?_
    simp only [b2W, c9w hd hb, hq, a9T (b8f _ _), d8o hi, fst0 hi, E3, seval]
    refine Safe.rg rfl ?_
    simp only [b2V, d9n hd, hs, E3, seval]
    refine Safe.rg rfl ?_
    simp only [b2U, a0a (n := (i : Int) - 1) (by omega) (by omega), E3, seval]
    refine Safe.keep [0, 1, 6, 7, 8] ?_
    simp only [E3, seval]
    rw [b8e]
    exact ih
  · refine Safe.inLoop ?_
    refine Safe.rg rfl ?_
    simp only [a7r, show (0 ≤ ((0 : Nat) : Int) - 1) = False by simp, E3, seval]
    refine Safe.cd rfl ?_
    simp only [E3, seval]
    refine Safe.freeze 0 hH rfl rfl (a0m _) ?_
    refine Safe.keep [6, 7] ?_
    simp only [d2P, E3, seval]
    rw [c3a]
    have hr : val a % d < LB := Nat.lt_trans (Nat.mod_lt _ hd) hd2
    refine Safe.rg rfl ?_
    simp only [b2T, E3, seval]
    first | refine (a0s _ ⟨a2J _ _, by rw [a1c]; exact hlen⟩).acall ?_ | refine (a0s _ ⟨a2J _ _, by rw [a1c]; exact hlen⟩).dcall ?_
    try simp only [E3, seval]
    simp only [a1R (b2g hv (d := d)), Nat.pow_zero, Nat.div_one, E3, seval]
    refine Safe.rt rfl ?_
    simp only [E3, seval]
    first | exact ⟨rfl, _, rfl⟩ | exact ⟨_, rfl⟩ | exact ⟨trivial, _, rfl⟩
theorem d5u (n : Nat) (hn : n < 32) : a0d Pr b4U [.int .i64 n] (natV [2 ^ n]) := by
  have hLB : LB = 4294967296 := rfl
  have h2n : 2 ^ n < LB := by
    have : 2 ^ n ≤ 2 ^ 31 := Nat.pow_le_pow_right (by decide) (by omega)
    have : (2 : Nat) ^ 31 < LB := by decide
    omega
  refine a0d.intro d1F d1D (Nat.le_of_ble_eq_true rfl) (a0T _) fun H hH => ?_
  have hq : binV .quo (.int .i64 (n : Int)) (.int .i64 32) = some (.int .i64 0) := by
    have := e1F (x := n) (y := 32) (by decide) (by omega)
    rw [Nat.div_eq_of_lt hn] at this; exact this
  have hr : binV .rem (.int .i64 (n : Int)) (.int .i64 32) = some (.int .i64 (n : Int)) := by
    have := e1E (x := n) (y := 32) (by decide)
    rw [Nat.mod_eq_of_lt hn] at this; exact this
  refine Safe.rg rfl ?_
  simp only [c0v, E3, seval]
  refine Safe.rg rfl ?_
  simp only [c0u, E3, seval]
  refine Safe.rg rfl ?_
  simp only [c0t, E3, seval]
  refine Safe.lp rfl ?_
  refine Safe.inLoop ?_
  refine Safe.rg rfl ?_
  simp only [c0s, hq, Int.lt_irrefl, E3, seval]
  refine Safe.cd rfl ?_
  simp only [E3, seval]
  have hs : b4h .shl .u32 1 (n : Int) = some (.int .u32 ((2 ^ n : Nat) : Int)) := by
    rw [d0I _ _ _ (by omega)]
    have hm : min (Int.toNat (n : Int)) IntKind.u32.bits = n := by
      show min n 32 = n
      omega
    rw [hm]
    have : (1 : Int) * 2 ^ n = ((2 ^ n : Nat) : Int) := by simp
    rw [this, a9T h2n]
  refine Safe.rg rfl ?_
  simp only [c0r, hr, a2i (x := n) (by omega), hs, c2T, b4N _ _ H [] [2 ^ n] (by simp), E3, seval]
  refine Safe.freeze 0 hH rfl rfl (a0m _) ?_
  refine Safe.keep [2] ?_
  simp only [show frz (lid H 0) ⟨1, u32s [2 ^ n]⟩ (.mu (lid H 0) 0 1 none) = natV [2 ^ n] from a8j H 0 [2 ^ n] none, E3, seval]
  refine Safe.rt rfl ?_
  simp only [E3, seval]
  first | exact ⟨rfl, _, rfl⟩ | exact ⟨_, rfl⟩ | exact ⟨trivial, _, rfl⟩
theorem d0N (a : List Nat) (n : Nat) (ha : Nt a) (hn : n < 32) : a0d Pr b4V [natV a, .int .i64 n] (.tup [natV (limbs (val a / 2 ^ n)), .int .i64 0]) := by
  have hLB : LB = 4294967296 := rfl
  have hal := ha.len
  have hq : binV .quo (.int .i64 (n : Int)) (.int .i64 32) = some (.int .i64 0) := by
    have := e1F (x := n) (y := 32) (by decide) (by omega)
    rw [Nat.div_eq_of_lt hn] at this; exact this
  have hr : binV .rem (.int .i64 (n : Int)) (.int .i64 32) = some (.int .i64 (n : Int)) := by
    have := e1E (x := n) (y := 32) (by decide)
    rw [Nat.mod_eq_of_lt hn] at this; exact this
  refine a0d.introL d1M d1K (Nat.le_of_ble_eq_true rfl) (b1M (a0T _) (.int _ _)) fun H hH => ?_
  refine Safe.rg rfl ?_
  simp only [c0G, E3, seval]
  refine Safe.rg rfl ?_
  simp only [c0F, show ((n : Int) < 0) = False from eq_false (by omega), E3, seval]
  refine Safe.cd rfl ?_
  simp only [E3, seval]
  refine Safe.rg rfl ?_
  simp only [c0E, E3, seval]
  refine (a4Q a ha).acall ?_
  by_cases hb : blen (val a) ≤ n
  · have hc : (((blen (val a) : Nat) : Int) ≤ (n : Int)) = True := eq_true (by omega)
    simp only [hc, E3, seval]
    refine Safe.cd rfl ?_
    simp only [E3, seval]
    refine Safe.rg rfl ?_
    simp only [c0D, E3, seval]
    refine Safe.rt rfl ?_
    simp only [E3, seval]
    have h0 : val a / 2 ^ n = 0 := by
      rw [Nat.div_eq_of_lt]
      have := d0n (val a)
      have h2 : 2 ^ blen (val a) ≤ 2 ^ n := Nat.pow_le_pow_right (by decide) hb
      omega
    rw [h0, a0G]
    exact ⟨Le.tup2 (Le.nil 1 (by decide)) (Le.refl _), _, rfl⟩
  have hc : (((blen (val a) : Nat) : Int) ≤ (n : Int)) = False := eq_false (by omega)
  simp only [hc, E3, seval]
  refine Safe.cd rfl ?_
  simp only [E3, seval]
  refine Safe.rg rfl ?_
  simp only [c0C, E3, seval]
  refine Safe.nilrow 6 1 (by decide) (by simp only [E3, seval]) ?_
  refine Safe.rg rfl ?_
  simp only [c0B, hq, E3, seval]
  refine Safe.lp rfl ?_
  refine Safe.keep [0, 1, 6, 7] ?_
  simp only [E3, seval]
  refine Safe.loopN a.length (fun i => [(0, natV a), (1, .int .i64 n), (6, .mu (lid H 0) 0 (fl i (dig (val a / 2 ^ n))).length none), (7, .int .i64 i)]) (fun i => hap H [some ⟨1, u32s (fl i (dig (val a / 2 ^ n)))⟩]) rfl rfl (fun i hi ih => ?_) ?_
  · have hlt : ((i : Int) < (a.length : Int)) = True := eq_true (by omega)
    have hai := a0L ha.lim i
    have hai1 := a0L ha.lim (i + 1)
    have w4 : IntKind.wrap .i64 ((i : Int) + 1) = ((i + 1 : Nat) : Int) := by rw [a0a] <;> omega
    refine Safe.inLoop ?_
    refine Safe.rg rfl ?_
    simp only [b0W, hlt, E3, seval]
    refine Safe.cd rfl ?_
    simp only [E3, seval]
    have hmx : a.getD (i + 1) 0 * LB ≤ 4294967295 * LB := Nat.mul_le_mul_right _ (by omega)
    have hmul : IntKind.wrap .u64 (((a.getD (i + 1) 0 : Nat) : Int) * 4294967296) = ((a.getD (i + 1) 0 * LB : Nat) : Int) := b8r (x := a.getD (i + 1) 0) (y := LB) (by omega)
    have hadd : IntKind.wrap .u64 (((a.getD i 0 : Nat) : Int) + ((a.getD (i + 1) 0 * LB : Nat) : Int)) = ((a.getD (i + 1) 0 * LB + a.getD i 0 : Nat) : Int) := by
      rw [a5J (by omega), Nat.add_comm]
    refine Safe.rg rfl ?_
    simp only [c0A, E3, seval]
    first | refine (a1o a i ha.lim hal).acall ?_ | refine (a1o a i ha.lim hal).dcall ?_
    try simp only [E3, seval]
    simp only [w4, E3, seval]
    first | refine (a1o a (i + 1) ha.lim hal).acall ?_ | refine (a1o a (i + 1) ha.lim hal).dcall ?_
    try simp only [E3, seval]
    simp only [hmul, hadd, E3, seval]
    have hstep := d5B ha.lim i hn
    have hrem := d9o ((a.getD (i + 1) 0 * LB + a.getD i 0) / 2 ^ n)
    rw [hstep] at hrem
    refine Safe.rg rfl ?_
    simp only [c0z, hr, a2i (x := n) (by omega), e4k (show n ≤ 64 by omega), hrem, a9T (b8f (val a / 2 ^ n) i), c4d H hH _ (a1v H 0) _ (fl i (dig (val a / 2 ^ n))) (dig (val a / 2 ^ n) i) (by rw [a1c]; omega), E3, seval]
    refine Safe.rg rfl ?_
    simp only [b6t, w4, E3, seval]
    refine Safe.keep [0, 1, 6, 7] ?_
    simp only [E3, seval]
    rw [← c9S]
    have e : (fl i (dig (val a / 2 ^ n))).length + 1 = (fl (i + 1) (dig (val a / 2 ^ n))).length := by rw [a1c, a1c]
    rw [e]
    exact ih
  · refine Safe.inLoop ?_
    refine Safe.rg rfl ?_
    simp only [b0W, Int.lt_irrefl, E3, seval]
    refine Safe.cd rfl ?_
    simp only [E3, seval]
    refine Safe.freeze 0 hH rfl rfl (a0m _) ?_
    refine Safe.keep [6] ?_
    simp only [E3, seval]
    refine Safe.rg rfl ?_
    simp only [b6s, E3, seval]
    first | refine (a0s _ ⟨a2J _ _, by rw [a1c]; exact hal⟩).acall ?_ | refine (a0s _ ⟨a2J _ _, by rw [a1c]; exact hal⟩).dcall ?_
    try simp only [E3, seval]
    simp only [a1R (b2g (a0Z ha.lim) (d := 2 ^ n)), E3, seval]
    refine Safe.rt rfl ?_
    simp only [E3, seval]
    exact ⟨Le.refl _, _, rfl⟩
end Go.Abs
set_option linter.unusedVariables false
set_option linter.unusedSimpArgs false
namespace Go.Abs
theorem e5P {H : Heap} (hH : a0E H) {n0 : Nat} {env : Env} {L : Heap} {i d c : Nat} {l : List Nat} (hn : n0 ≤ lid H i) (hl : L[i]? = some (some ⟨1, [.int .u32 (d : Int)]⟩)) (hL : e1l H L i) (hc : 0 < l.length → c < 1 + l.length) (hb : l.length ≤ 17592186044416) :
    appV n0 1 4 false (.mu (lid H i) 0 1 (some c)) (natV l) env (hap H L) = some (.mu (lid H i) 0 (1 + l.length) (a1l (some c) (1 + l.length)), scrub (lid H i) env, hap H (L.set i (some ⟨1, u32s (d :: l)⟩))) := by
  have hf : free (hap H L) (lid H i) = true := c9R hH hL
  simp only [appV, b7h, Option.bind_some, a1p, hl, Option.join_some, a3V]
  rw [if_neg, if_pos]
  · simp [a0w, c3z]
  · simp only [a0w, true_and]
    refine ⟨Nat.le_refl _, hn, hf, ?_, ?_, by omega, by omega⟩
    · exact List.all_eq_true.2 fun a ha => a1n (a8u ha)
    · simp [AV.cells, d5R]
  · simp only [a0w, Option.any_some]
    rintro ⟨_, _, _, _, h1, h2⟩
    have := hc h1
    simp at h2
    omega
theorem e1p (d : Nat) (l : List Nat) : val (d :: l) = d + LB * val l := rfl
theorem c6e (d n : Nat) : val (d :: limbs n) = n * LB + d := by
  rw [e1p, a0b, Nat.mul_comm, Nat.add_comm]
theorem e4F {d : Nat} {l : List Nat} {n : Nat} (hd : d < LB) (hl : Lim l) (h : l.length ≤ n) (hn : n < 17592186044000) : Nt (d :: l) :=
  ⟨c9E.2 ⟨hd, hl⟩, by rw [List.length_cons]; omega⟩
theorem d8m (H : Heap) (i d : Nat) (l : List Nat) (oc : Option Nat) : [AV.mu (lid H i) 0 (1 + l.length) oc].map (frz (lid H i) ⟨1, u32s (d :: l)⟩) = [natV (d :: l)] := by
  rw [Nat.add_comm]
  exact congrArg (fun x => [x]) (a8j H i (d :: l) oc)
theorem e0K (a b : Nat) : (cmpI a b > 0) = (b < a) := by
  unfold cmpI; split
  · simp; omega
  · split <;> simp <;> omega
theorem b9l (S i : Nat) : (limbs S).getD i 0 = dig S i := by
  rw [← d0g (a0c S), a0b]
theorem a2p (a b : List Nat) (ha : Nt a) (hb : Nt b) (hal : a.length < 17592186044000) (hbl : b.length < 17592186044000) (hb0 : val b ≠ 0) : a0d Pr a3i [natV a, natV b] (.tup [natV (limbs (val a / val b)), natV (limbs (val a % val b)), .int .i64 0]) := by
  have hLB : LB = 4294967296 := rfl
  have hnb := hb.limbs
  have hlbl : (limbs (val b)).length < 17592186044000 := Nat.lt_of_le_of_lt (a0U hb.lim) hbl
  have hvb := a0b (val b)
  have hlastb := a5L (val b)
  have hib := b9a (val b)
  refine a0d.intro d1V d1U (Nat.le_of_ble_eq_true rfl) (c5W (a0T _) (a0T _) (.int _ _)) fun H hH => ?_
  refine Safe.rg rfl ?_
  simp only [c1f, E3, seval]
  refine Safe.rg rfl ?_
  simp only [c1e, E3, seval]
  first | refine (a0s b hb).acall ?_ | refine (a0s b hb).dcall ?_
  try simp only [E3, seval]
  generalize limbs (val b) = lb at *
  generalize val b = B at *
  subst hvb
  have hb1 : 0 < lb.length := by
    rcases Nat.eq_zero_or_pos lb.length with h | h
    · exfalso; have := List.length_eq_zero_iff.1 h; subst this; exact hb0 rfl
    · exact h
  have hB : 0 < val lb := Nat.pos_of_ne_zero hb0
  refine Safe.rg rfl ?_
  simp only [c1d, show (((lb.length : Nat) : Int) = 0) = False from eq_false (by omega), E3, seval]
  refine Safe.cd rfl ?_
  simp only [E3, seval]
  have htb := b7A hlastb hb1
  have hdl := a0L hnb.lim (lb.length - 1)
  by_cases hone : lb.length = 1
  · have h1 : (((lb.length : Nat) : Int) = 1) = True := eq_true (by omega)
    refine Safe.rg rfl ?_
    simp only [b1a, h1, E3, seval]
    refine Safe.cd rfl ?_
    simp only [E3, seval]
    have hvb1 : val lb = lb.getD 0 0 := by
      have := a2D lb 0
      rw [List.drop_zero, List.drop_eq_nil_of_le (by omega)] at this
      simpa [val] using this
    have i0 := a0z (hap H []) lb .i64 0 hb1
    rw [Int.natCast_zero] at i0
    have hd0 : 0 < lb.getD 0 0 := by rw [← hvb1]; exact hB
    have hd1 : lb.getD 0 0 < LB := a0L hnb.lim 0
    refine Safe.rg rfl ?_
    simp only [c1c, i0, a2i (x := lb.getD 0 0) (by omega), E3, seval]
    first | refine (c6G a (lb.getD 0 0) ha hd0 hd1).acall ?_ | refine (c6G a (lb.getD 0 0) ha hd0 hd1).dcall ?_
    try simp only [E3, seval]
    have hrl : val a % lb.getD 0 0 < LB := Nat.lt_trans (Nat.mod_lt _ hd0) hd1
    refine Safe.rg rfl ?_
    simp only [c1b, a9T hrl, c2T, E3, seval]
    first | refine (a0s [val a % lb.getD 0 0] ⟨by intro d hd; simp at hd; subst hd; exact hrl, by simp⟩).acall ?_ | refine (a0s [val a % lb.getD 0 0] ⟨by intro d hd; simp at hd; subst hd; exact hrl, by simp⟩).dcall ?_
    try simp only [E3, seval]
    refine Safe.rt rfl ?_
    simp only [hvb1, b7l, E3, seval]
    first | exact ⟨rfl, _, rfl⟩ | exact ⟨_, rfl⟩ | exact ⟨trivial, _, rfl⟩
  have h1 : (((lb.length : Nat) : Int) = 1) = False := eq_false (by omega)
  refine Safe.rg rfl ?_
  simp only [b1a, h1, E3, seval]
  refine Safe.cd rfl ?_
  simp only [E3, seval]
  obtain ⟨hVl, hBl⟩ := c9A hnb.lim hb1 htb
  have hblen : blen (val lb) = 32 * (lb.length - 1) + blen (lb.getD (lb.length - 1) 0) := by
    have hs : lb = lb.take (lb.length - 1) ++ [lb.getD (lb.length - 1) 0] := by
      rw [← a7O (by omega), show lb.length - 1 + 1 = lb.length by omega, List.take_length]
    have := b9u (hnb.lim.take (lb.length - 1)) (show lb.getD (lb.length - 1) 0 ≠ 0 by omega)
    rw [← hs, List.length_take, Nat.min_eq_left (by omega)] at this
    exact this
  have hb32 := d3j hdl
  have hbp : 0 < blen (lb.getD (lb.length - 1) 0) := by unfold blen; rw [if_neg (by omega)]; omega
  generalize hn : 32 - blen (lb.getD (lb.length - 1) 0) = n at *
  have hn32 : n < 32 := by omega
  have hp2 : 0 < 2 ^ n := Nat.pow_pos (by decide)
  have h2n : 2 ^ n < LB := by
    have : 2 ^ n ≤ 2 ^ 31 := Nat.pow_le_pow_right (by decide) (by omega)
    have : (2 : Nat) ^ 31 < LB := by decide
    omega
  have w1 : IntKind.wrap .i64 (32 * ((lb.length : Nat) : Int)) = ((32 * lb.length : Nat) : Int) := by rw [a0a] <;> omega
  have w2 : IntKind.wrap .i64 (((32 * lb.length : Nat) : Int) - ((blen (val lb) : Nat) : Int)) = (n : Int) := by rw [a0a] <;> omega
  refine Safe.rg rfl ?_
  simp only [c1a, w1, E3, seval]
  first | refine (a4Q lb hnb).acall ?_ | refine (a4Q lb hnb).dcall ?_
  try simp only [E3, seval]
  simp only [w2, E3, seval]
  first | refine (d5u n hn32).acall ?_ | refine (d5u n hn32).dcall ?_
  try simp only [E3, seval]
  have hn1 : Nt [2 ^ n] := ⟨by intro d hd; simp at hd; omega, by simp⟩
  refine Safe.rg rfl ?_
  simp only [c0Z, E3, seval]
  first | refine (a3f a [2 ^ n] ha hn1 (by simp; omega)).acall ?_ | refine (a3f a [2 ^ n] ha hn1 (by simp; omega)).dcall ?_
  try simp only [E3, seval]
  refine Safe.rg rfl ?_
  simp only [c0Y, E3, seval]
  first | refine (a3f lb [2 ^ n] hnb hn1 (by simp; omega)).acall ?_ | refine (a3f lb [2 ^ n] hnb hn1 (by simp; omega)).dcall ?_
  try simp only [E3, seval]
  simp only [b7l]
  have hU2 : val a * 2 ^ n < LB ^ (a.length + 1) := by
    rw [Nat.pow_succ]
    exact Nat.lt_of_lt_of_le (Nat.mul_lt_mul_of_pos_right (a0Z ha.lim) hp2) (Nat.mul_le_mul_left _ (by omega))
  have hVp : 0 < val lb * 2 ^ n := Nat.mul_pos hB hp2
  have hnv1 : (limbs (val lb * 2 ^ n)).length ≤ lb.length := a0j hVl
  have hnv2 : lb.length ≤ (limbs (val lb * 2 ^ n)).length := by
    rcases Nat.lt_or_ge (limbs (val lb * 2 ^ n)).length lb.length with h | h
    · exfalso
      have h2 := a0Z (a0c (val lb * 2 ^ n))
      rw [a0b] at h2
      have h3 : LB ^ (limbs (val lb * 2 ^ n)).length ≤ LB ^ (lb.length - 1) := Nat.pow_le_pow_right (by decide) (by omega)
      have h4 : val lb * 1 ≤ val lb * 2 ^ n := Nat.mul_le_mul_left _ hp2
      omega
    · exact h
  have hnv : (limbs (val lb * 2 ^ n)).length = lb.length := by omega
  have hUV1 : val a * 2 ^ n / (val lb * 2 ^ n) = val a / val lb := Nat.mul_div_mul_right _ _ hp2
  have hUV2 : val a * 2 ^ n % (val lb * 2 ^ n) / 2 ^ n = val a % val lb := by rw [Nat.mul_mod_mul_right, Nat.mul_div_cancel _ hp2]
  have hK1 : (limbs (val a * 2 ^ n)).length ≤ a.length + 1 := a0j hU2
  generalize hU : val a * 2 ^ n = U at *
  generalize hV : val lb * 2 ^ n = V at *
  have hvt : 0 < (limbs V).getD (lb.length - 1) 0 := by
    have := b7A (a5L V) (by omega)
    rwa [hnv] at this
  have hUl : U < LB ^ (limbs U).length := by have := a0Z (a0c U); rwa [a0b] at this
  generalize hK : (limbs U).length = K at *
  have hVl' : V < LB ^ lb.length := hVl
  refine Safe.rg rfl ?_
  simp only [b6M, hK, b8X (H := H) (L := []) (n := K) (by omega), E3, seval]
  refine Safe.rg rfl ?_
  simp only [b6L, E3, seval]
  refine Safe.nilsl 14 1 (by decide) (by simp only [E3, seval]) ?_
  refine Safe.rg rfl ?_
  simp only [b6K, hK, a0a (n := (K : Int) - 1) (by omega) (by omega), E3, seval]
  refine Safe.lp rfl ?_
  refine Safe.keep [7, 11, 12, 13, 14, 15] ?_
  simp only [E3, seval]
  refine Safe.loopD K (fun i => [(7, natV lb), (11, natV (limbs U)), (12, natV (limbs V)), (13, .mu (lid H 0) 0 K (some K)), (14, natV (limbs (U / LB ^ i % V))), (15, .int .i64 ((i : Int) - 1))])
    (fun i => hap H [some ⟨1, u32s (fl K fun j => if i ≤ j then dig (U / V) j else 0)⟩]) ?_ ?_ (fun i hi ih => ?_) ?_
  · rw [Nat.div_eq_of_lt hUl, Nat.zero_mod, a0G]; rfl
  · rw [b8d]
  · have e1 : ((i + 1 : Nat) : Int) - 1 = (i : Int) := by omega
    rw [e1]
    refine Safe.inLoop ?_
    refine Safe.rg rfl ?_
    simp only [a8U, Int.natCast_nonneg i, E3, seval]
    refine Safe.cd rfl ?_
    simp only [E3, seval]
    have hmod := Nat.mod_lt (U / LB ^ (i + 1)) hVp
    have hSm := c3E U V i
    have hSd := c3F U V i
    have hiU : i < (limbs U).length := by omega
    have hdi := b8f U i
    have hdU : (limbs U).getD i 0 = dig U i := b9l U i
    have hml : (limbs (U / LB ^ (i + 1) % V)).length ≤ lb.length := a0j (Nat.lt_trans hmod hVl)
    generalize U / LB ^ (i + 1) % V = R0 at *
    generalize U / LB ^ i % V = R1 at *
    generalize dig U i = d at *
    have hstep := b8e (n := K) (i := i) (U / V)
    generalize dig (U / V) i = q at *
    generalize (fl K fun j => if i ≤ j then dig (U / V) j else 0) = Q1 at *
    generalize hQ0 : (fl K fun j => if i + 1 ≤ j then dig (U / V) j else 0) = Q0 at *
    have hapx := fun (env : Env) => e5P (H := H) hH (n0 := H.length) (env := env) (L := [some ⟨1, u32s Q0⟩, some ⟨1, [.int .u32 (d : Int)]⟩]) (i := 1) (d := d) (c := 1) (l := limbs R0) (a1v H 1) rfl
      (by intro j b hb a ha
          match j with
          | 0 => simp at hb; subst hb; exact (a8u ha).ref
          | 1 => simp at hb; subst hb; simp [Blk.flat, AV.cells] at ha; subst ha; exact .int _ _
          | j + 2 => simp at hb) (by omega) (by omega)
    refine Safe.rg rfl ?_
    simp only [b6J, a0z _ (limbs U) _ i hiU, hdU, E3, seval]
    rw [hapx]
    simp only [List.set_cons_succ, List.set_cons_zero, E3, seval]
    have hnt : Nt (d :: limbs R0) := e4F hdi (a0c _) hml hlbl
    have hnc := a0s (d :: limbs R0) hnt
    rw [c6e] at hnc
    refine a0d.consumeL (r := natV (limbs (R0 * LB + d))) hH 1 rfl (a0m _) (by rw [d8m]; exact hnc) ?_
    simp only [d2R, d6j, List.set_cons_succ, List.set_cons_zero, E3, seval]
    have hSl : R0 * LB + d < LB * V := by
      have : (R0 + 1) * LB ≤ V * LB := Nat.mul_le_mul_right _ hmod
      rw [Nat.add_mul, Nat.one_mul] at this
      rw [Nat.mul_comm LB V]; omega
    generalize R0 * LB + d = S at *
    refine Safe.keep [7, 11, 12, 13, 14, 15] ?_
    simp only [E3, seval]
    refine Safe.drop1 hH rfl (by simp only [List.all_cons, List.all_nil, E3, seval]) (by repeat (first | exact RC.nil | refine RC.none ?_ | refine RC.row ZI.cl ?_ | refine RC.cons (a0m _) ?_ | refine RC.row a0e ?_ | refine RC.emp ?_ | refine RC.zero ?_ | refine RC.one (Z_cl _) ?_ | refine RC.one (ZI.cl _) ?_ | refine RC.one (a0e _) ?_)) ?_
    have hSn : S < LB ^ (lb.length + 1) := by
      have : LB * V ≤ LB * LB ^ lb.length := Nat.mul_le_mul_left _ (Nat.le_of_lt hVl)
      rw [Nat.pow_succ']; omega
    have hSlen : (limbs S).length ≤ lb.length + 1 := a0j hSn
    have hntS : Nt (limbs S) := ⟨a0c S, by omega⟩
    have hntV : Nt (limbs V) := ⟨a0c V, by omega⟩
    refine Safe.rg rfl ?_
    simp only [b6I, E3, seval]
    refine (a8A (limbs S) (limbs V) hntS hntV).acall ?_
    rw [a0b, a0b]
    have w3 : IntKind.wrap .i64 ((i : Int) - 1) = (i : Int) - 1 := a0a (n := (i : Int) - 1) (by omega) (by omega)
    by_cases hSV : S < V
    · have hcm : (cmpI S V < 0) = True := by rw [b9q]; exact eq_true hSV
      simp only [hcm, E3, seval]
      refine Safe.cd rfl ?_
      simp only [E3, seval]
      refine Safe.rg rfl ?_
      simp only [a5w, w3, E3, seval]
      refine Safe.keep [7, 11, 12, 13, 14, 15] ?_
      simp only [E3, seval]
      have hS1 : R1 = S := by rw [← hSm, Nat.mod_eq_of_lt hSV]
      have hq0 : q = 0 := by rw [← hSd, Nat.div_eq_of_lt hSV]
      have hQ : Q0 = Q1 := by
        rw [← hQ0, ← hstep]
        refine a3a fun j _ => ?_
        by_cases hj : j = i
        · subst hj; rw [if_pos rfl, if_neg (by omega), hq0]
        · rw [if_neg hj]
      rw [hQ, ← hS1]
      exact ih
    have hcm : (cmpI S V < 0) = False := by rw [b9q]; exact eq_false hSV
    simp only [hcm, E3, seval]
    refine Safe.cd rfl ?_
    simp only [E3, seval]
    have main : ∀ G, S / V ≤ G → G < LB → Safe ⟨Pr, fun _ k => k == 4, a3i, 132, [.tmp 4, .tmp 5, .tmp 6], H.length⟩
        [.code ((ACode.region a8S false).seq ((ACode.block 2 c1g.loop).seq ((ACode.region a8R false).seq (ACode.region a8Q false)))),
          .inBlock 1, .code (.region a5w false), .inLoop c1h, .inBlock 0, .code ((ACode.region a8P false).seq ((ACode.region a8O false).seq .ret))]
        [(7, natV lb), (11, natV (limbs U)), (12, natV (limbs V)), (13, .mu (lid H 0) 0 K (some K)), (14, natV (limbs S)), (15, .int .i64 i), (16, .int .u64 G)]
        (hap H [some ⟨1, u32s Q0⟩]) fun r' H' => r' = .tup [natV (limbs (val a / val lb)), natV (limbs (val a % val lb)), .int .i64 0] ∧ ∃ L, H' = hap H L := by
      intro G hG1 hG2
      refine Safe.rg rfl ?_
      simp only [a8S, a9T hG2, c2T, E3, seval]
      have hnG : Nt [G] := ⟨by intro d hd; simp at hd; omega, by simp⟩
      first | refine (a3f (limbs V) [G] hntV hnG (by simp; omega)).acall ?_ | refine (a3f (limbs V) [G] hntV hnG (by simp; omega)).dcall ?_
      try simp only [E3, seval]
      rw [a0b, b7l]
      refine Safe.lp rfl ?_
      refine Safe.keep [7, 11, 12, 13, 14, 15, 16, 17] ?_
      simp only [E3, seval]
      refine Safe.loopW (α := Nat) (fun g => g) (fun g => [(7, natV lb), (11, natV (limbs U)), (12, natV (limbs V)), (13, .mu (lid H 0) 0 K (some K)), (14, natV (limbs S)), (15, .int .i64 i), (16, .int .u64 g), (17, natV (limbs (V * g)))])
        (fun _ => hap H [some ⟨1, u32s Q0⟩]) (fun g => S / V ≤ g ∧ g < LB) G rfl rfl ⟨hG1, hG2⟩ fun g ⟨hg1, hg2⟩ ihg => ?_
      have hVg : V * g < LB ^ (lb.length + 1) := by
        have h1 : V * g ≤ V * LB := Nat.mul_le_mul_left _ (Nat.le_of_lt hg2)
        have h2 : V * LB < LB ^ lb.length * LB := Nat.mul_lt_mul_of_pos_right hVl (by decide)
        rw [Nat.pow_succ]; omega
      have hVgl : (limbs (V * g)).length ≤ lb.length + 1 := a0j hVg
      have hntg : Nt (limbs (V * g)) := ⟨a0c _, by omega⟩
      refine Safe.inLoop ?_
      refine Safe.rg rfl ?_
      simp only [b6F, E3, seval]
      refine (a8A (limbs (V * g)) (limbs S) hntg hntS).acall ?_
      rw [a0b, a0b]
      by_cases hlt : S < V * g
      · have hcm : (cmpI (V * g) S > 0) = True := by rw [e0K]; exact eq_true hlt
        simp only [hcm, E3, seval]
        refine Safe.cd rfl ?_
        simp only [E3, seval]
        have hgq : S / V < g := by rw [Nat.div_lt_iff_lt_mul hVp, Nat.mul_comm]; exact hlt
        have w4 : IntKind.wrap .u64 ((g : Int) - 1) = ((g - 1 : Nat) : Int) := by rw [a0F] <;> omega
        have hVV : V ≤ V * g := Nat.le_mul_of_pos_right _ (by omega)
        refine Safe.rg rfl ?_
        simp only [b6E, w4, E3, seval]
        refine Safe.rg rfl ?_
        simp only [b6D, E3, seval]
        first | refine (a4P (limbs (V * g)) (limbs V) (a0c _) (a0c _) hntg.len hntV.len (by rw [a0b, a0b]; exact hVV)).acall ?_ | refine (a4P (limbs (V * g)) (limbs V) (a0c _) (a0c _) hntg.len hntV.len (by rw [a0b, a0b]; exact hVV)).dcall ?_
        try simp only [E3, seval]
        rw [a0b, a0b, show V * g - V = V * (g - 1) by rw [Nat.mul_sub, Nat.mul_one]]
        refine Safe.keep [7, 11, 12, 13, 14, 15, 16, 17] ?_
        simp only [E3, seval]
        refine Safe.inBlock ?_
        exact ihg (g - 1) ⟨by omega, by omega⟩ (by omega)
      · have hcm : (cmpI (V * g) S > 0) = False := by rw [e0K]; exact eq_false hlt
        simp only [hcm, E3, seval]
        refine Safe.cd rfl ?_
        simp only [E3, seval]
        have hgq : g = q := by
          have : g ≤ S / V := by rw [Nat.le_div_iff_mul_le hVp, Nat.mul_comm]; omega
          omega
        subst hgq
        rw [← hQ0]
        refine Safe.rg rfl ?_
        simp only [a8R, a9T hg2, d8o hi, fst0 hi, E3, seval]
        have hSr : S - V * g = R1 := by
          rw [← hSm, ← hSd]
          have := Nat.div_add_mod S V
          omega
        refine Safe.rg rfl ?_
        simp only [a8Q, E3, seval]
        first | refine (a4P (limbs S) (limbs (V * g)) (a0c _) (a0c _) hntS.len hntg.len (by rw [a0b, a0b]; omega)).acall ?_ | refine (a4P (limbs S) (limbs (V * g)) (a0c _) (a0c _) hntS.len hntg.len (by rw [a0b, a0b]; omega)).dcall ?_
        try simp only [E3, seval]
        rw [a0b, a0b, hSr]
        refine Safe.rg rfl ?_
        simp only [a5w, w3, E3, seval]
        refine Safe.keep [7, 11, 12, 13, 14, 15] ?_
        simp only [E3, seval]
        rw [hstep]
        exact ih
    have hguess := d6d (u := fl (lb.length + 1) (dig S)) (v := limbs V) (n := lb.length) (a2J _ _) (a0c V) (a1c _ _) hnv hb1 (by rw [a0b]; exact hVp) (by rw [a0b, a1R hSn]; exact hSl) hvt
    rw [a1R hSn, a0b, b7H (by omega), b7H (by omega)] at hguess
    have hg1 := Nat.le_trans hguess (Nat.min_le_left _ _)
    have hg2 : S / V ≤ 4294967295 := Nat.le_trans hguess (Nat.min_le_right _ _)
    clear hguess
    have hx1 := b8f S lb.length
    have hx2 := b8f S (lb.length - 1)
    have w5 : IntKind.wrap .i64 ((lb.length : Int) - 1) = ((lb.length - 1 : Nat) : Int) := by rw [a0a] <;> omega
    refine Safe.rg rfl ?_
    simp only [b6H, hnv, E3, seval]
    first | refine (a1o (limbs S) lb.length (a0c S) hntS.len).acall ?_ | refine (a1o (limbs S) lb.length (a0c S) hntS.len).dcall ?_
    try simp only [E3, seval]
    rw [b9l]
    simp only [c6D hx1, hnv, w5, E3, seval]
    first | refine (a1o (limbs S) (lb.length - 1) (a0c S) hntS.len).acall ?_ | refine (a1o (limbs S) (lb.length - 1) (a0c S) hntS.len).dcall ?_
    try simp only [E3, seval]
    rw [b9l]
    generalize dig S lb.length = x at *
    generalize dig S (lb.length - 1) = y at *
    have hxy : x * LB + y < 18446744073709551616 := by
      have : x * LB ≤ 4294967295 * LB := Nat.mul_le_mul_right _ (by omega)
      omega
    simp only [a5J hxy, hnv, w5, E3, seval]
    first | refine (a1o (limbs V) (lb.length - 1) (a0c V) hntV.len).acall ?_ | refine (a1o (limbs V) (lb.length - 1) (a0c V) hntV.len).dcall ?_
    try simp only [E3, seval]
    generalize (limbs V).getD (lb.length - 1) 0 = z at *
    simp only [c9w hvt hxy, E3, seval]
    by_cases hge : LB ≤ (x * LB + y) / z
    · have hc : ((((x * LB + y) / z : Nat) : Int) ≥ 4294967296) = True := eq_true (by omega)
      refine Safe.rg rfl ?_
      simp only [a8T, hc, E3, seval]
      refine Safe.cd rfl ?_
      simp only [E3, seval]
      refine Safe.rg rfl ?_
      simp only [b6G, E3, seval]
      refine Safe.keep [7, 11, 12, 13, 14, 15, 16] ?_
      simp only [E3, seval]
      exact main 4294967295 hg2 (by decide)
    · have hc : ((((x * LB + y) / z : Nat) : Int) ≥ 4294967296) = False := eq_false (by omega)
      refine Safe.rg rfl ?_
      simp only [a8T, hc, E3, seval]
      refine Safe.cd rfl ?_
      simp only [E3, seval]
      refine Safe.keep [7, 11, 12, 13, 14, 15, 16] ?_
      simp only [E3, seval]
      refine Safe.skip ?_
      exact main _ hg1 (Nat.lt_of_not_le hge)
  · refine Safe.inLoop ?_
    refine Safe.rg rfl ?_
    simp only [a8U, show (0 ≤ ((0 : Nat) : Int) - 1) = False by simp, E3, seval]
    refine Safe.cd rfl ?_
    simp only [E3, seval]
    rw [Nat.pow_zero, Nat.div_one]
    refine Safe.freeze 0 hH rfl rfl (a0m _) ?_
    refine Safe.keep [7, 13, 14] ?_
    simp only [d2P, E3, seval]
    rw [c3a]
    have hUm : U % V < LB ^ lb.length := Nat.lt_trans (Nat.mod_lt _ hVp) hVl
    refine Safe.rg rfl ?_
    simp only [a8P, w1, E3, seval]
    first | refine (a4Q lb hnb).acall ?_ | refine (a4Q lb hnb).dcall ?_
    try simp only [E3, seval]
    simp only [w2, E3, seval]
    first | refine (d0N (limbs (U % V)) n ⟨a0c _, Nat.le_trans (a0j hUm) (by omega)⟩ hn32).acall ?_ | refine (d0N (limbs (U % V)) n ⟨a0c _, Nat.le_trans (a0j hUm) (by omega)⟩ hn32).dcall ?_
    try simp only [E3, seval]
    rw [a0b, hUV2]
    have hUd : U / V < LB ^ K := Nat.lt_of_le_of_lt (Nat.div_le_self _ _) hUl
    refine Safe.rg rfl ?_
    simp only [a8O, E3, seval]
    first | refine (a0s (fl K (dig (U / V))) ⟨a2J _ _, by rw [a1c]; omega⟩).acall ?_ | refine (a0s (fl K (dig (U / V))) ⟨a2J _ _, by rw [a1c]; omega⟩).dcall ?_
    try simp only [E3, seval]
    rw [a1R hUd, hUV1]
    refine Safe.rt rfl ?_
    simp only [E3, seval]
    first | exact ⟨rfl, _, rfl⟩ | exact ⟨_, rfl⟩ | exact ⟨trivial, _, rfl⟩
end Go.Abs
set_option linter.unusedVariables false
set_option linter.unusedSimpArgs false
namespace Go.Abs
theorem b7m {n : Nat} : (((limbs n).length : Nat) : Int) > 0 ↔ n ≠ 0 := by
  have := b3e n
  omega
theorem c4h (a b : List Nat) (ha : Nt a) (hb : Nt b) (hal : a.length < 17592186044000) (hbl : b.length < 17592186044000) : a0d Pr c6d [natV a, natV b] (natV (limbs (Nat.gcd (val a) (val b)))) := by
  have hva : (limbs (val a)).length < 17592186044000 := Nat.lt_of_le_of_lt (a0U ha.lim) hal
  have hvb : (limbs (val b)).length < 17592186044000 := Nat.lt_of_le_of_lt (a0U hb.lim) hbl
  refine a0d.intro d7O d7M (Nat.le_of_ble_eq_true rfl) (a0T _) fun H hH => ?_
  refine Safe.rg rfl ?_
  simp only [c7E, E3, seval]
  refine Safe.rg rfl ?_
  simp only [c7D, E3, seval]
  first | refine (a8d a ha).acall ?_ | refine (a8d a ha).dcall ?_
  try simp only [E3, seval]
  first | refine (a8d b hb).acall ?_ | refine (a8d b hb).dcall ?_
  try simp only [E3, seval]
  refine Safe.lp rfl ?_
  refine Safe.keep [5, 6] ?_
  simp only [E3, seval]
  refine Safe.loopW (α := Nat × Nat) (fun p => p.2) (fun p => [(5, natV (limbs p.1)), (6, natV (limbs p.2))]) (fun _ => hap H [])
    (fun p => Nat.gcd p.1 p.2 = Nat.gcd (val a) (val b) ∧ (limbs p.1).length < 17592186044000 ∧ (limbs p.2).length < 17592186044000) (val a, val b) rfl rfl ⟨rfl, hva, hvb⟩ ?_
  rintro ⟨x, y⟩ ⟨hg, hx, hy⟩ ih
  simp only at hg hx hy ih ⊢
  refine Safe.inLoop ?_
  by_cases h0 : y = 0
  · subst h0
    refine Safe.rg rfl ?_
    simp only [b8Q, a0G, show ((([] : List Nat).length : Nat) : Int) > 0 ↔ False by simp, E3, seval]
    refine Safe.cd rfl ?_
    simp only [E3, seval]
    refine Safe.rg rfl ?_
    simp only [c7A, E3, seval]
    rw [Nat.gcd_zero_right] at hg
    refine Safe.rt rfl ?_
    simp only [hg, E3, seval]
    first | exact ⟨rfl, _, rfl⟩ | exact ⟨_, rfl⟩ | exact ⟨trivial, _, rfl⟩
  · have hc : ((((limbs y).length : Nat) : Int) > 0) = True := eq_true (b7m.2 h0)
    refine Safe.rg rfl ?_
    simp only [b8Q, hc, E3, seval]
    refine Safe.cd rfl ?_
    simp only [E3, seval]
    refine Safe.rg rfl ?_
    simp only [c7C, E3, seval]
    first | refine (a9c (limbs x) (limbs y) ⟨a0c _, by omega⟩ ⟨a0c _, by omega⟩ hx hy (by rw [a0b]; exact h0)).acall ?_ | refine (a9c (limbs x) (limbs y) ⟨a0c _, by omega⟩ ⟨a0c _, by omega⟩ hx hy (by rw [a0b]; exact h0)).dcall ?_
    try simp only [E3, seval]
    rw [a0b, a0b]
    have hm : x % y < y := Nat.mod_lt _ (Nat.pos_of_ne_zero h0)
    refine Safe.rg rfl ?_
    simp only [c7B, E3, seval]
    refine Safe.keep [5, 6] ?_
    simp only [E3, seval]
    refine Safe.inBlock ?_
    refine ih (y, x % y) ⟨?_, hy, ?_⟩ hm
    · rw [← hg, Nat.gcd_comm x y, Nat.gcd_rec y x, Nat.gcd_comm]
    · have h1 := a0Z (a0c y)
      rw [a0b] at h1
      exact Nat.lt_of_le_of_lt (a0j (Nat.lt_trans hm h1)) hy
theorem a8z (a b : List Nat) (ha : Nt a) (hb : Nt b) (hal : a.length < 17592186044000) (hbl : b.length < 17592186044000) : a0d Pr a9P [natV a, natV b] (natV (limbs (Nat.gcd (val a) (val b)))) := by
  have hva : (limbs (val a)).length < 17592186044000 := Nat.lt_of_le_of_lt (a0U ha.lim) hal
  have hvb : (limbs (val b)).length < 17592186044000 := Nat.lt_of_le_of_lt (a0U hb.lim) hbl
  refine a0d.intro d1S d1Q (Nat.le_of_ble_eq_true rfl) (a0T _) fun H hH => ?_
  refine Safe.rg rfl ?_
  simp only [c0X, E3, seval]
  refine Safe.rg rfl ?_
  simp only [c0W, E3, seval]
  first | refine (a0s a ha).acall ?_ | refine (a0s a ha).dcall ?_
  try simp only [E3, seval]
  refine Safe.rg rfl ?_
  simp only [c0V, E3, seval]
  first | refine (a0s b hb).acall ?_ | refine (a0s b hb).dcall ?_
  try simp only [E3, seval]
  refine Safe.lp rfl ?_
  refine Safe.keep [5, 6] ?_
  simp only [E3, seval]
  refine Safe.loopW (α := Nat × Nat) (fun p => p.2) (fun p => [(5, natV (limbs p.1)), (6, natV (limbs p.2))]) (fun _ => hap H [])
    (fun p => Nat.gcd p.1 p.2 = Nat.gcd (val a) (val b) ∧ (limbs p.1).length < 17592186044000 ∧ (limbs p.2).length < 17592186044000) (val a, val b) rfl rfl ⟨rfl, hva, hvb⟩ ?_
  rintro ⟨x, y⟩ ⟨hg, hx, hy⟩ ih
  simp only at hg hx hy ih ⊢
  refine Safe.inLoop ?_
  by_cases h0 : y = 0
  · subst h0
    refine Safe.rg rfl ?_
    simp only [b0Z, a0G, show ((([] : List Nat).length : Nat) : Int) > 0 ↔ False by simp, E3, seval]
    refine Safe.cd rfl ?_
    simp only [E3, seval]
    refine Safe.rg rfl ?_
    simp only [c0R, E3, seval]
    rw [Nat.gcd_zero_right] at hg
    refine Safe.rt rfl ?_
    simp only [hg, E3, seval]
    first | exact ⟨rfl, _, rfl⟩ | exact ⟨_, rfl⟩ | exact ⟨trivial, _, rfl⟩
  · have hc : ((((limbs y).length : Nat) : Int) > 0) = True := eq_true (b7m.2 h0)
    refine Safe.rg rfl ?_
    simp only [b0Z, hc, E3, seval]
    refine Safe.cd rfl ?_
    simp only [E3, seval]
    refine Safe.rg rfl ?_
    simp only [c0U, E3, seval]
    first | refine (a2p (limbs x) (limbs y) ⟨a0c _, by omega⟩ ⟨a0c _, by omega⟩ hx hy (by rw [a0b]; exact h0)).acall ?_ | refine (a2p (limbs x) (limbs y) ⟨a0c _, by omega⟩ ⟨a0c _, by omega⟩ hx hy (by rw [a0b]; exact h0)).dcall ?_
    try simp only [E3, seval]
    rw [a0b, a0b]
    have hm : x % y < y := Nat.mod_lt _ (Nat.pos_of_ne_zero h0)
    refine Safe.rg rfl ?_
    simp only [c0T, E3, seval]
    refine Safe.rg rfl ?_
    simp only [c0S, E3, seval]
    refine Safe.keep [5, 6] ?_
    simp only [E3, seval]
    refine Safe.inBlock ?_
    refine ih (y, x % y) ⟨?_, hy, ?_⟩ hm
    · rw [← hg, Nat.gcd_comm x y, Nat.gcd_rec y x, Nat.gcd_comm]
    · have h1 := a0Z (a0c y)
      rw [a0b] at h1
      exact Nat.lt_of_le_of_lt (a0j (Nat.lt_trans hm h1)) hy
theorem d6e {a b M : Nat} (ha : a < M) (hb : b < M) : Nat.gcd a b < M := by
  rcases Nat.eq_zero_or_pos a with h | h
  · subst h; rw [Nat.gcd_zero_left]; exact hb
  · exact Nat.lt_of_le_of_lt (Nat.gcd_le_left _ h) ha
section
variable (x y : ZI) (k : Nat) (hx : Zok k x) (hy : Zok k y) (hk : k < 17592186044000)
include hx hy hk
theorem d0A : a0d Pr b2n [x.av, y.av] (Z (Int.gcd x.z y.z)) := by
  obtain ⟨n, a⟩ := x
  obtain ⟨m, b⟩ := y
  have hal := hx.len
  have hbl := hy.len
  have hav := hx.lt
  have hbv := hy.lt
  simp only at hal hbl hav hbv
  have ha : Nt a := ⟨hx.lim, by omega⟩
  have hb : Nt b := ⟨hy.lim, by omega⟩
  simp only [ZI.av, ZI.z, Int.gcd, b4i]
  refine a0d.intro d3B d3A (Nat.le_of_ble_eq_true rfl) (Z_cl _) fun H hH => ?_
  refine Safe.rg rfl ?_
  simp only [c3m, E3, seval]
  refine Safe.rg rfl ?_
  simp only [c3l, E3, seval]
  first | refine (c4h a b ha hb (by omega) (by omega)).acall ?_ | refine (c4h a b ha hb (by omega) (by omega)).dcall ?_
  try simp only [E3, seval]
  have hg : Nt (limbs (Nat.gcd (val a) (val b))) := ⟨a0c _, Nat.le_trans (a0j (d6e hav hbv)) (by omega)⟩
  first | refine (a1T false _ hg).acall ?_ | refine (a1T false _ hg).dcall ?_
  try simp only [E3, seval]
  rw [a0b]
  refine Safe.rt rfl ?_
  simp only [show sgn false (Nat.gcd (val a) (val b)) = ((Nat.gcd (val a) (val b) : Nat) : Int) from rfl, E3, seval]
  first | exact ⟨rfl, _, rfl⟩ | exact ⟨_, rfl⟩ | exact ⟨trivial, _, rfl⟩
theorem d7p : a0d Pr b4T [x.av, y.av] (Z (Int.gcd x.z y.z)) := by
  obtain ⟨n, a⟩ := x
  obtain ⟨m, b⟩ := y
  have hal := hx.len
  have hbl := hy.len
  have hav := hx.lt
  have hbv := hy.lt
  simp only at hal hbl hav hbv
  have ha : Nt a := ⟨hx.lim, by omega⟩
  have hb : Nt b := ⟨hy.lim, by omega⟩
  simp only [ZI.av, ZI.z, Int.gcd, b4i]
  refine a0d.intro d1v d1u (Nat.le_of_ble_eq_true rfl) (Z_cl _) fun H hH => ?_
  refine Safe.rg rfl ?_
  simp only [c0i, E3, seval]
  refine Safe.rg rfl ?_
  simp only [c0h, E3, seval]
  first | refine (a8z a b ha hb (by omega) (by omega)).acall ?_ | refine (a8z a b ha hb (by omega) (by omega)).dcall ?_
  try simp only [E3, seval]
  have hg : Nt (limbs (Nat.gcd (val a) (val b))) := ⟨a0c _, Nat.le_trans (a0j (d6e hav hbv)) (by omega)⟩
  first | refine (a1h false _ hg).acall ?_ | refine (a1h false _ hg).dcall ?_
  try simp only [E3, seval]
  rw [a0b]
  refine Safe.rt rfl ?_
  simp only [show sgn false (Nat.gcd (val a) (val b)) = ((Nat.gcd (val a) (val b) : Nat) : Int) from rfl, E3, seval]
  first | exact ⟨rfl, _, rfl⟩ | exact ⟨_, rfl⟩ | exact ⟨trivial, _, rfl⟩
end
theorem d8E (x : ZI) (hx : Zok 17592186044416 x) : a0d Pr b9x [x.av] (Z (x.z.natAbs : Int)) := by
  obtain ⟨n, m⟩ := x
  have hm : Nt m := ⟨hx.lim, hx.len⟩
  simp only [ZI.av, ZI.z, b4i]
  refine a0d.intro d3G d3F (Nat.le_of_ble_eq_true rfl) (Z_cl _) fun H hH => ?_
  refine Safe.rg rfl ?_
  simp only [c3t, E3, seval]
  refine Safe.rg rfl ?_
  simp only [c3s, E3, seval]
  first | refine (a1T false m hm).acall ?_ | refine (a1T false m hm).dcall ?_
  try simp only [E3, seval]
  refine Safe.rt rfl ?_
  simp only [show sgn false (val m) = ((val m : Nat) : Int) from rfl, E3, seval]
  first | exact ⟨rfl, _, rfl⟩ | exact ⟨_, rfl⟩ | exact ⟨trivial, _, rfl⟩
/-- Toward nought. -/
theorem c8B (n m : Bool) (A B : Nat) : sgn n (A % B) + sgn m B * sgn (!(n == m)) (A / B) = sgn n A := by
  rw [c8H]
  have e : sgn (!(m == !(n == m))) (B * (A / B)) = sgn n (B * (A / B)) := by cases n <;> cases m <;> rfl
  rw [e, d3L, Nat.mod_add_div]
theorem d8n {n m : Bool} {A B : Nat} (hB : B ≠ 0) (h : A % B = 0 ∨ n = m) : (sgn n A).fdiv (sgn m B) = sgn (!(n == m)) (A / B) ∧ (sgn n A).fmod (sgn m B) = sgn n (A % B) := by
  have hr := Nat.mod_lt A (Nat.pos_of_ne_zero hB)
  have ht := c8B n m A B
  cases m
  · have hb : (0 : Int) < sgn false B := by simp [sgn]; omega
    refine (Int.fdiv_fmod_unique hb).2 ⟨ht, ?_, ?_⟩
    · rcases h with h | h
      · rw [h, a5s]; exact Int.le_refl _
      · subst h; simp [sgn]
        exact Int.natCast_nonneg _
    · rcases h with h | h
      · rw [h, a5s]; exact hb
      · subst h; simp only [sgn, Bool.false_eq_true, if_false]; omega
  · have hb : sgn true B < 0 := by simp [sgn]; omega
    refine (Int.fdiv_fmod_unique' hb).2 ⟨ht, ?_, ?_⟩
    · rcases h with h | h
      · rw [h, a5s]; exact hb
      · subst h; simp only [sgn, if_true]; omega
    · rcases h with h | h
      · rw [h, a5s]; exact Int.le_refl _
      · subst h; simp only [sgn, if_true]; omega
theorem d5b {n m : Bool} {A B : Nat} (hB : B ≠ 0) (h0 : A % B ≠ 0) (h : n ≠ m) : (sgn n A).fdiv (sgn m B) = sgn (!(n == m)) (A / B) - 1 ∧ (sgn n A).fmod (sgn m B) = sgn n (A % B) + sgn m B := by
  have hr := Nat.mod_lt A (Nat.pos_of_ne_zero hB)
  have ht := c8B n m A B
  have ht' : sgn n (A % B) + sgn m B + sgn m B * (sgn (!(n == m)) (A / B) - 1) = sgn n A := by rw [Int.mul_sub, Int.mul_one]; omega
  cases m
  · have hn : n = true := by cases n <;> simp_all
    subst hn
    have hb : (0 : Int) < sgn false B := by simp [sgn]; omega
    refine (Int.fdiv_fmod_unique hb).2 ⟨ht', ?_, ?_⟩ <;> simp only [sgn, if_true, Bool.false_eq_true, if_false] <;> omega
  · have hn : n = false := by cases n <;> simp_all
    subst hn
    have hb : sgn true B < 0 := by simp [sgn]; omega
    refine (Int.fdiv_fmod_unique' hb).2 ⟨ht', ?_, ?_⟩ <;> simp only [sgn, if_true, Bool.false_eq_true, if_false] <;> omega
theorem e3E {n : Bool} {A M : Nat} (h : A < M) : (sgn n A).natAbs < M := by rw [b4i]; exact h
theorem e3K (k : Nat) : (1 : Int).natAbs < LB ^ (k + 1) := Nat.one_lt_pow (Nat.succ_ne_zero k) (by decide)
theorem c1E (x y : ZI) (k : Nat) (hx : Zok k x) (hy : Zok k y) (hk : k + k < 17592186044000) (hy0 : y.z ≠ 0) : a0d Pr a5I [x.av, y.av] (.tup [Z (x.z.fdiv y.z), Z (x.z.fmod y.z)]) := by
  obtain ⟨n, a⟩ := x
  obtain ⟨m, b⟩ := y
  have hal := hx.len
  have hbl := hy.len
  have hav := hx.lt
  have hbv := hy.lt
  simp only at hal hbl hav hbv
  have ha : Nt a := ⟨hx.lim, by omega⟩
  have hb : Nt b := ⟨hy.lim, by omega⟩
  have hzb := hy
  have hza := hx
  have habs := hy.abs
  simp only [ZI.av, ZI.z] at hy0 habs ⊢
  have hb0 : val b ≠ 0 := by
    intro h; rw [h, a5s] at hy0; exact hy0 rfl
  have hq := Nat.lt_of_le_of_lt (Nat.div_le_self (val a) (val b)) hav
  have hr := Nat.lt_of_le_of_lt (Nat.mod_le (val a) (val b)) hav
  have hnt : ∀ v, v < LB ^ k → Nt (limbs v) := fun v hv => ⟨a0c _, Nat.le_trans (a0j hv) (by omega)⟩
  have hsame := @d8n n m (val a) (val b) hb0
  have hother := @d5b n m (val a) (val b) hb0
  have htr := c8B n m (val a) (val b)
  refine a0d.intro c6j c6i (Nat.le_of_ble_eq_true rfl) (b1M (Z_cl _) (Z_cl _)) fun H hH => ?_
  refine Safe.rg rfl ?_
  simp only [b2S, E3, seval]
  refine Safe.rg rfl ?_
  simp only [b2R, E3, seval]
  first | refine (a2p a b ha hb (by omega) (by omega) hb0).acall ?_ | refine (a2p a b ha hb (by omega) (by omega) hb0).dcall ?_
  try simp only [E3, seval]
  refine Safe.rg rfl ?_
  simp only [b2Q, E3, seval]
  first | refine (a1h (!(n == m)) _ (hnt _ hq)).acall ?_ | refine (a1h (!(n == m)) _ (hnt _ hq)).dcall ?_
  try simp only [E3, seval]
  rw [a0b]
  have hqz := e3E (n := !(n == m)) hq
  have hrz := e3E (n := n) hr
  have hrs := c2Q n (val a % val b)
  have hbs := c2Q m (val b)
  rw [if_neg hb0] at hbs
  have hmulz := a4l hqz hzb.abs
  have hsubz : sgn n (val a) - sgn (!(n == m)) (val a / val b) * sgn m (val b) = sgn n (val a % val b) := by
    rw [← htr, Int.mul_comm (sgn m (val b))]; omega
  refine Safe.rg rfl ?_
  simp only [b2P, E3, seval]
  have hcall := a3m (canZ (sgn (!(n == m)) (val a / val b))) ⟨m, b⟩ k k (a0l hqz) hzb (by omega)
  rw [a3h, a0p] at hcall
  simp only [ZI.av, ZI.z] at hcall
  refine hcall.dcall ?_
  simp only [E3, seval]
  have hcall := c6S ⟨n, a⟩ (canZ (sgn (!(n == m)) (val a / val b) * sgn m (val b))) (k + k) (hza.mono (by omega)) (a0l hmulz) (by omega)
  rw [a3h, a0p] at hcall
  simp only [ZI.av, ZI.z, hsubz] at hcall
  refine hcall.dcall ?_
  simp only [E3, seval]
  clear hcall hmulz hsubz htr
  generalize val a % val b = r at *
  generalize val a / val b = q at *
  refine Safe.rg rfl ?_
  simp only [b2O, E3, seval]
  refine (a5X (canZ (sgn n r)) ((a0l hrz).mono (by omega))).dcall ?_
  rw [a0p, hrs]
  by_cases hr0 : r = 0
  · have hs := hsame (.inl hr0)
    simp only [hr0, E3, seval]
    refine Safe.cd rfl ?_
    simp only [E3, seval]
    refine Safe.rx rfl (by simp only [a4O, a6K, a4T, E3, seval]) ?_
    simp only [a4D, a3G, a3F, E3, seval]
    refine Safe.rt rfl ?_
    simp only [E3, seval]
    rw [hs.1, hs.2, hr0]
    exact ⟨rfl, _, rfl⟩
  · rw [if_neg hr0]
    have hsn : ((if n = true then (-1 : Int) else 1) = 0) = False := by cases n <;> simp
    simp only [hsn, E3, seval]
    refine (a5X (canZ (sgn n r)) ((a0l hrz).mono (by omega))).dcall ?_
    rw [a0p, hrs, if_neg hr0]
    simp only [E3, seval]
    have hcall := a5X ⟨m, b⟩ (hzb.mono (by omega))
    simp only [ZI.av, ZI.z, hbs] at hcall
    refine hcall.dcall ?_
    by_cases hnm : n = m
    · have hs := hsame (.inr hnm)
      have he : ((if n = true then (-1 : Int) else 1) = (if m = true then (-1 : Int) else 1)) = True := by subst hnm; simp
      simp only [he, E3, seval]
      refine Safe.cd rfl ?_
      simp only [E3, seval]
      refine Safe.rx rfl (by simp only [a4O, a6K, a4T, E3, seval]) ?_
      simp only [a4D, a3G, a3F, E3, seval]
      refine Safe.rt rfl ?_
      simp only [E3, seval]
      rw [hs.1, hs.2]
      exact ⟨rfl, _, rfl⟩
    · have hs := hother hr0 hnm
      have he : ((if n = true then (-1 : Int) else 1) = (if m = true then (-1 : Int) else 1)) = False := by cases n <;> cases m <;> simp_all
      simp only [he, E3, seval]
      refine Safe.cd rfl ?_
      simp only [E3, seval]
      refine Safe.rg rfl ?_
      simp only [b2N, E3, seval]
      refine (a3I 1 (by decide) (by decide)).dcall ?_
      simp only [E3, seval]
      refine (d9q (a := sgn (!(n == m)) q) (b := 1) (k := k + 1) (Nat.lt_of_lt_of_le hqz (d4O (by omega))) (e3K k) (by omega)).dcall ?_
      simp only [E3, seval]
      refine Safe.rg rfl ?_
      simp only [b2M, E3, seval]
      have hcall := b8D (canZ (sgn n r)) ⟨m, b⟩ k (a0l hrz) hzb (by omega)
      rw [a3h, a0p] at hcall
      simp only [ZI.av, ZI.z] at hcall
      refine hcall.acall ?_
      simp only [E3, seval]
      refine Safe.rx rfl (by simp only [a4O, a6K, a4T, E3, seval]) ?_
      simp only [a4D, a3G, a3F, E3, seval]
      refine Safe.rt rfl ?_
      simp only [E3, seval]
      rw [hs.1, hs.2]
      exact ⟨rfl, _, rfl⟩
end Go.Abs
set_option linter.unusedVariables false
set_option linter.unusedSimpArgs false
namespace Go.Abs
/-- A rational in lowest terms as it is handed round. -/
def Rv (q : Rat) : AV := .agg [.bool (decide (q.num < 0)), natV (limbs q.num.natAbs), .bool false, natV (limbs q.den)]
structure Rok (k : Nat) (q : Rat) : Prop where
  num : q.num.natAbs < LB ^ k
  den : q.den < LB ^ k
theorem Rok.mono {k l : Nat} {q : Rat} (h : Rok k q) (hl : k ≤ l) : Rok l q := ⟨Nat.lt_of_lt_of_le h.num (d4O hl), Nat.lt_of_lt_of_le h.den (d4O hl)⟩
def dZ (d : Nat) : ZI := ⟨false, limbs d⟩
theorem dZ_z (d : Nat) : (dZ d).z = (d : Int) := by simp only [dZ, ZI.z, a0b]; rfl
theorem b9p {k d : Nat} (h : d < LB ^ k) : Zok k (dZ d) := ⟨a0c _, a0j h⟩
theorem a4q (q : Rat) : Cl (Rv q) := .agg _ fun c hc => by
  simp only [List.mem_cons, List.not_mem_nil, or_false] at hc
  rcases hc with rfl | rfl | rfl | rfl
  · exact .bool _
  · exact a0T _
  · exact .bool _
  · exact a0T _
theorem a0C (q : Rat) : (Rv q).cells = [.bool (decide (q.num < 0)), natV (limbs q.num.natAbs), .bool false, natV (limbs q.den)] := rfl
theorem a2I (q : Rat) : (Rv q).fit = true := rfl
theorem e7p (id : Nat) (b : Blk) (q : Rat) : frz id b (Rv q) = Rv q := a4U (a4q q)
theorem a0q : (0 < 4) = True := by decide
theorem e4o {n : Int} {g : Nat} (h : g ∣ n.natAbs) : sgn (decide (n < 0)) (n.natAbs / g) = n / (g : Int) := by
  obtain ⟨c, hc⟩ := h
  rcases Nat.eq_zero_or_pos g with rfl | hg
  · simp [sgn]
  rw [hc, Nat.mul_div_cancel_left _ hg]
  have hg' : (g : Int) ≠ 0 := by omega
  by_cases h0 : n < 0
  · have : n = (g : Int) * -(c : Int) := by
      have : (n.natAbs : Int) = (g : Int) * (c : Int) := by rw [hc]; exact Int.natCast_mul _ _
      rw [Int.mul_neg]; omega
    rw [decide_eq_true h0, this, Int.mul_ediv_cancel_left _ hg']
    simp [sgn]
  · have : n = (g : Int) * (c : Int) := by
      have : (n.natAbs : Int) = (g : Int) * (c : Int) := by rw [hc]; exact Int.natCast_mul _ _
      omega
    rw [decide_eq_false h0, this, Int.mul_ediv_cancel_left _ hg']
    simp [sgn]
theorem a9a (x y : ZI) (k : Nat) (hx : Zok k x) (hy : Zok k y) (hk : k < 17592186044000) (hy0 : y.z ≠ 0) : a0d Pr a2y [x.av, y.av] (Rv (Rat.divInt x.z y.z)) := by
  have hax := hx.abs
  have hay := hy.abs
  refine a0d.intro c9c c9b (Nat.le_of_ble_eq_true rfl) (a4q _) fun H hH => ?_
  refine Safe.rg rfl ?_
  simp only [b5P, a0q, E3, seval]
  refine Safe.rg rfl ?_
  simp only [b5O, E3, seval]
  first | refine (a3g x (hx.mono (by omega))).acall ?_ | refine (a3g x (hx.mono (by omega))).dcall ?_
  try simp only [E3, seval]
  refine Safe.rg rfl ?_
  simp only [b5N, E3, seval]
  first | refine (a3g y (hy.mono (by omega))).acall ?_ | refine (a3g y (hy.mono (by omega))).dcall ?_
  try simp only [E3, seval]
  have main : ∀ a b : Int, 0 < b → a.natAbs < LB ^ k → b.natAbs < LB ^ k → Rat.divInt a b = Rat.divInt x.z y.z → Safe ⟨Pr, fun _ _ => false, a2y, 54, [.cell 4 (some 4)], H.length⟩
      [.code ((ACode.region a8H false).seq ((ACode.region a8G false).seq ((ACode.region a8F false).seq ((ACode.region a8E false).seq .ret))))]
      [(4, .loc (lid H 2) 0 0), (5, .loc (lid H 3) 0 0), (6, .loc (lid H 4) 0 0)]
      (hap H [some ⟨2, [x.av]⟩, some ⟨2, [y.av]⟩, some ⟨4, [.agg [.bool false, .nil, .bool false, .nil]]⟩, some ⟨2, [Z a]⟩, some ⟨2, [Z b]⟩]) fun r' H' => r' = Rv (Rat.divInt x.z y.z) ∧ ∃ L, H' = hap H L := by
    intro a b hb ha1 hb1 he
    have hla : (limbs a.natAbs).length ≤ k := a0j ha1
    have hlb : (limbs b.natAbs).length ≤ k := a0j hb1
    have hg0 : Nat.gcd a.natAbs b.natAbs ≠ 0 := fun h => by
      have := Nat.gcd_eq_zero_iff.1 h
      omega
    have hnum := Rat.num_divInt a b
    have hden := Rat.den_divInt a b
    rw [Int.sign_eq_one_of_pos hb, Int.one_mul, Int.gcd, Nat.gcd_comm] at hnum
    rw [if_neg (by omega), Int.gcd, Nat.gcd_comm] at hden
    have hgl : (limbs (Nat.gcd a.natAbs b.natAbs)).length ≤ k := a0j (d6e ha1 hb1)
    have hs := e4o (n := a) (Nat.gcd_dvd_left a.natAbs b.natAbs)
    rw [← hnum] at hs
    rw [← he]
    refine Safe.rg rfl ?_
    simp only [a8H, E3, seval]
    first | refine (a8z (limbs a.natAbs) (limbs b.natAbs) ⟨a0c _, by omega⟩ ⟨a0c _, by omega⟩ (by omega) (by omega)).acall ?_ | refine (a8z (limbs a.natAbs) (limbs b.natAbs) ⟨a0c _, by omega⟩ ⟨a0c _, by omega⟩ (by omega) (by omega)).dcall ?_
    try simp only [E3, seval]
    simp only [a0b]
    refine Safe.rg rfl ?_
    simp only [a8G, E3, seval]
    first | refine (a2p (limbs a.natAbs) (limbs (Nat.gcd a.natAbs b.natAbs)) ⟨a0c _, by omega⟩ ⟨a0c _, by omega⟩ (by omega) (by omega) (by rw [a0b]; exact hg0)).acall ?_ | refine (a2p (limbs a.natAbs) (limbs (Nat.gcd a.natAbs b.natAbs)) ⟨a0c _, by omega⟩ ⟨a0c _, by omega⟩ (by omega) (by omega) (by rw [a0b]; exact hg0)).dcall ?_
    try simp only [E3, seval]
    simp only [a0b]
    refine Safe.rg rfl ?_
    simp only [a8F, E3, seval]
    first | refine (a2p (limbs b.natAbs) (limbs (Nat.gcd a.natAbs b.natAbs)) ⟨a0c _, by omega⟩ ⟨a0c _, by omega⟩ (by omega) (by omega) (by rw [a0b]; exact hg0)).acall ?_ | refine (a2p (limbs b.natAbs) (limbs (Nat.gcd a.natAbs b.natAbs)) ⟨a0c _, by omega⟩ ⟨a0c _, by omega⟩ (by omega) (by omega) (by rw [a0b]; exact hg0)).dcall ?_
    try simp only [E3, seval]
    simp only [a0b]
    rw [← hden]
    have hna : a.natAbs / Nat.gcd a.natAbs b.natAbs < LB ^ k := Nat.lt_of_le_of_lt (Nat.div_le_self _ _) ha1
    have hcall := a3g ⟨decide (a < 0), limbs (a.natAbs / Nat.gcd a.natAbs b.natAbs)⟩ (b9p hna |>.mono (by omega) |> fun h => ⟨h.lim, h.len⟩)
    simp only [ZI.z, a0b, hs] at hcall
    refine Safe.rg rfl ?_
    simp only [a8E, E3, seval]
    refine hcall.acall ?_
    simp only [Z, E3, seval]
    refine Safe.rt rfl ?_
    simp only [E3, seval]
    first | exact ⟨rfl, _, rfl⟩ | exact ⟨_, rfl⟩ | exact ⟨trivial, _, rfl⟩
  have hfrom : ∀ a b : Int, a.natAbs < LB ^ k → b.natAbs < LB ^ k → Zok 17592186044416 (canZ a) := fun a b h _ => (a0l h).mono (by omega)
  refine Safe.rg rfl ?_
  simp only [b5M, E3, seval]
  refine (a5X (canZ y.z) ((a0l hay).mono (by omega))).acall ?_
  rw [a0p]
  by_cases hneg : y.z < 0
  · have hc : (y.z.sign < 0) = True := eq_true (Int.sign_neg_iff.2 hneg)
    simp only [hc, E3, seval]
    refine Safe.cd rfl ?_
    simp only [E3, seval]
    refine Safe.rg rfl ?_
    simp only [b5L, E3, seval]
    refine (b1Z (canZ x.z) ((a0l hax).mono (by omega))).acall ?_
    rw [a0p]
    simp only [E3, seval]
    refine Safe.rg rfl ?_
    simp only [b5K, E3, seval]
    refine (b1Z (canZ y.z) ((a0l hay).mono (by omega))).acall ?_
    rw [a0p]
    simp only [E3, seval]
    refine Safe.keep [4, 5, 6] ?_
    simp only [E3, seval]
    exact main (-x.z) (-y.z) (by omega) (by rw [Int.natAbs_neg]; exact hax) (by rw [Int.natAbs_neg]; exact hay) (Rat.neg_divInt_neg _ _)
  · have hc : (y.z.sign < 0) = False := eq_false fun h => hneg (Int.sign_neg_iff.1 h)
    simp only [hc, E3, seval]
    refine Safe.cd rfl ?_
    simp only [E3, seval]
    refine Safe.keep [4, 5, 6] ?_
    simp only [E3, seval]
    refine Safe.skip ?_
    exact main x.z y.z (by omega) hax hay rfl
theorem c6P : a0d Pr b4P [] (Z 1) := by
  refine a0d.intro d0Z d0Y (Nat.le_of_ble_eq_true rfl) (Z_cl _) fun H hH => ?_
  refine Safe.rg rfl ?_
  simp only [b9O, E3, seval]
  refine Safe.rg rfl ?_
  simp only [b9N, E3, seval]
  first | refine (a3I 1 (by decide) (by decide)).acall ?_ | refine (a3I 1 (by decide) (by decide)).dcall ?_
  try simp only [E3, seval]
  refine Safe.rt rfl ?_
  simp only [E3, seval]
  first | exact ⟨rfl, _, rfl⟩ | exact ⟨_, rfl⟩ | exact ⟨trivial, _, rfl⟩
theorem b6W (x : ZI) (hx : Zok 17592186044416 x) : a0d Pr a8n [x.av] (Rv (x.z : Rat)) := by
  refine a0d.intro d3T d3S (Nat.le_of_ble_eq_true rfl) (a4q _) fun H hH => ?_
  refine Safe.rg rfl ?_
  simp only [c3S, a0q, E3, seval]
  refine Safe.rg rfl ?_
  simp only [c3R, E3, seval]
  first | refine (a3g x hx).acall ?_ | refine (a3g x hx).dcall ?_
  try simp only [E3, seval]
  first | refine (c6P).acall ?_ | refine (c6P).dcall ?_
  try simp only [E3, seval]
  have h1 : limbs 1 = limbs (Int.natAbs 1) := rfl
  have h2 : (decide ((1 : Int) < 0)) = false := rfl
  simp only [Z, E3, seval]
  refine Safe.rt rfl ?_
  simp only [E3, seval]
  first | exact ⟨rfl, _, rfl⟩ | exact ⟨_, rfl⟩ | exact ⟨trivial, _, rfl⟩
section
variable (a b : Rat) {k l : Nat} (ha : Rok k a) (hb : Rok l b) (hkl : k + l < 17592186043000)
include ha hb hkl
theorem d7o : a0d Pr b4S [Rv a, Rv b] (Rv (a + b)) := by
  have h1 := a4l ha.num (show (b.den : Int).natAbs < LB ^ l from hb.den)
  have h2 := a4l hb.num (show (a.den : Int).natAbs < LB ^ k from ha.den)
  have h3 := a4l (show (a.den : Int).natAbs < LB ^ k from ha.den) (show (b.den : Int).natAbs < LB ^ l from hb.den)
  rw [Nat.add_comm l k] at h2
  have h4 := e1d h1 h2
  refine a0d.intro d1k d1j (Nat.le_of_ble_eq_true rfl) (a4q _) fun H hH => ?_
  simp only [Rv]
  refine Safe.rg rfl ?_
  simp only [c0a, a0q, E3, seval]
  refine Safe.rg rfl ?_
  simp only [b9Z, E3, seval]
  have hm := a3m (canZ a.num) (dZ b.den) k l (a0l ha.num) (b9p hb.den) (by omega)
  rw [a0p, dZ_z] at hm
  refine hm.acall ?_
  simp only [E3, seval]
  refine Safe.rg rfl ?_
  simp only [b9Y, E3, seval]
  have hm := a3m (canZ b.num) (dZ a.den) l k (a0l hb.num) (b9p ha.den) (by omega)
  rw [a0p, dZ_z] at hm
  refine hm.acall ?_
  simp only [E3, seval]
  refine Safe.rg rfl ?_
  simp only [b9X, E3, seval]
  refine (d9r h1 h2 (by omega)).dcall ?_
  simp only [E3, seval]
  have hm := a3m (dZ a.den) (dZ b.den) k l (b9p ha.den) (b9p hb.den) (by omega)
  rw [dZ_z, dZ_z] at hm
  refine hm.dcall ?_
  simp only [E3, seval]
  have hm := a9a (canZ (a.num * b.den + b.num * a.den)) (canZ (a.den * b.den)) (k + l + 1) (a0l h4) (a0l h3 |>.mono (by omega)) (by omega) (by
    rw [a0p]
    have h1 := a.den_nz
    have h2 := b.den_nz
    exact Int.mul_ne_zero (by omega) (by omega))
  rw [a3h, a3h, a0p, a0p, ← Int.natCast_mul, Rat.divInt_ofNat, ← Rat.add_def', Int.natCast_mul] at hm
  refine hm.dcall ?_
  simp only [Rv, E3, seval]
  refine Safe.rt rfl ?_
  simp only [E3, seval]
  first | exact ⟨rfl, _, rfl⟩ | exact ⟨_, rfl⟩ | exact ⟨trivial, _, rfl⟩
theorem c6R : a0d Pr a9M [Rv a, Rv b] (Rv (a * b)) := by
  have h1 := a4l ha.num hb.num
  have h3 := a4l (show (a.den : Int).natAbs < LB ^ k from ha.den) (show (b.den : Int).natAbs < LB ^ l from hb.den)
  refine a0d.intro d1f d1e (Nat.le_of_ble_eq_true rfl) (a4q _) fun H hH => ?_
  simp only [Rv]
  refine Safe.rg rfl ?_
  simp only [b9U, a0q, E3, seval]
  refine Safe.rg rfl ?_
  simp only [b9T, E3, seval]
  refine (c3Y ha.num hb.num (by omega)).dcall ?_
  simp only [E3, seval]
  have hm := a3m (dZ a.den) (dZ b.den) k l (b9p ha.den) (b9p hb.den) (by omega)
  rw [dZ_z, dZ_z] at hm
  refine hm.dcall ?_
  simp only [E3, seval]
  have hm := a9a (canZ (a.num * b.num)) (canZ (a.den * b.den)) (k + l) (a0l h1) (a0l h3) (by omega) (by
    rw [a0p]
    have h1 := a.den_nz
    have h2 := b.den_nz
    exact Int.mul_ne_zero (by omega) (by omega))
  rw [a3h, a3h, a0p, a0p, ← Int.natCast_mul, Rat.divInt_ofNat, ← Rat.mul_def', Int.natCast_mul] at hm
  refine hm.dcall ?_
  simp only [Rv, E3, seval]
  refine Safe.rt rfl ?_
  simp only [E3, seval]
  first | exact ⟨rfl, _, rfl⟩ | exact ⟨_, rfl⟩ | exact ⟨trivial, _, rfl⟩
omit ha hb hkl in
theorem d7k (b0 : b ≠ 0) : Rat.divInt (a.num * b.den) (a.den * b.num) = a / b := by
  have h1 : (a.den : Int) ≠ 0 := by have := a.den_nz; omega
  have h2 : b.num ≠ 0 := fun h => b0 (Rat.num_eq_zero.1 h)
  rw [← Rat.divInt_mul_divInt, Rat.num_divInt_den, Rat.div_def, Rat.inv_def]
theorem d7n (b0 : b ≠ 0) : a0d Pr b4R [Rv a, Rv b] (Rv (a / b)) := by
  have h1 := a4l ha.num (show (b.den : Int).natAbs < LB ^ l from hb.den)
  have h3 := a4l (show (a.den : Int).natAbs < LB ^ k from ha.den) hb.num
  refine a0d.intro d1i d1h (Nat.le_of_ble_eq_true rfl) (a4q _) fun H hH => ?_
  simp only [Rv]
  refine Safe.rg rfl ?_
  simp only [b9W, a0q, E3, seval]
  refine Safe.rg rfl ?_
  simp only [b9V, E3, seval]
  have hm := a3m (canZ a.num) (dZ b.den) k l (a0l ha.num) (b9p hb.den) (by omega)
  rw [a0p, dZ_z] at hm
  refine hm.dcall ?_
  simp only [E3, seval]
  have hm := a3m (dZ a.den) (canZ b.num) k l (b9p ha.den) (a0l hb.num) (by omega)
  rw [dZ_z, a0p] at hm
  refine hm.dcall ?_
  simp only [E3, seval]
  have hm := a9a (canZ (a.num * b.den)) (canZ (a.den * b.num)) (k + l) (a0l h1) (a0l h3) (by omega) (by
    rw [a0p]
    have h1 := a.den_nz
    exact Int.mul_ne_zero (by omega) fun h => b0 (Rat.num_eq_zero.1 h))
  rw [a3h, a3h, a0p, a0p, d7k a b b0] at hm
  refine hm.dcall ?_
  simp only [Rv, E3, seval]
  refine Safe.rt rfl ?_
  simp only [E3, seval]
  first | exact ⟨rfl, _, rfl⟩ | exact ⟨_, rfl⟩ | exact ⟨trivial, _, rfl⟩
end
theorem d9j {k : Nat} {a : Rat} (h : Rok k a) : Rok k (-a) := ⟨by rw [Rat.neg_num, Int.natAbs_neg]; exact h.num, h.den⟩
theorem c6Q (a : Rat) {k : Nat} (ha : Rok k a) (hk : k < 17592186044000) : a0d Pr a9L [Rv a] (Rv (-a)) := by
  refine a0d.intro d1d d1c (Nat.le_of_ble_eq_true rfl) (a4q _) fun H hH => ?_
  simp only [Rv]
  refine Safe.rg rfl ?_
  simp only [b9S, a0q, E3, seval]
  refine Safe.rg rfl ?_
  simp only [b9R, E3, seval]
  have hm := b1Z (canZ a.num) ((a0l ha.num).mono (by omega))
  rw [a0p] at hm
  refine hm.dcall ?_
  simp only [E3, seval]
  have hm := a9a (canZ (-a.num)) (dZ a.den) k (a0l (by rw [Int.natAbs_neg]; exact ha.num)) (b9p ha.den) hk (by
    rw [dZ_z]
    have h1 := a.den_nz
    omega)
  rw [a3h, a0p, dZ_z, ← Rat.neg_divInt, Rat.num_divInt_den] at hm
  refine hm.dcall ?_
  simp only [Rv, E3, seval]
  refine Safe.rt rfl ?_
  simp only [E3, seval]
  first | exact ⟨rfl, _, rfl⟩ | exact ⟨_, rfl⟩ | exact ⟨trivial, _, rfl⟩
theorem d7m (a b : Rat) {k l : Nat} (ha : Rok k a) (hb : Rok l b) (hkl : k + l < 17592186043000) : a0d Pr b4Q [Rv a, Rv b] (Rv (a - b)) := by
  refine a0d.intro d1b d1a (Nat.le_of_ble_eq_true rfl) (a4q _) fun H hH => ?_
  refine Safe.rg rfl ?_
  simp only [b9Q, a0q, a0C, a2I, E3, seval]
  refine Safe.rg rfl ?_
  simp only [b9P, a0C, a2I, E3, seval]
  refine (c6Q b hb (by omega)).dcall ?_
  simp only [a0C, a2I, E3, seval]
  have hm := d7o a (-b) ha (d9j hb) hkl
  rw [← Rat.sub_eq_add_neg] at hm
  refine hm.dcall ?_
  simp only [Rv, E3, seval]
  refine Safe.rt rfl ?_
  simp only [E3, seval]
  first | exact ⟨rfl, _, rfl⟩ | exact ⟨_, rfl⟩ | exact ⟨trivial, _, rfl⟩
theorem b1W (a : Rat) {k : Nat} (ha : Rok k a) (hk : k < 17592186044000) : a0d Pr a7c [Rv a] (.bool (decide (a = 0))) := by
  have he : decide (a.num.sign = 0) = decide (a = 0) := decide_eq_decide.2 (by rw [Int.sign_eq_zero_iff_zero, Rat.num_eq_zero])
  refine a0d.intro c8L c8K (Nat.le_of_ble_eq_true rfl) (.bool _) fun H hH => ?_
  simp only [Rv]
  refine Safe.rg rfl ?_
  simp only [b5p, a0q, E3, seval]
  refine Safe.rg rfl ?_
  simp only [b5o, E3, seval]
  refine (a5X (canZ a.num) ((a0l ha.num).mono (by omega))).acall ?_
  rw [a0p]
  simp only [he, E3, seval]
  refine Safe.rt rfl ?_
  simp only [E3, seval]
  first | exact ⟨rfl, _, rfl⟩ | exact ⟨_, rfl⟩ | exact ⟨trivial, _, rfl⟩
end Go.Abs
set_option linter.unusedVariables false
set_option linter.unusedSimpArgs false
namespace Go.Abs
theorem e7j {G : Heap} (hG : a0E G) {n0 : Nat} (hn : n0 ≤ lid G 0) {env : Env} {wd bytes k : Nat} {f : Nat → AV} {y : AV} (hf : ∀ x, Cl (f x)) (hy : y = f k) (hb : (k + 1) * bytes ≤ 140737488355328) (hbb : k + 1 ≤ 9223372036854775807) :
    appV n0 wd bytes false (.mu (lid G 0) 0 k none) (.sl wd [y]) env (hap G [some ⟨wd, fr k f⟩]) = some (.mu (lid G 0) 0 (k + 1) none, scrub (lid G 0) env, hap G [some ⟨wd, fr (k + 1) f⟩]) := by
  have := a5o (H := G) hG (L := [some ⟨wd, (List.range k).map f⟩]) 0 hn (env := env) (wd := wd) (bytes := bytes) hf (List.range k) k (List.range (k + 1)) (y := y) (len := k) (List.length_range).symm rfl (RC.row hf .nil) hy List.range_succ hb hbb
  exact this
theorem a7v {id j off len : Nat} {oc : Option Nat} (h : j ≠ id) : nref id (.mu j off len oc) = true := a0B.2 (.mu _ _ _ _ h)
theorem c6O (b : List (List ZI)) {c : Nat} (hc : ∀ i, (h : i < b.length) → b[i].length = c) (hnb : b.length ≤ 2097152) (hcb : c ≤ 2097152) (hz : Mok 17592186044416 b) (H : Heap) :
    a0n Pr a7d [matV b] H fun r' H' => r' = .mu (lid H 0) 0 b.length none ∧ H' = hap H (a1x (lid H 0) b.length 4 c none fun j k => Rv (zg (mg b j) k : Int)) := by
  refine a0n.introH c8P c8M (Nat.le_of_ble_eq_true rfl) fun hH => ?_
  have hS : ∀ (j k : Nat), Cl ((fun (j k : Nat) => Rv ((zg (mg b j) k : Int) : Rat)) j k) := fun _ _ => a4q _
  generalize hSd : (fun (j k : Nat) => Rv ((zg (mg b j) k : Int) : Rat)) = S at *
  refine Safe.rg rfl ?_
  simp only [b5x, E3, seval]
  refine Safe.rg rfl ?_
  simp only [b5w, E3, seval]
  refine Safe.nilrow 3 1 (by decide) (by simp only [E3, seval]) ?_
  refine Safe.rg rfl ?_
  simp only [b5v, E3, seval]
  refine Safe.lp rfl ?_
  refine Safe.keep [0, 3, 4] ?_
  try simp only [E3, seval]
  refine Safe.loopN (b.length) (fun i => [(0, matV b), (3, .mu (lid H 0) 0 i none), (4, .int .i64 i)]) (fun i => hap H (a1x (lid H 0) i 4 c none S)) rfl rfl (fun i hi ih => ?_) ?_
  · have hlt : ((i : Int) < (b.length : Int)) = True := eq_true (by omega)
    have hbc := hc i hi
    have hiw : IntKind.wrap .i64 ((i : Int) + 1) = ((i + 1 : Nat) : Int) := by rw [a0a] <;> omega
    refine Safe.inLoop ?_
    refine Safe.rg rfl ?_
    simp only [a8C, hlt, E3, seval]
    refine Safe.cd rfl ?_
    simp only [E3, seval]
    have hGr : a0E (hap H (a1x (lid H 0) i 4 c none S)) := b2b (X := []) hH (by simp) fun j k _ _ => hS j k
    have hG0 : (hap H (a1x (lid H 0) i 4 c none S))[lid H 0]? = some (some ⟨1, orow (lid H 0) i c none fun i => i⟩) := by
      simp only [hap, lid]; rw [List.getElem?_append_right (by omega)]; simp [a1x, lid]
    have hGl : (hap H (a1x (lid H 0) i 4 c none S)).length = lid H 0 + 1 + i := by simp [hap, lid, a6b]; omega
    have hsucc := d7Z H i 4 c none S
    have hGf : Free (hap H (a1x (lid H 0) i 4 c none S)) (lid H 0) := d8a (X := []) hH (by simp) fun j k _ _ => hS j k
    rw [← a1U (hap H (a1x (lid H 0) i 4 c none S))]
    generalize hap H (a1x (lid H 0) i 4 c none S) = G at *
    have hn0 : H.length ≤ lid G 0 := by simp only [lid] at hGl ⊢; omega
    have hne : lid H 0 ≠ lid G 0 := by simp only [lid] at hGl ⊢; omega
    have hnr1 : nref (lid G 0) (.mu (lid H 0) 0 i none) = true := a7v hne
    refine Safe.rg rfl ?_
    simp only [b5u, E3, seval]
    refine Safe.nilrow 5 4 (by decide) (by simp only [E3, seval]) ?_
    refine Safe.rg rfl ?_
    simp only [b5t, E3, seval]
    refine Safe.lp rfl ?_
    refine Safe.keep [0, 3, 4, 5, 6] ?_
    try simp only [E3, seval]
    refine Safe.loopN c (fun k => [(0, matV b), (3, .mu (lid H 0) 0 i none), (4, .int .i64 i), (5, .mu (lid G 0) 0 k none), (6, .int .i64 k)]) (fun k => hap G [some ⟨4, fr k (S i)⟩]) rfl rfl (fun k hk ihk => ?_) ?_
    · have hlt : ((k : Int) < (b[i].length : Int)) = True := eq_true (by omega)
      have hkb : k < b[i].length := by omega
      have hkw : IntKind.wrap .i64 ((k : Int) + 1) = ((k + 1 : Nat) : Int) := by rw [a0a] <;> omega
      refine Safe.inLoop ?_
      refine Safe.rg rfl ?_
      simp only [a8B, a1Y _ b _ i hi, hlt, E3, seval]
      refine Safe.cd rfl ?_
      simp only [E3, seval]
      refine Safe.rg rfl ?_
      simp only [b5s, a1Y _ b _ i hi, a1g _ b[i] _ k hkb, E3, seval]
      first | refine (b6W b[i][k] ((hz.get hi).el _ (List.getElem_mem hkb))).acall ?_ | refine (b6W b[i][k] ((hz.get hi).el _ (List.getElem_mem hkb))).dcall ?_
      try simp only [E3, seval]
      have hy : Rv ((b[i][k].z : Int) : Rat) = S i k := by rw [← hSd]; simp only [a3T hi, c2C hkb]
      simp only [a2I, a0C, a0q, E3, seval]
      rw [e7j hGr hn0 (hS i) hy (by omega) (by omega)]
      simp only [hnr1, E3, seval]
      refine Safe.rg rfl ?_
      simp only [b5r, hkw, E3, seval]
      refine Safe.keep [0, 3, 4, 5, 6] ?_
      simp only [E3, seval]
      exact ihk
    · refine Safe.inLoop ?_
      refine Safe.rg rfl ?_
      simp only [a8B, a1Y _ b _ i hi, hbc, Int.lt_irrefl, E3, seval]
      refine Safe.cd rfl ?_
      simp only [E3, seval]
      refine Safe.rg rfl ?_
      simp only [b5q, E3, seval]
      rw [e5N (ys := [.mu (lid G 0) 0 c none]) hG0 (a1v H 0) (by simp [orow, b7G]) (by simp [a0Q, a1p]) (by simp)
        (e2x hGf (by
          intro b hb a ha
          simp at hb
          rcases hb with rfl | rfl
          · exact (a4o (fun k _ => hS i k) a ha).ref
          · simp [Blk.flat, AV.cells] at ha; subst ha; exact .mu _ _ _ _ (Ne.symm hne)))
        (by intro a ha; simp [AV.cells] at ha; subst ha; exact .mu _ _ _ _ (Ne.symm hne))
        (fun a ha => c4b (fun j hj => by show _ ≠ _; omega) a ha) (by simp; omega) (by simp; omega)]
      simp only [hnr1, E3, seval]
      refine Safe.rg rfl ?_
      simp only [b2y, hiw, E3, seval]
      refine Safe.keep [0, 3, 4] ?_
      simp only [E3, seval]
      have e2 : ∀ o, hap (G.set (lid H 0) (some ⟨1, orow (lid H 0) i c none (fun i => i) ++ [.mu (lid G 0) 0 c none]⟩)) [some ⟨4, fr c (S i)⟩, o] = hap (hap H (a1x (lid H 0) (i + 1) 4 c none S)) ([] ++ [o]) := by
        intro o
        rw [← hsucc]; simp [hap]
      rw [e2]
      have hGl2 : (hap H (a1x (lid H 0) (i + 1) 4 c none S)).length = lid H 0 + 1 + (i + 1) := by simp [hap, lid, a6b]; omega
      refine Safe.dropG (b2b (X := []) hH (by simp) fun j k _ _ => hS j k) (by show H.length ≤ _; have := a1v H 0; rw [hGl2]; omega) ?_ (by simp) ?_
      · have hnr2 : nref (lid (hap H (a1x (lid H 0) (i + 1) 4 c none S)) 0) (.mu (lid H 0) 0 (i + 1) none) = true := a7v (by have : lid (hap H (a1x (lid H 0) (i + 1) 4 c none S)) 0 = lid H 0 + 1 + (i + 1) := hGl2; omega)
        simp only [List.all_cons, List.all_nil, List.length_nil, hnr2, E3, seval]
      · rw [a1U]
        exact ih
  · refine Safe.inLoop ?_
    refine Safe.rg rfl ?_
    simp only [a8C, Int.lt_irrefl, E3, seval]
    refine Safe.cd rfl ?_
    simp only [E3, seval]
    refine Safe.rg rfl ?_
    simp only [b2x, E3, seval]
    refine Safe.rt rfl ?_
    simp only [E3, seval]
end Go.Abs
set_option linter.unusedVariables false
set_option linter.unusedSimpArgs false
namespace Go.Abs
/-- Row j up to a place told anew. -/
def a5e (S : Nat → Nat → AV) (j : Nat) (f : Nat → AV) (t : Nat) : Nat → Nat → AV := fun a b => if a = j ∧ b < t then f b else S a b
theorem c8e (S : Nat → Nat → AV) (j : Nat) (f : Nat → AV) : a5e S j f 0 = S := by funext a b; simp [a5e]
theorem d5V (S : Nat → Nat → AV) (j : Nat) (f : Nat → AV) (t : Nat) : a5e S j f t j t = S j t := by simp [a5e]
theorem c9B {S : Nat → Nat → AV} {j a : Nat} {f : Nat → AV} {t b : Nat} (h : a ≠ j) : a5e S j f t a b = S a b := by simp [a5e, h]
theorem c8f (S : Nat → Nat → AV) (j : Nat) (f : Nat → AV) (t : Nat) : upd2 (a5e S j f t) j t (f t) = a5e S j f (t + 1) := by
  funext a b
  unfold upd2 a5e
  by_cases h1 : a = j
  · subst h1
    by_cases h2 : b = t
    · subst h2; simp
    · by_cases h3 : b < t
      · rw [if_pos rfl, if_neg h2, if_pos ⟨rfl, h3⟩, if_pos ⟨rfl, by omega⟩]
      · rw [if_pos rfl, if_neg h2, if_neg (by omega), if_neg (by omega)]
  · rw [if_neg h1, if_neg (by omega), if_neg (by omega)]
theorem c9C {S : Nat → Nat → AV} {j : Nat} {f : Nat → AV} {t : Nat} (hS : ∀ a b, Cl (S a b)) (hf : ∀ b, Cl (f b)) : ∀ a b, Cl (a5e S j f t a b) := by
  intro a b; unfold a5e; split
  · exact hf b
  · exact hS a b
theorem e4p {a b : Rat} {k l : Nat} (ha : Rok k a) (hb : Rok l b) : Rok (k + l) (a * b) := by
  constructor
  · rw [Rat.num_mul, Int.natAbs_ediv_of_dvd]
    · exact Nat.lt_of_le_of_lt (Nat.div_le_self _ _) (a4l ha.num hb.num)
    · exact Int.ofNat_dvd_left.2 (Nat.gcd_dvd_left _ _)
  · rw [Rat.den_mul, d9U]
    exact Nat.lt_of_le_of_lt (Nat.div_le_self _ _) (Nat.mul_lt_mul'' ha.den hb.den)
section
variable {G : Heap} {β n c : Nat} {oc oc' : Option Nat} {π : Nat → Nat} {S : Nat → Nat → AV} (hG : β + n < G.length)
include hG
theorem d8g {M : Nat → Nat → Rat} {K i k : Nat} (q : Rat) (hi : i < n) (hk : k < n) (hik : π k ≠ π i) (hπ : ∀ a, a < n → π a < n) (hS : ∀ a b, a < n → b < c → S (π a) b = Rv (M a b)) (hcl : ∀ a b, Cl (S a b))
    (hMs : ∀ a b, a < n → b < c → Rok K (M a b)) (hq : Rok K q) (hK : K + (K + K) < 17592186043000) (hc : c ≤ 2097152) (hn : n ≤ 2097152) :
    a0n Pr a7e [.mu β 0 n oc', .int .i64 i, .int .i64 k, Rv q] (hM G β n 4 c oc π S) fun r' H' => r' = .tup [] ∧ H' = hM G β n 4 c oc π (a5e S (π i) (fun b => Rv (M i b - q * M k b)) c) := by
  refine a0n.eff c8S c8Q (Nat.le_of_ble_eq_true rfl) fun hH => ?_
  have hpi := hπ i hi
  have hpk := hπ k hk
  refine Safe.rg rfl ?_
  simp only [b5B, a1u, a0x, a0H, a0I, a2I, a0C, a0q, E3, seval]
  refine Safe.rg rfl ?_
  simp only [b5A, E3, seval]
  refine Safe.lp rfl ?_
  refine Safe.keep [0, 1, 2, 7, 8] ?_
  try simp only [E3, seval]
  refine Safe.loopN c (fun t => [(0, .mu β 0 n oc'), (1, .int .i64 i), (2, .int .i64 k), (7, .loc (lid G 0) 0 0), (8, .int .i64 t)]) (fun t => hap (hM G β n 4 c oc π (a5e S (π i) (fun b => Rv (M i b - q * M k b)) t)) [some ⟨4, [Rv q]⟩]) rfl ?_ (fun t ht ih => ?_) ?_
  · rw [c8e]
  · have hlt : ((t : Int) < (c : Int)) = True := eq_true (by omega)
    have htw : IntKind.wrap .i64 ((t : Int) + 1) = ((t + 1 : Nat) : Int) := by rw [a0a] <;> omega
    have v1 : a5e S (π i) (fun b => Rv (M i b - q * M k b)) t (π i) t = Rv (M i t) := by rw [d5V, hS i t hi ht]
    have v2 : a5e S (π i) (fun b => Rv (M i b - q * M k b)) t (π k) t = Rv (M k t) := by rw [c9B hik, hS k t hk ht]
    have hsucc := c8f S (π i) (fun b => Rv (M i b - q * M k b)) t
    generalize a5e S (π i) (fun b => Rv (M i b - q * M k b)) t = St at *
    refine Safe.inLoop ?_
    refine Safe.rg rfl ?_
    simp only [a8D, a4r hG hi, M_at hG hi, e1j hG hpi, hlt, E3, seval]
    refine Safe.cd rfl ?_
    simp only [E3, seval]
    refine Safe.rg rfl ?_
    simp only [b5z, a1u, a0x, a0H, a0I, a4r hG hi, M_at hG hi, a4r hG hk, M_at hG hk, a6C hG hpi ht, E_at hG hpi ht, a6C hG hpk ht, E_at hG hpk ht, v1, v2, a0C, E3, seval]
    refine (c6R q (M k t) hq (hMs k t hk ht) (by omega)).dcall ?_
    simp only [E3, seval]
    refine (d7m (M i t) (q * M k t) (hMs i t hi ht) (e4p hq (hMs k t hk ht)) (by omega)).dcall ?_
    simp only [a6C hG hpi ht, E3, seval]
    simp only [E_st hG hpi ht (a2I _) (show (Rv _).cells.length = 4 from rfl), hsucc, E3, seval]
    refine Safe.rg rfl ?_
    simp only [b5y, htw, E3, seval]
    refine Safe.keep [0, 1, 2, 7, 8] ?_
    simp only [E3, seval]
    exact ih
  · refine Safe.inLoop ?_
    refine Safe.rg rfl ?_
    simp only [a8D, a4r hG hi, M_at hG hi, e1j hG hpi, Int.lt_irrefl, E3, seval]
    refine Safe.cd rfl ?_
    simp only [E3, seval]
    refine Safe.stl 40 _ ?_
    refine Safe.done rfl ?_
    exact ⟨_, _, rfl, by rw [a8i, a8i], c5z hG hH hπ (fun a b _ _ => c9C hcl (fun b => a4q _) a b), .tup _ (by simp), rfl, rfl⟩
theorem d4L {M : Nat → Nat → Rat} {K i k : Nat} (q : Rat) (hi : i < n) (hk : k < n) (hik : π k ≠ π i) (hπ : ∀ a, a < n → π a < n) (hS : ∀ a b, a < n → b < c → S (π a) b = Rv (M a b)) (hcl : ∀ a b, Cl (S a b))
    (hMs : ∀ a b, a < n → b < c → Rok K (M a b)) (hq : Rok K q) (hK : K + (K + K) < 17592186043000) (hc : c ≤ 2097152) (hn : n ≤ 2097152) (L : Heap) :
    a0n Pr a7e [.mu β 0 n oc', .int .i64 i, .int .i64 k, Rv q] (hap (hM G β n 4 c oc π S) L) fun r' H' => r' = .tup [] ∧ H' = hap (hM G β n 4 c oc π (a5e S (π i) (fun b => Rv (M i b - q * M k b)) c)) L := by
  have h := d8g (G := hap G L) (β := β) (n := n) (c := c) (oc := oc) (oc' := oc') (π := π) (S := S) (by simp [hap]; omega) q hi hk hik hπ hS hcl hMs hq hK hc hn
  rw [e0k _ _ _ _ _ _ _ _ _ hG]
  refine h.mono ?_
  rintro r' H' ⟨rfl, rfl⟩
  exact ⟨rfl, (e0k _ _ _ _ _ _ _ _ _ hG).symm⟩
end
end Go.Abs
set_option linter.unusedVariables false
set_option linter.unusedSimpArgs false
namespace Go.Abs
def intV (x : Nat) : AV := .int .i64 (x : Int)
theorem a9t (x : Nat) : Cl (intV x) := .int _ _
/-- Places, as a value. -/
def hsV (cs : List Nat) : AV := .sl 1 (cs.map intV)
theorem b7B (cs : List Nat) : Cl (hsV cs) := e2L 1 intV cs a9t
theorem d6z {G : Heap} {β n w c : Nat} {oc : Option Nat} {π : Nat → Nat} {S : Nat → Nat → AV} {α : Type} (hH : a0E (hM G β n w c oc π S)) {L : Heap} (i : Nat) {n0 : Nat} (hn : n0 ≤ lid G i) {env : Env} {wd bytes : Nat} {f : α → AV} (hf : ∀ x, Cl (f x)) (l : List α) (x : α) {y : AV} {len : Nat}
    (hlen : len = l.length) (hl : L[i]? = some (some ⟨wd, l.map f⟩)) (hL : RC L) (hy : y = f x) (hb : (len + 1) * bytes ≤ 140737488355328) (hbb : len + 1 ≤ 9223372036854775807) :
    appV n0 wd bytes false (.mu (lid G i) 0 len none) (.sl wd [y]) env (hap (hM G β n w c oc π S) L) = some (.mu (lid G i) 0 (len + 1) none, scrub (lid G i) env, hap (hM G β n w c oc π S) (L.set i (some ⟨wd, (l ++ [x]).map f⟩))) := by
  have := a5o (H := hM G β n w c oc π S) hH i (by rw [a1u]; exact hn) (env := env) (bytes := bytes) hf l x (l ++ [x]) hlen hl hL hy rfl hb hbb
  rwa [a1u] at this
theorem e3C (π : Nat → Nat) (p r : Nat) : (fun t => if t = r then π p else (fun t => if t = p then π r else π t) t) = swp π p r := by
  funext t; unfold swp
  by_cases h1 : t = r
  · by_cases h2 : t = p
    · rw [if_pos h1, if_pos h2]; rw [← h1, ← h2]
    · rw [if_pos h1, if_neg h2, if_pos h1]
  · rw [if_neg h1]
    show (if t = p then π r else π t) = _
    by_cases h2 : t = p
    · rw [if_pos h2, if_pos h2]
    · rw [if_neg h2, if_neg h2, if_neg h1]
/-- A matrix's logical entries. -/
structure Lk (n c : Nat) (π : Nat → Nat) (S : Nat → Nat → AV) (F : Nat → Nat → AV) : Prop where
  lt : ∀ a, a < n → π a < n
  inj : ∀ a b, a < n → b < n → π a = π b → a = b
  at_ : ∀ a b, a < n → b < c → S (π a) b = F a b
  cl : ∀ a b, Cl (S a b)
theorem Lk.swap {n c : Nat} {π : Nat → Nat} {S : Nat → Nat → AV} {α : Type} {M : Nat → Nat → α} {f : α → AV} (h : Lk n c π S fun a b => f (M a b)) {p r : Nat} (hp : p < n) (hr : r < n) : Lk n c (swp π p r) S fun a b => f (if a = p then M r b else if a = r then M p b else M a b) := by
  refine ⟨fun a ha => ?_, fun a b ha hb he => ?_, fun a b ha hb => ?_, h.cl⟩
  · unfold swp; split
    · exact h.lt r hr
    · split
      · exact h.lt p hp
      · exact h.lt a ha
  · unfold swp at he
    split at he
    · split at he
      · omega
      · split at he
        · have := h.inj _ _ hr hp he; omega
        · have := h.inj _ _ hr hb he; omega
    · split at he
      · split at he
        · have := h.inj _ _ hp hr he; omega
        · split at he
          · omega
          · have := h.inj _ _ hp hb he; omega
      · split at he
        · have := h.inj _ _ ha hr he; omega
        · split at he
          · have := h.inj _ _ ha hp he; omega
          · exact h.inj _ _ ha hb he
  · unfold swp
    split
    · exact h.at_ r b hr hb
    · split
      · exact h.at_ p b hp hb
      · exact h.at_ a b ha hb
section
variable {G : Heap} {β n c : Nat} {e : Nat} (hG : β + n < G.length) (B : Nat → Nat → Rat) (hB : Bd e B) (hn : n ≤ 64 ∨ c ≤ 64) (hn2 : n ≤ 2097152) (hc : c ≤ 2097152) (hK : KB e + 1 < 2199023255552)
include hG hB hn hn2 hc hK
omit hG hn2 hc hK in
theorem e7y (t i k : Nat) (ht : t ≤ c) : Rok (KB e + 1) ((a0t n B t).M i k) := by
  obtain ⟨h1, h2⟩ := e7r (n := n) hB t i k (by omega)
  have : LB ^ KB e < LB ^ (KB e + 1) := Nat.pow_lt_pow_right (by decide) (by omega)
  exact ⟨by omega, by omega⟩
omit hG hn2 hc hK in
theorem e6s (t : Nat) (ht : t ≤ c) : Rok (KB e + 1) (dv n B t) := by
  obtain ⟨z, hz, hz1⟩ := e7D (n := n) hB t (by omega)
  have : LB ^ KB e < LB ^ (KB e + 1) := Nat.pow_lt_pow_right (by decide) (by omega)
  have h1 : 1 ≤ LB ^ KB e := Nat.one_le_iff_ne_zero.2 (by have := a8h (KB e); omega)
  rw [hz]
  refine ⟨?_, ?_⟩
  · show z.natAbs < _; omega
  · show 1 < _; omega
theorem c9v {S : Nat → Nat → AV} (hS : Lk n c (fun i => i) S fun a b => Rv (B a b)) :
    a0n Pr a1i [.mu β 0 n none, .int .i64 c] (hM G β n 4 c none (fun i => i) S) fun r' H' => ∃ π S', Lk n c π S' (fun a b => Rv ((a0t n B c).M a b)) ∧ H' = hM G β n 4 c none π S' ∧
      r' = .tup [.mu β 0 (gproc n B c).cs.length none, hsV (gproc n B c).cs, Rv (dv n B c)] := by
  refine a0n.eff c2G c2E (Nat.le_of_ble_eq_true rfl) fun hH => ?_
  have hBi : ∀ i k, ∃ z : Int, B i k = z := fun i k => by obtain ⟨z, h, _⟩ := hB i k; exact ⟨z, h⟩
  have hrok := e7y B hB hn
  have hrdv := e6s B hB hn
  have hrw : lid (hM G β n 4 c none (fun i => i) S) 0 = lid G 0 := a1u _ _ _ _ _ _ _ _ _
  refine Safe.rg rfl ?_
  simp only [b0a, a1u, a0x, a0H, a0I, a0q, E3, seval]
  refine Safe.rg rfl ?_
  simp only [a9Z, a1u, a0x, a0H, a0I, a2I, a0C, a0q, E3, seval]
  first | refine (a3I 1 (by decide) (by decide)).acall ?_ | refine (a3I 1 (by decide) (by decide)).dcall ?_
  try simp only [E3, seval]
  refine (b6W (canZ 1) ((a0l (k := 1) (by decide)).mono (by decide))).acall ?_
  rw [a0p]
  simp only [a1u, a0x, a0H, a0I, a2I, a0C, a0q, E3, seval]
  refine Safe.rg rfl ?_
  simp only [a9Y, E3, seval]
  refine Safe.nilrow 8 1 (by decide) (by simp only [E3, seval]) ?_
  refine Safe.rg rfl ?_
  simp only [a9X, E3, seval]
  refine Safe.rg rfl ?_
  simp only [a9W, E3, seval]
  refine Safe.lp rfl ?_
  refine Safe.keep [0, 1, 6, 7, 8, 9, 10] ?_
  simp only [a1u, a0x, a0H, a0I, E3, seval]
  refine Safe.loopW (α := Nat × (Nat → Nat) × (Nat → Nat → AV)) (fun s => c - s.1)
    (fun s => [(0, .mu β 0 n none), (1, .int .i64 c), (6, .loc (lid G 0) 0 0), (7, .loc (lid G 1) 0 0), (8, .mu (lid G 2) 0 (gproc n B s.1).cs.length none), (9, .int .i64 (gproc n B s.1).cs.length), (10, .int .i64 s.1)])
    (fun s => hap (hM G β n 4 c none s.2.1 s.2.2) [some ⟨4, [.agg [.bool false, .nil, .bool false, .nil]]⟩, some ⟨4, [Rv (dv n B s.1)]⟩, some ⟨1, (gproc n B s.1).cs.map intV⟩])
    (fun s => s.1 ≤ c ∧ Lk n c s.2.1 s.2.2 fun a b => Rv ((a0t n B s.1).M a b)) (0, fun i => i, S) rfl ?_ ⟨Nat.zero_le _, hS⟩ ?_
  · simp only [e5n]; rfl
  rintro ⟨t, π, S1⟩ ⟨ht, hL⟩ ih
  simp only at ht hL ih ⊢
  have hok := a5B (n := n) hBi t
  have hrn := hok.g.len
  have hlow := hok.low
  rw [a0O] at hrn hlow
  have hHr : ∀ {π' : Nat → Nat} {S' : Nat → Nat → AV} {F : Nat → Nat → AV}, Lk n c π' S' F → a0E (hM G β n 4 c none π' S') := fun h => c5z hG hH h.lt fun a b _ _ => h.cl a b
  have hlen : (gproc n B t).cs.length ≤ 64 := d5d hB t (by omega)
  have htlt : t < 9223372036854775807 := by omega
  have htw : IntKind.wrap .i64 ((t : Int) + 1) = ((t + 1 : Nat) : Int) := by rw [a0a] <;> omega
  refine Safe.inLoop ?_
  by_cases htc : t < c
  · have hlt : ((t : Int) < (c : Int)) = True := eq_true (by omega)
    refine Safe.rg rfl ?_
    simp only [a5a, hlt, E3, seval]
    refine Safe.cd rfl ?_
    simp only [E3, seval]
    refine Safe.rg rfl ?_
    simp only [a9V, E3, seval]
    have entry : ∀ q, q < n → S1 (π q) t = Rv ((a0t n B t).M q t) := fun q hq => hL.at_ q t hq htc
    rcases a0V (fun p => (gproc n B t).g p t) (gproc n B t).cs.length n with ⟨p, hf, h1, h2, h3, h4⟩ | ⟨hf, h4⟩
    · have hj := b9i (j := a0t n B t) (c := t) (n := n) (p := p) (by rw [a0O]; exact hf)
      have hdv := e5o hBi hf h1
      have hcs : (gproc n B (t + 1)).cs = (gproc n B t).cs ++ [t] := by
        show (b0B n (gproc n B t) t).cs = _
        rw [a0J hf]
      have hM' : (a0t n B (t + 1)).M = jel (gproc n B t).cs.length t (a0D p (gproc n B t).cs.length (a0t n B t).M) := by
        show (c6o n (a0t n B t) t).M = _
        rw [hj, a0O]
      have hMp : ∀ q, (gproc n B t).cs.length ≤ q → (a0t n B t).M q t = (gproc n B t).g q t := fun q hq => hlow q t hq
      have hrokM : ∀ a b, Rok (KB e + 1) (a0D p (gproc n B t).cs.length (a0t n B t).M a b) := by
        intro a b; unfold a0D
        split
        · exact hrok _ _ _ ht
        · split <;> exact hrok _ _ _ ht
      have hM0r : a0D p (gproc n B t).cs.length (a0t n B t).M (gproc n B t).cs.length t = (gproc n B t).g p t := by
        unfold a0D
        by_cases e : (gproc n B t).cs.length = p
        · rw [if_pos e, ← e, hMp _ (Nat.le_refl _)]
        · rw [if_neg e, if_pos rfl, hMp _ h1]
      generalize hcsl : (gproc n B t).cs.length = r at *
      have hr : r < n := by omega
      have hgp : (gproc n B t).g p t ≠ 0 := h3
      generalize hM0 : a0D p r (a0t n B t).M = M0 at *
      have main : ∀ π', Lk n c π' S1 (fun a b => Rv (M0 a b)) → Safe ⟨Pr, fun _ _ => false, a1i, 136, [.tmp 4, .tmp 5, .cell 6 (some 4)], (hM G β n 4 c none (fun i => i) S).length⟩
          [.code ((ACode.region a4i false).seq ((ACode.region a4h false).seq (((ACode.region a4g false).seq (.block 4 (.loop b0c))).seq (((ACode.region a4e false).seq (.block 6 (.loop b0b))).seq ((ACode.region a4b false).seq (.region a4a false)))))),
            .inBlock 1, .code (.region a2E false), .inLoop b0d, .inBlock 0, .code ((ACode.region a3Z true).seq .ret)]
          [(0, .mu β 0 n none), (1, .int .i64 c), (6, .loc (lid G 0) 0 0), (7, .loc (lid G 1) 0 0), (8, .mu (lid G 2) 0 r none), (9, .int .i64 r), (10, .int .i64 t)]
          (hap (hM G β n 4 c none π' S1) [some ⟨4, [.agg [.bool false, .nil, .bool false, .nil]]⟩, some ⟨4, [Rv (if p = r then dv n B t else -dv n B t)]⟩, some ⟨1, (gproc n B t).cs.map intV⟩])
          fun r' H' => ∃ H1 L, H' = hap H1 L ∧ H1.length = (hM G β n 4 c none (fun i => i) S).length ∧ a0E H1 ∧ Ref (fun x => x < (hM G β n 4 c none (fun i => i) S).length) r' ∧
            ∃ π S', Lk n c π S' (fun a b => Rv ((a0t n B c).M a b)) ∧ H1 = hM G β n 4 c none π S' ∧ r' = .tup [.mu β 0 (gproc n B c).cs.length none, hsV (gproc n B c).cs, Rv (dv n B c)] := by
        intro π' hL'
        have hpr := hL'.lt r hr
        have hdr : Rok (KB e + 1) (if p = r then dv n B t else -dv n B t) := by
          split
          · exact (hrdv t ht)
          · exact d9j ((hrdv t ht))
        have v0 : S1 (π' r) t = Rv (M0 r t) := hL'.at_ r t hr htc
        refine Safe.rg rfl ?_
        simp only [a4i, a1u, a0x, a0H, a0I, a4r hG hr, M_at hG hr, a6C hG hpr htc, E_at hG hpr htc, v0, a0C, a2I, a0q, E3, seval]
        refine Safe.rg rfl ?_
        simp only [a4h, a1u, a0x, a0H, a0I, a0C, a2I, E3, seval]
        refine (c6R _ (M0 r t) hdr (hrokM r t) (by omega)).acall ?_
        rw [hM0r, ← hdv]
        simp only [a1u, a0x, a0H, a0I, a0C, a2I, E3, seval]
        have hrokh := hrokM r t
        rw [hM0r] at hrokh
        have hM0rr := hM0r
        generalize (gproc n B t).g p t = h at *
        refine Safe.rg rfl ?_
        simp only [a4g, E3, seval]
        refine Safe.lp rfl ?_
        refine Safe.keep [0, 1, 6, 7, 8, 9, 10, 12, 13] ?_
        try simp only [E3, seval]
        refine Safe.loopN c (fun k => [(0, .mu β 0 n none), (1, .int .i64 c), (6, .loc (lid G 0) 0 0), (7, .loc (lid G 1) 0 0), (8, .mu (lid G 2) 0 r none), (9, .int .i64 r), (10, .int .i64 t), (12, .loc (lid G 3) 0 0), (13, .int .i64 k)])
          (fun k => hap (hM G β n 4 c none π' (a5e S1 (π' r) (fun b => Rv (M0 r b / h)) k)) [some ⟨4, [.agg [.bool false, .nil, .bool false, .nil]]⟩, some ⟨4, [Rv (dv n B (t + 1))]⟩, some ⟨1, (gproc n B t).cs.map intV⟩, some ⟨4, [Rv h]⟩]) rfl ?_ (fun k hk ihk => ?_) ?_
        · rw [c8e]; rfl
        · have hlt : ((k : Int) < (c : Int)) = True := eq_true (by omega)
          have hkw : IntKind.wrap .i64 ((k : Int) + 1) = ((k + 1 : Nat) : Int) := by rw [a0a] <;> omega
          have v1 : a5e S1 (π' r) (fun b => Rv (M0 r b / h)) k (π' r) k = Rv (M0 r k) := by rw [d5V, hL'.at_ r k hr hk]
          have hsucc := c8f S1 (π' r) (fun b => Rv (M0 r b / h)) k
          generalize a5e S1 (π' r) (fun b => Rv (M0 r b / h)) k = St at *
          refine Safe.inLoop ?_
          refine Safe.rg rfl ?_
          simp only [a4f, hlt, E3, seval]
          refine Safe.cd rfl ?_
          simp only [E3, seval]
          refine Safe.rg rfl ?_
          simp only [a7T, a1u, a0x, a0H, a0I, a4r hG hr, M_at hG hr, a6C hG hpr hk, E_at hG hpr hk, v1, a0C, E3, seval]
          refine (d7n (M0 r k) h (hrokM r k) hrokh (by omega) hgp).dcall ?_
          simp only [a6C hG hpr hk, E3, seval]
          simp only [E_st hG hpr hk (a2I _) (show (Rv _).cells.length = 4 from rfl), hsucc, E3, seval]
          refine Safe.rg rfl ?_
          simp only [a7S, hkw, E3, seval]
          refine Safe.keep [0, 1, 6, 7, 8, 9, 10, 12, 13] ?_
          simp only [E3, seval]
          exact ihk
        · refine Safe.inLoop ?_
          refine Safe.rg rfl ?_
          simp only [a4f, Int.lt_irrefl, E3, seval]
          refine Safe.cd rfl ?_
          simp only [E3, seval]
          have hL2 : Lk n c π' (a5e S1 (π' r) (fun b => Rv (M0 r b / h)) c) (fun a b => Rv (if a = r then M0 r b / h else M0 a b)) := by
            refine ⟨hL'.lt, hL'.inj, fun a b ha hb => ?_, c9C hL'.cl fun _ => a4q _⟩
            by_cases e : a = r
            · subst e; rw [if_pos rfl]; unfold a5e; rw [if_pos ⟨rfl, hb⟩]
            · rw [if_neg e, c9B (fun h => e (hL'.inj _ _ ha hr h)), hL'.at_ a b ha hb]
          generalize a5e S1 (π' r) (fun b => Rv (M0 r b / h)) c = S2 at *
          refine Safe.rg rfl ?_
          simp only [a4e, E3, seval]
          refine Safe.lp rfl ?_
          refine Safe.keep [0, 1, 6, 7, 8, 9, 10, 14] ?_
          try simp only [E3, seval]
          refine Safe.loopW (α := Nat × (Nat → Nat → AV)) (fun s => n - s.1)
            (fun s => [(0, .mu β 0 n none), (1, .int .i64 c), (6, .loc (lid G 0) 0 0), (7, .loc (lid G 1) 0 0), (8, .mu (lid G 2) 0 r none), (9, .int .i64 r), (10, .int .i64 t), (14, .int .i64 s.1)])
            (fun s => hap (hM G β n 4 c none π' s.2) [some ⟨4, [.agg [.bool false, .nil, .bool false, .nil]]⟩, some ⟨4, [Rv (dv n B (t + 1))]⟩, some ⟨1, (gproc n B t).cs.map intV⟩, some ⟨4, [Rv h]⟩])
            (fun s => s.1 ≤ n ∧ Lk n c π' s.2 (fun a b => Rv (if a = r then M0 r b / h else if a < s.1 then M0 a b - M0 a t * (M0 r b / h) else M0 a b))) (0, S2) rfl rfl
            ⟨Nat.zero_le _, by
              refine ⟨hL2.lt, hL2.inj, fun a b ha hb => ?_, hL2.cl⟩
              refine (hL2.at_ a b ha hb).trans ?_; dsimp only; simp⟩ ?_
          rintro ⟨i, S3⟩ ⟨hi, hL3⟩ ih3
          simp only at hi hL3 ih3 ⊢
          refine Safe.inLoop ?_
          by_cases hin : i < n
          · have hlt : ((i : Int) < (n : Int)) = True := eq_true (by omega)
            have hiw : IntKind.wrap .i64 ((i : Int) + 1) = ((i + 1 : Nat) : Int) := by rw [a0a] <;> omega
            have hpi := hL3.lt i hin
            refine Safe.rg rfl ?_
            simp only [a4d, b2q hG, hlt, E3, seval]
            refine Safe.cd rfl ?_
            simp only [E3, seval]
            by_cases hir : i = r
            · subst hir
              refine Safe.rg rfl ?_
              simp only [a4c, E3, seval]
              refine Safe.cd rfl ?_
              simp only [E3, seval]
              refine Safe.rg rfl ?_
              simp only [a2F, hiw, E3, seval]
              refine Safe.keep [0, 1, 6, 7, 8, 9, 10, 14] ?_
              simp only [E3, seval]
              refine ih3 (i + 1, S3) ⟨by omega, hL3.lt, hL3.inj, fun a b ha hb => ?_, hL3.cl⟩ (by show n - (i + 1) < n - i; omega)
              refine (hL3.at_ a b ha hb).trans ?_
              dsimp only
              by_cases e : a = i
              · rw [if_pos e, if_pos e]
              · rw [if_neg e, if_neg e]
                by_cases e2 : a < i
                · rw [if_pos e2, if_pos (show a < i + 1 by omega)]
                · rw [if_neg e2, if_neg (show ¬ a < i + 1 by omega)]
            · have hne : ((i : Int) = (r : Int)) = False := eq_false (by omega)
              have v3 : S3 (π' i) t = Rv (M0 i t) := by rw [hL3.at_ i t hin htc, if_neg hir, if_neg (Nat.lt_irrefl _)]
              refine Safe.rg rfl ?_
              simp only [a4c, hne, a4r hG hin, M_at hG hin, a6C hG hpi htc, E_at hG hpi htc, v3, a0C, E3, seval]
              refine (b1W (M0 i t) (hrokM i t) (by omega)).acall ?_
              by_cases hz : M0 i t = 0
              · simp only [hz, E3, seval]
                refine Safe.cd rfl ?_
                simp only [E3, seval]
                refine Safe.rg rfl ?_
                simp only [a2F, hiw, E3, seval]
                refine Safe.keep [0, 1, 6, 7, 8, 9, 10, 14] ?_
                simp only [E3, seval]
                refine ih3 (i + 1, S3) ⟨by omega, hL3.lt, hL3.inj, fun a b ha hb => ?_, hL3.cl⟩ (by show n - (i + 1) < n - i; omega)
                refine (hL3.at_ a b ha hb).trans ?_
                dsimp only
                by_cases e : a = r
                · rw [if_pos e, if_pos e]
                · rw [if_neg e, if_neg e]
                  by_cases e2 : a < i
                  · rw [if_pos e2, if_pos (show a < i + 1 by omega)]
                  · rw [if_neg e2]
                    by_cases e3 : a = i
                    · subst e3
                      rw [if_pos (show a < a + 1 by omega), hz]
                      congr 1
                      generalize M0 r b / h = y
                      grind
                    · rw [if_neg (show ¬ a < i + 1 by omega)]
              · simp only [hz, E3, seval]
                refine Safe.cd rfl ?_
                simp only [E3, seval]
                have hMs : ∀ a b, a < n → b < c → Rok (KB e + 1) (if a = r then M0 r b / h else if a < i then M0 a b - M0 a t * (M0 r b / h) else M0 a b) := by
                  intro a b _ _
                  have h0 := hrok (t + 1) a b (by omega)
                  rw [hM'] at h0
                  unfold jel at h0
                  rw [hM0rr] at h0
                  by_cases e : a = r
                  · rw [if_pos e] at h0 ⊢; exact h0
                  · rw [if_neg e] at h0 ⊢
                    split
                    · exact h0
                    · exact hrokM a b
                have hcall := d4L (G := G) (β := β) (n := n) (c := c) (oc := none) (oc' := none) (π := π') (S := S3) hG (M := fun a b => if a = r then M0 r b / h else if a < i then M0 a b - M0 a t * (M0 r b / h) else M0 a b) (M0 i t) hin hr
                  (fun h => hir (hL3.inj _ _ hr hin h).symm) hL3.lt hL3.at_ hL3.cl hMs (hrokM i t) (by omega) hc (by omega)
                  [some ⟨4, [.agg [.bool false, .nil, .bool false, .nil]]⟩, some ⟨4, [Rv (dv n B (t + 1))]⟩, some ⟨1, (gproc n B t).cs.map intV⟩, some ⟨4, [Rv h]⟩]
                obtain ⟨S4, hS4⟩ : ∃ S4, S4 = a5e S3 (π' i) (fun b => Rv ((fun a b => if a = r then M0 r b / h else if a < i then M0 a b - M0 a t * (M0 r b / h) else M0 a b) i b - M0 i t * (fun a b => if a = r then M0 r b / h else if a < i then M0 a b - M0 a t * (M0 r b / h) else M0 a b) r b)) c := ⟨_, rfl⟩
                rw [← hS4] at hcall
                refine Safe.rg rfl ?_
                simp only [a7R, a4r hG hin, M_at hG hin, a6C hG hpi htc, E_at hG hpi htc, v3, a0C, E3, seval]
                refine hcall.mono ?_
                rintro r' H' ⟨rfl, rfl⟩
                simp only [E3, seval]
                refine Safe.rg rfl ?_
                simp only [a2F, hiw, E3, seval]
                refine Safe.keep [0, 1, 6, 7, 8, 9, 10, 14] ?_
                simp only [E3, seval]
                refine ih3 (i + 1, S4) ⟨by omega, hL3.lt, hL3.inj, fun a b ha hb => ?_, by rw [hS4]; exact c9C hL3.cl fun _ => a4q _⟩ (by show n - (i + 1) < n - i; omega)
                show S4 (π' a) b = Rv (if a = r then M0 r b / h else if a < i + 1 then M0 a b - M0 a t * (M0 r b / h) else M0 a b)
                rw [hS4]
                by_cases e3 : a = i
                · subst e3
                  unfold a5e
                  rw [if_pos ⟨rfl, hb⟩]
                  simp only [if_neg hir, Nat.lt_irrefl, if_false, if_true, Nat.lt_succ_self]
                · rw [c9B (fun h => e3 (hL3.inj _ _ ha hin h)), hL3.at_ a b ha hb]
                  by_cases e : a = r
                  · rw [if_pos e, if_pos e]
                  · rw [if_neg e, if_neg e]
                    by_cases e2 : a < i
                    · rw [if_pos e2, if_pos (show a < i + 1 by omega)]
                    · rw [if_neg e2, if_neg (show ¬ a < i + 1 by omega)]
          · have hin' : i = n := by omega
            subst hin'
            refine Safe.rg rfl ?_
            simp only [a4d, b2q hG, Int.lt_irrefl, E3, seval]
            refine Safe.cd rfl ?_
            simp only [E3, seval]
            have hL4 : Lk i c π' S3 fun a b => Rv ((a0t i B (t + 1)).M a b) := by
              refine ⟨hL3.lt, hL3.inj, fun a b ha hb => ?_, hL3.cl⟩
              rw [hL3.at_ a b ha hb, hM']
              unfold jel
              rw [hM0rr]
              by_cases e : a = r
              · rw [if_pos e, if_pos e]
              · rw [if_neg e, if_neg e, if_pos ha]
            have hrw2 : IntKind.wrap .i64 ((r : Int) + 1) = ((r + 1 : Nat) : Int) := by rw [a0a] <;> omega
            have hRC : RC [some ⟨4, [.agg [.bool false, .nil, .bool false, .nil]]⟩, some ⟨4, [Rv (dv i B (t + 1))]⟩, some ⟨1, (gproc i B t).cs.map intV⟩, some ⟨4, [Rv h]⟩] :=
              RC.one d5t (RC.one (a4q _) (RC.row a9t (RC.one (a4q _) RC.nil)))
            have hnb2 : nref (lid G 2) (.mu β 0 i none) = true := a7v (by unfold lid; omega)
            have hnb3 : nref (lid G 3) (.mu β 0 i none) = true := a7v (by unfold lid; omega)
            refine Safe.rg rfl ?_
            simp only [a4b, E3, seval]
            rw [d6z (n0 := (hM G β i 4 c none (fun i => i) S).length) (bytes := 8) (y := .int .i64 (t : Int)) (hHr hL3) 2 (by rw [a8i]; exact a1v G 2) (f := intV) a9t (gproc i B t).cs t hcsl.symm rfl hRC rfl (by omega) (by omega)]
            simp only [hnb2, List.set_cons_succ, List.set_cons_zero, E3, seval]
            refine Safe.rg rfl ?_
            simp only [a4a, hrw2, E3, seval]
            refine Safe.rg rfl ?_
            simp only [a2E, htw, E3, seval]
            refine Safe.keep [0, 1, 6, 7, 8, 9, 10] ?_
            simp only [E3, seval]
            refine Safe.dropM [some ⟨4, [.agg [.bool false, .nil, .bool false, .nil]]⟩, some ⟨4, [Rv (dv i B (t + 1))]⟩, some ⟨1, ((gproc i B t).cs ++ [t]).map intV⟩] (hHr hL4) (by rw [a8i]; exact Nat.le_refl _) (by simp only [List.all_cons, List.all_nil, hnb3, E3, seval]) (RC.one d5t (RC.one (a4q _) (RC.row a9t RC.nil))) ?_
            have hfin := ih (t + 1, π', S3) ⟨htc, hL4⟩ (by show c - (t + 1) < c - t; omega)
            simp only [hcs, a1E, hcsl] at hfin
            exact hfin
      -- the head's row
      refine Safe.lp rfl ?_
      refine Safe.keep [0, 1, 6, 7, 8, 9, 10, 11] ?_
      try simp only [E3, seval]
      refine Safe.loopN (p - r) (fun j => [(0, .mu β 0 n none), (1, .int .i64 c), (6, .loc (lid G 0) 0 0), (7, .loc (lid G 1) 0 0), (8, .mu (lid G 2) 0 r none), (9, .int .i64 r), (10, .int .i64 t), (11, .int .i64 ((r + j : Nat) : Int))])
        (fun _ => hap (hM G β n 4 c none π S1) [some ⟨4, [.agg [.bool false, .nil, .bool false, .nil]]⟩, some ⟨4, [Rv (dv n B t)]⟩, some ⟨1, (gproc n B t).cs.map intV⟩]) rfl rfl (fun j hj2 ihj => ?_) ?_
      · have hq : r + j < n := by omega
        have hlt2 : (((r + j : Nat) : Int) < (n : Int)) = True := eq_true (by omega)
        have hpq := hL.lt (r + j) hq
        have hqw : IntKind.wrap .i64 (((r + j : Nat) : Int) + 1) = ((r + (j + 1) : Nat) : Int) := by rw [a0a] <;> omega
        have hz : (a0t n B t).M (r + j) t = 0 := by rw [hMp _ (by omega)]; exact h4 _ (by omega) (by omega)
        have v4 := entry (r + j) hq
        refine Safe.inLoop ?_
        refine Safe.rg rfl ?_
        simp only [a2c, b2q hG, hlt2, a4r hG hq, M_at hG hq, a6C hG hpq htc, E_at hG hpq htc, v4, a0C, E3, seval]
        refine (b1W _ (hrok t (r + j) t ht) (by omega)).acall ?_
        simp only [hz, E3, seval]
        refine Safe.cd rfl ?_
        simp only [E3, seval]
        refine Safe.rg rfl ?_
        simp only [a4Z, hqw, E3, seval]
        refine Safe.keep [0, 1, 6, 7, 8, 9, 10, 11] ?_
        simp only [E3, seval]
        refine Safe.inBlock ?_
        exact ihj
      · have hrp : r + (p - r) = p := by omega
        rw [hrp]
        have hlt2 : ((p : Int) < (n : Int)) = True := eq_true (by omega)
        have hpq := hL.lt p h2
        have hz : ((a0t n B t).M p t = 0) = False := eq_false (by rw [hMp _ h1]; exact hgp)
        have v4 := entry p h2
        have hpn : ((p : Int) = (n : Int)) = False := eq_false (by omega)
        refine Safe.inLoop ?_
        refine Safe.rg rfl ?_
        simp only [a2c, b2q hG, hlt2, a4r hG h2, M_at hG h2, a6C hG hpq htc, E_at hG hpq htc, v4, a0C, E3, seval]
        refine (b1W _ (hrok t p t ht) (by omega)).acall ?_
        simp only [hz, E3, seval]
        refine Safe.cd rfl ?_
        simp only [E3, seval]
        refine Safe.rg rfl ?_
        simp only [a4Y, b2q hG, hpn, E3, seval]
        refine Safe.cd rfl ?_
        simp only [E3, seval]
        by_cases hpr : p = r
        · have hpr1 : ((p : Int) = (r : Int)) = True := eq_true (by omega)
          refine Safe.rg rfl ?_
          simp only [a4j, hpr1, E3, seval]
          refine Safe.cd rfl ?_
          simp only [E3, seval]
          refine Safe.keep [0, 1, 6, 7, 8, 9, 10] ?_
          simp only [E3, seval]
          have hm := main π (by rw [← hM0, hpr, c6F]; exact hL)
          rw [if_pos hpr] at hm
          refine Safe.skip ?_
          exact hm
        · have hpr1 : ((p : Int) = (r : Int)) = False := eq_false (by omega)
          refine Safe.rg rfl ?_
          simp only [a4j, hpr1, E3, seval]
          refine Safe.cd rfl ?_
          simp only [E3, seval]
          refine Safe.rg rfl ?_
          simp only [a7V, a4r hG h2, M_at hG h2, a4r hG hr, M_at hG hr, E3, seval]
          simp only [M_st hG h2, a4r hG hr, M_st hG hr, e3C, E3, seval]
          refine Safe.rg rfl ?_
          simp only [a7U, a1u, a0x, a0H, a0I, a0C, a2I, E3, seval]
          refine (c6Q (dv n B t) ((hrdv t ht)) (by omega)).acall ?_
          simp only [a1u, a0x, a0H, a0I, a0C, a2I, E3, seval]
          refine Safe.keep [0, 1, 6, 7, 8, 9, 10] ?_
          simp only [E3, seval]
          have hm := main (swp π p r) (by
            have hsw := Lk.swap (f := Rv) hL h2 hr
            refine ⟨hsw.lt, hsw.inj, fun a b ha hb => ?_, hsw.cl⟩
            rw [hsw.at_ a b ha hb, ← hM0]
            unfold a0D
            split
            · rfl
            · split <;> rfl)
          rw [if_neg hpr] at hm
          exact hm
    · -- no head in this column
      have hcs : gproc n B (t + 1) = gproc n B t := a1H hf
      have hj : a0t n B (t + 1) = a0t n B t := b9j (by rw [a0O]; exact hf)
      have hdv := e5p hf
      generalize hcsl : (gproc n B t).cs.length = r at *
      refine Safe.lp rfl ?_
      refine Safe.keep [0, 1, 6, 7, 8, 9, 10, 11] ?_
      try simp only [E3, seval]
      refine Safe.loopN (n - r) (fun j => [(0, .mu β 0 n none), (1, .int .i64 c), (6, .loc (lid G 0) 0 0), (7, .loc (lid G 1) 0 0), (8, .mu (lid G 2) 0 r none), (9, .int .i64 r), (10, .int .i64 t), (11, .int .i64 ((r + j : Nat) : Int))])
        (fun _ => hap (hM G β n 4 c none π S1) [some ⟨4, [.agg [.bool false, .nil, .bool false, .nil]]⟩, some ⟨4, [Rv (dv n B t)]⟩, some ⟨1, (gproc n B t).cs.map intV⟩]) rfl rfl (fun j hj2 ihj => ?_) ?_
      · have hq : r + j < n := by omega
        have hlt2 : (((r + j : Nat) : Int) < (n : Int)) = True := eq_true (by omega)
        have hpq := hL.lt (r + j) hq
        have hqw : IntKind.wrap .i64 (((r + j : Nat) : Int) + 1) = ((r + (j + 1) : Nat) : Int) := by rw [a0a] <;> omega
        have hz : (a0t n B t).M (r + j) t = 0 := by rw [hlow _ _ (by omega)]; exact h4 _ (by omega) (by omega)
        have v4 := entry (r + j) hq
        refine Safe.inLoop ?_
        refine Safe.rg rfl ?_
        simp only [a2c, b2q hG, hlt2, a4r hG hq, M_at hG hq, a6C hG hpq htc, E_at hG hpq htc, v4, a0C, E3, seval]
        refine (b1W _ (hrok t (r + j) t ht) (by omega)).acall ?_
        simp only [hz, E3, seval]
        refine Safe.cd rfl ?_
        simp only [E3, seval]
        refine Safe.rg rfl ?_
        simp only [a4Z, hqw, E3, seval]
        refine Safe.keep [0, 1, 6, 7, 8, 9, 10, 11] ?_
        simp only [E3, seval]
        refine Safe.inBlock ?_
        exact ihj
      · have hrp : r + (n - r) = n := by omega
        rw [hrp]
        refine Safe.inLoop ?_
        refine Safe.rg rfl ?_
        simp only [a2c, b2q hG, Int.lt_irrefl, E3, seval]
        refine Safe.cd rfl ?_
        simp only [E3, seval]
        refine Safe.rg rfl ?_
        simp only [a4Y, b2q hG, E3, seval]
        refine Safe.cd rfl ?_
        simp only [E3, seval]
        refine Safe.rg rfl ?_
        simp only [a7W, E3, seval]
        first | refine (a3I 0 (by decide) (by decide)).acall ?_ | refine (a3I 0 (by decide) (by decide)).dcall ?_
        try simp only [E3, seval]
        refine (b6W (canZ 0) ((a0l (k := 1) (by decide)).mono (by decide))).acall ?_
        rw [a0p]
        simp only [a1u, a0x, a0H, a0I, a2I, a0C, a0q, E3, seval]
        refine Safe.rg rfl ?_
        simp only [a2E, htw, E3, seval]
        refine Safe.keep [0, 1, 6, 7, 8, 9, 10] ?_
        simp only [E3, seval]
        have hfin := ih (t + 1, π, S1) ⟨htc, by rw [hj]; exact hL⟩ (by show c - (t + 1) < c - t; omega)
        simp only [hcs, hcsl, hdv] at hfin
        exact hfin
  · have htc' : t = c := by omega
    subst htc'
    refine Safe.rg rfl ?_
    simp only [a5a, Int.lt_irrefl, E3, seval]
    refine Safe.cd rfl ?_
    simp only [E3, seval]
    have hnb2 : frz (lid G 2) ⟨1, (gproc n B t).cs.map intV⟩ (.mu β 0 n none) = .mu β 0 n none := a7w (.mu _ _ _ _ (by show β ≠ _; unfold lid; omega))
    refine Safe.freezeM 2 (hHr hL) (by rw [a8i]; exact Nat.le_refl _) rfl (a1D 1 intV _ a9t) ?_
    refine Safe.keep [0, 6, 7, 8, 9] ?_
    simp only [hnb2, a9v, List.length_map, a0N, e7p, E3, seval]
    have hcl : frz (lid G 2) ⟨1, (gproc n B t).cs.map intV⟩ (.mu (lid G 2) 0 (gproc n B t).cs.length none) = hsV (gproc n B t).cs := a8k (H := G) 2 1 intV _ none
    refine Safe.rg rfl ?_
    simp only [a3Z, a1u, a0x, a0H, a0I, e7I hG hrn, hcl, a0C, a2I, E3, seval]
    refine Safe.rt rfl ?_
    simp only [a1u, a0x, a0H, a0I, a0C, a2I, E3, seval]
    refine ⟨_, _, rfl, by rw [a8i, a8i], hHr hL, .tup _ ?_, π, S1, hL, rfl, rfl⟩
    intro a ha
    simp only [List.mem_cons, List.not_mem_nil, or_false] at ha
    rcases ha with rfl | rfl | rfl
    · exact .mu _ _ _ _ (by show β < _; rw [a8i]; omega)
    · exact (b7B _).ref
    · exact (a4q _).ref
end
end Go.Abs
set_option linter.unusedVariables false
set_option linter.unusedSimpArgs false
namespace Go.Abs
section
variable {G L : Heap} {id w : Nat} {X : List AV}
theorem lst (h : G[id]? = some (some ⟨w, X⟩)) {j : Nat} (hj : j < X.length) {v : AV} (hf : v.fit = true) (hn : v.cells.length = w) (env : Env) : a1S w (.loc id j 0) v env (hap G L) = some (.top, env, hap (G.set id (some ⟨w, X.set j v⟩)) L) := by
  have hid := a0k h
  have hr : hrow (hap G L) id = some ⟨w, X⟩ := by rw [a6Y _ _ _ hid]; simp [hrow, h]
  simp only [a1S, hr, Option.bind_some]
  rw [if_pos ⟨hj, hf, hn, by omega⟩, a2m, b8w _ _ _ _ hid]
theorem lcpy (h : G[id]? = some (some ⟨w, X⟩)) {len : Nat} (hlen : X.length = len) {oc : Option Nat} {y : AV} {ys : List AV} (hy : a0Q (hap G L) w false y = some ys) (hyl : ys.length = len) (env : Env) :
    cpyV w (.mu id 0 len oc) y env (hap G L) = some (.int .i64 len, env, hap (G.set id (some ⟨w, ys⟩)) L) := by
  have hid := a0k h
  have hr : hrow (hap G L) id = some ⟨w, X⟩ := by rw [a6Y _ _ _ hid]; simp [hrow, h]
  simp only [cpyV, hy, hr, Option.bind_some]
  rw [if_pos ⟨trivial, by omega⟩, b8w _ _ _ _ hid]
  simp [hyl, hlen]
  rw [List.take_of_length_le (by omega), List.drop_eq_nil_of_le (by omega), List.append_nil]
end
/-- The copy as it grows. -/
def b4C (β n i w c : Nat) (oc : Option Nat) (S : Nat → Nat → AV) : Heap := some ⟨1, fr n fun a => if a < i then .mu (β + 1 + a) 0 c oc else .nil⟩ :: (List.range i).map fun j => some ⟨w, fr c (S j)⟩
theorem d9J (β n i w c : Nat) (oc : Option Nat) (S : Nat → Nat → AV) : (b4C β n i w c oc S).length = i + 1 := by simp [b4C]
theorem d8c (β n w c : Nat) (oc : Option Nat) (S : Nat → Nat → AV) : b4C β n n w c oc S = a1x β n w c oc S := by
  unfold b4C a1x orow
  rw [a4F fun a ha => by rw [if_pos ha]]
theorem d8b (H : Heap) {n i : Nat} (w c : Nat) (oc : Option Nat) (S : Nat → Nat → AV) :
    hap ((hap H (b4C (lid H 0) n i w c oc S)).set (lid H 0) (some ⟨1, (fr n fun a => if a < i then .mu (lid H 0 + 1 + a) 0 c oc else .nil).set i (.mu (lid H 0 + 1 + i) 0 c oc)⟩)) [some ⟨w, fr c (S i)⟩] = hap H (b4C (lid H 0) n (i + 1) w c oc S) := by
  have e2 : (fr n fun a => if a < i then AV.mu (lid H 0 + 1 + a) 0 c oc else .nil).set i (.mu (lid H 0 + 1 + i) 0 c oc) = fr n fun a => if a < i + 1 then .mu (lid H 0 + 1 + a) 0 c oc else .nil := by
    rw [d6k]
    refine a4F fun a _ => ?_
    by_cases h : a = i
    · subst h; rw [if_pos rfl, if_pos (by omega)]
    · rw [if_neg h]
      by_cases h2 : a < i
      · rw [if_pos h2, if_pos (by omega)]
      · rw [if_neg h2, if_neg (by omega)]
  rw [e2]
  simp only [hap, lid, Nat.add_zero]
  rw [List.set_append_right _ _ (Nat.le_refl _), Nat.sub_self]
  simp only [b4C, List.set_cons_zero, List.append_assoc, List.cons_append]
  congr 2
  rw [List.range_succ, List.map_append]; rfl
def zav (b : List (List ZI)) (j k : Nat) : AV := ((mg b j).getD k ⟨false, []⟩).av
theorem e4b (b : List (List ZI)) {i c : Nat} (hi : i < b.length) (hc : b[i].length = c) : b[i].map ZI.av = fr c (zav b i) := by
  apply List.ext_getElem?
  intro k
  simp only [fr, zav, a3T hi, List.getElem?_map]
  rcases Nat.lt_or_ge k c with h | h
  · rw [List.getElem?_range h, List.getElem?_eq_getElem (by omega)]
    simp only [Option.map_some, zav, a3T hi]
    simp [List.getD_eq_getElem?_getD, List.getElem?_eq_getElem (show k < b[i].length by omega)]
  · rw [List.getElem?_eq_none (by omega), List.getElem?_eq_none (by simp; omega)]; rfl
theorem d3f (b : List (List ZI)) {c : Nat} (hc : ∀ i, (h : i < b.length) → b[i].length = c) (hnb : b.length ≤ 2097152) (hcb : c ≤ 2097152) (H : Heap) :
    a0n Pr a9S [matV b] H fun r' H' => r' = .mu (lid H 0) 0 b.length (some b.length) ∧ H' = hap H (a1x (lid H 0) b.length 2 c (some c) (zav b)) := by
  refine a0n.introH c6u c6s (Nat.le_of_ble_eq_true rfl) fun hH => ?_
  refine Safe.rg rfl ?_
  simp only [b3R, E3, seval]
  refine Safe.rg rfl ?_
  simp only [b3Q, E3, seval]
  have hmk : ∀ env : Env, c4Y 1 24 .nil (.int .i64 b.length) (.int .i64 b.length) env (hap H []) = some (.mu (lid H 0) 0 b.length (some b.length), env, hap H (b4C (lid H 0) b.length 0 2 c (some c) (zav b))) := by
    intro env
    simp only [c4Y]
    rw [if_pos ⟨by decide, by omega, by omega, by omega, by omega⟩]
    simp only [Int.toNat_natCast, c5o, List.length_nil, b9w, List.nil_append]
    have : List.replicate b.length AV.nil = fr b.length fun a => if a < 0 then .mu (lid H 0 + 1 + a) 0 c (some c) else .nil := by
      apply List.ext_getElem?
      intro j
      simp only [fr, List.getElem?_map, List.getElem?_replicate]
      rcases Nat.lt_or_ge j b.length with h | h
      · rw [List.getElem?_range h]; simp [h]
      · rw [List.getElem?_eq_none (by simpa using h), if_neg (by omega)]; rfl
    rw [this]; rfl
  simp only [hmk, E3, seval]
  refine Safe.rg rfl ?_
  simp only [b3P, E3, seval]
  refine Safe.lp rfl ?_
  refine Safe.keep [0, 3, 9, 10, 11] ?_
  try simp only [E3, seval]
  refine Safe.loopN (b.length) (fun i => [(0, matV b), (3, .mu (lid H 0) 0 b.length (some b.length)), (9, matV b), (10, .int .i64 b.length), (11, .int .i64 i)]) (fun i => hap H (b4C (lid H 0) b.length i 2 c (some c) (zav b))) rfl rfl (fun i hi ih => ?_) ?_
  · have hlt : ((i : Int) < (b.length : Int)) = True := eq_true (by omega)
    have hbc := hc i hi
    have hiw : IntKind.wrap .i64 ((i : Int) + 1) = ((i + 1 : Nat) : Int) := by rw [a0a] <;> omega
    refine Safe.inLoop ?_
    refine Safe.rg rfl ?_
    simp only [a7F, hlt, E3, seval]
    refine Safe.cd rfl ?_
    simp only [E3, seval]
    refine Safe.rg rfl ?_
    simp only [b3O, a1Y _ b _ i hi, E3, seval]
    have hG0 : (hap H (b4C (lid H 0) b.length i 2 c (some c) (zav b)))[lid H 0]? = some (some ⟨1, fr b.length fun a => if a < i then .mu (lid H 0 + 1 + a) 0 c (some c) else .nil⟩) := by
      simp only [hap, lid]; rw [List.getElem?_append_right (by omega)]; simp [b4C, lid]
    have hGl : (hap H (b4C (lid H 0) b.length i 2 c (some c) (zav b))).length = lid H 0 + 1 + i := by simp [hap, lid, d9J]; omega
    have hsucc := d8b H (n := b.length) (i := i) 2 c (some c) (zav b)
    rw [← a1U (hap H (b4C (lid H 0) b.length i 2 c (some c) (zav b)))]
    generalize hap H (b4C (lid H 0) b.length i 2 c (some c) (zav b)) = G at *
    have hlG : lid G 0 = lid H 0 + 1 + i := hGl
    have hmk2 : ∀ env : Env, c4Y 2 32 (.agg [.bool false, .nil]) (.int .i64 c) (.int .i64 c) env (hap G []) = some (.mu (lid G 0) 0 c (some c), env, hap G [some ⟨2, List.replicate c (.agg [.bool false, .nil])⟩]) := by
      intro env
      simp only [c4Y]
      rw [if_pos ⟨by decide, by omega, by omega, by omega, by omega⟩]
      simp only [Int.toNat_natCast, c5o, List.length_nil, b9w, List.nil_append]
    have e1 : lid H 0 + 1 + i = lid G 0 := hlG.symm
    rw [e1] at hsucc
    have hXl : (fr b.length fun a => if a < i then AV.mu (lid H 0 + 1 + a) 0 c (some c) else .nil).length = b.length := b7G _ _
    generalize (fr b.length fun a => if a < i then AV.mu (lid H 0 + 1 + a) 0 c (some c) else .nil) = X at *
    refine Safe.rg rfl ?_
    simp only [b3N, hbc, hmk2, lidx hG0 rfl (some b.length) .i64 hi, E3, seval]
    rw [lst hG0 (by omega) rfl rfl]
    simp only [E3, seval]
    rw [← a1U (hap (G.set _ _) _)]
    have h2a : (hap (G.set (lid H 0) (some ⟨1, X.set i (.mu (lid G 0) 0 c (some c))⟩)) [some ⟨2, List.replicate c (.agg [.bool false, .nil])⟩])[lid H 0]? = some (some ⟨1, X.set i (.mu (lid G 0) 0 c (some c))⟩) := by
      simp only [hap]
      rw [List.getElem?_append_left (by rw [List.length_set]; omega), List.getElem?_set]
      simp; omega
    have h2b : (hap (G.set (lid H 0) (some ⟨1, X.set i (.mu (lid G 0) 0 c (some c))⟩)) [some ⟨2, List.replicate c (.agg [.bool false, .nil])⟩])[lid G 0]? = some (some ⟨2, List.replicate c (.agg [.bool false, .nil])⟩) := by
      simp only [hap, lid, Nat.add_zero]
      rw [List.getElem?_append_right (by simp)]; simp
    have h2c : (hap (G.set (lid H 0) (some ⟨1, X.set i (.mu (lid G 0) 0 c (some c))⟩)) [some ⟨2, List.replicate c (.agg [.bool false, .nil])⟩]).set (lid G 0) (some ⟨2, b[i].map ZI.av⟩) = hap H (b4C (lid H 0) b.length (i + 1) 2 c (some c) (zav b)) := by
      rw [← hsucc, e4b b hi hbc]
      simp only [hap, lid, Nat.add_zero]
      rw [List.set_append_right _ _ (by simp)]
      simp
    generalize hap (G.set (lid H 0) (some ⟨1, X.set i (.mu (lid G 0) 0 c (some c))⟩)) [some ⟨2, List.replicate c (.agg [.bool false, .nil])⟩] = G2 at *
    have hxi : (X.set i (AV.mu (lid G 0) 0 c (some c))).getD i .top = .mu (lid G 0) 0 c (some c) := by
      simp [List.getD_eq_getElem?_getD, hXl, hi]
    refine Safe.rg rfl ?_
    simp only [b3M, lidx h2a rfl (some b.length) .i64 hi, lat h2a (show i < (X.set i (AV.mu (lid G 0) 0 c (some c))).length by rw [List.length_set]; omega), hxi, E3, seval]
    rw [lcpy h2b (by simp) (show a0Q (hap G2 []) 2 false (vecV b[i]) = some (b[i].map ZI.av) by simp [a0Q, vecV]) (by simpa using hbc), h2c, a1U]
    simp only [E3, seval]
    refine Safe.rg rfl ?_
    simp only [b3L, hiw, E3, seval]
    refine Safe.keep [0, 3, 9, 10, 11] ?_
    simp only [E3, seval]
    exact ih
  · refine Safe.inLoop ?_
    refine Safe.rg rfl ?_
    simp only [a7F, Int.lt_irrefl, E3, seval]
    refine Safe.cd rfl ?_
    simp only [E3, seval]
    refine Safe.rg rfl ?_
    simp only [b3K, E3, seval]
    refine Safe.rt rfl ?_
    simp only [E3, seval]
    rw [d8c]
end Go.Abs
set_option linter.unusedVariables false
set_option linter.unusedSimpArgs false
namespace Go.Abs
/-- A matrix's logical entries: whole numbers. -/
structure Lz (n c K : Nat) (π : Nat → Nat) (S : Nat → Nat → AV) (f : Nat → Nat → Int) : Prop where
  lt : ∀ a, a < n → π a < n
  inj : ∀ a b, a < n → b < n → π a = π b → a = b
  at_ : ∀ a b, a < n → b < c → ∃ x : ZI, S (π a) b = x.av ∧ x.z = f a b ∧ Zok K x
  cl : ∀ a b, Cl (S a b)
theorem Lz.swap {n c K : Nat} {π : Nat → Nat} {S : Nat → Nat → AV} {f : Nat → Nat → Int} (h : Lz n c K π S f) {p r : Nat} (hp : p < n) (hr : r < n) : Lz n c K (swp π p r) S fun a b => if a = p then f r b else if a = r then f p b else f a b := by
  have h0 : Lk n c π S fun a b => S (π a) b := ⟨h.lt, h.inj, fun _ _ _ _ => rfl, h.cl⟩
  have hs := Lk.swap (f := fun x : AV => x) h0 hp hr
  refine ⟨hs.lt, hs.inj, fun a b ha hb => ?_, h.cl⟩
  unfold swp
  split
  · exact h.at_ r b hr hb
  · split
    · exact h.at_ p b hp hb
    · exact h.at_ a b ha hb
/-- Row j from a place on told anew. -/
def a8w (S : Nat → Nat → AV) (j : Nat) (f : Nat → AV) (t : Nat) : Nat → Nat → AV := fun a b => if a = j ∧ t ≤ b then f b else S a b
theorem c8D {S : Nat → Nat → AV} {j : Nat} {f : Nat → AV} {t b : Nat} (h : b < t) : a8w S j f t j b = S j b := by simp [a8w]; omega
theorem c8C {S : Nat → Nat → AV} {j a : Nat} {f : Nat → AV} {t b : Nat} (h : a ≠ j) : a8w S j f t a b = S a b := by simp [a8w, h]
theorem d6V (S : Nat → Nat → AV) (j : Nat) (f : Nat → AV) (t : Nat) : upd2 (a8w S j f (t + 1)) j t (f t) = a8w S j f t := by
  funext a b
  unfold upd2 a8w
  by_cases h1 : a = j
  · subst h1
    by_cases h2 : b = t
    · subst h2; simp
    · by_cases h3 : t + 1 ≤ b
      · rw [if_pos rfl, if_neg h2, if_pos ⟨rfl, h3⟩, if_pos ⟨rfl, by omega⟩]
      · rw [if_pos rfl, if_neg h2, if_neg (by omega), if_neg (by omega)]
  · rw [if_neg h1, if_neg (by omega), if_neg (by omega)]
theorem d5v {S : Nat → Nat → AV} {j : Nat} {f : Nat → AV} {t : Nat} (hS : ∀ a b, Cl (S a b)) (hf : ∀ b, Cl (f b)) : ∀ a b, Cl (a8w S j f t a b) := by
  intro a b; unfold a8w; split
  · exact hf b
  · exact hS a b
theorem c3X {q : Rat} {z : Int} (h : q = z) : q.num = z ∧ (q.num : Rat) = q := by subst h; exact ⟨rfl, rfl⟩
section
variable {n c e K : Nat} (b : List (List ZI)) (B : Nat → Nat → Rat)
/-- The last head as a whole number. -/
def b4I (n : Nat) (B : Nat → Nat → Rat) (t : Nat) : Int := (gproc n B t).last.num
def ZgI (n : Nat) (B : Nat → Nat → Rat) (t a k : Nat) : Int := (Zg (gproc n B t) a k).num
section
variable (hB : Bd e B) (hn : n ≤ 64)
include hB hn
theorem d5Y (t : Nat) : (b4I n B t : Rat) = (gproc n B t).last ∧ (b4I n B t).natAbs ≤ LB ^ KB e := by
  obtain ⟨z, hz, hz1⟩ := b3f hB t (.inl hn)
  obtain ⟨h1, h2⟩ := c3X hz
  exact ⟨h2, by unfold b4I; rw [h1]; exact hz1⟩
theorem d6C (t : Nat) {a : Nat} (k : Nat) (ha : a < n) : (ZgI n B t a k : Rat) = Zg (gproc n B t) a k ∧ (ZgI n B t a k).natAbs ≤ LB ^ KB e := by
  obtain ⟨z, hz, hz1⟩ := e3q hB hn t k ha
  obtain ⟨h1, h2⟩ := c3X hz
  exact ⟨h2, by unfold ZgI; rw [h1]; exact hz1⟩
omit hB hn in
theorem b2m (t : Nat) {a : Nat} (k : Nat) {z : Int} (h : (z : Rat) = Zg (gproc n B t) a k) : z = ZgI n B t a k := by
  unfold ZgI; rw [← h]; rfl
end
def bScp : ACode := .seq (.region a6u false) (.seq (.region a6t false) (.seq (.region a6s false) (.seq (.label 0) (.seq (.seq (.region a6r false) (.block 0 (.loop a6v))) (.seq (.region a3b true) (.ret))))))
theorem c5y {H X : Heap} (hH : a0E H) (hX : ∀ b, some b ∈ X → ∀ a ∈ b.flat, Cl a) : a0E (hap H X) := by
  intro id b hb a ha
  have hlen : (hap H X).length = H.length + X.length := by simp [hap]
  simp only [hap] at hb
  rcases Nat.lt_or_ge id H.length with h1 | h1
  · rw [List.getElem?_append_left h1] at hb
    exact (hH id b hb a ha).mono fun i hi => by have : i < H.length := hi; show i < _; omega
  · rw [List.getElem?_append_right h1] at hb
    exact (hX b (List.mem_of_getElem? hb) a ha).ref
/-- What bareiss hands out. -/
def c3c (H : Heap) (n c e : Nat) (B : Nat → Nat → Rat) (r' : AV) (H' : Heap) : Prop := ∃ β π S L lx, Lz n c (KB e + 1) π S (ZgI n B c) ∧ H.length ≤ β ∧ β + n < (hap H L).length ∧ H' = hM (hap H L) β n 2 c (some c) π S ∧ a0E H' ∧
      ZI.z lx = b4I n B c ∧ Zok (KB e + 1) lx ∧ r' = .tup [.mu β 0 n (some n), hsV (gproc n B c).cs, lx.av, .bool (gproc n B c).odd]
theorem b8l (hb : ∀ i, (h : i < b.length) → b[i].length = c) (hBb : ∀ a k, B a k = (zg (mg b a) k : Int)) (hm : Mok e b) (hB : Bd e B) (hn : b.length = n) (hn64 : n ≤ 64) (hc : c ≤ 2097152) (hK : KB e + 1 < 1099511627776) (H : Heap) :
    a0n Pr a2X [matV b, .int .i64 c] H (c3c H n c e B) := by
  refine a0n.introH c5M c5J (Nat.le_of_ble_eq_true rfl) fun hH => ?_
  have hBi : ∀ i k, ∃ z : Int, B i k = z := fun i k => by obtain ⟨z, h, _⟩ := hB i k; exact ⟨z, h⟩
  refine Safe.rg rfl ?_
  simp only [b1E, E3, seval]
  refine Safe.rg rfl ?_
  simp only [a6u, E3, seval]
  refine (d3f b hb (by omega) hc (hap H [some ⟨2, [.agg [.bool false, .nil]]⟩])).mono ?_
  rintro r' H' ⟨rfl, rfl⟩
  simp only [E3, seval]
  have e0 : lid (hap H [some ⟨2, [.agg [.bool false, .nil]]⟩]) 0 = lid H 1 := by simp [hap, lid]
  rw [e0, a2Y, hn]
  have hX : ∀ x, some x ∈ [some (Blk.mk 2 [.agg [.bool false, .nil]])] → ∀ a ∈ x.flat, Cl a := RC.zero RC.nil
  have hS0 : ∀ j k, Cl (zav b j k) := fun _ _ => ZI.cl _
  have hGr : a0E (hap H ([some ⟨2, [.agg [.bool false, .nil]]⟩] ++ a1x (lid H 1) n 2 c (some c) (zav b))) := b2b hH hX fun j k _ _ => hS0 j k
  have hGm : hM (hap H ([some ⟨2, [.agg [.bool false, .nil]]⟩] ++ a1x (lid H 1) n 2 c (some c) (zav b))) (lid H 1) n 2 c (some c) (fun i => i) (zav b) = hap H ([some ⟨2, [.agg [.bool false, .nil]]⟩] ++ a1x (lid H 1) n 2 c (some c) (zav b)) := d4Z H [some ⟨2, [.agg [.bool false, .nil]]⟩] n 2 c (some c) (zav b)
  have hG : lid H 1 + n < (hap H ([some ⟨2, [.agg [.bool false, .nil]]⟩] ++ a1x (lid H 1) n 2 c (some c) (zav b))).length := c2U H [some ⟨2, [.agg [.bool false, .nil]]⟩] n 2 c (some c) (zav b)
  have hbox : (hap H ([some ⟨2, [.agg [.bool false, .nil]]⟩] ++ a1x (lid H 1) n 2 c (some c) (zav b)))[lid H 0]? = some (some ⟨2, [.agg [.bool false, .nil]]⟩) := by
    simp only [hap, lid, Nat.add_zero]
    rw [List.getElem?_append_right (Nat.le_refl _)]; simp
  have hGH : ∃ L0, hap H ([some ⟨2, [.agg [.bool false, .nil]]⟩] ++ a1x (lid H 1) n 2 c (some c) (zav b)) = hap H L0 := ⟨_, rfl⟩
  rw [← hGm] at hGr
  rw [← hGm, ← a1U (hM _ _ _ _ _ _ _ _)]
  clear hGm
  generalize hap H ([some ⟨2, [.agg [.bool false, .nil]]⟩] ++ a1x (lid H 1) n 2 c (some c) (zav b)) = G at *
  have hb01 : lid H 0 < lid H 1 := by simp [lid]
  have hb0 : H.length ≤ lid H 1 := a1v H 1
  have hb00 : H.length ≤ lid H 0 := a1v H 0
  have hbl : lid H 0 = H.length := by simp [lid]
  generalize lid H 1 = β at *
  generalize lid H 0 = b0 at *
  have hHn : H.length ≤ G.length := by omega
  refine Safe.rg rfl ?_
  simp only [a6t, E3, seval]
  refine Safe.nilrow 9 1 (by decide) (by simp only [E3, seval]) ?_
  refine Safe.rg rfl ?_
  simp only [a6s, a1u, a0x, a0H, a0I, E3, seval]
  first | refine (b1T 1 (by decide) (by decide)).acall ?_ | refine (b1T 1 (by decide) (by decide)).dcall ?_
  try simp only [E3, seval]
  simp only [a1u, a0x, a0H, a0I, E3, seval]
  refine Safe.rg rfl ?_
  simp only [a6r, a1u, a0x, a0H, a0I, E3, seval]
  refine Safe.lp rfl ?_
  refine Safe.keep [6, 8, 9, 10, 11, 21, 22] ?_
  simp only [a1u, a0x, a0H, a0I, E3, seval]
  have hlast0 : b4I n B 0 = 1 := by unfold b4I; rfl
  refine Safe.loopW (α := Nat × (Nat → Nat) × (Nat → Nat → AV) × ZI) (fun s => c - s.1)
    (fun s => [(6, .loc b0 0 0), (8, .mu β 0 n (some n)), (9, .mu (lid G 0) 0 (gproc n B s.1).cs.length none), (10, .loc (lid G 1) 0 0), (11, .bool (gproc n B s.1).odd), (21, .int .i64 c), (22, .int .i64 s.1)])
    (fun s => hap (hM G β n 2 c (some c) s.2.1 s.2.2.1) [some ⟨1, (gproc n B s.1).cs.map intV⟩, some ⟨2, [s.2.2.2.av]⟩])
    (fun s => s.1 ≤ c ∧ Lz n c (KB e + 1) s.2.1 s.2.2.1 (ZgI n B s.1) ∧ s.2.2.2.z = b4I n B s.1 ∧ Zok (KB e + 1) s.2.2.2) (0, fun i => i, zav b, canZ 1) rfl rfl
    ⟨Nat.zero_le _, ⟨fun a h => h, fun _ _ _ _ h => h, fun a k ha hk => ?_, hS0⟩, by rw [hlast0]; exact a0p 1, a0l (e3K _)⟩ ?_
  · refine ⟨(mg b a).getD k ⟨false, []⟩, rfl, ?_, ?_⟩
    · refine b2m B 0 k (a := a) ?_
      show ((zg (mg b a) k : Int) : Rat) = Zg (gproc n B 0) a k
      rw [e1e k (Nat.zero_le _)]
      show ((zg (mg b a) k : Int) : Rat) = a4n B [] * a1F B [] a k
      rw [d9X, b7D, hBb]; grind
    · have hr := hm.row a
      have hl : (mg b a).length = c := by rw [a3T (by omega)]; exact hb a (by omega)
      rw [List.getD_eq_getElem?_getD, List.getElem?_eq_getElem (by omega)]
      exact (hr.get (by omega)).mono (by unfold KB; omega)
  rintro ⟨t, π, S1, lx⟩ ⟨ht, hL, hlz, hlk⟩ ih
  simp only at ht hL hlz hlk ih ⊢
  have hok := a2Z (n := n) hBi t
  have hrn := hok.len
  have hHr : ∀ {K : Nat} {π' : Nat → Nat} {S' : Nat → Nat → AV} {F : Nat → Nat → Int}, Lz n c K π' S' F → a0E (hM G β n 2 c (some c) π' S') := fun h => c5z hG hGr h.lt fun a b _ _ => h.cl a b
  have htlt : t < 9223372036854775807 := by omega
  have htw : IntKind.wrap .i64 ((t : Int) + 1) = ((t + 1 : Nat) : Int) := by rw [a0a] <;> omega
  refine Safe.inLoop ?_
  by_cases htc : t < c
  · have hlt : ((t : Int) < (c : Int)) = True := eq_true (by omega)
    refine Safe.rg rfl ?_
    simp only [a6q, hlt, E3, seval]
    refine Safe.cd rfl ?_
    simp only [E3, seval]
    refine Safe.rg rfl ?_
    simp only [b1D, E3, seval]
    refine Safe.rg rfl ?_
    simp only [b1C, a1u, a0x, a0H, a0I, E3, seval]
    refine Safe.rg rfl ?_
    simp only [b1B, E3, seval]
    have entry : ∀ q, q < n → ∃ x : ZI, S1 (π q) t = x.av ∧ x.z = ZgI n B t q t ∧ Zok (KB e + 1) x := fun q hq => hL.at_ q t hq htc
    have hzg : ∀ q k, (gproc n B t).cs.length ≤ q → q < n → (ZgI n B t q k : Rat) = (gproc n B t).last * (gproc n B t).g q k := fun q k h1 h2 => by
      rw [(d6C B hB hn64 t k h2).1, e1e k h1]
    have hlne : (gproc n B t).last ≠ 0 := a6X hok.piv
    have hz0 : ∀ q, (gproc n B t).cs.length ≤ q → q < n → (ZgI n B t q t = 0 ↔ (gproc n B t).g q t = 0) := fun q h1 h2 => by
      have h := hzg q t h1 h2
      constructor
      · intro h0; rw [h0] at h
        have : (gproc n B t).last * (gproc n B t).g q t = 0 := by rw [← h]; rfl
        rcases Rat.mul_eq_zero.1 this with h | h
        · exact absurd h hlne
        · exact h
      · intro h0; rw [h0, Rat.mul_zero] at h
        exact Rat.intCast_inj.1 (by rw [h]; rfl)
    rcases a0V (fun p => (gproc n B t).g p t) (gproc n B t).cs.length n with ⟨p, hf, h1, h2, h3, h4⟩ | ⟨hf, h4⟩
    · have hcs : (gproc n B (t + 1)).cs = (gproc n B t).cs ++ [t] := by
        show (b0B n (gproc n B t) t).cs = _
        rw [a0J hf]
      have hodd : (gproc n B (t + 1)).odd = if p = (gproc n B t).cs.length then (gproc n B t).odd else !(gproc n B t).odd := by
        show (b0B n (gproc n B t) t).odd = _
        rw [a0J hf]
      have hr : (gproc n B t).cs.length < n := by omega
      obtain ⟨hlq, hlb⟩ := d5Y B hB hn64 t
      obtain ⟨hlq1, hlb1⟩ := d5Y B hB hn64 (t + 1)
      have hls := d9W hf h1 hok
      have hgz := d2O (n := n) hBi t
      have hgz1 := d2O (n := n) hBi (t + 1)
      have hZab : ∀ a k, a < (gproc n B t).cs.length → ZgI n B (t + 1) a k = ZgI n B t a k := fun a k ha => by unfold ZgI; rw [e3r hf h1 k ha]
      have hZhd : ∀ k, ZgI n B (t + 1) (gproc n B t).cs.length k = ZgI n B t p k := fun k => by
        refine (b2m B (t + 1) k ?_).symm
        rw [hzg p k h1 h2, e5Q hf h1 k]
      have hZpt : (ZgI n B t p t : Rat) = (gproc n B t).last * (gproc n B t).g p t := hzg p t h1 h2
      have hlast1 : ZgI n B t p t = b4I n B (t + 1) := Rat.intCast_inj.1 (by rw [hZpt, hlq1, hls])
      have hl0 : b4I n B t ≠ 0 := fun h => hlne (by rw [← hlq, h]; rfl)
      -- the new rows below
      have hrows : ∀ i k, (gproc n B t).cs.length < i → i < n → ZgI n B t p t * ZgI n B t (if i = p then (gproc n B t).cs.length else i) k - ZgI n B t (if i = p then (gproc n B t).cs.length else i) t * ZgI n B t p k = b4I n B t * ZgI n B (t + 1) i k := by
        intro i k hi hin
        have hσ1 : (gproc n B t).cs.length ≤ (if i = p then (gproc n B t).cs.length else i) := by split <;> omega
        have hσ2 : (if i = p then (gproc n B t).cs.length else i) < n := by split <;> omega
        obtain ⟨z, hz1, hz2⟩ := d0q hok (p := p) (c := t) (i := i) (k := k) h1 h3 hi hlq (hzg p t h1 h2) (hzg _ k hσ1 hσ2) (hzg _ t hσ1 hσ2) (hzg p k h1 h2)
        have : z = ZgI n B (t + 1) i k := by
          refine b2m B (t + 1) k ?_
          rw [hz2, d6B hf k hi, hls]
          have e : gproc n B (t + 1) = _ := a0J hf
          rw [e]; rfl
        rw [← this]; exact hz1
      have hzero : ∀ i k, (gproc n B t).cs.length < i → i < n → k < t → ZgI n B t (if i = p then (gproc n B t).cs.length else i) k = ZgI n B (t + 1) i k := by
        intro i k hi hin hk
        have hσ1 : (gproc n B t).cs.length ≤ (if i = p then (gproc n B t).cs.length else i) := by split <;> omega
        have hσ2 : (if i = p then (gproc n B t).cs.length else i) < n := by split <;> omega
        refine b2m B (t + 1) k ?_
        rw [hzg _ k hσ1 hσ2, hgz _ k hσ1 hσ2 hk, d6B hf k hi, hgz1 i k (by rw [hcs, a1E]; omega) hin (by omega)]
        grind
      have hZb : ∀ a k, a < n → (ZgI n B (t + 1) a k).natAbs < LB ^ (KB e + 1) := fun a k ha => by
        have h1 := (d6C B hB hn64 (t + 1) k ha).2
        have : LB ^ KB e < LB ^ (KB e + 1) := Nat.pow_lt_pow_right (by decide) (by omega)
        omega
      clear hlq hlq1 hls hgz hgz1 hzg
      generalize hcsl : (gproc n B t).cs.length = r at *
      let f0 : Nat → Nat → Int := fun a k => if a = p then ZgI n B t r k else if a = r then ZgI n B t p k else ZgI n B t a k
      have hf0r : ∀ k, f0 r k = ZgI n B t p k := fun k => by
        show (if r = p then ZgI n B t r k else if r = r then ZgI n B t p k else ZgI n B t r k) = _
        split
        · rename_i h; rw [h]
        · rw [if_pos rfl]
      have hf0i : ∀ i k, r < i → f0 i k = ZgI n B t (if i = p then r else i) k := fun i k hi => by
        show (if i = p then ZgI n B t r k else if i = r then ZgI n B t p k else ZgI n B t i k) = _
        split
        · rfl
        · rw [if_neg (by omega)]
      have hf0a : ∀ a k, a < r → f0 a k = ZgI n B t a k := fun a k ha => by
        show (if a = p then ZgI n B t r k else if a = r then ZgI n B t p k else ZgI n B t a k) = _
        rw [if_neg (by omega), if_neg (by omega)]
      have main : ∀ π', Lz n c (KB e + 1) π' S1 f0 → Safe ⟨Pr, fun _ _ => false, a2X, 147, [.tmp 4, .tmp 5, .cell 6 (some 2), .tmp 7], H.length⟩
          [.code (((ACode.region a5j false).seq (.block 4 (.loop b1F))).seq ((ACode.region a5g false).seq (.region a5f false))),
            .inBlock 1, .code (.region a3c false), .inLoop a6v, .inBlock 0, .code ((ACode.region a3b true).seq .ret), .inScope bScp]
          [(6, .loc b0 0 0), (8, .mu β 0 n (some n)), (9, .mu (lid G 0) 0 r none), (10, .loc (lid G 1) 0 0), (11, .bool (gproc n B (t + 1)).odd), (12, .int .i64 t), (13, .int .i64 r), (21, .int .i64 c), (22, .int .i64 t)]
          (hap (hM G β n 2 c (some c) π' S1) [some ⟨1, (gproc n B t).cs.map intV⟩, some ⟨2, [lx.av]⟩]) (c3c H n c e B) := by
        intro π' hL'
        have hpr := hL'.lt r hr
        have hrw2 : IntKind.wrap .i64 ((r : Int) + 1) = ((r + 1 : Nat) : Int) := by rw [a0a] <;> omega
        refine Safe.rg rfl ?_
        simp only [a5j, hrw2, E3, seval]
        refine Safe.lp rfl ?_
        refine Safe.keep [6, 8, 9, 10, 11, 12, 13, 15, 21, 22] ?_
        try simp only [E3, seval]
        refine Safe.loopW (α := Nat × (Nat → Nat → AV)) (fun s => n - s.1)
          (fun s => [(6, .loc b0 0 0), (8, .mu β 0 n (some n)), (9, .mu (lid G 0) 0 r none), (10, .loc (lid G 1) 0 0), (11, .bool (gproc n B (t + 1)).odd), (12, .int .i64 t), (13, .int .i64 r), (15, .int .i64 s.1), (21, .int .i64 c), (22, .int .i64 t)])
          (fun s => hap (hM G β n 2 c (some c) π' s.2) [some ⟨1, (gproc n B t).cs.map intV⟩, some ⟨2, [lx.av]⟩])
          (fun s => r < s.1 ∧ s.1 ≤ n ∧ Lz n c (KB e + 1) π' s.2 (fun a k => if r < a ∧ a < s.1 then ZgI n B (t + 1) a k else f0 a k)) (r + 1, S1) rfl rfl
          ⟨Nat.lt_succ_self r, hr, hL'.lt, hL'.inj, fun a k ha hk => ?_, hL'.cl⟩ ?_
        · have := hL'.at_ a k ha hk
          show ∃ x : ZI, S1 (π' a) k = x.av ∧ x.z = (if r < a ∧ a < r + 1 then ZgI n B (t + 1) a k else f0 a k) ∧ Zok (KB e + 1) x
          rw [if_neg (by omega)]; exact this
        rintro ⟨i, S2⟩ ⟨hri, hin, hL2⟩ ih2
        simp only at hri hin hL2 ih2 ⊢
        refine Safe.inLoop ?_
        by_cases hi : i < n
        · have hlt2 : ((i : Int) < (n : Int)) = True := eq_true (by omega)
          have hiw : IntKind.wrap .i64 ((i : Int) + 1) = ((i + 1 : Nat) : Int) := by rw [a0a] <;> omega
          have hcw : IntKind.wrap .i64 ((c : Int) - 1) = (c : Int) - 1 := a0a (by omega) (by omega)
          have hpi := hL2.lt i hi
          have hne : π' r ≠ π' i := fun h => by have := hL2.inj _ _ hr hi h; omega
          refine Safe.rg rfl ?_
          simp only [a5i, b2q hG, hlt2, E3, seval]
          refine Safe.cd rfl ?_
          simp only [E3, seval]
          refine Safe.rg rfl ?_
          simp only [b0w, a4r hG hi, M_at hG hi, e1j hG hpi, hcw, E3, seval]
          refine Safe.lp rfl ?_
          refine Safe.keep [6, 8, 9, 10, 11, 12, 13, 15, 16, 21, 22] ?_
          try simp only [E3, seval]
          refine Safe.loopD (c - t) (fun m => [(6, .loc b0 0 0), (8, .mu β 0 n (some n)), (9, .mu (lid G 0) 0 r none), (10, .loc (lid G 1) 0 0), (11, .bool (gproc n B (t + 1)).odd), (12, .int .i64 t), (13, .int .i64 r), (15, .int .i64 i), (16, .int .i64 (((t + m : Nat) : Int) - 1)), (21, .int .i64 c), (22, .int .i64 t)])
            (fun m => hap (hM G β n 2 c (some c) π' (a8w S2 (π' i) (fun k => Z (ZgI n B (t + 1) i k)) (t + m))) [some ⟨1, (gproc n B t).cs.map intV⟩, some ⟨2, [lx.av]⟩]) ?_ ?_ (fun m hm ihm => ?_) ?_
          · rw [show t + (c - t) = c by omega]
          · rw [show t + (c - t) = c by omega]
            refine congrArg (fun x => hap x _) (e2s fun j k hj hk => ?_)
            unfold a8w; rw [if_neg (by omega)]
          · have hkc : t + m < c := by omega
            have e1 : (((t + (m + 1) : Nat) : Int) - 1) = ((t + m : Nat) : Int) := by omega
            rw [e1]
            have hge : (((t + m : Nat) : Int) ≥ (t : Int)) = True := eq_true (by omega)
            have hkw : IntKind.wrap .i64 (((t + m : Nat) : Int) - 1) = ((t + m : Nat) : Int) - 1 := a0a (by omega) (by omega)
            obtain ⟨x1, hx1, hz1, hk1⟩ := hL2.at_ r t hr htc
            obtain ⟨x2, hx2, hz2, hk2⟩ := hL2.at_ i (t + m) hi hkc
            obtain ⟨x3, hx3, hz3, hk3⟩ := hL2.at_ i t hi htc
            obtain ⟨x4, hx4, hz4, hk4⟩ := hL2.at_ r (t + m) hr hkc
            rw [if_neg (by omega), hf0r] at hz1 hz4
            rw [if_neg (by omega), hf0i i _ hri] at hz2 hz3
            have hex := hrows i (t + m) hri hi
            rw [← hz1, ← hz2, ← hz3, ← hz4, ← hlz] at hex
            have v1 : a8w S2 (π' i) (fun k => Z (ZgI n B (t + 1) i k)) (t + (m + 1)) (π' r) t = x1.av := by rw [c8C hne]; exact hx1
            have v2 : a8w S2 (π' i) (fun k => Z (ZgI n B (t + 1) i k)) (t + (m + 1)) (π' i) (t + m) = x2.av := by rw [c8D (by omega)]; exact hx2
            have v3 : a8w S2 (π' i) (fun k => Z (ZgI n B (t + 1) i k)) (t + (m + 1)) (π' i) t = x3.av := by rw [c8D (by omega)]; exact hx3
            have v4 : a8w S2 (π' i) (fun k => Z (ZgI n B (t + 1) i k)) (t + (m + 1)) (π' r) (t + m) = x4.av := by rw [c8C hne]; exact hx4
            have hstep := d6V S2 (π' i) (fun k => Z (ZgI n B (t + 1) i k)) (t + m)
            have hclS : ∀ a b, Cl (a8w S2 (π' i) (fun k => Z (ZgI n B (t + 1) i k)) (t + m) a b) := d5v hL2.cl fun _ => Z_cl _
            have hm1 := a4l hk1.abs hk2.abs
            have hm2 := a4l hk3.abs hk4.abs
            have hs1 := e4f hm1 hm2
            rw [show t + (m + 1) = t + m + 1 by omega] at v1 v2 v3 v4 ⊢
            generalize a8w S2 (π' i) (fun k => Z (ZgI n B (t + 1) i k)) (t + m + 1) = St at *
            refine Safe.inLoop ?_
            refine Safe.rg rfl ?_
            simp only [a5h, hge, E3, seval]
            refine Safe.cd rfl ?_
            simp only [E3, seval]
            refine Safe.rg rfl ?_
            simp only [b0v, a1u, a0x, a0H, a0I, a4r hG hr, M_at hG hr, a4r hG hi, M_at hG hi, a6C hG hpr htc, E_at hG hpr htc, a6C hG hpi hkc, E_at hG hpi hkc, a6C hG hpi htc, E_at hG hpi htc, a6C hG hpr hkc, E_at hG hpr hkc, v1, v2, v3, v4, E3, seval]
            refine (a7M x1 x2 _ _ hk1 hk2 (by omega)).dcall ?_
            simp only [a1u, a0x, a0H, a0I, a4r hG hr, M_at hG hr, a4r hG hi, M_at hG hi, a6C hG hpi htc, E_at hG hpi htc, a6C hG hpr hkc, E_at hG hpr hkc, v3, v4, E3, seval]
            refine (a7M x3 x4 _ _ hk3 hk4 (by omega)).dcall ?_
            simp only [E3, seval]
            refine (d5r hm1 hm2 (by omega)).dcall ?_
            simp only [a1u, a0x, a0H, a0I, E3, seval]
            have hfl := a4N (canZ (x1.z * x2.z - x3.z * x4.z)) lx (KB e + 1 + (KB e + 1) + 1) (a0l hs1) (hlk.mono (by omega)) (by omega) (ZgI n B (t + 1) i (t + m)) (by rw [hlz]; exact hl0) (by rw [a0p]; exact hex)
            rw [a3h] at hfl
            refine Safe.rg rfl ?_
            simp only [b0u, a1u, a0x, a0H, a0I, a4r hG hi, M_at hG hi, a6C hG hpi hkc, E3, seval]
            refine hfl.dcall ?_
            simp only [a1u, a0x, a0H, a0I, a6C hG hpi hkc, E3, seval]
            simp only [E_st hG hpi hkc (e7l _) (show (Z _).cells.length = 2 from rfl), hstep, E3, seval]
            refine Safe.rg rfl ?_
            simp only [b0t, hkw, E3, seval]
            refine Safe.keep [6, 8, 9, 10, 11, 12, 13, 15, 16, 21, 22] ?_
            simp only [E3, seval]
            have hnb2 : nref (lid G 2) (.mu β 0 n (some n)) = true := a7v (by unfold lid; omega)
            have hnb3 : nref (lid G 2) (.loc b0 0 0) = true := a0B.2 (.loc _ _ _ (by show b0 ≠ _; unfold lid; omega))
            refine Safe.dropM [some ⟨1, (gproc n B t).cs.map intV⟩, some ⟨2, [lx.av]⟩] (c5z hG hGr hL'.lt fun a b _ _ => hclS a b) (by show H.length ≤ _; exact hHn) (by simp only [List.all_cons, List.all_nil, hnb2, hnb3, E3, seval]) (RC.row a9t (RC.one (ZI.cl _) RC.nil)) ?_
            exact ihm
          · have hge : ((t : Int) - 1 ≥ (t : Int)) = False := eq_false (by omega)
            refine Safe.inLoop ?_
            refine Safe.rg rfl ?_
            simp only [a5h, hge, E3, seval]
            refine Safe.cd rfl ?_
            simp only [E3, seval]
            refine Safe.rg rfl ?_
            simp only [b0s, hiw, E3, seval]
            refine Safe.keep [6, 8, 9, 10, 11, 12, 13, 15, 21, 22] ?_
            simp only [E3, seval]
            refine ih2 (i + 1, _) ⟨Nat.lt_succ_of_lt hri, hi, hL2.lt, hL2.inj, fun a k ha hk => ?_, d5v hL2.cl fun _ => Z_cl _⟩ (by show n - (i + 1) < n - i; omega)
            show ∃ x : ZI, a8w S2 (π' i) (fun k => Z (ZgI n B (t + 1) i k)) t (π' a) k = x.av ∧ x.z = (if r < a ∧ a < i + 1 then ZgI n B (t + 1) a k else f0 a k) ∧ Zok (KB e + 1) x
            by_cases hai : a = i
            · subst hai
              rw [if_pos ⟨hri, Nat.lt_succ_self a⟩]
              by_cases hkt : t ≤ k
              · refine ⟨canZ (ZgI n B (t + 1) a k), ?_, a0p _, a0l (hZb a k ha)⟩
                unfold a8w; rw [if_pos ⟨rfl, hkt⟩, a3h]
              · obtain ⟨x, hx, hz, hk'⟩ := hL2.at_ a k ha hk
                rw [if_neg (by omega), hf0i a k hri, hzero a k hri ha (by omega)] at hz
                exact ⟨x, by rw [c8D (by omega)]; exact hx, hz, hk'⟩
            · obtain ⟨x, hx, hz, hk'⟩ := hL2.at_ a k ha hk
              refine ⟨x, by rw [c8C (fun h => hai (hL2.inj _ _ ha hi h))]; exact hx, ?_, hk'⟩
              rw [hz]
              by_cases h5 : r < a ∧ a < i
              · rw [if_pos h5, if_pos ⟨h5.1, by omega⟩]
              · rw [if_neg h5, if_neg (by omega)]
        · have hin' : i = n := by omega
          subst hin'
          refine Safe.rg rfl ?_
          simp only [a5i, b2q hG, Int.lt_irrefl, E3, seval]
          refine Safe.cd rfl ?_
          simp only [E3, seval]
          have hL3 : Lz i c (KB e + 1) π' S2 (ZgI i B (t + 1)) := by
            refine ⟨hL2.lt, hL2.inj, fun a k ha hk => ?_, hL2.cl⟩
            obtain ⟨x, hx, hz, hk'⟩ := hL2.at_ a k ha hk
            refine ⟨x, hx, ?_, hk'⟩
            rw [hz]
            rcases Nat.lt_trichotomy a r with h | h | h
            · rw [if_neg (by omega), hf0a a k h, hZab a k h]
            · subst h; rw [if_neg (by omega), hf0r, hZhd]
            · rw [if_pos ⟨h, ha⟩]
          obtain ⟨x1, hx1, hz1, hk1⟩ := hL3.at_ r t hr htc
          rw [hZhd, hlast1] at hz1
          have hnb2 : nref (lid G 0) (.mu β 0 i (some i)) = true := a7v (by unfold lid; omega)
          have hnb3 : nref (lid G 0) (.loc b0 0 0) = true := a0B.2 (.loc _ _ _ (by show b0 ≠ _; unfold lid; omega))
          refine Safe.rg rfl ?_
          simp only [a5g, a1u, a0x, a0H, a0I, a4r hG hr, M_at hG hr, a6C hG hpr htc, E_at hG hpr htc, hx1, E3, seval]
          have hRC : RC [some ⟨1, (gproc i B t).cs.map intV⟩, some ⟨2, [x1.av]⟩] := RC.row a9t (RC.one (ZI.cl _) RC.nil)
          refine Safe.rg rfl ?_
          simp only [a5f, E3, seval]
          have happ := fun env : Env => d6z (hHr hL3) (L := [some ⟨1, (gproc i B t).cs.map intV⟩, some ⟨2, [x1.av]⟩]) 0 (n0 := H.length) (Nat.le_trans hHn (a1v G 0)) (env := env) (wd := 1) (bytes := 8) (f := intV) (y := .int .i64 (t : Int)) a9t (gproc i B t).cs t hcsl.symm rfl hRC rfl (by omega) (by omega)
          simp only [ZI.av] at happ
          rw [happ]
          simp only [hnb2, hnb3, List.set_cons_succ, List.set_cons_zero, E3, seval]
          refine Safe.rg rfl ?_
          simp only [a3c, htw, E3, seval]
          refine Safe.keep [6, 8, 9, 10, 11, 21, 22] ?_
          simp only [E3, seval]
          have hfin := ih (t + 1, π', S2, x1) ⟨htc, hL3, hz1, hk1⟩ (by show c - (t + 1) < c - t; omega)
          simp only [hcs, a1E, hcsl] at hfin
          exact hfin
      -- the head's row
      refine Safe.lp rfl ?_
      refine Safe.keep [6, 8, 9, 10, 11, 12, 13, 14, 21, 22] ?_
      try simp only [E3, seval]
      refine Safe.loopN (p - r) (fun j => [(6, .loc b0 0 0), (8, .mu β 0 n (some n)), (9, .mu (lid G 0) 0 r none), (10, .loc (lid G 1) 0 0), (11, .bool (gproc n B t).odd), (12, .int .i64 t), (13, .int .i64 r), (14, .int .i64 ((r + j : Nat) : Int)), (21, .int .i64 c), (22, .int .i64 t)])
        (fun _ => hap (hM G β n 2 c (some c) π S1) [some ⟨1, (gproc n B t).cs.map intV⟩, some ⟨2, [lx.av]⟩]) rfl rfl (fun j hj2 ihj => ?_) ?_
      · have hq : r + j < n := by omega
        have hlt2 : (((r + j : Nat) : Int) < (n : Int)) = True := eq_true (by omega)
        have hpq := hL.lt (r + j) hq
        have hqw : IntKind.wrap .i64 (((r + j : Nat) : Int) + 1) = ((r + (j + 1) : Nat) : Int) := by rw [a0a] <;> omega
        obtain ⟨x, v4, hxz, hxk⟩ := entry (r + j) hq
        have hz : ZgI n B t (r + j) t = 0 := (hz0 _ (by omega) hq).2 (h4 _ (by omega) (by omega))
        rw [hz] at hxz
        refine Safe.inLoop ?_
        refine Safe.rg rfl ?_
        simp only [a2v, b2q hG, hlt2, a4r hG hq, M_at hG hq, a6C hG hpq htc, E_at hG hpq htc, v4, E3, seval]
        refine (a1w x (hxk.mono (by omega))).acall ?_
        simp only [hxz, Int.sign_zero, E3, seval]
        refine Safe.cd rfl ?_
        simp only [E3, seval]
        refine Safe.rg rfl ?_
        simp only [a5m, hqw, E3, seval]
        refine Safe.keep [6, 8, 9, 10, 11, 12, 13, 14, 21, 22] ?_
        simp only [E3, seval]
        refine Safe.inBlock ?_
        exact ihj
      · have hrp : r + (p - r) = p := by omega
        rw [hrp]
        have hlt2 : ((p : Int) < (n : Int)) = True := eq_true (by omega)
        have hpq := hL.lt p h2
        obtain ⟨x, v4, hxz, hxk⟩ := entry p h2
        have hz : (x.z.sign = 0) = False := eq_false (by rw [hxz, Int.sign_eq_zero_iff_zero, hz0 p h1 h2]; exact h3)
        have hpn : ((p : Int) = (n : Int)) = False := eq_false (by omega)
        refine Safe.inLoop ?_
        refine Safe.rg rfl ?_
        simp only [a2v, b2q hG, hlt2, a4r hG h2, M_at hG h2, a6C hG hpq htc, E_at hG hpq htc, v4, E3, seval]
        refine (a1w x (hxk.mono (by omega))).acall ?_
        simp only [hz, E3, seval]
        refine Safe.cd rfl ?_
        simp only [E3, seval]
        refine Safe.rg rfl ?_
        simp only [a5l, b2q hG, hpn, E3, seval]
        refine Safe.cd rfl ?_
        simp only [E3, seval]
        by_cases hpr : p = r
        · have hpr1 : ((p : Int) = (r : Int)) = True := eq_true (by omega)
          refine Safe.rg rfl ?_
          simp only [a5k, hpr1, E3, seval]
          refine Safe.cd rfl ?_
          simp only [E3, seval]
          refine Safe.keep [6, 8, 9, 10, 11, 12, 13, 21, 22] ?_
          simp only [E3, seval]
          have hm := main π (by
            refine ⟨hL.lt, hL.inj, fun a k ha hk => ?_, hL.cl⟩
            obtain ⟨x, hx, hz, hk'⟩ := hL.at_ a k ha hk
            refine ⟨x, hx, ?_, hk'⟩
            rw [hz]
            show _ = if a = p then ZgI n B t r k else if a = r then ZgI n B t p k else ZgI n B t a k
            split
            · rename_i h; rw [h, hpr]
            · split
              · rename_i h; omega
              · rfl)
          rw [hodd, if_pos hpr] at hm
          refine Safe.skip ?_
          exact hm
        · have hpr1 : ((p : Int) = (r : Int)) = False := eq_false (by omega)
          refine Safe.rg rfl ?_
          simp only [a5k, hpr1, E3, seval]
          refine Safe.cd rfl ?_
          simp only [E3, seval]
          refine Safe.rg rfl ?_
          simp only [b0y, a4r hG h2, M_at hG h2, a4r hG hr, M_at hG hr, E3, seval]
          simp only [M_st hG h2, a4r hG hr, M_st hG hr, e3C, E3, seval]
          refine Safe.rg rfl ?_
          simp only [b0x, E3, seval]
          refine Safe.keep [6, 8, 9, 10, 11, 12, 13, 21, 22] ?_
          simp only [E3, seval]
          have hm := main (swp π p r) (Lz.swap hL h2 hr)
          rw [hodd, if_neg hpr] at hm
          exact hm
    · -- no head in this column
      have hcs : gproc n B (t + 1) = gproc n B t := a1H hf
      generalize hcsl : (gproc n B t).cs.length = r at *
      refine Safe.lp rfl ?_
      refine Safe.keep [6, 8, 9, 10, 11, 12, 13, 14, 21, 22] ?_
      try simp only [E3, seval]
      refine Safe.loopN (n - r) (fun j => [(6, .loc b0 0 0), (8, .mu β 0 n (some n)), (9, .mu (lid G 0) 0 r none), (10, .loc (lid G 1) 0 0), (11, .bool (gproc n B t).odd), (12, .int .i64 t), (13, .int .i64 r), (14, .int .i64 ((r + j : Nat) : Int)), (21, .int .i64 c), (22, .int .i64 t)])
        (fun _ => hap (hM G β n 2 c (some c) π S1) [some ⟨1, (gproc n B t).cs.map intV⟩, some ⟨2, [lx.av]⟩]) rfl rfl (fun j hj2 ihj => ?_) ?_
      · have hq : r + j < n := by omega
        have hlt2 : (((r + j : Nat) : Int) < (n : Int)) = True := eq_true (by omega)
        have hpq := hL.lt (r + j) hq
        have hqw : IntKind.wrap .i64 (((r + j : Nat) : Int) + 1) = ((r + (j + 1) : Nat) : Int) := by rw [a0a] <;> omega
        obtain ⟨x, v4, hxz, hxk⟩ := entry (r + j) hq
        have hz : ZgI n B t (r + j) t = 0 := (hz0 _ (by omega) hq).2 (h4 _ (by omega) (by omega))
        rw [hz] at hxz
        refine Safe.inLoop ?_
        refine Safe.rg rfl ?_
        simp only [a2v, b2q hG, hlt2, a4r hG hq, M_at hG hq, a6C hG hpq htc, E_at hG hpq htc, v4, E3, seval]
        refine (a1w x (hxk.mono (by omega))).acall ?_
        simp only [hxz, Int.sign_zero, E3, seval]
        refine Safe.cd rfl ?_
        simp only [E3, seval]
        refine Safe.rg rfl ?_
        simp only [a5m, hqw, E3, seval]
        refine Safe.keep [6, 8, 9, 10, 11, 12, 13, 14, 21, 22] ?_
        simp only [E3, seval]
        refine Safe.inBlock ?_
        exact ihj
      · have hrp : r + (n - r) = n := by omega
        rw [hrp]
        refine Safe.inLoop ?_
        refine Safe.rg rfl ?_
        simp only [a2v, b2q hG, Int.lt_irrefl, E3, seval]
        refine Safe.cd rfl ?_
        simp only [E3, seval]
        refine Safe.rg rfl ?_
        simp only [a5l, b2q hG, E3, seval]
        refine Safe.cd rfl ?_
        simp only [E3, seval]
        refine Safe.rg rfl ?_
        simp only [a3c, htw, E3, seval]
        refine Safe.keep [6, 8, 9, 10, 11, 21, 22] ?_
        simp only [E3, seval]
        have hz1 : ZgI n B (t + 1) = ZgI n B t := by funext a k; unfold ZgI; rw [hcs]
        have hl1 : b4I n B (t + 1) = b4I n B t := by unfold b4I; rw [hcs]
        have hfin := ih (t + 1, π, S1, lx) ⟨htc, by rw [hz1]; exact hL, by rw [hl1]; exact hlz, hlk⟩ (by show c - (t + 1) < c - t; omega)
        simp only [hcs, hcsl] at hfin
        exact hfin
  · have htc' : t = c := by omega
    subst htc'
    refine Safe.rg rfl ?_
    simp only [a6q, Int.lt_irrefl, E3, seval]
    refine Safe.cd rfl ?_
    simp only [E3, seval]
    have hnb2 : frz (lid G 0) ⟨1, (gproc n B t).cs.map intV⟩ (.mu β 0 n (some n)) = .mu β 0 n (some n) := a7w (.mu _ _ _ _ (by show β ≠ _; unfold lid; omega))
    have hnb3 : frz (lid G 0) ⟨1, (gproc n B t).cs.map intV⟩ (.loc b0 0 0) = .loc b0 0 0 := a7w (.loc _ _ _ (by show b0 ≠ _; unfold lid; omega))
    have hcl : frz (lid G 0) ⟨1, (gproc n B t).cs.map intV⟩ (.mu (lid G 0) 0 (gproc n B t).cs.length none) = hsV (gproc n B t).cs := a8k (H := G) 0 1 intV _ none
    refine Safe.freezeM 0 (hHr hL) (by show H.length ≤ _; exact hHn) rfl (a1D 1 intV _ a9t) ?_
    refine Safe.keep [6, 8, 9, 10, 11] ?_
    simp only [hnb2, hnb3, hcl, a0N, ZI.av_frz, E3, seval]
    refine Safe.rg rfl ?_
    simp only [a3b, a1u, a0x, a0H, a0I, E3, seval]
    have hbox' : (G.set b0 (some ⟨2, [.agg [.bool lx.neg, natV lx.mag]]⟩))[b0]? = some (some ⟨2, [.agg [.bool lx.neg, natV lx.mag]]⟩) := by
      rw [List.getElem?_set]; simp; omega
    have hG' : β + n < (G.set b0 (some ⟨2, [.agg [.bool lx.neg, natV lx.mag]]⟩)).length := by rw [List.length_set]; exact hG
    simp only [e6k hG hb01 hbox (show (AV.agg [.bool lx.neg, natV lx.mag]).fit = true from rfl) (show (AV.agg [.bool lx.neg, natV lx.mag]).cells.length = 2 from rfl), E3, seval]
    refine Safe.rt rfl ?_
    simp only [e7g hG' hb01 hbox', E3, seval]
    obtain ⟨L0, hL0⟩ := hGH
    have hH1 : a0E (hM (G.set b0 (some ⟨2, [.agg [.bool lx.neg, natV lx.mag]]⟩)) β n 2 t (some t) π S1) := by
      have e := d9b (L := []) (O := orow β n t (some t) π) (R := fun j => some ⟨2, fr t (S1 j)⟩) hG hb01 (some ⟨2, [.agg [.bool lx.neg, natV lx.mag]]⟩)
      rw [a1U, a1U] at e
      unfold hM
      rw [← e]
      refine a0E.set (hHr hL) b0 fun a ha => ?_
      have := RC.one (wd := 2) (ZI.cl lx) RC.nil ⟨2, [lx.av]⟩ (by simp) a ha
      exact this.ref
    have hGs : G.set b0 (some ⟨2, [.agg [.bool lx.neg, natV lx.mag]]⟩) = hap H (L0.set 0 (some ⟨2, [.agg [.bool lx.neg, natV lx.mag]]⟩)) := by
      rw [hL0, hbl]
      simp only [hap]
      rw [List.set_append_right _ _ (Nat.le_refl _), Nat.sub_self]
    refine ⟨β, π, S1, L0.set 0 (some ⟨2, [.agg [.bool lx.neg, natV lx.mag]]⟩) ++ [none, some ⟨2, [lx.av]⟩], lx, hL, hb0, ?_, ?_, ?_, hlz, hlk, rfl⟩
    · have : G.length = H.length + L0.length := by rw [hL0]; simp [hap]
      simp [hap]; omega
    · rw [e0k _ _ _ _ _ _ _ _ _ hG', hGs, a2Y]
    · exact c5y hH1 (RC.none (RC.one (ZI.cl _) RC.nil))
end
end Go.Abs
set_option linter.unusedVariables false
set_option linter.unusedSimpArgs false
namespace Go.Abs
/-- A matrix's entries as fractions. -/
def Bm (b : List (List ZI)) : Nat → Nat → Rat := fun a k => (zg (mg b a) k : Int)
theorem e5Z {b : List (List ZI)} {e : Nat} (h : Mok e b) : Bd e (Bm b) := fun a k => ⟨zg (mg b a) k, rfl, Nat.le_of_lt ((h.row a).abs k)⟩
def b0A (n c : Nat) (B : Nat → Nat → Rat) : Nat := (gproc n B c).cs.length
theorem d2H (H : Heap) (cs : List Nat) : lenV H (hsV cs) = some (.int .i64 cs.length) := d5z H 1 intV cs
/-- The error of a matrix. -/
noncomputable def elE (b : List (List ZI)) : Int := @ite _ (Rect b) (Classical.propDecidable _) (if b.length > 64 ∨ wid b > 64 then 60 else 0) 8
theorem c5N (b : List (List ZI)) : (¬ Rect b ∧ elE b = 8) ∨ (Rect b ∧ (b.length > 64 ∨ wid b > 64) ∧ elE b = 60) ∨ (Rect b ∧ b.length ≤ 64 ∧ wid b ≤ 64 ∧ elE b = 0) := by
  unfold elE
  by_cases h : Rect b
  · by_cases h2 : b.length > 64 ∨ wid b > 64
    · exact .inr (.inl ⟨h, h2, by rw [if_pos h, if_pos h2]⟩)
    · exact .inr (.inr ⟨h, by omega, by omega, by rw [if_pos h, if_neg h2]⟩)
  · exact .inl ⟨h, by rw [if_neg h]⟩
noncomputable def askT (b : List (List ZI)) : AV := if elE b = 0 then .tup [.int .i64 b.length, .int .i64 (wid b), .int .i64 0] else .tup [.int .i64 0, .int .i64 0, .int .i64 (elE b)]
section
variable (b : List (List ZI)) {e : Nat} (hm : Mok e b)
include hm
theorem a3p : a0d Pr a7k [matV b] (askT b) := by
  have hw : wid b ≤ 2097152 := (hm.row 0).len
  rcases c5N b with ⟨hr, he⟩ | ⟨hr, h2, he⟩ | ⟨hr, h2, h3, he⟩
  · unfold askT
    rw [he, if_neg (by decide)]
    refine a0d.intro a9C a9B (Nat.le_of_ble_eq_true rfl) (cl3i _ _ _) fun H hH => ?_
    refine Safe.rg rfl ?_
    simp only [a5F, E3, seval]
    refine Safe.rg rfl ?_
    simp only [a5E, E3, seval]
    first | refine (c8d b e hm hr).acall ?_ | refine (c8d b e hm hr).dcall ?_
    try simp only [E3, seval]
    refine Safe.rg rfl ?_
    simp only [a5D, E3, seval]
    refine Safe.cd rfl ?_
    simp only [E3, seval]
    refine Safe.rg rfl ?_
    simp only [b8b, E3, seval]
    refine Safe.rt rfl ?_
    simp only [one3, E3, seval]
    first | exact ⟨rfl, _, rfl⟩ | exact ⟨_, rfl⟩ | exact ⟨trivial, _, rfl⟩
  · unfold askT
    rw [he, if_neg (by decide)]
    refine a0d.intro a9C a9B (Nat.le_of_ble_eq_true rfl) (cl3i _ _ _) fun H hH => ?_
    refine Safe.rg rfl ?_
    simp only [a5F, E3, seval]
    refine Safe.rg rfl ?_
    simp only [a5E, E3, seval]
    first | refine (a8e b e hm hr).acall ?_ | refine (a8e b e hm hr).dcall ?_
    try simp only [E3, seval]
    refine Safe.rg rfl ?_
    simp only [a5D, E3, seval]
    refine Safe.cd rfl ?_
    simp only [E3, seval]
    by_cases h : b.length > 64
    · have hc : ((b.length : Int) > 64) = True := eq_true (by omega)
      refine Safe.rg rfl ?_
      simp only [a5C, hc, E3, seval]
      refine Safe.cd rfl ?_
      simp only [E3, seval]
      refine Safe.rg rfl ?_
      simp only [a9A, E3, seval]
      refine Safe.rt rfl ?_
      simp only [one3, E3, seval]
      first | exact ⟨rfl, _, rfl⟩ | exact ⟨_, rfl⟩ | exact ⟨trivial, _, rfl⟩
    · have hc : ((b.length : Int) > 64) = False := eq_false (by omega)
      have hc2 : ((wid b : Int) > 64) = True := eq_true (by omega)
      refine Safe.rg rfl ?_
      simp only [a5C, hc, hc2, E3, seval]
      refine Safe.cd rfl ?_
      simp only [E3, seval]
      refine Safe.rg rfl ?_
      simp only [a9A, E3, seval]
      refine Safe.rt rfl ?_
      simp only [one3, E3, seval]
      first | exact ⟨rfl, _, rfl⟩ | exact ⟨_, rfl⟩ | exact ⟨trivial, _, rfl⟩
  · unfold askT
    rw [he, if_pos rfl]
    have hc : ((b.length : Int) > 64) = False := eq_false (by omega)
    have hc2 : ((wid b : Int) > 64) = False := eq_false (by omega)
    refine a0d.intro a9C a9B (Nat.le_of_ble_eq_true rfl) (cl3i _ _ _) fun H hH => ?_
    refine Safe.rg rfl ?_
    simp only [a5F, E3, seval]
    refine Safe.rg rfl ?_
    simp only [a5E, E3, seval]
    first | refine (a8e b e hm hr).acall ?_ | refine (a8e b e hm hr).dcall ?_
    try simp only [E3, seval]
    refine Safe.rg rfl ?_
    simp only [a5D, E3, seval]
    refine Safe.cd rfl ?_
    simp only [E3, seval]
    refine Safe.rg rfl ?_
    simp only [a5C, hc, hc2, E3, seval]
    refine Safe.cd rfl ?_
    simp only [E3, seval]
    refine Safe.rg rfl ?_
    simp only [b8a, E3, seval]
    refine Safe.rt rfl ?_
    simp only [one3, E3, seval]
    first | exact ⟨rfl, _, rfl⟩ | exact ⟨_, rfl⟩ | exact ⟨trivial, _, rfl⟩
theorem a2g : a0d Pr a5H [matV b] (.int .i64 (elE b)) := by
  rcases c5N b with ⟨hr, he⟩ | ⟨hr, h2, he⟩ | ⟨hr, h2, h3, he⟩
  · rw [he]
    refine a0d.intro a7n a7m (Nat.le_of_ble_eq_true rfl) (.int _ _) fun H hH => ?_
    refine Safe.rg rfl ?_
    simp only [a4B, E3, seval]
    refine Safe.rg rfl ?_
    simp only [a4A, E3, seval]
    first | refine (c6L b e hm hr).acall ?_ | refine (c6L b e hm hr).dcall ?_
    try simp only [E3, seval]
    refine Safe.rg rfl ?_
    simp only [a4z, E3, seval]
    refine Safe.cd rfl ?_
    simp only [E3, seval]
    refine Safe.rg rfl ?_
    simp only [b2F, E3, seval]
    refine Safe.rt rfl ?_
    simp only [E3, seval]
    first | exact ⟨rfl, _, rfl⟩ | exact ⟨_, rfl⟩ | exact ⟨trivial, _, rfl⟩
  · rw [he]
    refine a0d.intro a7n a7m (Nat.le_of_ble_eq_true rfl) (.int _ _) fun H hH => ?_
    refine Safe.rg rfl ?_
    simp only [a4B, E3, seval]
    refine Safe.rg rfl ?_
    simp only [a4A, E3, seval]
    first | refine (a7P b e hm hr).acall ?_ | refine (a7P b e hm hr).dcall ?_
    try simp only [E3, seval]
    refine Safe.rg rfl ?_
    simp only [a4z, E3, seval]
    refine Safe.cd rfl ?_
    simp only [E3, seval]
    by_cases h : b.length > 64
    · have hc : ((b.length : Int) > 64) = True := eq_true (by omega)
      refine Safe.rg rfl ?_
      simp only [a4y, hc, E3, seval]
      refine Safe.cd rfl ?_
      simp only [E3, seval]
      refine Safe.rg rfl ?_
      simp only [a7l, E3, seval]
      refine Safe.rt rfl ?_
      simp only [E3, seval]
      first | exact ⟨rfl, _, rfl⟩ | exact ⟨_, rfl⟩ | exact ⟨trivial, _, rfl⟩
    · have hc : ((b.length : Int) > 64) = False := eq_false (by omega)
      have hc2 : ((wid b : Int) > 64) = True := eq_true (by omega)
      refine Safe.rg rfl ?_
      simp only [a4y, hc, hc2, E3, seval]
      refine Safe.cd rfl ?_
      simp only [E3, seval]
      refine Safe.rg rfl ?_
      simp only [a7l, E3, seval]
      refine Safe.rt rfl ?_
      simp only [E3, seval]
      first | exact ⟨rfl, _, rfl⟩ | exact ⟨_, rfl⟩ | exact ⟨trivial, _, rfl⟩
  · rw [he]
    have hc : ((b.length : Int) > 64) = False := eq_false (by omega)
    have hc2 : ((wid b : Int) > 64) = False := eq_false (by omega)
    refine a0d.intro a7n a7m (Nat.le_of_ble_eq_true rfl) (.int _ _) fun H hH => ?_
    refine Safe.rg rfl ?_
    simp only [a4B, E3, seval]
    refine Safe.rg rfl ?_
    simp only [a4A, E3, seval]
    first | refine (a7P b e hm hr).acall ?_ | refine (a7P b e hm hr).dcall ?_
    try simp only [E3, seval]
    refine Safe.rg rfl ?_
    simp only [a4z, E3, seval]
    refine Safe.cd rfl ?_
    simp only [E3, seval]
    refine Safe.rg rfl ?_
    simp only [a4y, hc, hc2, E3, seval]
    refine Safe.cd rfl ?_
    simp only [E3, seval]
    refine Safe.rg rfl ?_
    simp only [b2E, E3, seval]
    refine Safe.rt rfl ?_
    simp only [E3, seval]
    first | exact ⟨rfl, _, rfl⟩ | exact ⟨_, rfl⟩ | exact ⟨trivial, _, rfl⟩
theorem a4W (hr : Rect b) : a0d Pr a7f [matV b] (.int .i64 (wid b)) := by
  refine a0d.intro c8U c8T (Nat.le_of_ble_eq_true rfl) (.int _ _) fun H hH => ?_
  refine Safe.rg rfl ?_
  simp only [b5E, E3, seval]
  refine Safe.rg rfl ?_
  simp only [b5D, E3, seval]
  first | refine (a7P b e hm hr).acall ?_ | refine (a7P b e hm hr).dcall ?_
  try simp only [E3, seval]
  refine Safe.rg rfl ?_
  simp only [b5C, E3, seval]
  refine Safe.rt rfl ?_
  simp only [E3, seval]
  first | exact ⟨rfl, _, rfl⟩ | exact ⟨_, rfl⟩ | exact ⟨trivial, _, rfl⟩
end
theorem a4R {b : List (List ZI)} (h : elE b = 0) : b.length ≤ 64 ∧ wid b ≤ 64 ∧ Rect b ∧ ∀ i, (h : i < b.length) → b[i].length = wid b := by
  rcases c5N b with ⟨_, h⟩ | ⟨_, _, h⟩ | ⟨hr, h2, h3, _⟩
  · omega
  · omega
  · refine ⟨h2, h3, hr, fun i hi => ?_⟩
    have := hr i hi
    rw [a3T hi] at this
    exact this
theorem cl2i (a b : Int) : Cl (.tup [.int .i64 a, .int .i64 b]) := b1M (.int _ _) (.int _ _)
end Go.Abs
set_option linter.unusedVariables false
set_option linter.unusedSimpArgs false
namespace Go.Abs
theorem c1D {B : Nat → Nat → Rat} {e n c : Nat} (hB : Bd e B) (hn : n ≤ 64 ∨ c ≤ 64) (hn2 : n ≤ 2097152) (hc : c ≤ 2097152) (hK : KB e + 1 < 1099511627776) (A : Heap) :
    a0n Pr a1i [.mu (lid A 0) 0 n none, .int .i64 c] (hap A (a1x (lid A 0) n 4 c none fun j k => Rv (B j k))) fun r' H' => ∃ π S', Lk n c π S' (fun a b => Rv ((a0t n B c).M a b)) ∧
      H' = hM (hap A (a1x (lid A 0) n 4 c none fun j k => Rv (B j k))) (lid A 0) n 4 c none π S' ∧ r' = .tup [.mu (lid A 0) 0 (gproc n B c).cs.length none, hsV (gproc n B c).cs, Rv (dv n B c)] := by
  have h := c9v (G := hap A ([] ++ a1x (lid A 0) n 4 c none fun j k => Rv (B j k))) (β := lid A 0) (c2U A [] n 4 c none _) B hB hn hn2 hc (by omega) (S := fun j k => Rv (B j k)) ⟨fun a h => h, fun _ _ _ _ h => h, fun a k _ _ => rfl, fun _ _ => a4q _⟩
  have e1 := d4Z A [] n 4 c none fun j k => Rv (B j k)
  simp only [List.length_nil, List.nil_append] at e1 h
  rw [e1] at h
  exact h
section
variable (b : List (List ZI)) {e : Nat} (hm : Mok e b) (hK : KB e + 1 < 1099511627776)
include hm hK
theorem e4L : Mok 17592186044416 b := hm.mono (by unfold KB at hK; omega)
theorem b8C (h0 : elE b = 0) : a0d Pr b4Z [matV b] (.tup [.int .i64 (b0A b.length (wid b) (Bm b)), .int .i64 0]) := by
  obtain ⟨hn, hw, hr, hrows⟩ := a4R h0
  have hask := a3p b hm
  unfold askT at hask
  rw [if_pos h0] at hask
  refine a0d.intro d2Z d2Y (Nat.le_of_ble_eq_true rfl) (cl2i _ _) fun H hH => ?_
  refine Safe.rg rfl ?_
  simp only [c2z, E3, seval]
  refine Safe.rg rfl ?_
  simp only [c2y, E3, seval]
  first | refine (hask).acall ?_ | refine (hask).dcall ?_
  try simp only [E3, seval]
  refine Safe.rg rfl ?_
  simp only [c2x, E3, seval]
  refine Safe.cd rfl ?_
  simp only [E3, seval]
  refine Safe.rg rfl ?_
  simp only [c2w, E3, seval]
  refine (b8l b (Bm b) hrows (fun _ _ => rfl) hm (e5Z hm) rfl hn (by omega) hK (hap H [])).mono ?_
  rintro r' H' ⟨β, π, S, L, lx, hLz, hβ, hβn, rfl, hHr, hlz, hlk, rfl⟩
  obtain ⟨L', hL'⟩ := e3M (w := 2) (c := wid b) (oc := some (wid b)) (π := π) (S := S) hβ hβn
  rw [hL']
  have hAH : ∃ L, hap (hap H []) L' = hap H L := ⟨_, a2Y _ _ _⟩
  rw [← a1U (hap (hap H []) L')]
  generalize hap (hap H []) L' = A at *
  simp only [E3, seval]
  refine Safe.rg rfl ?_
  simp only [c2v, d2H, E3, seval]
  refine Safe.rt rfl ?_
  simp only [E3, seval]
  obtain ⟨L0, rfl⟩ := hAH
  exact ⟨rfl, _, a2Y _ _ _⟩
theorem b1Y (h0 : elE b = 0) : a0d Pr b1R [matV b] (.tup [.int .i64 (b0A b.length (wid b) (Bm b)), .int .i64 0]) := by
  obtain ⟨hn, hw, hr, hrows⟩ := a4R h0
  refine a0d.intro c8Y c8X (Nat.le_of_ble_eq_true rfl) (cl2i _ _) fun H hH => ?_
  refine Safe.rg rfl ?_
  simp only [b5J, E3, seval]
  refine Safe.rg rfl ?_
  simp only [b5I, E3, seval]
  first | refine (a2g b hm).acall ?_ | refine (a2g b hm).dcall ?_
  try simp only [E3, seval]
  refine Safe.rg rfl ?_
  simp only [b5H, h0, E3, seval]
  refine Safe.cd rfl ?_
  simp only [E3, seval]
  refine Safe.rg rfl ?_
  simp only [b5G, E3, seval]
  refine (c6O b hrows (by omega) (by omega) (e4L b hm hK) (hap H [])).mono ?_
  rintro r' H' ⟨rfl, rfl⟩
  simp only [E3, seval]
  first | refine (a4W b hm hr).acall ?_ | refine (a4W b hm hr).dcall ?_
  try simp only [E3, seval]
  refine (c1D (e5Z hm) (.inl hn) (by omega) (by omega) hK (hap H [])).mono ?_
  rintro r' H' ⟨π, S', hLk, rfl, rfl⟩
  obtain ⟨L', hL'⟩ := e3M (H := hap H []) (L := a1x (lid (hap H []) 0) b.length 4 (wid b) none fun j k => Rv (Bm b j k)) (n := b.length) (w := 4) (c := wid b) (oc := none) (π := π) (S := S') (a1v (hap H []) 0) (c2U (hap H []) [] b.length 4 (wid b) none _)
  rw [hL']
  have hAH : ∃ L, hap (hap H []) L' = hap H L := ⟨_, a2Y _ _ _⟩
  rw [← a1U (hap (hap H []) L')]
  clear hL'
  generalize hap (hap H []) L' = A at *
  simp only [a0q, a0C, a2I, E3, seval]
  refine Safe.rg rfl ?_
  simp only [b5F, d2H, E3, seval]
  refine Safe.rt rfl ?_
  simp only [E3, seval]
  obtain ⟨L0, rfl⟩ := hAH
  exact ⟨rfl, _, a2Y _ _ _⟩
end
end Go.Abs
set_option linter.unusedVariables false
set_option linter.unusedSimpArgs false
namespace Go.Abs
theorem d9Z : KB 1048576 + 1 < 1099511627776 := by decide
theorem e2F {z : Int} {k : Nat} (h : z.natAbs < LB ^ k) (hk : k ≤ 17592186044416) : a0d Pr a8t [Z z, Z z] (.bool true) := by
  have := d5f (canZ z) ((a0l h).mono hk)
  rwa [a3h] at this
end Go.Abs
set_option linter.unusedVariables false
set_option linter.unusedSimpArgs false
namespace Go.Abs
theorem Vok.take {k : Nat} {v : List ZI} (h : Vok k v) (n : Nat) : Vok k (v.take n) := ⟨by rw [List.length_take]; have := h.len; omega, fun x hx => h.el x (List.mem_of_mem_take hx)⟩
/-- The first square of a size. -/
def sub (b : List (List ZI)) (k : Nat) : List (List ZI) := mat k fun i => (mg b i).take k
end Go.Abs
set_option linter.unusedVariables false
set_option linter.unusedSimpArgs false
namespace Go.Abs
theorem cl3v (v : List ZI) (z : Int) (a : Int) : Cl (.tup [vecV v, Z z, .int .i64 a]) := c5W (a0e _) (Z_cl _) (.int _ _)
theorem bad3 (a : Int) : Le (.tup [.nil, .agg [.bool false, .nil], .int .i64 a]) (.tup [vecV [], Z 0, .int .i64 a]) := Le.tup3 (Le.nil 2 (by decide)) le_zero (Le.refl _)
end Go.Abs
set_option linter.unusedVariables false
set_option linter.unusedSimpArgs false
namespace Go.Abs
/-- Rows of whole numbers with such values. -/
structure Rz (n c K : Nat) (rows : List (List ZI)) (f : Nat → Nat → Int) : Prop where
  len : rows.length = n
  wid : ∀ i, i < n → (mg rows i).length = c
  at_ : ∀ i k, i < n → k < c → zg (mg rows i) k = f i k
  ok : ∀ i, i < n → Vok K (mg rows i)
def e3e (H : Heap) (n c e : Nat) (B : Nat → Nat → Rat) (r' : AV) (H' : Heap) : Prop := ∃ β rows lx, Rz n c (KB e + 1) rows (ZgI n B c) ∧ H.length ≤ β ∧ H'[β]? = some (some ⟨1, rows.map vecV⟩) ∧ (∃ L', H' = hap H L') ∧ a0E H' ∧
      ZI.z lx = b4I n B c ∧ Zok (KB e + 1) lx ∧ r' = .tup [.mu β 0 n (some n), hsV (gproc n B c).cs, lx.av, .bool (gproc n B c).odd]
/-- With the first m rows told. -/
def e3f (m : Nat) (H : Heap) (n c e : Nat) (B : Nat → Nat → Rat) (r' : AV) (H' : Heap) : Prop := ∃ β π S L lx, Lz n c (KB e + 1) π S (ZgI n B c) ∧ H.length ≤ β ∧ β + n < (hap H L).length ∧
      H' = hm (hap H L) β n (fr n fun i => if π i < m then .sl 2 (fr c (S (π i))) else .mu (β + 1 + π i) 0 c (some c)) (fun j => if j < m then none else some ⟨2, fr c (S j)⟩) ∧ a0E H' ∧
      ZI.z lx = b4I n B c ∧ Zok (KB e + 1) lx ∧ r' = .tup [.mu β 0 n (some n), hsV (gproc n B c).cs, lx.av, .bool (gproc n B c).odd]
theorem c2B {P : Program} {f : FuncId} {args : List AV} {H : Heap} {n c e : Nat} {B : Nat → Nat → Rat} (h : a0n P f args H (c3c H n c e B)) : ∀ m, m ≤ n → a0n P f args H (e3f m H n c e B)
  | 0, _ => h.mono fun r' H' ⟨β, π, S, L, lx, h1, h2, h3, h4, h5, h6, h7, h8⟩ => ⟨β, π, S, L, lx, h1, h2, h3, by
      rw [h4]
      refine a9u (a4F fun i hi => ?_) fun j hj => ?_
      · rw [if_neg (by omega)]
      · rw [if_neg (by omega)], h5, h6, h7, h8⟩
  | m + 1, hmn => by
    refine (c2B h m (by omega)).frz ?_
    rintro hH r' H' ⟨β, π, S, L, lx, h1, h2, h3, rfl, h5, h6, h7, rfl⟩
    have hc : ∀ a ∈ (Blk.mk 2 (fr c (S m))).flat, Cl a := a4o fun k _ => h1.cl m k
    have hget : (hm (hap H L) β n (fr n fun i => if π i < m then .sl 2 (fr c (S (π i))) else .mu (β + 1 + π i) 0 c (some c)) (fun j => if j < m then none else some ⟨2, fr c (S j)⟩))[β + 1 + m]? = some (some ⟨2, fr c (S m)⟩) := by
      rw [a1K _ _ _ _ _ _ (by omega), if_neg (by omega), if_pos (by omega), show β + 1 + m - (β + 1) = m by omega, if_neg (Nat.lt_irrefl m)]
    refine ⟨β + 1 + m, ⟨2, fr c (S m)⟩, hget, hc, ?_⟩
    have hfH : frzH (β + 1 + m) ⟨2, fr c (S m)⟩ (hap H L) = hap H ((frzL (β + 1 + m) ⟨2, fr c (S m)⟩ L).set (β + 1 + m - H.length) none) := by
      have := b7E hH (β + 1 + m - H.length) ⟨2, fr c (S m)⟩ L
      rwa [show lid H (β + 1 + m - H.length) = β + 1 + m by unfold lid; omega] at this
    refine ⟨β, π, S, (frzL (β + 1 + m) ⟨2, fr c (S m)⟩ L).set (β + 1 + m - H.length) none, lx, h1, h2, ?_, ?_, d2J h5 _ _, h6, h7, ?_⟩
    · rw [← hfH]; simp only [frzH, List.length_set, List.length_map]; exact h3
    · rw [e0t h3 (by omega), hfH]
      refine a9u ?_ fun j hj => ?_
      · unfold fr
        rw [List.map_map]
        refine List.map_congr_left fun i hi => ?_
        simp only [Function.comp]
        by_cases h : π i < m
        · rw [if_pos h, if_pos (by omega)]; simp only [frz]
        · rw [if_neg h]
          by_cases h2 : π i = m
          · rw [if_pos (by omega), h2]
            simp only [frz, if_true]
            rw [if_pos (show 0 + c ≤ (List.map (S m) (List.range c)).length by simp)]
            simp only [List.drop_zero]
            rw [List.take_of_length_le (by simp)]
          · rw [if_neg (by omega)]
            simp only [frz]
            rw [if_neg (by omega)]
      · by_cases hjm : j = m
        · rw [if_pos hjm, if_pos (by omega)]
        · rw [if_neg hjm]
          by_cases hlt : j < m
          · rw [if_pos hlt, if_pos (by omega)]; rfl
          · rw [if_neg hlt, if_neg (by omega)]
            simp only [Option.map_some, frzB]
            congr 2
            refine (List.map_congr_left (g := fun x => x) fun a ha => ?_).trans (List.map_id' _)
            obtain ⟨k, hk, rfl⟩ := d2S ha
            exact a4U (h1.cl j k)
    · simp only [frz, List.map_cons, List.map_nil]
      rw [if_neg (by omega)]
      have e1 := a4U (id := β + 1 + m) (b := ⟨2, fr c (S m)⟩) (b7B (gproc n B c).cs)
      have e2 := a4U (id := β + 1 + m) (b := ⟨2, fr c (S m)⟩) (ZI.cl lx)
      rw [e1, e2]
theorem d3m {P : Program} {f : FuncId} {args : List AV} {H : Heap} {n c e : Nat} {B : Nat → Nat → Rat} (hc : c ≤ 2097152) (h : a0n P f args H (c3c H n c e B)) : a0n P f args H (e3e H n c e B) := by
  refine (c2B h n (Nat.le_refl n)).mono ?_
  rintro r' H' ⟨β, π, S, L, lx, h1, h2, h3, rfl, h5, h6, h7, rfl⟩
  have hch : ∀ i k, ∃ x : ZI, i < n → k < c → S (π i) k = x.av ∧ x.z = ZgI n B c i k ∧ Zok (KB e + 1) x := fun i k => by
    by_cases hik : i < n ∧ k < c
    · obtain ⟨x, hx⟩ := h1.at_ i k hik.1 hik.2; exact ⟨x, fun _ _ => hx⟩
    · exact ⟨⟨false, []⟩, fun a b => absurd ⟨a, b⟩ hik⟩
  let X : Nat → Nat → ZI := fun i k => Classical.choose (hch i k)
  have hX : ∀ i k, i < n → k < c → S (π i) k = (X i k).av ∧ (X i k).z = ZgI n B c i k ∧ Zok (KB e + 1) (X i k) := fun i k => Classical.choose_spec (hch i k)
  have hrow : ∀ i, i < n → mg (mat n fun i => (List.range c).map (X i)) i = (List.range c).map (X i) := fun i hi => d9M hi
  refine ⟨β, mat n fun i => (List.range c).map (X i), lx, ⟨a0f _ _, fun i hi => ?_, fun i k hi hk => ?_, fun i hi => ?_⟩, h2, ?_, ?_, h5, h6, h7, rfl⟩
  · rw [hrow i hi]; simp
  · rw [hrow i hi, c2C (by simpa using hk)]
    simp; exact (hX i k hi hk).2.1
  · rw [hrow i hi]
    refine ⟨by simp; exact hc, fun x hx => ?_⟩
    obtain ⟨k, hk, rfl⟩ := List.mem_map.1 hx
    exact (hX i k hi (List.mem_range.1 hk)).2.2
  · rw [a1K _ _ _ _ _ _ (by omega), if_pos rfl]
    congr 2
    unfold fr mat
    rw [List.map_map]
    congr 1
    refine List.map_congr_left fun i hi => ?_
    have hin := List.mem_range.1 hi
    simp only [Function.comp, vecV]
    rw [if_pos (h1.lt i hin), List.map_map]
    congr 1
    refine List.map_congr_left fun k hk => ?_
    exact (hX i k hin (List.mem_range.1 hk)).1
  · refine ⟨(hm (hap H L) β n (fr n fun i => if π i < n then .sl 2 (fr c (S (π i))) else .mu (β + 1 + π i) 0 c (some c)) (fun j => if j < n then none else some ⟨2, fr c (S j)⟩)).drop H.length, ?_⟩
    have ht : (hm (hap H L) β n (fr n fun i => if π i < n then .sl 2 (fr c (S (π i))) else .mu (β + 1 + π i) 0 c (some c)) (fun j => if j < n then none else some ⟨2, fr c (S j)⟩)).take H.length = H := by
      apply List.ext_getElem?
      intro j
      rw [List.getElem?_take]
      have hl : (hap H L).length = H.length + L.length := by simp [hap]
      split
      · rename_i hj
        rw [a1K _ _ _ _ _ _ (by omega), if_neg (by omega), if_neg (by omega)]
        simp only [hap]
        rw [List.getElem?_append_left hj]
      · rename_i hj
        rw [List.getElem?_eq_none (by omega)]
    exact (List.take_append_drop H.length _).symm.trans (by rw [ht]; rfl)
end Go.Abs
set_option linter.unusedVariables false
set_option linter.unusedSimpArgs false
namespace Go.Abs
theorem c5m (v : List ZI) {K : Nat} (hv : Vok K v) (hnz : Nz (zg v) v.length) (hK : K < 17592186043000) : a0d Pr a2H [vecV v] (vecV (vec v.length (a1I (zg v) v.length))) := by
  have hvl := hv.len
  have hgl : ∀ i, i ≤ v.length → a2l (zg v) i < LB ^ K := fun i hi => d6g (a8h K) fun j _ => hv.abs j
  have hg0 := d6f hnz
  have hsg := e1y hnz
  refine a0d.intro c6r c6p (Nat.le_of_ble_eq_true rfl) (a0e _) fun H hH => ?_
  refine Safe.rg rfl ?_
  simp only [b3I, E3, seval]
  refine Safe.rg rfl ?_
  simp only [b3H, E3, seval]
  refine Safe.told0 0 rfl ?_
  simp only [E3, seval]
  refine Safe.rg rfl ?_
  simp only [b3G, E3, seval]
  refine Safe.lp rfl ?_
  refine Safe.keep [0, 3, 13, 14, 15] ?_
  try simp only [E3, seval]
  refine Safe.loopN (v.length) (fun i => [(0, vecV v), (3, .loc (lid H 0) 0 0), (13, vecV v), (14, .int .i64 v.length), (15, .int .i64 i)]) (fun i => hap H [some ⟨2, [Z (a2l (zg v) i : Nat)]⟩]) rfl rfl (fun i hi ih => ?_) ?_
  · have hlt : ((i : Int) < (v.length : Int)) = True := eq_true (by omega)
    have hiw : IntKind.wrap .i64 ((i : Int) + 1) = ((i + 1 : Nat) : Int) := by rw [a0a] <;> omega
    refine Safe.inLoop ?_
    refine Safe.rg rfl ?_
    simp only [a7E, hlt, E3, seval]
    refine Safe.cd rfl ?_
    simp only [E3, seval]
    refine Safe.rg rfl ?_
    simp only [b3F, a1g _ v _ i hi, E3, seval]
    refine Safe.rg rfl ?_
    simp only [b3E, E3, seval]
    have hg := d0A (canZ (a2l (zg v) i : Nat)) v[i] K (a0l (by exact hgl i (by omega))) (hv.get hi) (by omega)
    rw [a0p, ← c2C hi] at hg
    refine hg.acall ?_
    simp only [E3, seval]
    refine Safe.rg rfl ?_
    simp only [b3D, hiw, E3, seval]
    refine Safe.keep [0, 3, 13, 14, 15] ?_
    simp only [E3, seval]
    refine Safe.drop1 hH rfl (by simp only [List.all_cons, List.all_nil, E3, seval]) (by repeat (first | exact RC.nil | refine RC.none ?_ | refine RC.row ZI.cl ?_ | refine RC.cons (a0m _) ?_ | refine RC.row a0e ?_ | refine RC.emp ?_ | refine RC.zero ?_ | refine RC.one (Z_cl _) ?_ | refine RC.one (ZI.cl _) ?_ | refine RC.one (a0e _) ?_)) ?_
    exact ih
  · refine Safe.inLoop ?_
    refine Safe.rg rfl ?_
    simp only [a7E, Int.lt_irrefl, E3, seval]
    refine Safe.cd rfl ?_
    simp only [E3, seval]
    refine Safe.rg rfl ?_
    simp only [b3C, E3, seval]
    first | refine (a5K v (hv.mono (by omega))).acall ?_ | refine (a5K v (hv.mono (by omega))).dcall ?_
    try simp only [E3, seval]
    obtain ⟨i, hi, h0, h, hl, hu⟩ : ∃ i, i < v.length ∧ zg v i ≠ 0 ∧ (∀ j, j < i → zg v j = 0) ∧ c5q v = i ∧ upS v = if zg v i < 0 then -1 else 1 := by
      rcases b2d v with h | ⟨h, _, _⟩
      · exact h
      · obtain ⟨j, hj, hw⟩ := hnz
        exact absurd (h j hj) hw
    have hs := d0K hi h0 h
    have hge : ((i : Int) ≥ 0) = True := eq_true (by omega)
    refine Safe.rg rfl ?_
    simp only [b3B, hl, hge, a1g _ v _ i hi, E3, seval]
    refine (a1w v[i] ((hv.get hi).mono (by omega))).acall ?_
    rw [← c2C hi]
    have main : ∀ Q : Int, Q = sgF (zg v) v.length * (a2l (zg v) v.length : Int) → Safe ⟨Pr, fun _ _ => false, a2H, 56, [.tmp 2], H.length⟩
        [.code ((ACode.region a6p false).seq (((ACode.region a6o false).seq (.block 2 (.loop b3J))).seq ((ACode.region a6m false).seq .ret)))]
        [(0, vecV v), (3, .loc (lid H 0) 0 0)] (hap H [some ⟨2, [Z Q]⟩]) fun r' H' => r' = vecV (vec v.length (a1I (zg v) v.length)) ∧ ∃ L, H' = hap H L := by
      intro Q hQ
      have hQ0 : Q ≠ 0 := by rw [hQ]; exact hsg
      have hQk : Q.natAbs < LB ^ K := by
        have : Q.natAbs = a2l (zg v) v.length := by
          rw [hQ, Int.natAbs_mul]
          rcases d0J (zg v) v.length with h | h <;> rw [h] <;> simp
        rw [this]; exact hgl _ (Nat.le_refl _)
      refine Safe.rg rfl ?_
      simp only [a6p, E3, seval]
      refine Safe.nilrow 7 2 (by decide) (by simp only [E3, seval]) ?_
      refine Safe.rg rfl ?_
      simp only [a6o, E3, seval]
      refine Safe.lp rfl ?_
      refine Safe.keep [3, 7, 37, 38, 39] ?_
      try simp only [E3, seval]
      refine Safe.loopN (v.length) (fun i => [(3, .loc (lid H 0) 0 0), (7, .mu (lid H 1) 0 i none), (37, vecV v), (38, .int .i64 v.length), (39, .int .i64 i)]) (fun i => hap H [some ⟨2, [Z Q]⟩, some ⟨2, (vec i (a1I (zg v) v.length)).map ZI.av⟩]) rfl rfl (fun i hi ih => ?_) ?_
      · have hlt : ((i : Int) < (v.length : Int)) = True := eq_true (by omega)
        have hiw : IntKind.wrap .i64 ((i : Int) + 1) = ((i + 1 : Nat) : Int) := by rw [a0a] <;> omega
        refine Safe.inLoop ?_
        refine Safe.rg rfl ?_
        simp only [a6n, hlt, E3, seval]
        refine Safe.cd rfl ?_
        simp only [E3, seval]
        refine Safe.rg rfl ?_
        simp only [b1A, a1g _ v _ i (by omega), E3, seval]
        refine Safe.rg rfl ?_
        simp only [b1z, E3, seval]
        have hfl := a4N v[i] (canZ Q) K (hv.get (by omega)) (a0l hQk) (by omega) (a1I (zg v) v.length i) (by rw [a0p]; exact hQ0) (by rw [a0p, hQ, ← c2C (by omega)]; exact a5x (by omega))
        refine hfl.acall ?_
        simp only [E3, seval]
        refine Safe.rg rfl ?_
        simp only [b1y, E3, seval]
        rw [a5o hH 1 (a1v H 1) ZI.cl (vec i (a1I (zg v) v.length)) (canZ (a1I (zg v) v.length i)) (vec (i + 1) (a1I (zg v) v.length)) ?hlen ?hl ?hL ?hy ?hl2 ?hb ?hbb]
        case hlen => first | rfl | (simp only [a0g, a0f, List.length_map, List.length_take]; done) | (simp only [a0g, a0f, List.length_map, List.length_take]; omega)
        case hl => rfl
        case hL => repeat (first | exact RC.nil | refine RC.none ?_ | refine RC.row ZI.cl ?_ | refine RC.cons (a0m _) ?_ | refine RC.row a0e ?_ | refine RC.emp ?_ | refine RC.zero ?_ | refine RC.one (Z_cl _) ?_ | refine RC.one (ZI.cl _) ?_ | refine RC.one (a0e _) ?_)
        case hy => rfl
        case hl2 => first | exact b1U _ _ | exact a6T _ _ | exact b0H _ (by omega) | exact a3x _ _ (by omega)
        case hb => omega
        case hbb => omega
        simp only [E3, seval]
        refine Safe.rg rfl ?_
        simp only [b1x, hiw, E3, seval]
        refine Safe.keep [3, 7, 37, 38, 39] ?_
        simp only [E3, seval]
        refine Safe.drop4 hH rfl (by simp only [List.all_cons, List.all_nil, E3, seval]) (by repeat (first | exact RC.nil | refine RC.none ?_ | refine RC.row ZI.cl ?_ | refine RC.cons (a0m _) ?_ | refine RC.row a0e ?_ | refine RC.emp ?_ | refine RC.zero ?_ | refine RC.one (Z_cl _) ?_ | refine RC.one (ZI.cl _) ?_ | refine RC.one (a0e _) ?_)) ?_
        refine Safe.drop3 hH rfl (by simp only [List.all_cons, List.all_nil, E3, seval]) (by repeat (first | exact RC.nil | refine RC.none ?_ | refine RC.row ZI.cl ?_ | refine RC.cons (a0m _) ?_ | refine RC.row a0e ?_ | refine RC.emp ?_ | refine RC.zero ?_ | refine RC.one (Z_cl _) ?_ | refine RC.one (ZI.cl _) ?_ | refine RC.one (a0e _) ?_)) ?_
        refine Safe.drop2 hH rfl (by simp only [List.all_cons, List.all_nil, E3, seval]) (by repeat (first | exact RC.nil | refine RC.none ?_ | refine RC.row ZI.cl ?_ | refine RC.cons (a0m _) ?_ | refine RC.row a0e ?_ | refine RC.emp ?_ | refine RC.zero ?_ | refine RC.one (Z_cl _) ?_ | refine RC.one (ZI.cl _) ?_ | refine RC.one (a0e _) ?_)) ?_
        exact ih
      · refine Safe.inLoop ?_
        refine Safe.rg rfl ?_
        simp only [a6n, Int.lt_irrefl, E3, seval]
        refine Safe.cd rfl ?_
        simp only [E3, seval]
        refine Safe.freeze 1 hH rfl rfl (a1D 2 ZI.av _ ZI.cl) ?_
        refine Safe.keep [7] ?_
        simp only [b1t H 1 (vec v.length (a1I (zg v) v.length)) (v.length) (none) (by simp only [a0g, a0f]), a2u, a0N, a4m, a6g, E3, seval]
        refine Safe.rg rfl ?_
        simp only [a6m, E3, seval]
        refine Safe.rt rfl ?_
        simp only [E3, seval]
        first | exact ⟨rfl, _, rfl⟩ | exact ⟨_, rfl⟩ | exact ⟨trivial, _, rfl⟩
    by_cases hn : zg v i < 0
    · have hc : ((zg v i).sign < 0) = True := eq_true (Int.sign_neg_iff.2 hn)
      rw [if_pos hn] at hs
      simp only [hc, E3, seval]
      refine Safe.cd rfl ?_
      simp only [E3, seval]
      refine Safe.rg rfl ?_
      simp only [b3A, E3, seval]
      have hng := c3d (canZ (a2l (zg v) v.length : Nat)) ((a0l (by exact hgl _ (Nat.le_refl _))).mono (by omega))
      rw [a0p] at hng
      refine hng.acall ?_
      simp only [E3, seval]
      refine Safe.keep [0, 3] ?_
      simp only [E3, seval]
      exact main _ (by rw [hs, Int.neg_mul, Int.one_mul])
    · have hc : ((zg v i).sign < 0) = False := eq_false fun h => hn (Int.sign_neg_iff.1 h)
      rw [if_neg hn] at hs
      simp only [hc, E3, seval]
      refine Safe.cd rfl ?_
      simp only [E3, seval]
      refine Safe.keep [0, 3] ?_
      simp only [E3, seval]
      refine Safe.skip ?_
      exact main _ (by rw [hs, Int.one_mul])
end Go.Abs
set_option linter.unusedVariables false
set_option linter.unusedSimpArgs false
namespace Go.Abs
def rvV (x : Nat → Rat) (c : Nat) : AV := .sl 4 (fr c fun k => Rv (x k))
def a0K (x : Nat → Rat) : Nat → Nat
  | 0 => 1
  | n + 1 => a0K x n * ((x n).den / Nat.gcd (a0K x n) (x n).den)
def outI (x : Nat → Rat) (c i : Nat) : Int := (x i).num * ((a0K x c / (x i).den : Nat) : Int)
theorem b9g (x : Nat → Rat) (n : Nat) : a0K x (n + 1) = Nat.lcm (a0K x n) (x n).den := by
  rw [a0K, Nat.lcm, Nat.mul_div_assoc _ (Nat.gcd_dvd_right _ _)]
theorem a8g (x : Nat → Rat) : ∀ n, 0 < a0K x n
  | 0 => Nat.one_pos
  | n + 1 => by rw [b9g]; exact Nat.lcm_pos (a8g x n) (x n).den_pos
theorem b1p {x : Nat → Rat} {M : Nat} : ∀ {n : Nat}, (∀ i, i < n → (x i).den ∣ M) → a0K x n ∣ M
  | 0, _ => Nat.one_dvd _
  | n + 1, h => by rw [b9g]; exact Nat.lcm_dvd (b1p fun i hi => h i (by omega)) (h n (by omega))
theorem c5S (x : Nat → Rat) : ∀ {n i : Nat}, i < n → (x i).den ∣ a0K x n
  | 0, _, h => absurd h (by omega)
  | n + 1, i, h => by
    rw [b9g]
    by_cases e : i = n
    · subst e; exact Nat.dvd_lcm_right _ _
    · exact Nat.dvd_trans (c5S x (by omega)) (Nat.dvd_lcm_left _ _)
/-- All of them times one number are whole, of such a size. -/
structure Sz (x : Nat → Rat) (c K : Nat) : Prop where
  ex : ∃ D : Int, D ≠ 0 ∧ D.natAbs < LB ^ K ∧ ∀ i, i < c → ∃ z : Int, (D : Rat) * x i = z ∧ z.natAbs < LB ^ K
theorem d3d {D z : Int} {q : Rat} (hD : D ≠ 0) (h : (D : Rat) * q = z) : q.den ∣ D.natAbs := by
  have hl : (D : Rat) ≠ 0 := fun e => hD (Rat.intCast_inj.1 (by rw [e]; rfl))
  have e : q = Rat.divInt z D := by
    rw [Rat.divInt_eq_div, ← h]
    generalize (D : Rat) = x at *
    grind
  rw [e, Rat.den_divInt, if_neg hD]
  exact Nat.div_dvd_of_dvd (by rw [Int.gcd]; exact Nat.gcd_dvd_left _ _)
theorem b8H (x : Nat → Rat) {c i : Nat} (hi : i < c) : ((a0K x c : Nat) : Rat) * x i = ((outI x c i : Int) : Rat) := by
  obtain ⟨m, hm⟩ := c5S x hi
  unfold outI
  have hd := (x i).den_pos
  rw [hm, Nat.mul_div_cancel_left _ hd]
  have h1 : x i = ((x i).num : Rat) / ((x i).den : Rat) := by rw [← Rat.mkRat_eq_div, Rat.mkRat_self]
  have h2 : ((x i).den : Rat) ≠ 0 := by
    intro h
    have : ((x i).den : Nat) = 0 := by exact_mod_cast h
    omega
  rw [Rat.intCast_mul, Rat.natCast_mul]
  have h3 : (((m : Nat) : Int) : Rat) = ((m : Nat) : Rat) := rfl
  rw [h3]
  have h4 := Rat.div_mul_cancel (a := ((x i).num : Rat)) h2
  rw [← h1] at h4
  clear h1 hm
  generalize ((x i).den : Rat) = d at *
  generalize ((x i).num : Rat) = a at *
  generalize ((m : Nat) : Rat) = k
  generalize x i = y at *
  grind
section
variable {x : Nat → Rat} {c K : Nat} (h : Sz x c K)
include h
theorem e3J {n : Nat} (hn : n ≤ c) : a0K x n < LB ^ K := by
  obtain ⟨D, hD, hD1, hz⟩ := h.ex
  have hd : a0K x n ∣ D.natAbs := b1p fun i hi => by obtain ⟨z, hz, _⟩ := hz i (by omega); exact d3d hD hz
  exact Nat.lt_of_le_of_lt (Nat.le_of_dvd (by omega) hd) hD1
theorem e7b {i : Nat} (hi : i < c) : (x i).den < LB ^ K := by
  obtain ⟨D, hD, hD1, hz⟩ := h.ex
  obtain ⟨z, hz, _⟩ := hz i hi
  exact Nat.lt_of_le_of_lt (Nat.le_of_dvd (by omega) (d3d hD hz)) hD1
theorem d5Q {i : Nat} (hi : i < c) : (outI x c i).natAbs < LB ^ K := by
  obtain ⟨D, hD, hD1, hz⟩ := h.ex
  have hd : a0K x c ∣ D.natAbs := b1p fun i hi => by obtain ⟨z, hz, _⟩ := hz i hi; exact d3d hD hz
  obtain ⟨z, hz, hz1⟩ := hz i hi
  obtain ⟨m, hm⟩ := Int.ofNat_dvd_left.2 hd
  have hm0 : m ≠ 0 := fun e => hD (by rw [hm, e, Int.mul_zero])
  have ho := b8H x hi
  have : z = m * outI x c i := by
    refine Rat.intCast_inj.1 ?_
    rw [← hz, Rat.intCast_mul, ← ho, hm, Rat.intCast_mul]
    have h3 : (((a0K x c : Nat) : Int) : Rat) = ((a0K x c : Nat) : Rat) := rfl
    rw [h3]
    generalize ((a0K x c : Nat) : Rat) = l
    generalize (m : Rat) = k
    generalize x i = y
    grind
  rw [this, Int.natAbs_mul] at hz1
  exact Nat.lt_of_le_of_lt (Nat.le_mul_of_pos_left _ (by omega)) hz1
theorem e6I {i : Nat} (hi : i < c) : (x i).num.natAbs < LB ^ K := by
  obtain ⟨D, hD, hD1, hz⟩ := h.ex
  obtain ⟨z, hz, hz1⟩ := hz i hi
  have hl : (D : Rat) ≠ 0 := fun e => hD (Rat.intCast_inj.1 (by rw [e]; rfl))
  exact Nat.lt_of_le_of_lt (d2b hl hz).1 hz1
end
section
variable (H : Heap) (x : Nat → Rat) {c i : Nat}
theorem d5G : lenV H (rvV x c) = some (.int .i64 c) := by
  have := d5z H 4 (fun k => Rv (x k)) (List.range c)
  rw [List.length_range] at this; exact this
theorem c6I (k : IntKind) (h : i < c) : idxV H 4 (rvV x c) (.int k i) = some (.ro (Rv (x i)) 0) := by
  have := d5A H 4 (fun k => Rv (x k)) (List.range c) k i (by simpa using h)
  simp only [List.getElem_range] at this; exact this
theorem e6q : Cl (rvV x c) := e2L 4 (fun k => Rv (x k)) (List.range c) fun _ => a4q _
theorem b1X (id : Nat) : nref id (rvV x c) = true := a1n (e6q x)
theorem e7q : atV H (.ro (Rv (x i)) 0) = some [.bool (decide ((x i).num < 0)), natV (limbs (x i).num.natAbs), .bool false, natV (limbs (x i).den)] := rfl
theorem e1i : atV H (.ro (Rv (x i)) 2) = some [.bool false, natV (limbs (x i).den)] := rfl
end
end Go.Abs
set_option linter.unusedVariables false
set_option linter.unusedSimpArgs false
namespace Go.Abs
/-- One row bound anew: rows of numbers. -/
def ax (A : Heap) (β n : Nat) (X : Nat → List ZI) : Heap := hm A β 0 ((mat n X).map vecV) fun _ => none
theorem d3o (A : Heap) (β n : Nat) (X : Nat → List ZI) : (ax A β n X).length = A.length := a1J _ _ _ _ _
theorem a3U (A : Heap) (β n : Nat) (X : Nat → List ZI) (i : Nat) : lid (ax A β n X) i = lid A i := d5X _ _ _ _ _ _
theorem e5H {A : Heap} {β : Nat} {rows : List (List ZI)} (h : A[β]? = some (some ⟨1, rows.map vecV⟩)) : ax A β rows.length (mg rows) = A := by
  have e : mat rows.length (mg rows) = rows := by
    apply List.ext_getElem (a0f _ _)
    intro i h1 h2
    rw [a6e, a3T h2]
  unfold ax
  rw [e]
  exact e0i h fun j hj => absurd hj (by omega)
section
variable {A L : Heap} {β n : Nat} {X : Nat → List ZI}
theorem a1A (i : Nat) : hrow (hap (ax A β n X) L) (lid A i) = (L[i]?).join := d6c i
theorem a1X (i : Nat) (x : Option Blk) : (hap (ax A β n X) L).set (lid A i) x = hap (ax A β n X) (L.set i x) := d9c i x
theorem a2j (m i off : Nat) (v : AV) (env : Env) : a1S m (.loc (lid A i) 0 off) v env (hap (ax A β n X) L) = (L[i]?).join.bind fun b =>
    if 0 < b.xs.length ∧ v.fit = true ∧ v.cells.length = m ∧ off + m ≤ b.wd then some (.top, env, hap (ax A β n X) (L.set i (some ⟨b.wd, b.xs.set 0 (upd (b.xs.getD 0 .top) b.wd off m v)⟩))) else none := by
  simp only [a1S, a1A, a1X]
variable (hA : β < A.length)
include hA
theorem d2I : hrow (hap (ax A β n X) L) β = some ⟨1, (mat n X).map vecV⟩ := d6a (by omega)
theorem d3r {j len : Nat} (hj : j < len) (oc : Option Nat) (k : IntKind) : idxV (hap (ax A β n X) L) 1 (.mu β 0 len oc) (.int k j) = some (.loc β j 0) := by
  rw [b4J _ _ _ _ _ _ _ _ (by omega) (by omega), d2I hA]; simp
theorem X_at {j : Nat} (hj : j < n) : atV (hap (ax A β n X) L) (.loc β j 0) = some [vecV (X j)] := by
  rw [a9K, d2I hA]
  simp only [Option.bind_some, List.length_map, a0f]
  rw [if_pos hj, List.getD_eq_getElem?_getD, List.getElem?_map, List.getElem?_eq_getElem (by rw [a0f]; exact hj), a6e]; rfl
theorem X_st {j : Nat} (hj : j < n) (v : List ZI) (env : Env) : a1S 1 (.loc β j 0) (vecV v) env (hap (ax A β n X) L) = some (.top, env, hap (ax A β n fun a => if a = j then v else X a) L) := by
  simp only [a1S, d2I hA, Option.bind_some, List.length_map, a0f]
  rw [if_pos ⟨hj, rfl, rfl, by omega⟩, a2m]
  unfold ax
  rw [d9a (by omega)]
  refine congrArg (fun O => some (AV.top, env, hap (hm A β 0 O fun _ => none) L)) ?_
  apply List.ext_getElem?
  intro t
  rw [List.getElem?_set, List.length_map, a0f]
  simp only [List.getElem?_map, mat]
  rcases Nat.lt_or_ge t n with h | h
  · rw [List.getElem?_range h]
    by_cases e : j = t
    · subst e; simp [h]
    · simp [e, Ne.symm e]
  · rw [List.getElem?_eq_none (by simpa using h), if_neg (by omega)]; rfl
theorem e7H {r len : Nat} (hr : r ≤ len) (oc : Option Nat) (k k' : IntKind) : slcV (hap (ax A β n X) L) 1 (.mu β 0 len oc) none (some (.int k r)) (some (.int k' r)) = some (.mu β 0 r (some r)) := by
  simp only [slcV, d2I hA, Option.bind_some, a3R]
  rw [if_pos ⟨trivial, rfl, by omega, by omega, by omega, by omega⟩]
  simp
end
theorem e5I {A : Heap} {β n : Nat} {X X' : Nat → List ZI} (hA : β < A.length) (h : a0E (ax A β n X)) : a0E (ax A β n X') := by
  intro id b hb a ha
  have hid := a0k hb
  rw [d3o] at hid
  unfold ax at hb
  rw [a1K _ _ _ _ _ _ hid] at hb
  split at hb
  · cases hb; exact (a1D 1 vecV _ a0e a ha).ref
  · rename_i h1
    rw [if_neg (by omega)] at hb
    have := h id b (by unfold ax; rw [a1K _ _ _ _ _ _ hid, if_neg h1, if_neg (by omega)]; exact hb) a ha
    rwa [d3o] at this ⊢
theorem e7f {H L0 : Heap} {β n : Nat} {X : Nat → List ZI} (L : Heap) (hβ : H.length ≤ β) (hA : β < (hap H L0).length) : ∃ L', hap (ax (hap H L0) β n X) L = hap H L' := by
  have hl : (hap H L0).length = H.length + L0.length := by simp [hap]
  have ht : (hap (ax (hap H L0) β n X) L).take H.length = H := by
    apply List.ext_getElem?
    intro j
    rw [List.getElem?_take]
    split
    · rename_i hj
      simp only [hap]
      rw [List.getElem?_append_left (by rw [d3o]; show j < (hap H L0).length; omega)]
      unfold ax
      rw [a1K _ _ _ _ _ _ (by show j < (hap H L0).length; omega), if_neg (by omega), if_neg (by omega)]
      rw [List.getElem?_append_left hj]
    · rename_i hj
      rw [List.getElem?_eq_none (by omega)]
  exact ⟨(hap (ax (hap H L0) β n X) L).drop H.length, (List.take_append_drop H.length _).symm.trans (by rw [ht]; rfl)⟩
theorem Safe.dropX {A : Heap} {β n : Nat} {X : Nat → List ZI} {x : Cx} {todo : List AItem} {env : Env} {R : AV → Heap → Prop} (L : Heap) {o : Option Blk} (hH : a0E (ax A β n X)) (hx : x.n0 ≤ A.length)
    (he : env.all (fun p => nref (lid A L.length) p.2) = true) (hL : ∀ b, some b ∈ L → ∀ a ∈ b.flat, Cl a) (h : Safe x todo env (hap (ax A β n X) L) R) : Safe x todo env (hap (ax A β n X) (L ++ [o])) R :=
  Safe.dropG hH (by rw [d3o]; exact hx) (by rw [a3U]; exact he) (fun b hb a ha => a1n (hL b hb a ha)) h
theorem Safe.freezeX {A : Heap} {β n : Nat} {X : Nat → List ZI} {x : Cx} {todo : List AItem} {env : Env} {R : AV → Heap → Prop} (i : Nat) {L : Heap} {b : Blk} (hH : a0E (ax A β n X)) (hx : x.n0 ≤ A.length) (hl : L[i]? = some (some b)) (hcl : ∀ c ∈ b.flat, Cl c)
    (h : Safe x todo (frzE (lid A i) b env) (hap (ax A β n X) ((frzL (lid A i) b L).set i none)) R) : Safe x todo env (hap (ax A β n X) L) R :=
  Safe.freezeB i hH (by rw [d3o]; exact hx) hl hcl (by rw [a3U]; exact h)
theorem e3i {A : Heap} {β n : Nat} {X : Nat → List ZI} {α : Type} (hH : a0E (ax A β n X)) {L : Heap} (i : Nat) {n0 : Nat} (hn : n0 ≤ lid A i) {env : Env} {wd bytes : Nat} {f : α → AV} (hf : ∀ x, Cl (f x)) (l : List α) (x : α) (l' : List α) {y : AV} {len : Nat}
    (hlen : len = l.length) (hl : L[i]? = some (some ⟨wd, l.map f⟩)) (hL : RC L) (hy : y = f x) (hl' : l' = l ++ [x]) (hb : (len + 1) * bytes ≤ 140737488355328) (hbb : len + 1 ≤ 9223372036854775807) :
    appV n0 wd bytes false (.mu (lid A i) 0 len none) (.sl wd [y]) env (hap (ax A β n X) L) = some (.mu (lid A i) 0 (len + 1) none, scrub (lid A i) env, hap (ax A β n X) (L.set i (some ⟨wd, l'.map f⟩))) := by
  have := a5o (H := ax A β n X) hH i (by rw [a3U]; exact hn) (env := env) (bytes := bytes) hf l x l' hlen hl hL hy hl' hb hbb
  rwa [a3U] at this
theorem e3L (H : Heap) (cs : List Nat) (k : IntKind) {i : Nat} (h : i < cs.length) : idxV H 1 (hsV cs) (.int k i) = some (.ro (intV (cs.getD i 0)) 0) := by
  have := d5A H 1 intV cs k i h
  rw [List.getD_eq_getElem?_getD, List.getElem?_eq_getElem h]; exact this
end Go.Abs
set_option linter.unusedVariables false
set_option linter.unusedSimpArgs false
namespace Go.Abs
def InC (j : JS) (c : Nat) (v : Nat → Rat) : Prop := ∀ k, k < c → v k = sumR (fun i => v (j.s.cs.getD i 0) * j.M i k) j.s.cs.length
theorem e4P {j : JS} {c : Nat} {u w : Nat → Rat} (hu : InC j c u) (hw : InC j c w) (a b : Rat) : InC j c (fun k => a * u k + b * w k) := by
  intro k hk
  show a * u k + b * w k = _
  rw [hu k hk, hw k hk, ← a5r]
  refine a1d fun i _ => ?_
  show _ = (a * u (j.s.cs.getD i 0) + b * w (j.s.cs.getD i 0)) * j.M i k
  grind
theorem e0e {j : JS} {c : Nat} (hcs : ∀ t, t < j.s.cs.length → j.s.cs.getD t 0 < c) {u v : Nat → Rat} {l : Rat} (hl : l ≠ 0) (h : ∀ k, k < c → u k = l * v k) (hu : InC j c u) : InC j c v := by
  intro k hk
  have h1 := hu k hk
  have e : sumR (fun i => u (j.s.cs.getD i 0) * j.M i k) j.s.cs.length = l * sumR (fun i => v (j.s.cs.getD i 0) * j.M i k) j.s.cs.length + 0 * sumR (fun i => v (j.s.cs.getD i 0) * j.M i k) j.s.cs.length := by
    rw [← a5r]
    refine a1d fun i hi => ?_
    rw [h _ (hcs i hi)]; grind
  rw [e, h k hk] at h1
  grind
/-- Row i with the a0Y from m on cleared. -/
structure RowP (j : JS) (c m i : Nat) (f : Nat → Int) : Prop where
  inn : InC j c fun k => (f k : Rat)
  lo : ∀ t, t < i → f (j.s.cs.getD t 0) = 0
  hi : ∀ t, m ≤ t → t < j.s.cs.length → t ≠ i → f (j.s.cs.getD t 0) = 0
  piv : f (j.s.cs.getD i 0) ≠ 0
section
variable {j : JS} {c : Nat} (hcs : ∀ t, t < j.s.cs.length → j.s.cs.getD t 0 < c)
include hcs
theorem b8z {m i : Nat} {f : Nat → Int} (hi : i < j.s.cs.length) (h : RowP j c m i f) : Nz f c := ⟨_, hcs i hi, h.piv⟩
theorem d0P {m i : Nat} {f : Nat → Int} (hi : i < j.s.cs.length) (h : RowP j c m i f) : RowP j c m i (a1I f c) := by
  have hne := e1y (b8z hcs hi h)
  have hz : ∀ k, f k = 0 → a1I f c k = 0 := fun k hk => by unfold a1I; rw [hk]; simp
  refine ⟨e0e hcs (l := ((sgF f c * (a2l f c : Int) : Int) : Rat)) (fun h0 => hne (Rat.intCast_inj.1 (by rw [h0]; rfl))) (fun k hk => ?_) h.inn, fun t ht => hz _ (h.lo t ht), fun t h1 h2 h3 => hz _ (h.hi t h1 h2 h3), fun h0 => h.piv ?_⟩
  · show ((f k : Int) : Rat) = _ * ((a1I f c k : Int) : Rat)
    rw [← Rat.intCast_mul, ← a5x hk]
  · rw [a5x (w := f) (hcs i hi), h0, Int.mul_zero]
omit hcs in
theorem d9h {m i : Nat} {f g : Nat → Int} (him : i < m) (hm : m < j.s.cs.length) (hf : RowP j c (m + 1) i f) (hg : RowP j c (m + 1) m g) : RowP j c m i fun k => g (j.s.cs.getD m 0) * f k - f (j.s.cs.getD m 0) * g k := by
  refine ⟨?_, fun t ht => ?_, fun t h1 h2 h3 => ?_, ?_⟩
  · have h := e4P hf.inn hg.inn (g (j.s.cs.getD m 0) : Rat) (-(f (j.s.cs.getD m 0) : Rat))
    intro k hk
    have h1 := h k hk
    have e : ∀ k, ((g (j.s.cs.getD m 0) * f k - f (j.s.cs.getD m 0) * g k : Int) : Rat) = (g (j.s.cs.getD m 0) : Rat) * (f k : Rat) + -(f (j.s.cs.getD m 0) : Rat) * (g k : Rat) := fun k => by
      rw [Rat.intCast_sub, Rat.intCast_mul, Rat.intCast_mul]; grind
    simp only [e]
    exact h1
  · rw [hf.lo t ht, hg.lo t (by omega)]; simp
  · by_cases e : t = m
    · subst e; rw [Int.mul_comm]; omega
    · rw [hf.hi t (by omega) h2 h3, hg.hi t (by omega) h2 e]; simp
  · rw [hg.lo i him, Int.mul_zero, Int.sub_zero]
    exact Int.mul_ne_zero hg.piv hf.piv
omit hcs in
theorem d9g {m i : Nat} {f : Nat → Int} (him : i < m) (hf : RowP j c (m + 1) i f) (h0 : f (j.s.cs.getD m 0) = 0) : RowP j c m i f :=
  ⟨hf.inn, hf.lo, fun t h1 h2 h3 => by
    by_cases e : t = m
    · rw [e]; exact h0
    · exact hf.hi t (by omega) h2 h3, hf.piv⟩
omit hcs in
theorem d9f {m i : Nat} {f : Nat → Int} (hmi : m ≤ i) (hf : RowP j c (m + 1) i f) (him : m < i) : RowP j c m i f :=
  ⟨hf.inn, hf.lo, fun t h1 h2 h3 => by
    by_cases e : t = m
    · rw [e]; exact hf.lo m him
    · exact hf.hi t (by omega) h2 h3, hf.piv⟩
omit hcs in
theorem d0O {m : Nat} {f : Nat → Int} (hf : RowP j c (m + 1) m f) : RowP j c m m f :=
  ⟨hf.inn, hf.lo, fun t h1 h2 h3 => hf.hi t (by omega) h2 h3, hf.piv⟩
/-- Cleared everywhere it is the row of the fractions. -/
theorem d0Q {m i : Nat} {f : Nat → Int} (hmi : m ≤ i) (hi : i < j.s.cs.length) (hf : RowP j c m i f) (hpr : ∀ k, k < c → a1I f c k = f k) : ∀ k, k < c → f k = a1I (outI (j.M i) c) c k := by
  intro k hk
  have hall : ∀ t, t < j.s.cs.length → t ≠ i → ((f (j.s.cs.getD t 0) : Int) : Rat) = 0 := fun t ht hne => by
    have : f (j.s.cs.getD t 0) = 0 := by
      rcases Nat.lt_or_ge t i with h | h
      · exact hf.lo t h
      · exact hf.hi t (by omega) ht hne
    rw [this]; rfl
  have hM : ∀ k, k < c → ((f k : Int) : Rat) = (f (j.s.cs.getD i 0) : Rat) * j.M i k := fun k hk => by
    have h1 := hf.inn k hk
    rw [b5m hi fun t ht hne => by show ((f (j.s.cs.getD t 0) : Int) : Rat) * j.M t k = 0; rw [hall t ht hne]; grind] at h1
    exact h1
  rw [← hpr k hk]
  have hl := a8g (j.M i) c
  refine d5K (a := (a0K (j.M i) c : Int)) (b := f (j.s.cs.getD i 0)) (by omega) hf.piv (b8z hcs hi hf) (fun t ht => ?_) hk
  refine Rat.intCast_inj.1 ?_
  rw [Rat.intCast_mul, Rat.intCast_mul, hM t ht, ← b8H (j.M i) ht]
  have h3 : (((a0K (j.M i) c : Nat) : Int) : Rat) = ((a0K (j.M i) c : Nat) : Rat) := rfl
  rw [h3]
  generalize ((a0K (j.M i) c : Nat) : Rat) = l
  generalize (f (j.s.cs.getD i 0) : Rat) = p
  generalize j.M i t = y
  grind
end
/-- Bareiss's rows. -/
theorem b8y {n c e : Nat} {B : Nat → Nat → Rat} (hB : Bd e B) (hn : n ≤ 64) {i : Nat} (hi : i < (gproc n B c).cs.length) : RowP (a0t n B c) c (gproc n B c).cs.length i (ZgI n B c i) := by
  have hBi : ∀ i k, ∃ z : Int, B i k = z := fun i k => by obtain ⟨z, h, _⟩ := hB i k; exact ⟨z, h⟩
  have hok := a5B (n := n) hBi c
  have hs := a0O n B c
  have hrn := (a2Z (n := n) hBi c).len
  have hZ : ∀ k, (ZgI n B c i k : Rat) = Zg (gproc n B c) i k := fun k => (d6C B hB hn c k (by omega)).1
  have hin := e7E hok (a := i) (by rw [hs]; exact hi)
  rw [hs] at hin
  refine ⟨fun k _ => ?_, fun t ht => ?_, fun t h1 h2 => ?_, ?_⟩
  · have := hin k
    simp only [hZ]
    exact this
  · rw [hs]
    have := e3p hok (a := i) (t := t) (by rw [hs]; exact hi) ht
    rw [hs] at this
    exact Rat.intCast_inj.1 (by rw [hZ, this]; rfl)
  · rw [hs] at h2; omega
  · rw [hs]
    have := e3o hok (a := i) (by rw [hs]; exact hi)
    rw [hs] at this
    intro h0
    exact this (by rw [← hZ, h0]; rfl)
theorem M_sz {n c e : Nat} {B : Nat → Nat → Rat} (hB : Bd e B) (hn : n ≤ 64) (i : Nat) : Sz ((a0t n B c).M i) c (KB e + 1) := by
  have hBi : ∀ i k, ∃ z : Int, B i k = z := fun i k => by obtain ⟨z, h, _⟩ := hB i k; exact ⟨z, h⟩
  have hok := a5B (n := n) hBi c
  have hBd : Bd e (a0t n B c).s.B := by rw [a0O]; exact hB.gproc c
  obtain ⟨l, hl, hl1⟩ := c2V hok (Nat.le_trans hok.g.len hn) hBd
  have hlt : LB ^ KB e < LB ^ (KB e + 1) := Nat.pow_lt_pow_right (by decide) (by omega)
  refine ⟨l, fun h0 => a6X hok.g.piv (by rw [hl, h0]; rfl), by omega, fun k _ => ?_⟩
  obtain ⟨z, hz, hz1⟩ := c9T hok (Nat.le_trans hok.g.len hn) hBd i k
  rw [hl] at hz
  exact ⟨z, hz, by omega⟩
end Go.Abs

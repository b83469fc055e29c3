/- Part 6 of the proof of ElimInverses: W10, W11, W12, W13, W14, W15, W16, W17, W18, W19, W20, W21, W22, W23, W24, W26, W28, W30, W31, W33, W34, W35. -/
import Derived.Test.YtkljokmnimblnaaElimInversesK5
set_option linter.unusedVariables false
set_option linter.unusedSimpArgs false
namespace Go.Abs
theorem d8h (H L M : Heap) : hap (hap H L) M = hap H (L ++ M) := by simp [hap]
theorem d2Q (H L : Heap) (i : Nat) : lid (hap H L) i = lid H (L.length + i) := by simp [hap, lid, Nat.add_assoc]
theorem b7L (n : Nat) : limbs (val (limbs n)) = limbs n := by rw [a0b]
theorem e0E {M k n : Nat} (hk : k = (limbs M).length) (hn : k ≤ n) : (fl n (dig M)).take k = limbs M := by
  rw [d3k _ hn, hk]
  have := b7N (a0c M) rfl
  rw [a0b] at this
  exact this.symm
theorem d4i {H : Heap} {i len : Nat} {X : List Nat} (oc : Option Nat) (h : len ≤ X.length) : frz (lid H i) ⟨1, u32s X⟩ (.mu (lid H i) 0 len oc) = natV (X.take len) := by
  simp only [frz, if_true, Nat.zero_add, a0u, h, List.drop_zero, b4k]; rfl
theorem e1j {H : Heap} (hH : a0L H) {n0 : Nat} {env : Env} {L : Heap} {len c : Nat} {X l : List Nat} {o : Option Blk} (hn : n0 ≤ lid H 0) (hlen : len ≤ X.length) (hc : c < len + l.length) (hb : X.length + l.length ≤ 35184372088832) :
    appV n0 1 4 false (.mu (lid H 0) 0 len (some c)) (.sl 1 (u32s l)) env (hap H [some ⟨1, u32s X⟩]) = some (.mu (lid H 0) 0 (len + l.length) none, scrub (lid H 0) env, hap H [some ⟨1, u32s (X.take len ++ l)⟩]) := by
  have hf : free (hap H [some ⟨1, u32s X⟩]) (lid H 0) = true := c8n hH (a5f fun b hb a ha => by
    simp at hb; subst hb; exact a0j X a ha)
  simp only [appV, a1X, Option.bind_some, a1y, List.getElem?_cons_zero, Option.join_some, a5n, List.set_cons_zero]
  rw [if_neg (by simp [a0u]; omega), if_pos]
  · simp only [a0u, b4k, b3e, a0S]
    rw [Option.bind_some, if_neg (by omega)]
  · simp only [a0u, true_and]
    refine ⟨hlen, hn, hf, ?_, ?_, by omega, by omega⟩
    · exact List.all_eq_true.2 fun a ha => a2c (a7U ha)
    · exact List.all_eq_true.2 fun a ha => a2c (a7U ha)
theorem d9x {H L : Heap} {i lo hi len m : Nat} {b : Blk} (hl : L[i]? = some (some b)) {wd : Nat} (hw : b.wd = wd) (oc : Option Nat) (k k' : IntKind) (h1 : hi = lo + m) (h2 : hi ≤ len) :
    slcV (hap H L) wd (.mu (lid H i) 0 len oc) (some (.int k lo)) (some (.int k' hi)) none = some (.mu (lid H i) lo m (oc.map (· - lo))) := by
  subst h1
  simp only [slcV, a1y, hl, Option.join_some, Option.bind_some, a2t]
  rw [if_pos ⟨hw, by omega, by omega, by omega⟩]
  simp
  omega
/-- The rests, from the top. -/
theorem d7i {U V i nv : Nat} (hV : V < LB ^ nv) (hV0 : 0 < V) : (∀ j, xr (dig (U % (V * LB ^ (i + 1)))) i (fl (nv + 1) (dig (U % (V * LB ^ (i + 1)) / LB ^ i % V))) j = dig (U % (V * LB ^ i)) j) ∧
    U % (V * LB ^ (i + 1)) / LB ^ i / V = dig (U / V) i ∧ val (fl (nv + 1) fun t => dig (U % (V * LB ^ (i + 1))) (i + t)) = U % (V * LB ^ (i + 1)) / LB ^ i ∧ U % (V * LB ^ (i + 1)) / LB ^ i < LB * V := by
  have hp := a4V i
  have e1 : V * LB ^ (i + 1) = V * LB ^ i * LB := by rw [Nat.pow_succ, Nat.mul_assoc]
  have hR1 : U % (V * LB ^ (i + 1)) < V * LB ^ (i + 1) := Nat.mod_lt _ (Nat.mul_pos hV0 (a4V _))
  have hS : U % (V * LB ^ (i + 1)) / LB ^ i < LB * V := by
    rw [Nat.div_lt_iff_lt_mul hp]
    have : LB * V * LB ^ i = V * LB ^ (i + 1) := by rw [e1]; rw [Nat.mul_comm LB, Nat.mul_right_comm]
    rw [this]; exact hR1
  have hSl : U % (V * LB ^ (i + 1)) / LB ^ i < LB ^ (nv + 1) := by
    have : LB * V ≤ LB ^ (nv + 1) := by rw [Nat.pow_succ']; exact Nat.mul_le_mul_left _ (Nat.le_of_lt hV)
    omega
  have hR : U % (V * LB ^ i) = U % (V * LB ^ (i + 1)) % (V * LB ^ i) := by
    rw [e1, Nat.mod_mul_right_mod]
  have hq : U % (V * LB ^ (i + 1)) / LB ^ i % V = U % (V * LB ^ i) / LB ^ i := by
    rw [hR, Nat.mul_comm V (LB ^ i), Nat.mod_mul_right_div_self]
  refine ⟨fun j => ?_, ?_, ?_, hS⟩
  · unfold xr
    rw [a0Z]
    by_cases h : i ≤ j ∧ j < i + (nv + 1)
    · rw [if_pos h, b6L (by omega), hq, d8C]
      congr 1; omega
    · rw [if_neg h]
      rcases Nat.lt_or_ge j i with h1 | h1
      · have h2 := Nat.mod_add_div (U % (V * LB ^ (i + 1))) (V * LB ^ i)
        rw [← hR] at h2
        have h3 : V * LB ^ i * (U % (V * LB ^ (i + 1)) / (V * LB ^ i)) = LB ^ i * (V * (U % (V * LB ^ (i + 1)) / (V * LB ^ i))) := by rw [Nat.mul_comm V, Nat.mul_assoc]
        rw [h3] at h2
        conv => lhs; rw [← h2]
        exact c4i _ h1
      · have hj : i + (nv + 1) ≤ j := by omega
        have hpj : LB ^ (nv + (i + 1)) ≤ LB ^ j := Nat.pow_le_pow_right (by decide) (by omega)
        have h3 : V * LB ^ (i + 1) ≤ LB ^ (nv + (i + 1)) := by rw [Nat.pow_add LB nv (i + 1)]; exact Nat.mul_le_mul_right _ (Nat.le_of_lt hV)
        have h4 : U % (V * LB ^ i) ≤ U % (V * LB ^ (i + 1)) := by rw [hR]; exact Nat.mod_le _ _
        rw [b1M (by omega), b1M (by omega)]
  · rw [Nat.div_div_eq_div_mul, Nat.mul_comm (LB ^ i), e1, Nat.mod_mul_right_div_self]
    unfold dig
    rw [Nat.div_div_eq_div_mul]
  · have : (fl (nv + 1) fun t => dig (U % (V * LB ^ (i + 1))) (i + t)) = fl (nv + 1) (dig (U % (V * LB ^ (i + 1)) / LB ^ i)) := a2G fun t _ => (d8C _ _ _).symm
    rw [this, a1z hSl]
theorem b6G {l : List Nat} (h : (l.getLast?).getD 1 ≠ 0) (hl : 0 < l.length) : 0 < l.getD (l.length - 1) 0 := by
  rw [List.getLast?_eq_getElem?, List.getElem?_eq_getElem (by omega)] at h
  rw [List.getD_eq_getElem?_getD, List.getElem?_eq_getElem (by omega)]
  simp at h ⊢; omega
theorem d1v {n : Nat} (h : n < LB) : blen n ≤ 32 := by
  rcases Nat.lt_or_ge 32 (blen n) with hc | hc
  · exfalso
    have h0 : n ≠ 0 := by rintro rfl; simp [d1u] at hc
    have := b8f h0
    have h2 : 2 ^ 32 ≤ 2 ^ (blen n - 1) := Nat.pow_le_pow_right (by decide) (by omega)
    have : (2 : Nat) ^ 32 = LB := by decide
    omega
  · exact hc
/-- Doubled till the top bit is set: as many limbs. -/
theorem c7S {l : List Nat} (hl : Lim l) (h0 : 0 < l.length) (ht : 0 < l.getD (l.length - 1) 0) : val l * 2 ^ (32 - blen (l.getD (l.length - 1) 0)) < LB ^ l.length ∧ LB ^ (l.length - 1) ≤ val l := by
  have hd := a0I hl (l.length - 1)
  have hb := d1v hd
  have hs := a2Y l (l.length - 1)
  have hdr : val (l.drop (l.length - 1)) = l.getD (l.length - 1) 0 := by
    rw [a2o, show l.length - 1 + 1 = l.length by omega, List.drop_length]; simp [val]
  rw [hdr] at hs
  have htk := a2J hl (l.length - 1)
  generalize l.getD (l.length - 1) 0 = d at *
  have hlt := c8D d
  constructor
  · have h1 : val l < LB ^ (l.length - 1) * 2 ^ blen d := by
      have : LB ^ (l.length - 1) * (d + 1) ≤ LB ^ (l.length - 1) * 2 ^ blen d := Nat.mul_le_mul_left _ hlt
      rw [Nat.mul_add] at this
      omega
    have h2 : LB ^ (l.length - 1) * 2 ^ blen d * 2 ^ (32 - blen d) = LB ^ l.length := by
      rw [Nat.mul_assoc, ← Nat.pow_add, show blen d + (32 - blen d) = 32 by omega, show (2 : Nat) ^ 32 = LB by decide, ← Nat.pow_succ]
      congr 1; omega
    rw [← h2]
    exact Nat.mul_lt_mul_of_pos_right h1 (Nat.pow_pos (by decide))
  · have : LB ^ (l.length - 1) * 1 ≤ LB ^ (l.length - 1) * d := Nat.mul_le_mul_left _ ht
    omega
theorem c1y (r : Nat) : AV.sl 1 [.int .u32 (r : Int)] = natV [r] := rfl
theorem b6s {r : Nat} : val [r] = r := by simp [val]
theorem a8E (a b : List Nat) (ha : Nt a) (hb : Nt b) (hal : a.length < 17592186044000) (hbl : b.length < 17592186044000) (hb0 : val b ≠ 0) : a0d Pr b7i [natV a, natV b] (.tup [natV (limbs (val a / val b)), natV (limbs (val a % val b)), .int .i64 0]) := by
  have hLB : LB = 4294967296 := rfl
  have hna := ha.limbs
  have hnb := hb.limbs
  have hlal : (limbs (val a)).length < 17592186044000 := Nat.lt_of_le_of_lt (a0Q ha.lim) hal
  have hlbl : (limbs (val b)).length < 17592186044000 := Nat.lt_of_le_of_lt (a0Q hb.lim) hbl
  have hva := a0b (val a)
  have hvb := a0b (val b)
  have hlasta := a5k (val a)
  have hlastb := a5k (val b)
  have hia := b7L (val a)
  have hib := b7L (val b)
  refine a0d.introL d5N d5L (Nat.le_of_ble_eq_true rfl) (c4t (a0P _) (a0P _) (.int _ _)) fun H hH => ?_
  refine Safe.rg rfl ?_
  simp only [c6g, E3, seval]
  refine Safe.rg rfl ?_
  simp only [c6f, E3, seval]
  first | refine (a0r a ha.lim ha.len).acall ?_ | refine (a0r a ha.lim ha.len).dcall ?_
  try simp only [E3, seval]
  first | refine (a0r b hb.lim hb.len).acall ?_ | refine (a0r b hb.lim hb.len).dcall ?_
  try simp only [E3, seval]
  generalize limbs (val a) = la at *
  generalize limbs (val b) = lb at *
  generalize val a = A at *
  generalize val b = B at *
  subst hva
  subst hvb
  have hb1 : 0 < lb.length := by
    rcases Nat.eq_zero_or_pos lb.length with h | h
    · exfalso; have := List.length_eq_zero_iff.1 h; subst this; exact hb0 rfl
    · exact h
  have hB : 0 < val lb := Nat.pos_of_ne_zero hb0
  refine Safe.rg rfl ?_
  simp only [c6e, show (((lb.length : Nat) : Int) = 0) = False from eq_false (by omega), E3, seval]
  refine Safe.cd rfl ?_
  simp only [E3, seval]
  refine Safe.rg rfl ?_
  simp only [c6d, E3, seval]
  refine (b3o la lb hna hnb).acall ?_
  by_cases hab : val la < val lb
  · have hcm : (cmpI (val la) (val lb) < 0) = True := by rw [b8a]; exact eq_true hab
    simp only [hcm, E3, seval]
    refine Safe.cd rfl ?_
    simp only [E3, seval]
    refine Safe.rg rfl ?_
    simp only [c6c, E3, seval]
    first | refine (a7A la hna).acall ?_ | refine (a7A la hna).dcall ?_
    try simp only [E3, seval]
    refine Safe.rt rfl ?_
    simp only [E3, seval]
    rw [Nat.div_eq_of_lt hab, Nat.mod_eq_of_lt hab, a0D]
    exact ⟨Le.tup3 (Le.nil 1 (by decide)) (Le.refl _) (Le.refl _), _, rfl⟩
  have hcm : (cmpI (val la) (val lb) < 0) = False := by rw [b8a]; exact eq_false hab
  simp only [hcm, E3, seval]
  refine Safe.cd rfl ?_
  simp only [E3, seval]
  have htb := b6G hlastb hb1
  have hdl := a0I hnb.lim (lb.length - 1)
  by_cases hone : lb.length = 1
  · have h1 : (((lb.length : Nat) : Int) = 1) = True := eq_true (by omega)
    refine Safe.rg rfl ?_
    simp only [b7C, h1, E3, seval]
    refine Safe.cd rfl ?_
    simp only [E3, seval]
    have hvb1 : val lb = lb.getD 0 0 := by
      have := a2o lb 0
      rw [List.drop_zero, List.drop_eq_nil_of_le (by omega)] at this
      simpa [val] using this
    have i0 := a0z (hap H []) lb .i64 0 hb1
    rw [Int.natCast_zero] at i0
    have hd0 : 0 < lb.getD 0 0 := by rw [← hvb1]; exact hB
    have hd1 : lb.getD 0 0 < LB := a0I hnb.lim 0
    refine Safe.rg rfl ?_
    simp only [c6b, i0, E3, seval]
    first | refine (c5e la (lb.getD 0 0) hna hd0 hd1).acall ?_ | refine (c5e la (lb.getD 0 0) hna hd0 hd1).dcall ?_
    try simp only [E3, seval]
    have hrl : val la % lb.getD 0 0 < LB := Nat.lt_trans (Nat.mod_lt _ hd0) hd1
    refine Safe.rg rfl ?_
    simp only [c6a, c1y, E3, seval]
    first | refine (a0r [val la % lb.getD 0 0] (by intro d hd; simp at hd; subst hd; exact hrl) (by simp)).acall ?_ | refine (a0r [val la % lb.getD 0 0] (by intro d hd; simp at hd; subst hd; exact hrl) (by simp)).dcall ?_
    try simp only [E3, seval]
    refine Safe.rt rfl ?_
    simp only [E3, seval]
    rw [hvb1, b6s]
    exact ⟨Le.refl _, _, rfl⟩
  have h1 : (((lb.length : Nat) : Int) = 1) = False := eq_false (by omega)
  refine Safe.rg rfl ?_
  simp only [b7C, h1, E3, seval]
  refine Safe.cd rfl ?_
  simp only [E3, seval]
  have w0 : IntKind.wrap .i64 (((lb.length : Nat) : Int) - 1) = ((lb.length - 1 : Nat) : Int) := by rw [a0a] <;> omega
  refine Safe.rg rfl ?_
  simp only [c5Z, w0, a0z _ lb _ (lb.length - 1) (by omega), E3, seval]
  first | refine (d4t _ hdl).acall ?_ | refine (d4t _ hdl).dcall ?_
  try simp only [E3, seval]
  obtain ⟨hVl, hBl⟩ := c7S hnb.lim hb1 htb
  have hn32 : 32 - blen (lb.getD (lb.length - 1) 0) < 32 := by
    have : 0 < blen (lb.getD (lb.length - 1) 0) := by unfold blen; rw [if_neg (by omega)]; omega
    omega
  generalize hn : 32 - blen (lb.getD (lb.length - 1) 0) = n at *
  have hp2 : 0 < 2 ^ n := Nat.pow_pos (by decide)
  -- the divisor
  refine Safe.rg rfl ?_
  simp only [c3o, E3, seval]
  refine a0n.mono (c9a lb n hnb (by omega) hb0 hn32 (hap H [])) ?_
  rintro r' H' ⟨rfl, rfl⟩
  simp only [d8h, d2Q, List.nil_append, List.length_nil, hib, E3, seval]
  have hVp : 0 < val lb * 2 ^ n := Nat.mul_pos hB hp2
  have hnv1 : (limbs (val lb * 2 ^ n)).length ≤ lb.length := a0h hVl
  have hnv2 : lb.length ≤ (limbs (val lb * 2 ^ n)).length := by
    rcases Nat.lt_or_ge (limbs (val lb * 2 ^ n)).length lb.length with h | h
    · exfalso
      have h2 := a0W (a0c (val lb * 2 ^ n))
      rw [a0b] at h2
      have h3 : LB ^ (limbs (val lb * 2 ^ n)).length ≤ LB ^ (lb.length - 1) := Nat.pow_le_pow_right (by decide) (by omega)
      have h4 : val lb * 1 ≤ val lb * 2 ^ n := Nat.mul_le_mul_left _ hp2
      omega
    · exact h
  have hnv : (limbs (val lb * 2 ^ n)).length = lb.length := by omega
  refine Safe.freeze 0 hH rfl rfl (a0j _) ?_
  refine Safe.keep [0, 1, 9, 10] ?_
  simp only [d4i (H := H) (i := 0) _ (show (limbs (val lb * 2 ^ n)).length ≤ (fl (lb.length + 1) (dig (val lb * 2 ^ n))).length by rw [a0Z]; omega), e0E (M := val lb * 2 ^ n) rfl (show (limbs (val lb * 2 ^ n)).length ≤ lb.length + 1 by omega), E3, seval]
  refine Safe.drop0 hH rfl (by simp only [List.all_cons, List.all_nil, E3, seval]) (by repeat (first | exact RC.nil | refine RC.none ?_ | refine RC.row ZI.cl ?_ | refine RC.cons (a0j _) ?_ | refine RC.row a0e ?_ | refine RC.emp ?_ | refine RC.zero ?_ | refine RC.one (Z_cl _) ?_ | refine RC.one (ZI.cl _) ?_ | refine RC.one (a0e _) ?_)) ?_
  -- the dividend
  have hA0 : val la ≠ 0 := by omega
  have hla1 : 0 < la.length := by
    rcases Nat.eq_zero_or_pos la.length with h | h
    · exfalso; have := List.length_eq_zero_iff.1 h; subst this; exact hA0 rfl
    · exact h
  have hU1 : la.length ≤ (limbs (val la * 2 ^ n)).length := by
    rcases Nat.lt_or_ge (limbs (val la * 2 ^ n)).length la.length with h | h
    · exfalso
      have h2 := a0W (a0c (val la * 2 ^ n))
      rw [a0b] at h2
      have h3 : LB ^ (limbs (val la * 2 ^ n)).length ≤ LB ^ (la.length - 1) := Nat.pow_le_pow_right (by decide) (by omega)
      have h4 : val la * 1 ≤ val la * 2 ^ n := Nat.mul_le_mul_left _ hp2
      have h5 := (c7S hna.lim hla1 (b6G hlasta hla1)).2
      omega
    · exact h
  have hU2 : val la * 2 ^ n < LB ^ (la.length + 1) := by
    rw [Nat.pow_succ]
    have h2n : 2 ^ n ≤ LB := by
      have : LB = 2 ^ (32 - n) * 2 ^ n := by rw [← Nat.pow_add, show 32 - n + n = 32 by omega]
      rw [this]; exact Nat.le_mul_of_pos_left _ (Nat.pow_pos (by decide))
    exact Nat.lt_of_lt_of_le (Nat.mul_lt_mul_of_pos_right (a0W hna.lim) hp2) (Nat.mul_le_mul_left _ h2n)
  have hU3 : (limbs (val la * 2 ^ n)).length ≤ la.length + 1 := a0h hU2
  refine Safe.rg rfl ?_
  simp only [c3n, E3, seval]
  refine a0n.mono (c9a la n hna (by omega) hA0 hn32 (hap H [])) ?_
  rintro r' H' ⟨rfl, rfl⟩
  generalize hK : (limbs (val la * 2 ^ n)).length = K at *
  have hrow : (fl (la.length + 1) (dig (val la * 2 ^ n))).take K ++ [0, 0] = fl (K + 2) (dig (val la * 2 ^ n)) := by
    have hh : val la * 2 ^ n < LB ^ K := by have := a0W (a0c (val la * 2 ^ n)); rwa [a0b, hK] at this
    have hh2 : val la * 2 ^ n < LB ^ (K + 1) := Nat.lt_of_lt_of_le hh (Nat.pow_le_pow_right (by decide) (by omega))
    rw [d3k _ hU3, c8o, c8o, b1M hh, b1M hh2, List.append_assoc]; rfl
  have happ := fun (env : Env) => e1j (H := H) hH (n0 := H.length) (env := env) (L := []) (len := K) (c := la.length + 1) (X := fl (la.length + 1) (dig (val la * 2 ^ n))) (l := [0, 0]) (o := none) (a1k H 0) (by rw [a0Z]; exact hU3) (by simp; omega) (by rw [a0Z]; simp; omega)
  have w2 : IntKind.wrap .i64 ((la.length : Int) + 1) = ((la.length + 1 : Nat) : Int) := by rw [a0a] <;> omega
  have hslc : slcV (hap H [some ⟨1, u32s (fl (K + 2) (dig (val la * 2 ^ n)))⟩]) 1 (.mu (lid H 0) 0 (K + 2) none) none (some (.int .i64 ((la.length + 1 : Nat) : Int))) none = some (.mu (lid H 0) 0 (la.length + 1) none) := by
    simp only [slcV, a1y, List.getElem?_cons_zero, Option.join_some, Option.bind_some, a2t]
    rw [if_pos ⟨trivial, by omega, by omega, by omega⟩]
    simp
  simp only [c2d, d9t, Int.natCast_zero, List.length_cons, List.length_nil, hrow] at happ
  simp only [d8h, d2Q, List.nil_append, List.length_nil, hia, E3, seval]
  simp only [happ, w2, hslc, E3, seval]
  have hle : lb.length ≤ la.length := by
    rcases Nat.lt_or_ge la.length lb.length with h | h
    · exfalso
      have h2 := a0W hna.lim
      have h3 : LB ^ la.length ≤ LB ^ (lb.length - 1) := Nat.pow_le_pow_right (by decide) (by omega)
      omega
    · exact h
  have w3 : IntKind.wrap .i64 ((la.length : Int) - (lb.length : Int)) = ((la.length - lb.length : Nat) : Int) := by rw [a0a] <;> omega
  generalize hm : la.length - lb.length = m at *
  have w4 : IntKind.wrap .i64 ((m : Int) + 1) = ((m + 1 : Nat) : Int) := by rw [a0a] <;> omega
  refine Safe.rg rfl ?_
  simp only [c3m, w3, w4, b7I (H := H) (L := [some ⟨1, u32s (fl (K + 2) (dig (val la * 2 ^ n)))⟩]) (n := m + 1) (by omega), E3, seval]
  refine Safe.rg rfl ?_
  simp only [c3l, w3, E3, seval]
  have hUV : val la * 2 ^ n < val lb * 2 ^ n * LB ^ (m + 1) := by
    rw [Nat.mul_right_comm]
    refine Nat.mul_lt_mul_of_pos_right ?_ hp2
    have h1 := a0W hna.lim
    have h2 : LB ^ (lb.length - 1) * LB ^ (m + 1) ≤ val lb * LB ^ (m + 1) := Nat.mul_le_mul_right _ hBl
    rw [← Nat.pow_add, show lb.length - 1 + (m + 1) = la.length by omega] at h2
    omega
  generalize hU : val la * 2 ^ n = U at *
  generalize hV : val lb * 2 ^ n = V at *
  have hvt : 0 < (limbs V).getD (lb.length - 1) 0 := by
    have := b6G (a5k V) (by omega)
    rwa [hnv] at this
  refine Safe.lp rfl ?_
  refine Safe.keep [0, 1, 9, 10, 11, 12, 13] ?_
  simp only [E3, seval]
  refine Safe.loopD (m + 1) (fun i => [(0, natV la), (1, natV lb), (9, .int .i64 n), (10, natV (limbs V)), (11, .mu (lid H 0) 0 (la.length + 1) none), (12, .mu (lid H 1) 0 (m + 1) (some (m + 1))), (13, .int .i64 ((i : Int) - 1))])
    (fun i => hap H [some ⟨1, u32s (fl (K + 2) (dig (U % (V * LB ^ i))))⟩, some ⟨1, u32s (fl (m + 1) fun j => if i ≤ j then dig (U / V) j else 0)⟩]) ?_ ?_ (fun i hi ih => ?_) ?_
  · have : (((m + 1 : Nat) : Int) - 1) = (m : Int) := by omega
    rw [this]
  · rw [b7a, Nat.mod_eq_of_lt hUV]
  · have e1 : ((i + 1 : Nat) : Int) - 1 = (i : Int) := by omega
    rw [e1]
    obtain ⟨s1, s2, s3, s4⟩ := d7i (U := U) (V := V) (i := i) (nv := lb.length) hVl hVp
    refine Safe.inLoop ?_
    refine Safe.rg rfl ?_
    simp only [b3z, Int.natCast_nonneg i, E3, seval]
    refine Safe.cd rfl ?_
    simp only [E3, seval]
    have w5 : IntKind.wrap .i64 ((i : Int) + (lb.length : Int)) = ((i + lb.length : Nat) : Int) := by rw [a0a] <;> omega
    have w6 : IntKind.wrap .i64 (((i + lb.length : Nat) : Int) + 1) = ((i + lb.length + 1 : Nat) : Int) := by rw [a0a] <;> omega
    refine Safe.rg rfl ?_
    simp only [c3k, hnv, w5, w6, d9x (H := H) (i := 0) (L := [some ⟨1, u32s (fl (K + 2) (dig (U % (V * LB ^ (i + 1)))))⟩, some ⟨1, u32s (fl (m + 1) fun j => if i + 1 ≤ j then dig (U / V) j else 0)⟩]) rfl rfl none .i64 .i64 (show i + lb.length + 1 = i + (lb.length + 1) by omega) (show i + lb.length + 1 ≤ la.length + 1 by omega), E3, seval]
    have hcall := d3r (H := hap H [some ⟨1, u32s (fl (K + 2) (dig (U % (V * LB ^ (i + 1)))))⟩, some ⟨1, u32s (fl (m + 1) fun j => if i + 1 ≤ j then dig (U / V) j else 0)⟩]) (id := lid H 0) (off := i) (N := K + 2) (n := lb.length) (oc := none) (v := limbs V) (f := dig (U % (V * LB ^ (i + 1))))
      (d8j rfl) (a0c V) hnv hb1 hvt (by omega) (by omega) (fun j _ => b7c _ _) s3 (by rw [a0b]; exact s4)
    refine a0n.mono hcall ?_
    rintro r' H' ⟨rfl, rfl⟩
    rw [a0b, s2, a2G fun j _ => s1 j]
    simp only [a5n, List.set_cons_zero, e5o (show i < m + 1 by omega), fst1 (show i < m + 1 by omega), b7b, E3, seval]
    refine Safe.inBlock ?_
    refine Safe.rg rfl ?_
    simp only [c3j, a0a (n := (i : Int) - 1) (by omega) (by omega), E3, seval]
    refine Safe.keep [0, 1, 9, 10, 11, 12, 13] ?_
    simp only [E3, seval]
    exact ih
  · refine Safe.inLoop ?_
    refine Safe.rg rfl ?_
    simp only [b3z, show (0 ≤ ((0 : Nat) : Int) - 1) = False by simp, E3, seval]
    refine Safe.cd rfl ?_
    simp only [E3, seval]
    have hR0 : U % (V * LB ^ 0) = U % V := by rw [Nat.pow_zero, Nat.mul_one]
    rw [hR0]
    refine Safe.freeze 0 hH rfl rfl (a0j _) ?_
    refine Safe.keep [9, 11, 12] ?_
    simp only [d4i (H := H) (i := 0) none (show la.length + 1 ≤ (fl (K + 2) (dig (U % V))).length by rw [a0Z]; omega), a1G, E3, seval]
    refine Safe.freeze 1 hH rfl rfl (a0j _) ?_
    refine Safe.keep [9, 11, 12] ?_
    simp only [d1f, E3, seval]
    rw [c1E, d3k _ (show la.length + 1 ≤ K + 2 by omega)]
    have hUm : U % V < LB ^ (la.length + 1) := Nat.lt_of_le_of_lt (Nat.mod_le _ _) hU2
    have hUd : U / V < LB ^ (m + 1) := by rw [Nat.div_lt_iff_lt_mul hVp, Nat.mul_comm]; exact hUV
    refine Safe.rg rfl ?_
    simp only [c3i, E3, seval]
    first | refine (a0r _ (a2v (U / V) (m + 1)) (by rw [a0Z]; omega)).acall ?_ | refine (a0r _ (a2v (U / V) (m + 1)) (by rw [a0Z]; omega)).dcall ?_
    try simp only [E3, seval]
    first | refine (a0r _ (a2v (U % V) (la.length + 1)) (by rw [a0Z]; omega)).acall ?_ | refine (a0r _ (a2v (U % V) (la.length + 1)) (by rw [a0Z]; omega)).dcall ?_
    try simp only [E3, seval]
    rw [a1z hUm, a1z hUd]
    first | refine (d3K (limbs (U % V)) n ⟨a0c _, Nat.le_trans (a0h hUm) (by omega)⟩ hn32).acall ?_ | refine (d3K (limbs (U % V)) n ⟨a0c _, Nat.le_trans (a0h hUm) (by omega)⟩ hn32).dcall ?_
    try simp only [E3, seval]
    refine Safe.rt rfl ?_
    simp only [E3, seval]
    rw [a0b, ← hU, ← hV, Nat.mul_mod_mul_right, Nat.mul_div_cancel _ hp2, Nat.mul_div_mul_right _ _ hp2]
    exact ⟨Le.refl _, _, rfl⟩
end Go.Abs
set_option linter.unusedVariables false
set_option linter.unusedSimpArgs false
namespace Go.Abs
theorem e2c {n m : Bool} {A B : Nat} {q : Int} (hB : B ≠ 0) (h : sgn n A = sgn m B * q) : A % B = 0 ∧ sgn (!(n == m)) (A / B) = q := by
  have hA : A = B * q.natAbs := by
    have := congrArg Int.natAbs h
    rwa [b3i, Int.natAbs_mul, b3i] at this
  refine ⟨by rw [hA]; exact Nat.mul_mod_right _ _, ?_⟩
  have hne : sgn m B ≠ 0 := by cases m <;> simp [sgn] <;> omega
  refine Int.eq_of_mul_eq_mul_left hne ?_
  rw [← h, c6V]
  have hC : B * (A / B) = A := by rw [hA, Nat.mul_div_cancel_left _ (Nat.pos_of_ne_zero hB)]
  rw [hC]
  cases n <;> cases m <;> rfl
theorem b0k (x y : ZI) (k : Nat) (hx : Zok k x) (hy : Zok k y) (hk : k < 17592186044000) (q : Int) (hy0 : y.z ≠ 0) (hq : x.z = y.z * q) : a0d Pr a4n [x.av, y.av] (.tup [Z q, Z 0, .int .i64 0]) := by
  obtain ⟨n, a⟩ := x
  obtain ⟨m, b⟩ := y
  have hal := hx.len
  have hbl := hy.len
  simp only at hal hbl
  have ha : Nt a := ⟨hx.lim, by omega⟩
  have hb : Nt b := ⟨hy.lim, by omega⟩
  simp only [ZI.av, ZI.z] at *
  have hb0 : val b ≠ 0 := by
    intro h; rw [h, a4P] at hy0; exact hy0 rfl
  obtain ⟨hr, hqq⟩ := e2c hb0 hq
  have hnt : ∀ v, v ≤ val a → Nt (limbs v) := fun v hv => ⟨a0c _, Nat.le_trans (a0h (Nat.lt_of_le_of_lt hv (a0W ha.lim))) ha.len⟩
  refine a0d.intro c6L c6K (Nat.le_of_ble_eq_true rfl) (c4t (Z_cl _) (Z_cl _) (.int _ _)) fun H hH => ?_
  refine Safe.rg rfl ?_
  simp only [b4e, E3, seval]
  refine Safe.rg rfl ?_
  simp only [b4d, E3, seval]
  first | refine (a8E a b ha hb (by omega) (by omega) hb0).acall ?_ | refine (a8E a b ha hb (by omega) (by omega) hb0).dcall ?_
  try simp only [E3, seval]
  refine Safe.rg rfl ?_
  simp only [b4c, E3, seval]
  refine Safe.cd rfl ?_
  simp only [E3, seval]
  refine Safe.rx rfl (by simp only [a4a, a6a, a5A, E3, seval]) ?_
  simp only [b4b, b1Y, b1X, E3, seval]
  refine (a1B (!(n == m)) _ (hnt _ (Nat.div_le_self _ _))).dcall ?_
  rw [a0b, hqq]
  simp only [E3, seval]
  refine (a1B n _ (hnt _ (Nat.mod_le _ _))).dcall ?_
  rw [a0b, hr, a4P]
  simp only [E3, seval]
  refine ⟨?_, ?_⟩
  all_goals
    refine Safe.rg rfl ?_
    simp only [b4a, E3, seval]
    refine (a3o (canZ 0) (a0k (k := 1) (by decide) |>.mono (by omega))).dcall ?_
    rw [a0s]
    simp only [Int.sign_zero, E3, seval]
    refine Safe.cd rfl ?_
    simp only [E3, seval]
    refine Safe.rx rfl (by simp only [a4a, a6a, a5A, E3, seval]) ?_
    simp only [b3Z, b1W, b1V, E3, seval]
    refine Safe.rt rfl ?_
    simp only [E3, seval]
    exact ⟨rfl, _, rfl⟩
end Go.Abs
set_option linter.unusedVariables false
set_option linter.unusedSimpArgs false
namespace Go.Abs
theorem c4Z {x : Nat} (h : x < LB) : IntKind.wrap .u64 ((x : Int) * 4294967296) = ((x * LB : Nat) : Int) := b7k (x := x) (y := LB) (by
  have : LB = 4294967296 := rfl
  have : x * LB ≤ 4294967295 * LB := Nat.mul_le_mul_right _ (by omega)
  omega)
theorem c5c (a : List Nat) (d : Nat) (ha : Nt a) (hd : 0 < d) (hd2 : d < LB) : a0d Pr a9e [natV a, .int .u64 d] (.tup [natV (limbs (val a / d)), .int .u64 (val a % d : Nat)]) := by
  have hLB : LB = 4294967296 := rfl
  have hlen := ha.len
  have hv := a0W ha.lim
  refine a0d.intro c4K c4I (Nat.le_of_ble_eq_true rfl) (b1s (a0P _) (.int _ _)) fun H hH => ?_
  refine Safe.rg rfl ?_
  simp only [b2G, E3, seval]
  refine Safe.rg rfl ?_
  simp only [b2F, b7I (H := H) (L := []) (n := a.length) (by omega), E3, seval]
  refine Safe.rg rfl ?_
  simp only [b2E, E3, seval]
  refine Safe.rg rfl ?_
  simp only [b2D, a0a (n := (a.length : Int) - 1) (by omega) (by omega), E3, seval]
  refine Safe.lp rfl ?_
  refine Safe.keep [0, 1, 6, 7, 8] ?_
  simp only [E3, seval]
  refine Safe.loopD a.length (fun i => [(0, natV a), (1, .int .u64 d), (6, .mu (lid H 0) 0 a.length (some a.length)), (7, .int .u64 (val a / LB ^ i % d : Nat)), (8, .int .i64 ((i : Int) - 1))])
    (fun i => hap H [some ⟨1, u32s (fl a.length fun j => if i ≤ j then dig (val a / d) j else 0)⟩]) ?_ ?_ (fun i hi ih => ?_) ?_
  · rw [Nat.div_eq_of_lt hv]; rfl
  · rw [b7a]
  · have e1 : ((i + 1 : Nat) : Int) - 1 = (i : Int) := by omega
    rw [e1]
    refine Safe.inLoop ?_
    refine Safe.rg rfl ?_
    simp only [a6I, Int.natCast_nonneg i, E3, seval]
    refine Safe.cd rfl ?_
    simp only [E3, seval]
    have hr : val a / LB ^ (i + 1) % d < LB := Nat.lt_trans (Nat.mod_lt _ hd) hd2
    have hai : a.getD i 0 < LB := a0I ha.lim i
    have hb : val a / LB ^ (i + 1) % d * LB + a.getD i 0 < 18446744073709551616 := by
      have : val a / LB ^ (i + 1) % d * LB ≤ 4294967295 * LB := Nat.mul_le_mul_right _ (by omega)
      omega
    have hmul := c4Z hr
    refine Safe.rg rfl ?_
    simp only [b2C, a0z _ a _ i hi, hmul, a1V (x := a.getD i 0) (by omega), a5j hb, E3, seval]
    rw [← c8u ha.lim i] at hb ⊢
    have hs := c2h (val a) d i
    have hq := c2i (val a) d i
    refine Safe.rg rfl ?_
    simp only [b2B, c7O hd hb, hq, a9m (b7c _ _), d6j hi, fst0 hi, E3, seval]
    refine Safe.rg rfl ?_
    simp only [b2A, d7k hd, hs, E3, seval]
    refine Safe.rg rfl ?_
    simp only [b2z, a0a (n := (i : Int) - 1) (by omega) (by omega), E3, seval]
    refine Safe.keep [0, 1, 6, 7, 8] ?_
    simp only [E3, seval]
    rw [b7b]
    exact ih
  · refine Safe.inLoop ?_
    refine Safe.rg rfl ?_
    simp only [a6I, show (0 ≤ ((0 : Nat) : Int) - 1) = False by simp, E3, seval]
    refine Safe.cd rfl ?_
    simp only [E3, seval]
    refine Safe.freeze 0 hH rfl rfl (a0j _) ?_
    refine Safe.keep [6, 7] ?_
    simp only [d1f, E3, seval]
    rw [c1E]
    have hr : val a % d < LB := Nat.lt_trans (Nat.mod_lt _ hd) hd2
    refine Safe.rg rfl ?_
    simp only [b2y, E3, seval]
    first | refine (a0q _ ⟨a2v _ _, by rw [a0Z]; exact hlen⟩).acall ?_ | refine (a0q _ ⟨a2v _ _, by rw [a0Z]; exact hlen⟩).dcall ?_
    try simp only [E3, seval]
    simp only [a1z (b1L hv (d := d)), Nat.pow_zero, Nat.div_one, E3, seval]
    refine Safe.rt rfl ?_
    simp only [E3, seval]
    first | exact ⟨rfl, _, rfl⟩ | exact ⟨_, rfl⟩ | exact ⟨trivial, _, rfl⟩
theorem d3E (n : Nat) (hn : n < 32) : a0d Pr b3S [.int .i64 n] (natV [2 ^ n]) := by
  have hLB : LB = 4294967296 := rfl
  have h2n : 2 ^ n < LB := by
    have : 2 ^ n ≤ 2 ^ 31 := Nat.pow_le_pow_right (by decide) (by omega)
    have : (2 : Nat) ^ 31 < LB := by decide
    omega
  refine a0d.intro c9V c9T (Nat.le_of_ble_eq_true rfl) (a0P _) fun H hH => ?_
  have hq : binV .quo (.int .i64 (n : Int)) (.int .i64 32) = some (.int .i64 0) := by
    have := d9H (x := n) (y := 32) (by decide) (by omega)
    rw [Nat.div_eq_of_lt hn] at this; exact this
  have hr : binV .rem (.int .i64 (n : Int)) (.int .i64 32) = some (.int .i64 (n : Int)) := by
    have := d9F (x := n) (y := 32) (by decide)
    rw [Nat.mod_eq_of_lt hn] at this; exact this
  refine Safe.rg rfl ?_
  simp only [b9e, E3, seval]
  refine Safe.rg rfl ?_
  simp only [b9d, E3, seval]
  refine Safe.rg rfl ?_
  simp only [b9c, E3, seval]
  refine Safe.lp rfl ?_
  refine Safe.inLoop ?_
  refine Safe.rg rfl ?_
  simp only [b9b, hq, Int.lt_irrefl, E3, seval]
  refine Safe.cd rfl ?_
  simp only [E3, seval]
  have hs : b0n .shl .u32 1 (n : Int) = some (.int .u32 ((2 ^ n : Nat) : Int)) := by
    rw [c9b _ _ _ (by omega)]
    have hm : min (Int.toNat (n : Int)) IntKind.u32.bits = n := by
      show min n 32 = n
      omega
    rw [hm]
    have : (1 : Int) * 2 ^ n = ((2 ^ n : Nat) : Int) := by simp
    rw [this, a9m h2n]
  refine Safe.rg rfl ?_
  simp only [b9a, hr, a1V (x := n) (by omega), hs, c1y, b3L _ _ H [] [2 ^ n] (by simp), E3, seval]
  refine Safe.freeze 0 hH rfl rfl (a0j _) ?_
  refine Safe.keep [2] ?_
  simp only [show frz (lid H 0) ⟨1, u32s [2 ^ n]⟩ (.mu (lid H 0) 0 1 none) = natV [2 ^ n] from a7E H 0 [2 ^ n] none, E3, seval]
  refine Safe.rt rfl ?_
  simp only [E3, seval]
  first | exact ⟨rfl, _, rfl⟩ | exact ⟨_, rfl⟩ | exact ⟨trivial, _, rfl⟩
theorem c9e (a : List Nat) (n : Nat) (ha : Nt a) (hn : n < 32) : a0d Pr b3T [natV a, .int .i64 n] (.tup [natV (limbs (val a / 2 ^ n)), .int .i64 0]) := by
  have hLB : LB = 4294967296 := rfl
  have hal := ha.len
  have hq : binV .quo (.int .i64 (n : Int)) (.int .i64 32) = some (.int .i64 0) := by
    have := d9H (x := n) (y := 32) (by decide) (by omega)
    rw [Nat.div_eq_of_lt hn] at this; exact this
  have hr : binV .rem (.int .i64 (n : Int)) (.int .i64 32) = some (.int .i64 (n : Int)) := by
    have := d9F (x := n) (y := 32) (by decide)
    rw [Nat.mod_eq_of_lt hn] at this; exact this
  refine a0d.introL d0c d0a (Nat.le_of_ble_eq_true rfl) (b1s (a0P _) (.int _ _)) fun H hH => ?_
  refine Safe.rg rfl ?_
  simp only [b9p, E3, seval]
  refine Safe.rg rfl ?_
  simp only [b9o, show ((n : Int) < 0) = False from eq_false (by omega), E3, seval]
  refine Safe.cd rfl ?_
  simp only [E3, seval]
  refine Safe.rg rfl ?_
  simp only [b9n, E3, seval]
  refine (a4c a ha).acall ?_
  by_cases hb : blen (val a) ≤ n
  · have hc : (((blen (val a) : Nat) : Int) ≤ (n : Int)) = True := eq_true (by omega)
    simp only [hc, E3, seval]
    refine Safe.cd rfl ?_
    simp only [E3, seval]
    refine Safe.rg rfl ?_
    simp only [b9m, E3, seval]
    refine Safe.rt rfl ?_
    simp only [E3, seval]
    have h0 : val a / 2 ^ n = 0 := by
      rw [Nat.div_eq_of_lt]
      have := c8D (val a)
      have h2 : 2 ^ blen (val a) ≤ 2 ^ n := Nat.pow_le_pow_right (by decide) hb
      omega
    rw [h0, a0D]
    exact ⟨Le.tup2 (Le.nil 1 (by decide)) (Le.refl _), _, rfl⟩
  have hc : (((blen (val a) : Nat) : Int) ≤ (n : Int)) = False := eq_false (by omega)
  simp only [hc, E3, seval]
  refine Safe.cd rfl ?_
  simp only [E3, seval]
  refine Safe.rg rfl ?_
  simp only [b9l, E3, seval]
  refine Safe.nilrow 6 1 (by decide) (by simp only [E3, seval]) ?_
  refine Safe.rg rfl ?_
  simp only [b9k, hq, E3, seval]
  refine Safe.lp rfl ?_
  refine Safe.keep [0, 1, 6, 7] ?_
  simp only [E3, seval]
  refine Safe.loopN a.length (fun i => [(0, natV a), (1, .int .i64 n), (6, .mu (lid H 0) 0 (fl i (dig (val a / 2 ^ n))).length none), (7, .int .i64 i)]) (fun i => hap H [some ⟨1, u32s (fl i (dig (val a / 2 ^ n)))⟩]) rfl rfl (fun i hi ih => ?_) ?_
  · have hlt : ((i : Int) < (a.length : Int)) = True := eq_true (by omega)
    have hai := a0I ha.lim i
    have hai1 := a0I ha.lim (i + 1)
    have w4 : IntKind.wrap .i64 ((i : Int) + 1) = ((i + 1 : Nat) : Int) := by rw [a0a] <;> omega
    refine Safe.inLoop ?_
    refine Safe.rg rfl ?_
    simp only [b0A, hlt, E3, seval]
    refine Safe.cd rfl ?_
    simp only [E3, seval]
    have hmx : a.getD (i + 1) 0 * LB ≤ 4294967295 * LB := Nat.mul_le_mul_right _ (by omega)
    have hmul : IntKind.wrap .u64 (((a.getD (i + 1) 0 : Nat) : Int) * 4294967296) = ((a.getD (i + 1) 0 * LB : Nat) : Int) := b7k (x := a.getD (i + 1) 0) (y := LB) (by omega)
    have hadd : IntKind.wrap .u64 (((a.getD i 0 : Nat) : Int) + ((a.getD (i + 1) 0 * LB : Nat) : Int)) = ((a.getD (i + 1) 0 * LB + a.getD i 0 : Nat) : Int) := by
      rw [a5j (by omega), Nat.add_comm]
    refine Safe.rg rfl ?_
    simp only [b9j, E3, seval]
    first | refine (a1j a i ha.lim hal).acall ?_ | refine (a1j a i ha.lim hal).dcall ?_
    try simp only [E3, seval]
    simp only [w4, E3, seval]
    first | refine (a1j a (i + 1) ha.lim hal).acall ?_ | refine (a1j a (i + 1) ha.lim hal).dcall ?_
    try simp only [E3, seval]
    simp only [hmul, hadd, E3, seval]
    have hstep := d3J ha.lim i hn
    have hrem := d7l ((a.getD (i + 1) 0 * LB + a.getD i 0) / 2 ^ n)
    rw [hstep] at hrem
    refine Safe.rg rfl ?_
    simp only [b9i, hr, a1V (x := n) (by omega), e1Z (show n ≤ 64 by omega), hrem, a9m (b7c (val a / 2 ^ n) i), c2F H hH _ (a1k H 0) _ (fl i (dig (val a / 2 ^ n))) (dig (val a / 2 ^ n) i) (by rw [a0Z]; omega), E3, seval]
    refine Safe.rg rfl ?_
    simp only [b5z, w4, E3, seval]
    refine Safe.keep [0, 1, 6, 7] ?_
    simp only [E3, seval]
    rw [← c8o]
    have e : (fl i (dig (val a / 2 ^ n))).length + 1 = (fl (i + 1) (dig (val a / 2 ^ n))).length := by rw [a0Z, a0Z]
    rw [e]
    exact ih
  · refine Safe.inLoop ?_
    refine Safe.rg rfl ?_
    simp only [b0A, Int.lt_irrefl, E3, seval]
    refine Safe.cd rfl ?_
    simp only [E3, seval]
    refine Safe.freeze 0 hH rfl rfl (a0j _) ?_
    refine Safe.keep [6] ?_
    simp only [E3, seval]
    refine Safe.rg rfl ?_
    simp only [b5y, E3, seval]
    first | refine (a0q _ ⟨a2v _ _, by rw [a0Z]; exact hal⟩).acall ?_ | refine (a0q _ ⟨a2v _ _, by rw [a0Z]; exact hal⟩).dcall ?_
    try simp only [E3, seval]
    simp only [a1z (b1L (a0W ha.lim) (d := 2 ^ n)), E3, seval]
    refine Safe.rt rfl ?_
    simp only [E3, seval]
    exact ⟨Le.refl _, _, rfl⟩
end Go.Abs
set_option linter.unusedVariables false
set_option linter.unusedSimpArgs false
namespace Go.Abs
theorem e3J {H : Heap} (hH : a0L H) {n0 : Nat} {env : Env} {L : Heap} {i d c : Nat} {l : List Nat} (hn : n0 ≤ lid H i) (hl : L[i]? = some (some ⟨1, [.int .u32 (d : Int)]⟩)) (hL : d9l H L i) (hc : 0 < l.length → c < 1 + l.length) (hb : l.length ≤ 17592186044416) :
    appV n0 1 4 false (.mu (lid H i) 0 1 (some c)) (natV l) env (hap H L) = some (.mu (lid H i) 0 (1 + l.length) (a0S (some c) (1 + l.length)), scrub (lid H i) env, hap H (L.set i (some ⟨1, u32s (d :: l)⟩))) := by
  have hf : free (hap H L) (lid H i) = true := c8n hH hL
  simp only [appV, b6o, Option.bind_some, a1y, hl, Option.join_some, a5n]
  rw [if_neg, if_pos]
  · simp [a0u, c2d]
  · simp only [a0u, true_and]
    refine ⟨Nat.le_refl _, hn, hf, ?_, ?_, by omega, by omega⟩
    · exact List.all_eq_true.2 fun a ha => a2c (a7U ha)
    · simp [AV.cells, d3V]
  · simp only [a0u, Option.any_some]
    rintro ⟨_, _, _, _, h1, h2⟩
    have := hc h1
    simp at h2
    omega
theorem d9r (d : Nat) (l : List Nat) : val (d :: l) = d + LB * val l := rfl
theorem c4C (d n : Nat) : val (d :: limbs n) = n * LB + d := by
  rw [d9r, a0b, Nat.mul_comm, Nat.add_comm]
theorem e2x {d : Nat} {l : List Nat} {n : Nat} (hd : d < LB) (hl : Lim l) (h : l.length ≤ n) (hn : n < 17592186044000) : Nt (d :: l) :=
  ⟨c7X.2 ⟨hd, hl⟩, by rw [List.length_cons]; omega⟩
theorem d6h (H : Heap) (i d : Nat) (l : List Nat) (oc : Option Nat) : [AV.mu (lid H i) 0 (1 + l.length) oc].map (frz (lid H i) ⟨1, u32s (d :: l)⟩) = [natV (d :: l)] := by
  rw [Nat.add_comm]
  exact congrArg (fun x => [x]) (a7E H i (d :: l) oc)
theorem d8J (a b : Nat) : (cmpI a b > 0) = (b < a) := by
  unfold cmpI; split
  · simp; omega
  · split <;> simp <;> omega
theorem b7V (S i : Nat) : (limbs S).getD i 0 = dig S i := by
  rw [← c8u (a0c S), a0b]
theorem a2a (a b : List Nat) (ha : Nt a) (hb : Nt b) (hal : a.length < 17592186044000) (hbl : b.length < 17592186044000) (hb0 : val b ≠ 0) : a0d Pr a2P [natV a, natV b] (.tup [natV (limbs (val a / val b)), natV (limbs (val a % val b)), .int .i64 0]) := by
  have hLB : LB = 4294967296 := rfl
  have hnb := hb.limbs
  have hlbl : (limbs (val b)).length < 17592186044000 := Nat.lt_of_le_of_lt (a0Q hb.lim) hbl
  have hvb := a0b (val b)
  have hlastb := a5k (val b)
  have hib := b7L (val b)
  refine a0d.intro d0l d0k (Nat.le_of_ble_eq_true rfl) (c4t (a0P _) (a0P _) (.int _ _)) fun H hH => ?_
  refine Safe.rg rfl ?_
  simp only [b9O, E3, seval]
  refine Safe.rg rfl ?_
  simp only [b9N, E3, seval]
  first | refine (a0q b hb).acall ?_ | refine (a0q b hb).dcall ?_
  try simp only [E3, seval]
  generalize limbs (val b) = lb at *
  generalize val b = B at *
  subst hvb
  have hb1 : 0 < lb.length := by
    rcases Nat.eq_zero_or_pos lb.length with h | h
    · exfalso; have := List.length_eq_zero_iff.1 h; subst this; exact hb0 rfl
    · exact h
  have hB : 0 < val lb := Nat.pos_of_ne_zero hb0
  refine Safe.rg rfl ?_
  simp only [b9M, show (((lb.length : Nat) : Int) = 0) = False from eq_false (by omega), E3, seval]
  refine Safe.cd rfl ?_
  simp only [E3, seval]
  have htb := b6G hlastb hb1
  have hdl := a0I hnb.lim (lb.length - 1)
  by_cases hone : lb.length = 1
  · have h1 : (((lb.length : Nat) : Int) = 1) = True := eq_true (by omega)
    refine Safe.rg rfl ?_
    simp only [b0E, h1, E3, seval]
    refine Safe.cd rfl ?_
    simp only [E3, seval]
    have hvb1 : val lb = lb.getD 0 0 := by
      have := a2o lb 0
      rw [List.drop_zero, List.drop_eq_nil_of_le (by omega)] at this
      simpa [val] using this
    have i0 := a0z (hap H []) lb .i64 0 hb1
    rw [Int.natCast_zero] at i0
    have hd0 : 0 < lb.getD 0 0 := by rw [← hvb1]; exact hB
    have hd1 : lb.getD 0 0 < LB := a0I hnb.lim 0
    refine Safe.rg rfl ?_
    simp only [b9L, i0, a1V (x := lb.getD 0 0) (by omega), E3, seval]
    first | refine (c5c a (lb.getD 0 0) ha hd0 hd1).acall ?_ | refine (c5c a (lb.getD 0 0) ha hd0 hd1).dcall ?_
    try simp only [E3, seval]
    have hrl : val a % lb.getD 0 0 < LB := Nat.lt_trans (Nat.mod_lt _ hd0) hd1
    refine Safe.rg rfl ?_
    simp only [b9K, a9m hrl, c1y, E3, seval]
    first | refine (a0q [val a % lb.getD 0 0] ⟨by intro d hd; simp at hd; subst hd; exact hrl, by simp⟩).acall ?_ | refine (a0q [val a % lb.getD 0 0] ⟨by intro d hd; simp at hd; subst hd; exact hrl, by simp⟩).dcall ?_
    try simp only [E3, seval]
    refine Safe.rt rfl ?_
    simp only [hvb1, b6s, E3, seval]
    first | exact ⟨rfl, _, rfl⟩ | exact ⟨_, rfl⟩ | exact ⟨trivial, _, rfl⟩
  have h1 : (((lb.length : Nat) : Int) = 1) = False := eq_false (by omega)
  refine Safe.rg rfl ?_
  simp only [b0E, h1, E3, seval]
  refine Safe.cd rfl ?_
  simp only [E3, seval]
  obtain ⟨hVl, hBl⟩ := c7S hnb.lim hb1 htb
  have hblen : blen (val lb) = 32 * (lb.length - 1) + blen (lb.getD (lb.length - 1) 0) := by
    have hs : lb = lb.take (lb.length - 1) ++ [lb.getD (lb.length - 1) 0] := by
      rw [← a6W (by omega), show lb.length - 1 + 1 = lb.length by omega, List.take_length]
    have := b8e (hnb.lim.take (lb.length - 1)) (show lb.getD (lb.length - 1) 0 ≠ 0 by omega)
    rw [← hs, List.length_take, Nat.min_eq_left (by omega)] at this
    exact this
  have hb32 := d1v hdl
  have hbp : 0 < blen (lb.getD (lb.length - 1) 0) := by unfold blen; rw [if_neg (by omega)]; omega
  generalize hn : 32 - blen (lb.getD (lb.length - 1) 0) = n at *
  have hn32 : n < 32 := by omega
  have hp2 : 0 < 2 ^ n := Nat.pow_pos (by decide)
  have h2n : 2 ^ n < LB := by
    have : 2 ^ n ≤ 2 ^ 31 := Nat.pow_le_pow_right (by decide) (by omega)
    have : (2 : Nat) ^ 31 < LB := by decide
    omega
  have w1 : IntKind.wrap .i64 (32 * ((lb.length : Nat) : Int)) = ((32 * lb.length : Nat) : Int) := by rw [a0a] <;> omega
  have w2 : IntKind.wrap .i64 (((32 * lb.length : Nat) : Int) - ((blen (val lb) : Nat) : Int)) = (n : Int) := by rw [a0a] <;> omega
  refine Safe.rg rfl ?_
  simp only [b9J, w1, E3, seval]
  first | refine (a4c lb hnb).acall ?_ | refine (a4c lb hnb).dcall ?_
  try simp only [E3, seval]
  simp only [w2, E3, seval]
  first | refine (d3E n hn32).acall ?_ | refine (d3E n hn32).dcall ?_
  try simp only [E3, seval]
  have hn1 : Nt [2 ^ n] := ⟨by intro d hd; simp at hd; omega, by simp⟩
  refine Safe.rg rfl ?_
  simp only [b9I, E3, seval]
  first | refine (a2K a [2 ^ n] ha hn1 (by simp; omega)).acall ?_ | refine (a2K a [2 ^ n] ha hn1 (by simp; omega)).dcall ?_
  try simp only [E3, seval]
  refine Safe.rg rfl ?_
  simp only [b9H, E3, seval]
  first | refine (a2K lb [2 ^ n] hnb hn1 (by simp; omega)).acall ?_ | refine (a2K lb [2 ^ n] hnb hn1 (by simp; omega)).dcall ?_
  try simp only [E3, seval]
  simp only [b6s]
  have hU2 : val a * 2 ^ n < LB ^ (a.length + 1) := by
    rw [Nat.pow_succ]
    exact Nat.lt_of_lt_of_le (Nat.mul_lt_mul_of_pos_right (a0W ha.lim) hp2) (Nat.mul_le_mul_left _ (by omega))
  have hVp : 0 < val lb * 2 ^ n := Nat.mul_pos hB hp2
  have hnv1 : (limbs (val lb * 2 ^ n)).length ≤ lb.length := a0h hVl
  have hnv2 : lb.length ≤ (limbs (val lb * 2 ^ n)).length := by
    rcases Nat.lt_or_ge (limbs (val lb * 2 ^ n)).length lb.length with h | h
    · exfalso
      have h2 := a0W (a0c (val lb * 2 ^ n))
      rw [a0b] at h2
      have h3 : LB ^ (limbs (val lb * 2 ^ n)).length ≤ LB ^ (lb.length - 1) := Nat.pow_le_pow_right (by decide) (by omega)
      have h4 : val lb * 1 ≤ val lb * 2 ^ n := Nat.mul_le_mul_left _ hp2
      omega
    · exact h
  have hnv : (limbs (val lb * 2 ^ n)).length = lb.length := by omega
  have hUV1 : val a * 2 ^ n / (val lb * 2 ^ n) = val a / val lb := Nat.mul_div_mul_right _ _ hp2
  have hUV2 : val a * 2 ^ n % (val lb * 2 ^ n) / 2 ^ n = val a % val lb := by rw [Nat.mul_mod_mul_right, Nat.mul_div_cancel _ hp2]
  have hK1 : (limbs (val a * 2 ^ n)).length ≤ a.length + 1 := a0h hU2
  generalize hU : val a * 2 ^ n = U at *
  generalize hV : val lb * 2 ^ n = V at *
  have hvt : 0 < (limbs V).getD (lb.length - 1) 0 := by
    have := b6G (a5k V) (by omega)
    rwa [hnv] at this
  have hUl : U < LB ^ (limbs U).length := by have := a0W (a0c U); rwa [a0b] at this
  generalize hK : (limbs U).length = K at *
  have hVl' : V < LB ^ lb.length := hVl
  refine Safe.rg rfl ?_
  simp only [b5S, hK, b7I (H := H) (L := []) (n := K) (by omega), E3, seval]
  refine Safe.rg rfl ?_
  simp only [b5R, E3, seval]
  refine Safe.nilsl 14 1 (by decide) (by simp only [E3, seval]) ?_
  refine Safe.rg rfl ?_
  simp only [b5Q, hK, a0a (n := (K : Int) - 1) (by omega) (by omega), E3, seval]
  refine Safe.lp rfl ?_
  refine Safe.keep [7, 11, 12, 13, 14, 15] ?_
  simp only [E3, seval]
  refine Safe.loopD K (fun i => [(7, natV lb), (11, natV (limbs U)), (12, natV (limbs V)), (13, .mu (lid H 0) 0 K (some K)), (14, natV (limbs (U / LB ^ i % V))), (15, .int .i64 ((i : Int) - 1))])
    (fun i => hap H [some ⟨1, u32s (fl K fun j => if i ≤ j then dig (U / V) j else 0)⟩]) ?_ ?_ (fun i hi ih => ?_) ?_
  · rw [Nat.div_eq_of_lt hUl, Nat.zero_mod, a0D]; rfl
  · rw [b7a]
  · have e1 : ((i + 1 : Nat) : Int) - 1 = (i : Int) := by omega
    rw [e1]
    refine Safe.inLoop ?_
    refine Safe.rg rfl ?_
    simp only [a8v, Int.natCast_nonneg i, E3, seval]
    refine Safe.cd rfl ?_
    simp only [E3, seval]
    have hmod := Nat.mod_lt (U / LB ^ (i + 1)) hVp
    have hSm := c2h U V i
    have hSd := c2i U V i
    have hiU : i < (limbs U).length := by omega
    have hdi := b7c U i
    have hdU : (limbs U).getD i 0 = dig U i := b7V U i
    have hml : (limbs (U / LB ^ (i + 1) % V)).length ≤ lb.length := a0h (Nat.lt_trans hmod hVl)
    generalize U / LB ^ (i + 1) % V = R0 at *
    generalize U / LB ^ i % V = R1 at *
    generalize dig U i = d at *
    have hstep := b7b (n := K) (i := i) (U / V)
    generalize dig (U / V) i = q at *
    generalize (fl K fun j => if i ≤ j then dig (U / V) j else 0) = Q1 at *
    generalize hQ0 : (fl K fun j => if i + 1 ≤ j then dig (U / V) j else 0) = Q0 at *
    have hapx := fun (env : Env) => e3J (H := H) hH (n0 := H.length) (env := env) (L := [some ⟨1, u32s Q0⟩, some ⟨1, [.int .u32 (d : Int)]⟩]) (i := 1) (d := d) (c := 1) (l := limbs R0) (a1k H 1) rfl
      (by intro j b hb a ha
          match j with
          | 0 => simp at hb; subst hb; exact (a7U ha).ref
          | 1 => simp at hb; subst hb; simp [Blk.flat, AV.cells] at ha; subst ha; exact .int _ _
          | j + 2 => simp at hb) (by omega) (by omega)
    refine Safe.rg rfl ?_
    simp only [b5P, a0z _ (limbs U) _ i hiU, hdU, E3, seval]
    rw [hapx]
    simp only [List.set_cons_succ, List.set_cons_zero, E3, seval]
    have hnt : Nt (d :: limbs R0) := e2x hdi (a0c _) hml hlbl
    have hnc := a0q (d :: limbs R0) hnt
    rw [c4C] at hnc
    refine a0d.consumeL (r := natV (limbs (R0 * LB + d))) hH 1 rfl (a0j _) (by rw [d6h]; exact hnc) ?_
    simp only [d1h, d4j, List.set_cons_succ, List.set_cons_zero, E3, seval]
    have hSl : R0 * LB + d < LB * V := by
      have : (R0 + 1) * LB ≤ V * LB := Nat.mul_le_mul_right _ hmod
      rw [Nat.add_mul, Nat.one_mul] at this
      rw [Nat.mul_comm LB V]; omega
    generalize R0 * LB + d = S at *
    refine Safe.keep [7, 11, 12, 13, 14, 15] ?_
    simp only [E3, seval]
    refine Safe.drop1 hH rfl (by simp only [List.all_cons, List.all_nil, E3, seval]) (by repeat (first | exact RC.nil | refine RC.none ?_ | refine RC.row ZI.cl ?_ | refine RC.cons (a0j _) ?_ | refine RC.row a0e ?_ | refine RC.emp ?_ | refine RC.zero ?_ | refine RC.one (Z_cl _) ?_ | refine RC.one (ZI.cl _) ?_ | refine RC.one (a0e _) ?_)) ?_
    have hSn : S < LB ^ (lb.length + 1) := by
      have : LB * V ≤ LB * LB ^ lb.length := Nat.mul_le_mul_left _ (Nat.le_of_lt hVl)
      rw [Nat.pow_succ']; omega
    have hSlen : (limbs S).length ≤ lb.length + 1 := a0h hSn
    have hntS : Nt (limbs S) := ⟨a0c S, by omega⟩
    have hntV : Nt (limbs V) := ⟨a0c V, by omega⟩
    refine Safe.rg rfl ?_
    simp only [b5O, E3, seval]
    refine (a8a (limbs S) (limbs V) hntS hntV).acall ?_
    rw [a0b, a0b]
    have w3 : IntKind.wrap .i64 ((i : Int) - 1) = (i : Int) - 1 := a0a (n := (i : Int) - 1) (by omega) (by omega)
    by_cases hSV : S < V
    · have hcm : (cmpI S V < 0) = True := by rw [b8a]; exact eq_true hSV
      simp only [hcm, E3, seval]
      refine Safe.cd rfl ?_
      simp only [E3, seval]
      refine Safe.rg rfl ?_
      simp only [a4U, w3, E3, seval]
      refine Safe.keep [7, 11, 12, 13, 14, 15] ?_
      simp only [E3, seval]
      have hS1 : R1 = S := by rw [← hSm, Nat.mod_eq_of_lt hSV]
      have hq0 : q = 0 := by rw [← hSd, Nat.div_eq_of_lt hSV]
      have hQ : Q0 = Q1 := by
        rw [← hQ0, ← hstep]
        refine a2G fun j _ => ?_
        by_cases hj : j = i
        · subst hj; rw [if_pos rfl, if_neg (by omega), hq0]
        · rw [if_neg hj]
      rw [hQ, ← hS1]
      exact ih
    have hcm : (cmpI S V < 0) = False := by rw [b8a]; exact eq_false hSV
    simp only [hcm, E3, seval]
    refine Safe.cd rfl ?_
    simp only [E3, seval]
    have main : ∀ G, S / V ≤ G → G < LB → Safe ⟨Pr, fun _ k => k == 4, a2P, 132, [.tmp 4, .tmp 5, .tmp 6], H.length⟩
        [.code ((ACode.region a8t false).seq ((ACode.block 2 b9P.loop).seq ((ACode.region a8s false).seq (ACode.region a8r false)))),
          .inBlock 1, .code (.region a4U false), .inLoop b9Q, .inBlock 0, .code ((ACode.region a8q false).seq ((ACode.region a8p false).seq .ret))]
        [(7, natV lb), (11, natV (limbs U)), (12, natV (limbs V)), (13, .mu (lid H 0) 0 K (some K)), (14, natV (limbs S)), (15, .int .i64 i), (16, .int .u64 G)]
        (hap H [some ⟨1, u32s Q0⟩]) fun r' H' => r' = .tup [natV (limbs (val a / val lb)), natV (limbs (val a % val lb)), .int .i64 0] ∧ ∃ L, H' = hap H L := by
      intro G hG1 hG2
      refine Safe.rg rfl ?_
      simp only [a8t, a9m hG2, c1y, E3, seval]
      have hnG : Nt [G] := ⟨by intro d hd; simp at hd; omega, by simp⟩
      first | refine (a2K (limbs V) [G] hntV hnG (by simp; omega)).acall ?_ | refine (a2K (limbs V) [G] hntV hnG (by simp; omega)).dcall ?_
      try simp only [E3, seval]
      rw [a0b, b6s]
      refine Safe.lp rfl ?_
      refine Safe.keep [7, 11, 12, 13, 14, 15, 16, 17] ?_
      simp only [E3, seval]
      refine Safe.loopW (α := Nat) (fun g => g) (fun g => [(7, natV lb), (11, natV (limbs U)), (12, natV (limbs V)), (13, .mu (lid H 0) 0 K (some K)), (14, natV (limbs S)), (15, .int .i64 i), (16, .int .u64 g), (17, natV (limbs (V * g)))])
        (fun _ => hap H [some ⟨1, u32s Q0⟩]) (fun g => S / V ≤ g ∧ g < LB) G rfl rfl ⟨hG1, hG2⟩ fun g ⟨hg1, hg2⟩ ihg => ?_
      have hVg : V * g < LB ^ (lb.length + 1) := by
        have h1 : V * g ≤ V * LB := Nat.mul_le_mul_left _ (Nat.le_of_lt hg2)
        have h2 : V * LB < LB ^ lb.length * LB := Nat.mul_lt_mul_of_pos_right hVl (by decide)
        rw [Nat.pow_succ]; omega
      have hVgl : (limbs (V * g)).length ≤ lb.length + 1 := a0h hVg
      have hntg : Nt (limbs (V * g)) := ⟨a0c _, by omega⟩
      refine Safe.inLoop ?_
      refine Safe.rg rfl ?_
      simp only [b5L, E3, seval]
      refine (a8a (limbs (V * g)) (limbs S) hntg hntS).acall ?_
      rw [a0b, a0b]
      by_cases hlt : S < V * g
      · have hcm : (cmpI (V * g) S > 0) = True := by rw [d8J]; exact eq_true hlt
        simp only [hcm, E3, seval]
        refine Safe.cd rfl ?_
        simp only [E3, seval]
        have hgq : S / V < g := by rw [Nat.div_lt_iff_lt_mul hVp, Nat.mul_comm]; exact hlt
        have w4 : IntKind.wrap .u64 ((g : Int) - 1) = ((g - 1 : Nat) : Int) := by rw [a0B] <;> omega
        have hVV : V ≤ V * g := Nat.le_mul_of_pos_right _ (by omega)
        refine Safe.rg rfl ?_
        simp only [b5K, w4, E3, seval]
        refine Safe.rg rfl ?_
        simp only [b5J, E3, seval]
        first | refine (a4b (limbs (V * g)) (limbs V) (a0c _) (a0c _) hntg.len hntV.len (by rw [a0b, a0b]; exact hVV)).acall ?_ | refine (a4b (limbs (V * g)) (limbs V) (a0c _) (a0c _) hntg.len hntV.len (by rw [a0b, a0b]; exact hVV)).dcall ?_
        try simp only [E3, seval]
        rw [a0b, a0b, show V * g - V = V * (g - 1) by rw [Nat.mul_sub, Nat.mul_one]]
        refine Safe.keep [7, 11, 12, 13, 14, 15, 16, 17] ?_
        simp only [E3, seval]
        refine Safe.inBlock ?_
        exact ihg (g - 1) ⟨by omega, by omega⟩ (by omega)
      · have hcm : (cmpI (V * g) S > 0) = False := by rw [d8J]; exact eq_false hlt
        simp only [hcm, E3, seval]
        refine Safe.cd rfl ?_
        simp only [E3, seval]
        have hgq : g = q := by
          have : g ≤ S / V := by rw [Nat.le_div_iff_mul_le hVp, Nat.mul_comm]; omega
          omega
        subst hgq
        rw [← hQ0]
        refine Safe.rg rfl ?_
        simp only [a8s, a9m hg2, d6j hi, fst0 hi, E3, seval]
        have hSr : S - V * g = R1 := by
          rw [← hSm, ← hSd]
          have := Nat.div_add_mod S V
          omega
        refine Safe.rg rfl ?_
        simp only [a8r, E3, seval]
        first | refine (a4b (limbs S) (limbs (V * g)) (a0c _) (a0c _) hntS.len hntg.len (by rw [a0b, a0b]; omega)).acall ?_ | refine (a4b (limbs S) (limbs (V * g)) (a0c _) (a0c _) hntS.len hntg.len (by rw [a0b, a0b]; omega)).dcall ?_
        try simp only [E3, seval]
        rw [a0b, a0b, hSr]
        refine Safe.rg rfl ?_
        simp only [a4U, w3, E3, seval]
        refine Safe.keep [7, 11, 12, 13, 14, 15] ?_
        simp only [E3, seval]
        rw [hstep]
        exact ih
    have hguess := d4f (u := fl (lb.length + 1) (dig S)) (v := limbs V) (n := lb.length) (a2v _ _) (a0c V) (a0Z _ _) hnv hb1 (by rw [a0b]; exact hVp) (by rw [a0b, a1z hSn]; exact hSl) hvt
    rw [a1z hSn, a0b, b6L (by omega), b6L (by omega)] at hguess
    have hg1 := Nat.le_trans hguess (Nat.min_le_left _ _)
    have hg2 : S / V ≤ 4294967295 := Nat.le_trans hguess (Nat.min_le_right _ _)
    clear hguess
    have hx1 := b7c S lb.length
    have hx2 := b7c S (lb.length - 1)
    have w5 : IntKind.wrap .i64 ((lb.length : Int) - 1) = ((lb.length - 1 : Nat) : Int) := by rw [a0a] <;> omega
    refine Safe.rg rfl ?_
    simp only [b5N, hnv, E3, seval]
    first | refine (a1j (limbs S) lb.length (a0c S) hntS.len).acall ?_ | refine (a1j (limbs S) lb.length (a0c S) hntS.len).dcall ?_
    try simp only [E3, seval]
    rw [b7V]
    simp only [c4Z hx1, hnv, w5, E3, seval]
    first | refine (a1j (limbs S) (lb.length - 1) (a0c S) hntS.len).acall ?_ | refine (a1j (limbs S) (lb.length - 1) (a0c S) hntS.len).dcall ?_
    try simp only [E3, seval]
    rw [b7V]
    generalize dig S lb.length = x at *
    generalize dig S (lb.length - 1) = y at *
    have hxy : x * LB + y < 18446744073709551616 := by
      have : x * LB ≤ 4294967295 * LB := Nat.mul_le_mul_right _ (by omega)
      omega
    simp only [a5j hxy, hnv, w5, E3, seval]
    first | refine (a1j (limbs V) (lb.length - 1) (a0c V) hntV.len).acall ?_ | refine (a1j (limbs V) (lb.length - 1) (a0c V) hntV.len).dcall ?_
    try simp only [E3, seval]
    generalize (limbs V).getD (lb.length - 1) 0 = z at *
    simp only [c7O hvt hxy, E3, seval]
    by_cases hge : LB ≤ (x * LB + y) / z
    · have hc : ((((x * LB + y) / z : Nat) : Int) ≥ 4294967296) = True := eq_true (by omega)
      refine Safe.rg rfl ?_
      simp only [a8u, hc, E3, seval]
      refine Safe.cd rfl ?_
      simp only [E3, seval]
      refine Safe.rg rfl ?_
      simp only [b5M, E3, seval]
      refine Safe.keep [7, 11, 12, 13, 14, 15, 16] ?_
      simp only [E3, seval]
      exact main 4294967295 hg2 (by decide)
    · have hc : ((((x * LB + y) / z : Nat) : Int) ≥ 4294967296) = False := eq_false (by omega)
      refine Safe.rg rfl ?_
      simp only [a8u, hc, E3, seval]
      refine Safe.cd rfl ?_
      simp only [E3, seval]
      refine Safe.keep [7, 11, 12, 13, 14, 15, 16] ?_
      simp only [E3, seval]
      refine Safe.skip ?_
      exact main _ hg1 (Nat.lt_of_not_le hge)
  · refine Safe.inLoop ?_
    refine Safe.rg rfl ?_
    simp only [a8v, show (0 ≤ ((0 : Nat) : Int) - 1) = False by simp, E3, seval]
    refine Safe.cd rfl ?_
    simp only [E3, seval]
    rw [Nat.pow_zero, Nat.div_one]
    refine Safe.freeze 0 hH rfl rfl (a0j _) ?_
    refine Safe.keep [7, 13, 14] ?_
    simp only [d1f, E3, seval]
    rw [c1E]
    have hUm : U % V < LB ^ lb.length := Nat.lt_trans (Nat.mod_lt _ hVp) hVl
    refine Safe.rg rfl ?_
    simp only [a8q, w1, E3, seval]
    first | refine (a4c lb hnb).acall ?_ | refine (a4c lb hnb).dcall ?_
    try simp only [E3, seval]
    simp only [w2, E3, seval]
    first | refine (c9e (limbs (U % V)) n ⟨a0c _, Nat.le_trans (a0h hUm) (by omega)⟩ hn32).acall ?_ | refine (c9e (limbs (U % V)) n ⟨a0c _, Nat.le_trans (a0h hUm) (by omega)⟩ hn32).dcall ?_
    try simp only [E3, seval]
    rw [a0b, hUV2]
    have hUd : U / V < LB ^ K := Nat.lt_of_le_of_lt (Nat.div_le_self _ _) hUl
    refine Safe.rg rfl ?_
    simp only [a8p, E3, seval]
    first | refine (a0q (fl K (dig (U / V))) ⟨a2v _ _, by rw [a0Z]; omega⟩).acall ?_ | refine (a0q (fl K (dig (U / V))) ⟨a2v _ _, by rw [a0Z]; omega⟩).dcall ?_
    try simp only [E3, seval]
    rw [a1z hUd, hUV1]
    refine Safe.rt rfl ?_
    simp only [E3, seval]
    first | exact ⟨rfl, _, rfl⟩ | exact ⟨_, rfl⟩ | exact ⟨trivial, _, rfl⟩
end Go.Abs
set_option linter.unusedVariables false
set_option linter.unusedSimpArgs false
namespace Go.Abs
theorem b6t {n : Nat} : (((limbs n).length : Nat) : Int) > 0 ↔ n ≠ 0 := by
  have := b2J n
  omega
theorem c2J (a b : List Nat) (ha : Nt a) (hb : Nt b) (hal : a.length < 17592186044000) (hbl : b.length < 17592186044000) : a0d Pr c4B [natV a, natV b] (natV (limbs (Nat.gcd (val a) (val b)))) := by
  have hva : (limbs (val a)).length < 17592186044000 := Nat.lt_of_le_of_lt (a0Q ha.lim) hal
  have hvb : (limbs (val b)).length < 17592186044000 := Nat.lt_of_le_of_lt (a0Q hb.lim) hbl
  refine a0d.intro d5J d5H (Nat.le_of_ble_eq_true rfl) (a0P _) fun H hH => ?_
  refine Safe.rg rfl ?_
  simp only [c5Y, E3, seval]
  refine Safe.rg rfl ?_
  simp only [c5X, E3, seval]
  first | refine (a7A a ha).acall ?_ | refine (a7A a ha).dcall ?_
  try simp only [E3, seval]
  first | refine (a7A b hb).acall ?_ | refine (a7A b hb).dcall ?_
  try simp only [E3, seval]
  refine Safe.lp rfl ?_
  refine Safe.keep [5, 6] ?_
  simp only [E3, seval]
  refine Safe.loopW (α := Nat × Nat) (fun p => p.2) (fun p => [(5, natV (limbs p.1)), (6, natV (limbs p.2))]) (fun _ => hap H [])
    (fun p => Nat.gcd p.1 p.2 = Nat.gcd (val a) (val b) ∧ (limbs p.1).length < 17592186044000 ∧ (limbs p.2).length < 17592186044000) (val a, val b) rfl rfl ⟨rfl, hva, hvb⟩ ?_
  rintro ⟨x, y⟩ ⟨hg, hx, hy⟩ ih
  simp only at hg hx hy ih ⊢
  refine Safe.inLoop ?_
  by_cases h0 : y = 0
  · subst h0
    refine Safe.rg rfl ?_
    simp only [b7B, a0D, show ((([] : List Nat).length : Nat) : Int) > 0 ↔ False by simp, E3, seval]
    refine Safe.cd rfl ?_
    simp only [E3, seval]
    refine Safe.rg rfl ?_
    simp only [c5U, E3, seval]
    rw [Nat.gcd_zero_right] at hg
    refine Safe.rt rfl ?_
    simp only [hg, E3, seval]
    first | exact ⟨rfl, _, rfl⟩ | exact ⟨_, rfl⟩ | exact ⟨trivial, _, rfl⟩
  · have hc : ((((limbs y).length : Nat) : Int) > 0) = True := eq_true (b6t.2 h0)
    refine Safe.rg rfl ?_
    simp only [b7B, hc, E3, seval]
    refine Safe.cd rfl ?_
    simp only [E3, seval]
    refine Safe.rg rfl ?_
    simp only [c5W, E3, seval]
    first | refine (a8E (limbs x) (limbs y) ⟨a0c _, by omega⟩ ⟨a0c _, by omega⟩ hx hy (by rw [a0b]; exact h0)).acall ?_ | refine (a8E (limbs x) (limbs y) ⟨a0c _, by omega⟩ ⟨a0c _, by omega⟩ hx hy (by rw [a0b]; exact h0)).dcall ?_
    try simp only [E3, seval]
    rw [a0b, a0b]
    have hm : x % y < y := Nat.mod_lt _ (Nat.pos_of_ne_zero h0)
    refine Safe.rg rfl ?_
    simp only [c5V, E3, seval]
    refine Safe.keep [5, 6] ?_
    simp only [E3, seval]
    refine Safe.inBlock ?_
    refine ih (y, x % y) ⟨?_, hy, ?_⟩ hm
    · rw [← hg, Nat.gcd_comm x y, Nat.gcd_rec y x, Nat.gcd_comm]
    · have h1 := a0W (a0c y)
      rw [a0b] at h1
      exact Nat.lt_of_le_of_lt (a0h (Nat.lt_trans hm h1)) hy
theorem a7Z (a b : List Nat) (ha : Nt a) (hb : Nt b) (hal : a.length < 17592186044000) (hbl : b.length < 17592186044000) : a0d Pr a9g [natV a, natV b] (natV (limbs (Nat.gcd (val a) (val b)))) := by
  have hva : (limbs (val a)).length < 17592186044000 := Nat.lt_of_le_of_lt (a0Q ha.lim) hal
  have hvb : (limbs (val b)).length < 17592186044000 := Nat.lt_of_le_of_lt (a0Q hb.lim) hbl
  refine a0d.intro d0i d0g (Nat.le_of_ble_eq_true rfl) (a0P _) fun H hH => ?_
  refine Safe.rg rfl ?_
  simp only [b9G, E3, seval]
  refine Safe.rg rfl ?_
  simp only [b9F, E3, seval]
  first | refine (a0q a ha).acall ?_ | refine (a0q a ha).dcall ?_
  try simp only [E3, seval]
  refine Safe.rg rfl ?_
  simp only [b9E, E3, seval]
  first | refine (a0q b hb).acall ?_ | refine (a0q b hb).dcall ?_
  try simp only [E3, seval]
  refine Safe.lp rfl ?_
  refine Safe.keep [5, 6] ?_
  simp only [E3, seval]
  refine Safe.loopW (α := Nat × Nat) (fun p => p.2) (fun p => [(5, natV (limbs p.1)), (6, natV (limbs p.2))]) (fun _ => hap H [])
    (fun p => Nat.gcd p.1 p.2 = Nat.gcd (val a) (val b) ∧ (limbs p.1).length < 17592186044000 ∧ (limbs p.2).length < 17592186044000) (val a, val b) rfl rfl ⟨rfl, hva, hvb⟩ ?_
  rintro ⟨x, y⟩ ⟨hg, hx, hy⟩ ih
  simp only at hg hx hy ih ⊢
  refine Safe.inLoop ?_
  by_cases h0 : y = 0
  · subst h0
    refine Safe.rg rfl ?_
    simp only [b0D, a0D, show ((([] : List Nat).length : Nat) : Int) > 0 ↔ False by simp, E3, seval]
    refine Safe.cd rfl ?_
    simp only [E3, seval]
    refine Safe.rg rfl ?_
    simp only [b9A, E3, seval]
    rw [Nat.gcd_zero_right] at hg
    refine Safe.rt rfl ?_
    simp only [hg, E3, seval]
    first | exact ⟨rfl, _, rfl⟩ | exact ⟨_, rfl⟩ | exact ⟨trivial, _, rfl⟩
  · have hc : ((((limbs y).length : Nat) : Int) > 0) = True := eq_true (b6t.2 h0)
    refine Safe.rg rfl ?_
    simp only [b0D, hc, E3, seval]
    refine Safe.cd rfl ?_
    simp only [E3, seval]
    refine Safe.rg rfl ?_
    simp only [b9D, E3, seval]
    first | refine (a2a (limbs x) (limbs y) ⟨a0c _, by omega⟩ ⟨a0c _, by omega⟩ hx hy (by rw [a0b]; exact h0)).acall ?_ | refine (a2a (limbs x) (limbs y) ⟨a0c _, by omega⟩ ⟨a0c _, by omega⟩ hx hy (by rw [a0b]; exact h0)).dcall ?_
    try simp only [E3, seval]
    rw [a0b, a0b]
    have hm : x % y < y := Nat.mod_lt _ (Nat.pos_of_ne_zero h0)
    refine Safe.rg rfl ?_
    simp only [b9C, E3, seval]
    refine Safe.rg rfl ?_
    simp only [b9B, E3, seval]
    refine Safe.keep [5, 6] ?_
    simp only [E3, seval]
    refine Safe.inBlock ?_
    refine ih (y, x % y) ⟨?_, hy, ?_⟩ hm
    · rw [← hg, Nat.gcd_comm x y, Nat.gcd_rec y x, Nat.gcd_comm]
    · have h1 := a0W (a0c y)
      rw [a0b] at h1
      exact Nat.lt_of_le_of_lt (a0h (Nat.lt_trans hm h1)) hy
theorem d4g {a b M : Nat} (ha : a < M) (hb : b < M) : Nat.gcd a b < M := by
  rcases Nat.eq_zero_or_pos a with h | h
  · subst h; rw [Nat.gcd_zero_left]; exact hb
  · exact Nat.lt_of_le_of_lt (Nat.gcd_le_left _ h) ha
section
variable (x y : ZI) (k : Nat) (hx : Zok k x) (hy : Zok k y) (hk : k < 17592186044000)
include hx hy hk
theorem d6C : a0d Pr b8g [x.av, y.av] (Z (Int.gcd x.z y.z)) := by
  obtain ⟨n, a⟩ := x
  obtain ⟨m, b⟩ := y
  have hal := hx.len
  have hbl := hy.len
  have hav := hx.lt
  have hbv := hy.lt
  simp only at hal hbl hav hbv
  have ha : Nt a := ⟨hx.lim, by omega⟩
  have hb : Nt b := ⟨hy.lim, by omega⟩
  simp only [ZI.av, ZI.z, Int.gcd, b3i]
  refine a0d.intro d1M d1L (Nat.le_of_ble_eq_true rfl) (Z_cl _) fun H hH => ?_
  refine Safe.rg rfl ?_
  simp only [c1Q, E3, seval]
  refine Safe.rg rfl ?_
  simp only [c1P, E3, seval]
  first | refine (c2J a b ha hb (by omega) (by omega)).acall ?_ | refine (c2J a b ha hb (by omega) (by omega)).dcall ?_
  try simp only [E3, seval]
  have hg : Nt (limbs (Nat.gcd (val a) (val b))) := ⟨a0c _, Nat.le_trans (a0h (d4g hav hbv)) (by omega)⟩
  first | refine (a1B false _ hg).acall ?_ | refine (a1B false _ hg).dcall ?_
  try simp only [E3, seval]
  rw [a0b]
  refine Safe.rt rfl ?_
  simp only [show sgn false (Nat.gcd (val a) (val b)) = ((Nat.gcd (val a) (val b) : Nat) : Int) from rfl, E3, seval]
  first | exact ⟨rfl, _, rfl⟩ | exact ⟨_, rfl⟩ | exact ⟨trivial, _, rfl⟩
theorem d5n : a0d Pr b3R [x.av, y.av] (Z (Int.gcd x.z y.z)) := by
  obtain ⟨n, a⟩ := x
  obtain ⟨m, b⟩ := y
  have hal := hx.len
  have hbl := hy.len
  have hav := hx.lt
  have hbv := hy.lt
  simp only at hal hbl hav hbv
  have ha : Nt a := ⟨hx.lim, by omega⟩
  have hb : Nt b := ⟨hy.lim, by omega⟩
  simp only [ZI.av, ZI.z, Int.gcd, b3i]
  refine a0d.intro c9L c9K (Nat.le_of_ble_eq_true rfl) (Z_cl _) fun H hH => ?_
  refine Safe.rg rfl ?_
  simp only [b8R, E3, seval]
  refine Safe.rg rfl ?_
  simp only [b8Q, E3, seval]
  first | refine (a7Z a b ha hb (by omega) (by omega)).acall ?_ | refine (a7Z a b ha hb (by omega) (by omega)).dcall ?_
  try simp only [E3, seval]
  have hg : Nt (limbs (Nat.gcd (val a) (val b))) := ⟨a0c _, Nat.le_trans (a0h (d4g hav hbv)) (by omega)⟩
  first | refine (a1c false _ hg).acall ?_ | refine (a1c false _ hg).dcall ?_
  try simp only [E3, seval]
  rw [a0b]
  refine Safe.rt rfl ?_
  simp only [show sgn false (Nat.gcd (val a) (val b)) = ((Nat.gcd (val a) (val b) : Nat) : Int) from rfl, E3, seval]
  first | exact ⟨rfl, _, rfl⟩ | exact ⟨_, rfl⟩ | exact ⟨trivial, _, rfl⟩
end
theorem d6E (x : ZI) (hx : Zok 17592186044416 x) : a0d Pr b8h [x.av] (Z (x.z.natAbs : Int)) := by
  obtain ⟨n, m⟩ := x
  have hm : Nt m := ⟨hx.lim, hx.len⟩
  simp only [ZI.av, ZI.z, b3i]
  refine a0d.intro d1R d1Q (Nat.le_of_ble_eq_true rfl) (Z_cl _) fun H hH => ?_
  refine Safe.rg rfl ?_
  simp only [c1X, E3, seval]
  refine Safe.rg rfl ?_
  simp only [c1W, E3, seval]
  first | refine (a1B false m hm).acall ?_ | refine (a1B false m hm).dcall ?_
  try simp only [E3, seval]
  refine Safe.rt rfl ?_
  simp only [show sgn false (val m) = ((val m : Nat) : Int) from rfl, E3, seval]
  first | exact ⟨rfl, _, rfl⟩ | exact ⟨_, rfl⟩ | exact ⟨trivial, _, rfl⟩
/-- Toward nought. -/
theorem c6P (n m : Bool) (A B : Nat) : sgn n (A % B) + sgn m B * sgn (!(n == m)) (A / B) = sgn n A := by
  rw [c6V]
  have e : sgn (!(m == !(n == m))) (B * (A / B)) = sgn n (B * (A / B)) := by cases n <;> cases m <;> rfl
  rw [e, d2a, Nat.mod_add_div]
theorem d6i {n m : Bool} {A B : Nat} (hB : B ≠ 0) (h : A % B = 0 ∨ n = m) : (sgn n A).fdiv (sgn m B) = sgn (!(n == m)) (A / B) ∧ (sgn n A).fmod (sgn m B) = sgn n (A % B) := by
  have hr := Nat.mod_lt A (Nat.pos_of_ne_zero hB)
  have ht := c6P n m A B
  cases m
  · have hb : (0 : Int) < sgn false B := by simp [sgn]; omega
    refine (Int.fdiv_fmod_unique hb).2 ⟨ht, ?_, ?_⟩
    · rcases h with h | h
      · rw [h, a4P]; exact Int.le_refl _
      · subst h; simp [sgn]
        exact Int.natCast_nonneg _
    · rcases h with h | h
      · rw [h, a4P]; exact hb
      · subst h; simp only [sgn, Bool.false_eq_true, if_false]; omega
  · have hb : sgn true B < 0 := by simp [sgn]; omega
    refine (Int.fdiv_fmod_unique' hb).2 ⟨ht, ?_, ?_⟩
    · rcases h with h | h
      · rw [h, a4P]; exact hb
      · subst h; simp only [sgn, if_true]; omega
    · rcases h with h | h
      · rw [h, a4P]; exact Int.le_refl _
      · subst h; simp only [sgn, if_true]; omega
theorem d3j {n m : Bool} {A B : Nat} (hB : B ≠ 0) (h0 : A % B ≠ 0) (h : n ≠ m) : (sgn n A).fdiv (sgn m B) = sgn (!(n == m)) (A / B) - 1 ∧ (sgn n A).fmod (sgn m B) = sgn n (A % B) + sgn m B := by
  have hr := Nat.mod_lt A (Nat.pos_of_ne_zero hB)
  have ht := c6P n m A B
  have ht' : sgn n (A % B) + sgn m B + sgn m B * (sgn (!(n == m)) (A / B) - 1) = sgn n A := by rw [Int.mul_sub, Int.mul_one]; omega
  cases m
  · have hn : n = true := by cases n <;> simp_all
    subst hn
    have hb : (0 : Int) < sgn false B := by simp [sgn]; omega
    refine (Int.fdiv_fmod_unique hb).2 ⟨ht', ?_, ?_⟩ <;> simp only [sgn, if_true, Bool.false_eq_true, if_false] <;> omega
  · have hn : n = false := by cases n <;> simp_all
    subst hn
    have hb : sgn true B < 0 := by simp [sgn]; omega
    refine (Int.fdiv_fmod_unique' hb).2 ⟨ht', ?_, ?_⟩ <;> simp only [sgn, if_true, Bool.false_eq_true, if_false] <;> omega
theorem e1t {n : Bool} {A M : Nat} (h : A < M) : (sgn n A).natAbs < M := by rw [b3i]; exact h
theorem e1z (k : Nat) : (1 : Int).natAbs < LB ^ (k + 1) := Nat.one_lt_pow (Nat.succ_ne_zero k) (by decide)
theorem c0m (x y : ZI) (k : Nat) (hx : Zok k x) (hy : Zok k y) (hk : k + k < 17592186044000) (hy0 : y.z ≠ 0) : a0d Pr a5i [x.av, y.av] (.tup [Z (x.z.fdiv y.z), Z (x.z.fmod y.z)]) := by
  obtain ⟨n, a⟩ := x
  obtain ⟨m, b⟩ := y
  have hal := hx.len
  have hbl := hy.len
  have hav := hx.lt
  have hbv := hy.lt
  simp only at hal hbl hav hbv
  have ha : Nt a := ⟨hx.lim, by omega⟩
  have hb : Nt b := ⟨hy.lim, by omega⟩
  have hzb := hy
  have hza := hx
  have habs := hy.abs
  simp only [ZI.av, ZI.z] at hy0 habs ⊢
  have hb0 : val b ≠ 0 := by
    intro h; rw [h, a4P] at hy0; exact hy0 rfl
  have hq := Nat.lt_of_le_of_lt (Nat.div_le_self (val a) (val b)) hav
  have hr := Nat.lt_of_le_of_lt (Nat.mod_le (val a) (val b)) hav
  have hnt : ∀ v, v < LB ^ k → Nt (limbs v) := fun v hv => ⟨a0c _, Nat.le_trans (a0h hv) (by omega)⟩
  have hsame := @d6i n m (val a) (val b) hb0
  have hother := @d3j n m (val a) (val b) hb0
  have htr := c6P n m (val a) (val b)
  refine a0d.intro c4H c4G (Nat.le_of_ble_eq_true rfl) (b1s (Z_cl _) (Z_cl _)) fun H hH => ?_
  refine Safe.rg rfl ?_
  simp only [b2x, E3, seval]
  refine Safe.rg rfl ?_
  simp only [b2w, E3, seval]
  first | refine (a2a a b ha hb (by omega) (by omega) hb0).acall ?_ | refine (a2a a b ha hb (by omega) (by omega) hb0).dcall ?_
  try simp only [E3, seval]
  refine Safe.rg rfl ?_
  simp only [b2v, E3, seval]
  first | refine (a1c (!(n == m)) _ (hnt _ hq)).acall ?_ | refine (a1c (!(n == m)) _ (hnt _ hq)).dcall ?_
  try simp only [E3, seval]
  rw [a0b]
  have hqz := e1t (n := !(n == m)) hq
  have hrz := e1t (n := n) hr
  have hrs := c1u n (val a % val b)
  have hbs := c1u m (val b)
  rw [if_neg hb0] at hbs
  have hmulz := a5v hqz hzb.abs
  have hsubz : sgn n (val a) - sgn (!(n == m)) (val a / val b) * sgn m (val b) = sgn n (val a % val b) := by
    rw [← htr, Int.mul_comm (sgn m (val b))]; omega
  refine Safe.rg rfl ?_
  simp only [b2u, E3, seval]
  have hcall := a2T (canZ (sgn (!(n == m)) (val a / val b))) ⟨m, b⟩ k k (a0k hqz) hzb (by omega)
  rw [a2O, a0s] at hcall
  simp only [ZI.av, ZI.z] at hcall
  refine hcall.dcall ?_
  simp only [E3, seval]
  have hcall := c5n ⟨n, a⟩ (canZ (sgn (!(n == m)) (val a / val b) * sgn m (val b))) (k + k) (hza.mono (by omega)) (a0k hmulz) (by omega)
  rw [a2O, a0s] at hcall
  simp only [ZI.av, ZI.z, hsubz] at hcall
  refine hcall.dcall ?_
  simp only [E3, seval]
  clear hcall hmulz hsubz htr
  generalize val a % val b = r at *
  generalize val a / val b = q at *
  refine Safe.rg rfl ?_
  simp only [b2t, E3, seval]
  refine (a5r (canZ (sgn n r)) ((a0k hrz).mono (by omega))).dcall ?_
  rw [a0s, hrs]
  by_cases hr0 : r = 0
  · have hs := hsame (.inl hr0)
    simp only [hr0, E3, seval]
    refine Safe.cd rfl ?_
    simp only [E3, seval]
    refine Safe.rx rfl (by simp only [a4a, a6a, a5A, E3, seval]) ?_
    simp only [a3S, a3c, a3b, E3, seval]
    refine Safe.rt rfl ?_
    simp only [E3, seval]
    rw [hs.1, hs.2, hr0]
    exact ⟨rfl, _, rfl⟩
  · rw [if_neg hr0]
    have hsn : ((if n = true then (-1 : Int) else 1) = 0) = False := by cases n <;> simp
    simp only [hsn, E3, seval]
    refine (a5r (canZ (sgn n r)) ((a0k hrz).mono (by omega))).dcall ?_
    rw [a0s, hrs, if_neg hr0]
    simp only [E3, seval]
    have hcall := a5r ⟨m, b⟩ (hzb.mono (by omega))
    simp only [ZI.av, ZI.z, hbs] at hcall
    refine hcall.dcall ?_
    by_cases hnm : n = m
    · have hs := hsame (.inr hnm)
      have he : ((if n = true then (-1 : Int) else 1) = (if m = true then (-1 : Int) else 1)) = True := by subst hnm; simp
      simp only [he, E3, seval]
      refine Safe.cd rfl ?_
      simp only [E3, seval]
      refine Safe.rx rfl (by simp only [a4a, a6a, a5A, E3, seval]) ?_
      simp only [a3S, a3c, a3b, E3, seval]
      refine Safe.rt rfl ?_
      simp only [E3, seval]
      rw [hs.1, hs.2]
      exact ⟨rfl, _, rfl⟩
    · have hs := hother hr0 hnm
      have he : ((if n = true then (-1 : Int) else 1) = (if m = true then (-1 : Int) else 1)) = False := by cases n <;> cases m <;> simp_all
      simp only [he, E3, seval]
      refine Safe.cd rfl ?_
      simp only [E3, seval]
      refine Safe.rg rfl ?_
      simp only [b2r, E3, seval]
      refine (a2b 1 (by decide) (by decide)).dcall ?_
      simp only [E3, seval]
      refine (d7n (a := sgn (!(n == m)) q) (b := 1) (k := k + 1) (Nat.lt_of_lt_of_le hqz (d2S (by omega))) (e1z k) (by omega)).dcall ?_
      simp only [E3, seval]
      refine Safe.rg rfl ?_
      simp only [b2q, E3, seval]
      have hcall := b7s (canZ (sgn n r)) ⟨m, b⟩ k (a0k hrz) hzb (by omega)
      rw [a2O, a0s] at hcall
      simp only [ZI.av, ZI.z] at hcall
      refine hcall.acall ?_
      simp only [E3, seval]
      refine Safe.rx rfl (by simp only [a4a, a6a, a5A, E3, seval]) ?_
      simp only [a3S, a3c, a3b, E3, seval]
      refine Safe.rt rfl ?_
      simp only [E3, seval]
      rw [hs.1, hs.2]
      exact ⟨rfl, _, rfl⟩
end Go.Abs
set_option linter.unusedVariables false
set_option linter.unusedSimpArgs false
namespace Go.Abs
/-- A rational in lowest terms as it is handed round. -/
def Rv (q : Rat) : AV := .agg [.bool (decide (q.num < 0)), natV (limbs q.num.natAbs), .bool false, natV (limbs q.den)]
structure Rok (k : Nat) (q : Rat) : Prop where
  num : q.num.natAbs < LB ^ k
  den : q.den < LB ^ k
theorem Rok.mono {k l : Nat} {q : Rat} (h : Rok k q) (hl : k ≤ l) : Rok l q := ⟨Nat.lt_of_lt_of_le h.num (d2S hl), Nat.lt_of_lt_of_le h.den (d2S hl)⟩
def dZ (d : Nat) : ZI := ⟨false, limbs d⟩
theorem dZ_z (d : Nat) : (dZ d).z = (d : Int) := by simp only [dZ, ZI.z, a0b]; rfl
theorem b7Z {k d : Nat} (h : d < LB ^ k) : Zok k (dZ d) := ⟨a0c _, a0h h⟩
theorem a4M (q : Rat) : Cl (Rv q) := .agg _ fun c hc => by
  simp only [List.mem_cons, List.not_mem_nil, or_false] at hc
  rcases hc with rfl | rfl | rfl | rfl
  · exact .bool _
  · exact a0P _
  · exact .bool _
  · exact a0P _
theorem a0G (q : Rat) : (Rv q).cells = [.bool (decide (q.num < 0)), natV (limbs q.num.natAbs), .bool false, natV (limbs q.den)] := rfl
theorem a3m (q : Rat) : (Rv q).fit = true := rfl
theorem d9h (id : Nat) (b : Blk) (q : Rat) : frz id b (Rv q) = Rv q := b1d (a4M q)
theorem a0w : (0 < 4) = True := by decide
theorem e2d {n : Int} {g : Nat} (h : g ∣ n.natAbs) : sgn (decide (n < 0)) (n.natAbs / g) = n / (g : Int) := by
  obtain ⟨c, hc⟩ := h
  rcases Nat.eq_zero_or_pos g with rfl | hg
  · simp [sgn]
  rw [hc, Nat.mul_div_cancel_left _ hg]
  have hg' : (g : Int) ≠ 0 := by omega
  by_cases h0 : n < 0
  · have : n = (g : Int) * -(c : Int) := by
      have : (n.natAbs : Int) = (g : Int) * (c : Int) := by rw [hc]; exact Int.natCast_mul _ _
      rw [Int.mul_neg]; omega
    rw [decide_eq_true h0, this, Int.mul_ediv_cancel_left _ hg']
    simp [sgn]
  · have : n = (g : Int) * (c : Int) := by
      have : (n.natAbs : Int) = (g : Int) * (c : Int) := by rw [hc]; exact Int.natCast_mul _ _
      omega
    rw [decide_eq_false h0, this, Int.mul_ediv_cancel_left _ hg']
    simp [sgn]
theorem a8C (x y : ZI) (k : Nat) (hx : Zok k x) (hy : Zok k y) (hk : k < 17592186044000) (hy0 : y.z ≠ 0) : a0d Pr a2j [x.av, y.av] (Rv (Rat.divInt x.z y.z)) := by
  have hax := hx.abs
  have hay := hy.abs
  refine a0d.intro c7u c7t (Nat.le_of_ble_eq_true rfl) (a4M _) fun H hH => ?_
  refine Safe.rg rfl ?_
  simp only [b4V, a0w, E3, seval]
  refine Safe.rg rfl ?_
  simp only [b4U, E3, seval]
  first | refine (a2L x (hx.mono (by omega))).acall ?_ | refine (a2L x (hx.mono (by omega))).dcall ?_
  try simp only [E3, seval]
  refine Safe.rg rfl ?_
  simp only [b4T, E3, seval]
  first | refine (a2L y (hy.mono (by omega))).acall ?_ | refine (a2L y (hy.mono (by omega))).dcall ?_
  try simp only [E3, seval]
  have main : ∀ a b : Int, 0 < b → a.natAbs < LB ^ k → b.natAbs < LB ^ k → Rat.divInt a b = Rat.divInt x.z y.z → Safe ⟨Pr, fun _ _ => false, a2j, 54, [.cell 4 (some 4)], H.length⟩
      [.code ((ACode.region a8i false).seq ((ACode.region a8h false).seq ((ACode.region a8g false).seq ((ACode.region a8f false).seq .ret))))]
      [(4, .loc (lid H 2) 0 0), (5, .loc (lid H 3) 0 0), (6, .loc (lid H 4) 0 0)]
      (hap H [some ⟨2, [x.av]⟩, some ⟨2, [y.av]⟩, some ⟨4, [.agg [.bool false, .nil, .bool false, .nil]]⟩, some ⟨2, [Z a]⟩, some ⟨2, [Z b]⟩]) fun r' H' => r' = Rv (Rat.divInt x.z y.z) ∧ ∃ L, H' = hap H L := by
    intro a b hb ha1 hb1 he
    have hla : (limbs a.natAbs).length ≤ k := a0h ha1
    have hlb : (limbs b.natAbs).length ≤ k := a0h hb1
    have hg0 : Nat.gcd a.natAbs b.natAbs ≠ 0 := fun h => by
      have := Nat.gcd_eq_zero_iff.1 h
      omega
    have hnum := Rat.num_divInt a b
    have hden := Rat.den_divInt a b
    rw [Int.sign_eq_one_of_pos hb, Int.one_mul, Int.gcd, Nat.gcd_comm] at hnum
    rw [if_neg (by omega), Int.gcd, Nat.gcd_comm] at hden
    have hgl : (limbs (Nat.gcd a.natAbs b.natAbs)).length ≤ k := a0h (d4g ha1 hb1)
    have hs := e2d (n := a) (Nat.gcd_dvd_left a.natAbs b.natAbs)
    rw [← hnum] at hs
    rw [← he]
    refine Safe.rg rfl ?_
    simp only [a8i, E3, seval]
    first | refine (a7Z (limbs a.natAbs) (limbs b.natAbs) ⟨a0c _, by omega⟩ ⟨a0c _, by omega⟩ (by omega) (by omega)).acall ?_ | refine (a7Z (limbs a.natAbs) (limbs b.natAbs) ⟨a0c _, by omega⟩ ⟨a0c _, by omega⟩ (by omega) (by omega)).dcall ?_
    try simp only [E3, seval]
    simp only [a0b]
    refine Safe.rg rfl ?_
    simp only [a8h, E3, seval]
    first | refine (a2a (limbs a.natAbs) (limbs (Nat.gcd a.natAbs b.natAbs)) ⟨a0c _, by omega⟩ ⟨a0c _, by omega⟩ (by omega) (by omega) (by rw [a0b]; exact hg0)).acall ?_ | refine (a2a (limbs a.natAbs) (limbs (Nat.gcd a.natAbs b.natAbs)) ⟨a0c _, by omega⟩ ⟨a0c _, by omega⟩ (by omega) (by omega) (by rw [a0b]; exact hg0)).dcall ?_
    try simp only [E3, seval]
    simp only [a0b]
    refine Safe.rg rfl ?_
    simp only [a8g, E3, seval]
    first | refine (a2a (limbs b.natAbs) (limbs (Nat.gcd a.natAbs b.natAbs)) ⟨a0c _, by omega⟩ ⟨a0c _, by omega⟩ (by omega) (by omega) (by rw [a0b]; exact hg0)).acall ?_ | refine (a2a (limbs b.natAbs) (limbs (Nat.gcd a.natAbs b.natAbs)) ⟨a0c _, by omega⟩ ⟨a0c _, by omega⟩ (by omega) (by omega) (by rw [a0b]; exact hg0)).dcall ?_
    try simp only [E3, seval]
    simp only [a0b]
    rw [← hden]
    have hna : a.natAbs / Nat.gcd a.natAbs b.natAbs < LB ^ k := Nat.lt_of_le_of_lt (Nat.div_le_self _ _) ha1
    have hcall := a2L ⟨decide (a < 0), limbs (a.natAbs / Nat.gcd a.natAbs b.natAbs)⟩ (b7Z hna |>.mono (by omega) |> fun h => ⟨h.lim, h.len⟩)
    simp only [ZI.z, a0b, hs] at hcall
    refine Safe.rg rfl ?_
    simp only [a8f, E3, seval]
    refine hcall.acall ?_
    simp only [Z, E3, seval]
    refine Safe.rt rfl ?_
    simp only [E3, seval]
    first | exact ⟨rfl, _, rfl⟩ | exact ⟨_, rfl⟩ | exact ⟨trivial, _, rfl⟩
  have hfrom : ∀ a b : Int, a.natAbs < LB ^ k → b.natAbs < LB ^ k → Zok 17592186044416 (canZ a) := fun a b h _ => (a0k h).mono (by omega)
  refine Safe.rg rfl ?_
  simp only [b4S, E3, seval]
  refine (a5r (canZ y.z) ((a0k hay).mono (by omega))).acall ?_
  rw [a0s]
  by_cases hneg : y.z < 0
  · have hc : (y.z.sign < 0) = True := eq_true (Int.sign_neg_iff.2 hneg)
    simp only [hc, E3, seval]
    refine Safe.cd rfl ?_
    simp only [E3, seval]
    refine Safe.rg rfl ?_
    simp only [b4R, E3, seval]
    refine (b1E (canZ x.z) ((a0k hax).mono (by omega))).acall ?_
    rw [a0s]
    simp only [E3, seval]
    refine Safe.rg rfl ?_
    simp only [b4Q, E3, seval]
    refine (b1E (canZ y.z) ((a0k hay).mono (by omega))).acall ?_
    rw [a0s]
    simp only [E3, seval]
    refine Safe.keep [4, 5, 6] ?_
    simp only [E3, seval]
    exact main (-x.z) (-y.z) (by omega) (by rw [Int.natAbs_neg]; exact hax) (by rw [Int.natAbs_neg]; exact hay) (Rat.neg_divInt_neg _ _)
  · have hc : (y.z.sign < 0) = False := eq_false fun h => hneg (Int.sign_neg_iff.1 h)
    simp only [hc, E3, seval]
    refine Safe.cd rfl ?_
    simp only [E3, seval]
    refine Safe.keep [4, 5, 6] ?_
    simp only [E3, seval]
    refine Safe.skip ?_
    exact main x.z y.z (by omega) hax hay rfl
theorem c5k : a0d Pr b3N [] (Z 1) := by
  refine a0d.intro c9p c9o (Nat.le_of_ble_eq_true rfl) (Z_cl _) fun H hH => ?_
  refine Safe.rg rfl ?_
  simp only [b8x, E3, seval]
  refine Safe.rg rfl ?_
  simp only [b8w, E3, seval]
  first | refine (a2b 1 (by decide) (by decide)).acall ?_ | refine (a2b 1 (by decide) (by decide)).dcall ?_
  try simp only [E3, seval]
  refine Safe.rt rfl ?_
  simp only [E3, seval]
  first | exact ⟨rfl, _, rfl⟩ | exact ⟨_, rfl⟩ | exact ⟨trivial, _, rfl⟩
theorem b6d (x : ZI) (hx : Zok 17592186044416 x) : a0d Pr a7M [x.av] (Rv (x.z : Rat)) := by
  refine a0d.intro d2f d2e (Nat.le_of_ble_eq_true rfl) (a4M _) fun H hH => ?_
  refine Safe.rg rfl ?_
  simp only [c2w, a0w, E3, seval]
  refine Safe.rg rfl ?_
  simp only [c2v, E3, seval]
  first | refine (a2L x hx).acall ?_ | refine (a2L x hx).dcall ?_
  try simp only [E3, seval]
  first | refine (c5k).acall ?_ | refine (c5k).dcall ?_
  try simp only [E3, seval]
  have h1 : limbs 1 = limbs (Int.natAbs 1) := rfl
  have h2 : (decide ((1 : Int) < 0)) = false := rfl
  simp only [Z, E3, seval]
  refine Safe.rt rfl ?_
  simp only [E3, seval]
  first | exact ⟨rfl, _, rfl⟩ | exact ⟨_, rfl⟩ | exact ⟨trivial, _, rfl⟩
section
variable (a b : Rat) {k l : Nat} (ha : Rok k a) (hb : Rok l b) (hkl : k + l < 17592186043000)
include ha hb hkl
theorem d5m : a0d Pr b3Q [Rv a, Rv b] (Rv (a + b)) := by
  have h1 := a5v ha.num (show (b.den : Int).natAbs < LB ^ l from hb.den)
  have h2 := a5v hb.num (show (a.den : Int).natAbs < LB ^ k from ha.den)
  have h3 := a5v (show (a.den : Int).natAbs < LB ^ k from ha.den) (show (b.den : Int).natAbs < LB ^ l from hb.den)
  rw [Nat.add_comm l k] at h2
  have h4 := d9f h1 h2
  refine a0d.intro c9A c9z (Nat.le_of_ble_eq_true rfl) (a4M _) fun H hH => ?_
  simp only [Rv]
  refine Safe.rg rfl ?_
  simp only [b8J, a0w, E3, seval]
  refine Safe.rg rfl ?_
  simp only [b8I, E3, seval]
  have hm := a2T (canZ a.num) (dZ b.den) k l (a0k ha.num) (b7Z hb.den) (by omega)
  rw [a0s, dZ_z] at hm
  refine hm.acall ?_
  simp only [E3, seval]
  refine Safe.rg rfl ?_
  simp only [b8H, E3, seval]
  have hm := a2T (canZ b.num) (dZ a.den) l k (a0k hb.num) (b7Z ha.den) (by omega)
  rw [a0s, dZ_z] at hm
  refine hm.acall ?_
  simp only [E3, seval]
  refine Safe.rg rfl ?_
  simp only [b8G, E3, seval]
  refine (d7o h1 h2 (by omega)).dcall ?_
  simp only [E3, seval]
  have hm := a2T (dZ a.den) (dZ b.den) k l (b7Z ha.den) (b7Z hb.den) (by omega)
  rw [dZ_z, dZ_z] at hm
  refine hm.dcall ?_
  simp only [E3, seval]
  have hm := a8C (canZ (a.num * b.den + b.num * a.den)) (canZ (a.den * b.den)) (k + l + 1) (a0k h4) (a0k h3 |>.mono (by omega)) (by omega) (by
    rw [a0s]
    have h1 := a.den_nz
    have h2 := b.den_nz
    exact Int.mul_ne_zero (by omega) (by omega))
  rw [a2O, a2O, a0s, a0s, ← Int.natCast_mul, Rat.divInt_ofNat, ← Rat.add_def', Int.natCast_mul] at hm
  refine hm.dcall ?_
  simp only [Rv, E3, seval]
  refine Safe.rt rfl ?_
  simp only [E3, seval]
  first | exact ⟨rfl, _, rfl⟩ | exact ⟨_, rfl⟩ | exact ⟨trivial, _, rfl⟩
theorem c5m : a0d Pr a9d [Rv a, Rv b] (Rv (a * b)) := by
  have h1 := a5v ha.num hb.num
  have h3 := a5v (show (a.den : Int).natAbs < LB ^ k from ha.den) (show (b.den : Int).natAbs < LB ^ l from hb.den)
  refine a0d.intro c9v c9u (Nat.le_of_ble_eq_true rfl) (a4M _) fun H hH => ?_
  simp only [Rv]
  refine Safe.rg rfl ?_
  simp only [b8D, a0w, E3, seval]
  refine Safe.rg rfl ?_
  simp only [b8C, E3, seval]
  refine (c2B ha.num hb.num (by omega)).dcall ?_
  simp only [E3, seval]
  have hm := a2T (dZ a.den) (dZ b.den) k l (b7Z ha.den) (b7Z hb.den) (by omega)
  rw [dZ_z, dZ_z] at hm
  refine hm.dcall ?_
  simp only [E3, seval]
  have hm := a8C (canZ (a.num * b.num)) (canZ (a.den * b.den)) (k + l) (a0k h1) (a0k h3) (by omega) (by
    rw [a0s]
    have h1 := a.den_nz
    have h2 := b.den_nz
    exact Int.mul_ne_zero (by omega) (by omega))
  rw [a2O, a2O, a0s, a0s, ← Int.natCast_mul, Rat.divInt_ofNat, ← Rat.mul_def', Int.natCast_mul] at hm
  refine hm.dcall ?_
  simp only [Rv, E3, seval]
  refine Safe.rt rfl ?_
  simp only [E3, seval]
  first | exact ⟨rfl, _, rfl⟩ | exact ⟨_, rfl⟩ | exact ⟨trivial, _, rfl⟩
omit ha hb hkl in
theorem d5j (b0 : b ≠ 0) : Rat.divInt (a.num * b.den) (a.den * b.num) = a / b := by
  have h1 : (a.den : Int) ≠ 0 := by have := a.den_nz; omega
  have h2 : b.num ≠ 0 := fun h => b0 (Rat.num_eq_zero.1 h)
  rw [← Rat.divInt_mul_divInt, Rat.num_divInt_den, Rat.div_def, Rat.inv_def]
theorem d5l (b0 : b ≠ 0) : a0d Pr b3P [Rv a, Rv b] (Rv (a / b)) := by
  have h1 := a5v ha.num (show (b.den : Int).natAbs < LB ^ l from hb.den)
  have h3 := a5v (show (a.den : Int).natAbs < LB ^ k from ha.den) hb.num
  refine a0d.intro c9y c9x (Nat.le_of_ble_eq_true rfl) (a4M _) fun H hH => ?_
  simp only [Rv]
  refine Safe.rg rfl ?_
  simp only [b8F, a0w, E3, seval]
  refine Safe.rg rfl ?_
  simp only [b8E, E3, seval]
  have hm := a2T (canZ a.num) (dZ b.den) k l (a0k ha.num) (b7Z hb.den) (by omega)
  rw [a0s, dZ_z] at hm
  refine hm.dcall ?_
  simp only [E3, seval]
  have hm := a2T (dZ a.den) (canZ b.num) k l (b7Z ha.den) (a0k hb.num) (by omega)
  rw [dZ_z, a0s] at hm
  refine hm.dcall ?_
  simp only [E3, seval]
  have hm := a8C (canZ (a.num * b.den)) (canZ (a.den * b.num)) (k + l) (a0k h1) (a0k h3) (by omega) (by
    rw [a0s]
    have h1 := a.den_nz
    exact Int.mul_ne_zero (by omega) fun h => b0 (Rat.num_eq_zero.1 h))
  rw [a2O, a2O, a0s, a0s, d5j a b b0] at hm
  refine hm.dcall ?_
  simp only [Rv, E3, seval]
  refine Safe.rt rfl ?_
  simp only [E3, seval]
  first | exact ⟨rfl, _, rfl⟩ | exact ⟨_, rfl⟩ | exact ⟨trivial, _, rfl⟩
end
theorem d7f {k : Nat} {a : Rat} (h : Rok k a) : Rok k (-a) := ⟨by rw [Rat.neg_num, Int.natAbs_neg]; exact h.num, h.den⟩
theorem c5l (a : Rat) {k : Nat} (ha : Rok k a) (hk : k < 17592186044000) : a0d Pr a9c [Rv a] (Rv (-a)) := by
  refine a0d.intro c9t c9s (Nat.le_of_ble_eq_true rfl) (a4M _) fun H hH => ?_
  simp only [Rv]
  refine Safe.rg rfl ?_
  simp only [b8B, a0w, E3, seval]
  refine Safe.rg rfl ?_
  simp only [b8A, E3, seval]
  have hm := b1E (canZ a.num) ((a0k ha.num).mono (by omega))
  rw [a0s] at hm
  refine hm.dcall ?_
  simp only [E3, seval]
  have hm := a8C (canZ (-a.num)) (dZ a.den) k (a0k (by rw [Int.natAbs_neg]; exact ha.num)) (b7Z ha.den) hk (by
    rw [dZ_z]
    have h1 := a.den_nz
    omega)
  rw [a2O, a0s, dZ_z, ← Rat.neg_divInt, Rat.num_divInt_den] at hm
  refine hm.dcall ?_
  simp only [Rv, E3, seval]
  refine Safe.rt rfl ?_
  simp only [E3, seval]
  first | exact ⟨rfl, _, rfl⟩ | exact ⟨_, rfl⟩ | exact ⟨trivial, _, rfl⟩
theorem d5k (a b : Rat) {k l : Nat} (ha : Rok k a) (hb : Rok l b) (hkl : k + l < 17592186043000) : a0d Pr b3O [Rv a, Rv b] (Rv (a - b)) := by
  refine a0d.intro c9r c9q (Nat.le_of_ble_eq_true rfl) (a4M _) fun H hH => ?_
  refine Safe.rg rfl ?_
  simp only [b8z, a0w, a0G, a3m, E3, seval]
  refine Safe.rg rfl ?_
  simp only [b8y, a0G, a3m, E3, seval]
  refine (c5l b hb (by omega)).dcall ?_
  simp only [a0G, a3m, E3, seval]
  have hm := d5m a (-b) ha (d7f hb) hkl
  rw [← Rat.sub_eq_add_neg] at hm
  refine hm.dcall ?_
  simp only [Rv, E3, seval]
  refine Safe.rt rfl ?_
  simp only [E3, seval]
  first | exact ⟨rfl, _, rfl⟩ | exact ⟨_, rfl⟩ | exact ⟨trivial, _, rfl⟩
theorem b1C (a : Rat) {k : Nat} (ha : Rok k a) (hk : k < 17592186044000) : a0d Pr a6s [Rv a] (.bool (decide (a = 0))) := by
  have he : decide (a.num.sign = 0) = decide (a = 0) := decide_eq_decide.2 (by rw [Int.sign_eq_zero_iff_zero, Rat.num_eq_zero])
  refine a0d.intro c6Y c6X (Nat.le_of_ble_eq_true rfl) (.bool _) fun H hH => ?_
  simp only [Rv]
  refine Safe.rg rfl ?_
  simp only [b4o, a0w, E3, seval]
  refine Safe.rg rfl ?_
  simp only [b4n, E3, seval]
  refine (a5r (canZ a.num) ((a0k ha.num).mono (by omega))).acall ?_
  rw [a0s]
  simp only [he, E3, seval]
  refine Safe.rt rfl ?_
  simp only [E3, seval]
  first | exact ⟨rfl, _, rfl⟩ | exact ⟨_, rfl⟩ | exact ⟨trivial, _, rfl⟩
end Go.Abs
set_option linter.unusedVariables false
set_option linter.unusedSimpArgs false
namespace Go.Abs
theorem e4W {G : Heap} (hG : a0L G) {n0 : Nat} (hn : n0 ≤ lid G 0) {env : Env} {wd bytes k : Nat} {f : Nat → AV} {y : AV} (hf : ∀ x, Cl (f x)) (hy : y = f k) (hb : (k + 1) * bytes ≤ 140737488355328) (hbb : k + 1 ≤ 9223372036854775807) :
    appV n0 wd bytes false (.mu (lid G 0) 0 k none) (.sl wd [y]) env (hap G [some ⟨wd, fr k f⟩]) = some (.mu (lid G 0) 0 (k + 1) none, scrub (lid G 0) env, hap G [some ⟨wd, fr (k + 1) f⟩]) := by
  have := a6T (H := G) hG (L := [some ⟨wd, (List.range k).map f⟩]) 0 hn (env := env) (wd := wd) (bytes := bytes) hf (List.range k) k (List.range (k + 1)) (y := y) (len := k) (List.length_range).symm rfl (RC.row hf .nil) hy List.range_succ hb hbb
  exact this
theorem b3n {id j off len : Nat} {oc : Option Nat} (h : j ≠ id) : nref id (.mu j off len oc) = true := a0y.2 (.mu _ _ _ _ h)
theorem c5j (b : List (List ZI)) {c : Nat} (hc : ∀ i, (h : i < b.length) → b[i].length = c) (hnb : b.length ≤ 2097152) (hcb : c ≤ 2097152) (hz : Mok 17592186044416 b) (H : Heap) :
    a0n Pr a6t [matV b] H fun r' H' => r' = .mu (lid H 0) 0 b.length none ∧ H' = hap H (a1i (lid H 0) b.length 4 c none fun j k => Rv (zg (mg b j) k : Int)) := by
  refine a0n.introH c7c c6Z (Nat.le_of_ble_eq_true rfl) fun hH => ?_
  have hS : ∀ (j k : Nat), Cl ((fun (j k : Nat) => Rv ((zg (mg b j) k : Int) : Rat)) j k) := fun _ _ => a4M _
  generalize hSd : (fun (j k : Nat) => Rv ((zg (mg b j) k : Int) : Rat)) = S at *
  refine Safe.rg rfl ?_
  simp only [b4w, E3, seval]
  refine Safe.rg rfl ?_
  simp only [b4v, E3, seval]
  refine Safe.nilrow 3 1 (by decide) (by simp only [E3, seval]) ?_
  refine Safe.rg rfl ?_
  simp only [b4u, E3, seval]
  refine Safe.lp rfl ?_
  refine Safe.keep [0, 3, 4] ?_
  try simp only [E3, seval]
  refine Safe.loopN (b.length) (fun i => [(0, matV b), (3, .mu (lid H 0) 0 i none), (4, .int .i64 i)]) (fun i => hap H (a1i (lid H 0) i 4 c none S)) rfl rfl (fun i hi ih => ?_) ?_
  · have hlt : ((i : Int) < (b.length : Int)) = True := eq_true (by omega)
    have hbc := hc i hi
    have hiw : IntKind.wrap .i64 ((i : Int) + 1) = ((i + 1 : Nat) : Int) := by rw [a0a] <;> omega
    refine Safe.inLoop ?_
    refine Safe.rg rfl ?_
    simp only [a8c, hlt, E3, seval]
    refine Safe.cd rfl ?_
    simp only [E3, seval]
    have hGr : a0L (hap H (a1i (lid H 0) i 4 c none S)) := b1G (X := []) hH (by simp) fun j k _ _ => hS j k
    have hG0 : (hap H (a1i (lid H 0) i 4 c none S))[lid H 0]? = some (some ⟨1, orow (lid H 0) i c none fun i => i⟩) := by
      simp only [hap, lid]; rw [List.getElem?_append_right (by omega)]; simp [a1i, lid]
    have hGl : (hap H (a1i (lid H 0) i 4 c none S)).length = lid H 0 + 1 + i := by simp [hap, lid, a5w]; omega
    have hsucc := d5U H i 4 c none S
    have hGf : Free (hap H (a1i (lid H 0) i 4 c none S)) (lid H 0) := d5V (X := []) hH (by simp) fun j k _ _ => hS j k
    rw [← a2N (hap H (a1i (lid H 0) i 4 c none S))]
    generalize hap H (a1i (lid H 0) i 4 c none S) = G at *
    have hn0 : H.length ≤ lid G 0 := by simp only [lid] at hGl ⊢; omega
    have hne : lid H 0 ≠ lid G 0 := by simp only [lid] at hGl ⊢; omega
    have hnr1 : nref (lid G 0) (.mu (lid H 0) 0 i none) = true := b3n hne
    refine Safe.rg rfl ?_
    simp only [b4t, E3, seval]
    refine Safe.nilrow 5 4 (by decide) (by simp only [E3, seval]) ?_
    refine Safe.rg rfl ?_
    simp only [b4s, E3, seval]
    refine Safe.lp rfl ?_
    refine Safe.keep [0, 3, 4, 5, 6] ?_
    try simp only [E3, seval]
    refine Safe.loopN c (fun k => [(0, matV b), (3, .mu (lid H 0) 0 i none), (4, .int .i64 i), (5, .mu (lid G 0) 0 k none), (6, .int .i64 k)]) (fun k => hap G [some ⟨4, fr k (S i)⟩]) rfl rfl (fun k hk ihk => ?_) ?_
    · have hlt : ((k : Int) < (b[i].length : Int)) = True := eq_true (by omega)
      have hkb : k < b[i].length := by omega
      have hkw : IntKind.wrap .i64 ((k : Int) + 1) = ((k + 1 : Nat) : Int) := by rw [a0a] <;> omega
      refine Safe.inLoop ?_
      refine Safe.rg rfl ?_
      simp only [a8b, a2u _ b _ i hi, hlt, E3, seval]
      refine Safe.cd rfl ?_
      simp only [E3, seval]
      refine Safe.rg rfl ?_
      simp only [b4r, a2u _ b _ i hi, c2b _ b[i] _ k hkb, E3, seval]
      first | refine (b6d b[i][k] ((hz.get hi).el _ (List.getElem_mem hkb))).acall ?_ | refine (b6d b[i][k] ((hz.get hi).el _ (List.getElem_mem hkb))).dcall ?_
      try simp only [E3, seval]
      have hy : Rv ((b[i][k].z : Int) : Rat) = S i k := by rw [← hSd]; simp only [a3H hi, e1Q hkb]
      simp only [a3m, a0G, a0w, E3, seval]
      rw [e4W hGr hn0 (hS i) hy (by omega) (by omega)]
      simp only [hnr1, E3, seval]
      refine Safe.rg rfl ?_
      simp only [b4q, hkw, E3, seval]
      refine Safe.keep [0, 3, 4, 5, 6] ?_
      simp only [E3, seval]
      exact ihk
    · refine Safe.inLoop ?_
      refine Safe.rg rfl ?_
      simp only [a8b, a2u _ b _ i hi, hbc, Int.lt_irrefl, E3, seval]
      refine Safe.cd rfl ?_
      simp only [E3, seval]
      refine Safe.rg rfl ?_
      simp only [b4p, E3, seval]
      rw [e3H (ys := [.mu (lid G 0) 0 c none]) hG0 (a1k H 0) (by simp [orow, c1c]) (by simp [a0V, a1y]) (by simp)
        (e0B hGf (by
          intro b hb a ha
          simp at hb
          rcases hb with rfl | rfl
          · exact (a3I (fun k _ => hS i k) a ha).ref
          · simp [Blk.flat, AV.cells] at ha; subst ha; exact .mu _ _ _ _ (Ne.symm hne)))
        (by intro a ha; simp [AV.cells] at ha; subst ha; exact .mu _ _ _ _ (Ne.symm hne))
        (fun a ha => c2D (fun j hj => by show _ ≠ _; omega) a ha) (by simp; omega) (by simp; omega)]
      simp only [hnr1, E3, seval]
      refine Safe.rg rfl ?_
      simp only [b2b, hiw, E3, seval]
      refine Safe.keep [0, 3, 4] ?_
      simp only [E3, seval]
      have e2 : ∀ o, hap (G.set (lid H 0) (some ⟨1, orow (lid H 0) i c none (fun i => i) ++ [.mu (lid G 0) 0 c none]⟩)) [some ⟨4, fr c (S i)⟩, o] = hap (hap H (a1i (lid H 0) (i + 1) 4 c none S)) ([] ++ [o]) := by
        intro o
        rw [← hsucc]; simp [hap]
      rw [e2]
      have hGl2 : (hap H (a1i (lid H 0) (i + 1) 4 c none S)).length = lid H 0 + 1 + (i + 1) := by simp [hap, lid, a5w]; omega
      refine Safe.dropG (b1G (X := []) hH (by simp) fun j k _ _ => hS j k) (by show H.length ≤ _; have := a1k H 0; rw [hGl2]; omega) ?_ (by simp) ?_
      · have hnr2 : nref (lid (hap H (a1i (lid H 0) (i + 1) 4 c none S)) 0) (.mu (lid H 0) 0 (i + 1) none) = true := b3n (by have : lid (hap H (a1i (lid H 0) (i + 1) 4 c none S)) 0 = lid H 0 + 1 + (i + 1) := hGl2; omega)
        simp only [List.all_cons, List.all_nil, List.length_nil, hnr2, E3, seval]
      · rw [a2N]
        exact ih
  · refine Safe.inLoop ?_
    refine Safe.rg rfl ?_
    simp only [a8c, Int.lt_irrefl, E3, seval]
    refine Safe.cd rfl ?_
    simp only [E3, seval]
    refine Safe.rg rfl ?_
    simp only [b2a, E3, seval]
    refine Safe.rt rfl ?_
    simp only [E3, seval]
end Go.Abs
set_option linter.unusedVariables false
set_option linter.unusedSimpArgs false
namespace Go.Abs
/-- Row j up to a place told anew. -/
def a4v (S : Nat → Nat → AV) (j : Nat) (f : Nat → AV) (t : Nat) : Nat → Nat → AV := fun a b => if a = j ∧ b < t then f b else S a b
theorem c6y (S : Nat → Nat → AV) (j : Nat) (f : Nat → AV) : a4v S j f 0 = S := by funext a b; simp [a4v]
theorem d4a (S : Nat → Nat → AV) (j : Nat) (f : Nat → AV) (t : Nat) : a4v S j f t j t = S j t := by simp [a4v]
theorem c7V {S : Nat → Nat → AV} {j a : Nat} {f : Nat → AV} {t b : Nat} (h : a ≠ j) : a4v S j f t a b = S a b := by simp [a4v, h]
theorem c6z (S : Nat → Nat → AV) (j : Nat) (f : Nat → AV) (t : Nat) : upd2 (a4v S j f t) j t (f t) = a4v S j f (t + 1) := by
  funext a b
  unfold upd2 a4v
  by_cases h1 : a = j
  · subst h1
    by_cases h2 : b = t
    · subst h2; simp
    · by_cases h3 : b < t
      · rw [if_pos rfl, if_neg h2, if_pos ⟨rfl, h3⟩, if_pos ⟨rfl, by omega⟩]
      · rw [if_pos rfl, if_neg h2, if_neg (by omega), if_neg (by omega)]
  · rw [if_neg h1, if_neg (by omega), if_neg (by omega)]
theorem c7W {S : Nat → Nat → AV} {j : Nat} {f : Nat → AV} {t : Nat} (hS : ∀ a b, Cl (S a b)) (hf : ∀ b, Cl (f b)) : ∀ a b, Cl (a4v S j f t a b) := by
  intro a b; unfold a4v; split
  · exact hf b
  · exact hS a b
theorem e2i {a b : Rat} {k l : Nat} (ha : Rok k a) (hb : Rok l b) : Rok (k + l) (a * b) := by
  constructor
  · rw [Rat.num_mul, Int.natAbs_ediv_of_dvd]
    · exact Nat.lt_of_le_of_lt (Nat.div_le_self _ _) (a5v ha.num hb.num)
    · exact Int.ofNat_dvd_left.2 (Nat.gcd_dvd_left _ _)
  · rw [Rat.den_mul, d7U]
    exact Nat.lt_of_le_of_lt (Nat.div_le_self _ _) (Nat.mul_lt_mul'' ha.den hb.den)
section
variable {G : Heap} {β n c : Nat} {oc oc' : Option Nat} {π : Nat → Nat} {S : Nat → Nat → AV} (hG : β + n < G.length)
include hG
theorem d5Z {M : Nat → Nat → Rat} {K i k : Nat} (q : Rat) (hi : i < n) (hk : k < n) (hik : π k ≠ π i) (hπ : ∀ a, a < n → π a < n) (hS : ∀ a b, a < n → b < c → S (π a) b = Rv (M a b)) (hcl : ∀ a b, Cl (S a b))
    (hMs : ∀ a b, a < n → b < c → Rok K (M a b)) (hq : Rok K q) (hK : K + (K + K) < 17592186043000) (hc : c ≤ 2097152) (hn : n ≤ 2097152) :
    a0n Pr a6u [.mu β 0 n oc', .int .i64 i, .int .i64 k, Rv q] (hM G β n 4 c oc π S) fun r' H' => r' = .tup [] ∧ H' = hM G β n 4 c oc π (a4v S (π i) (fun b => Rv (M i b - q * M k b)) c) := by
  refine a0n.eff c7f c7d (Nat.le_of_ble_eq_true rfl) fun hH => ?_
  have hpi := hπ i hi
  have hpk := hπ k hk
  refine Safe.rg rfl ?_
  simp only [b4A, a1n, a0v, a0E, a0F, a3m, a0G, a0w, E3, seval]
  refine Safe.rg rfl ?_
  simp only [b4z, E3, seval]
  refine Safe.lp rfl ?_
  refine Safe.keep [0, 1, 2, 7, 8] ?_
  try simp only [E3, seval]
  refine Safe.loopN c (fun t => [(0, .mu β 0 n oc'), (1, .int .i64 i), (2, .int .i64 k), (7, .loc (lid G 0) 0 0), (8, .int .i64 t)]) (fun t => hap (hM G β n 4 c oc π (a4v S (π i) (fun b => Rv (M i b - q * M k b)) t)) [some ⟨4, [Rv q]⟩]) rfl ?_ (fun t ht ih => ?_) ?_
  · rw [c6y]
  · have hlt : ((t : Int) < (c : Int)) = True := eq_true (by omega)
    have htw : IntKind.wrap .i64 ((t : Int) + 1) = ((t + 1 : Nat) : Int) := by rw [a0a] <;> omega
    have v1 : a4v S (π i) (fun b => Rv (M i b - q * M k b)) t (π i) t = Rv (M i t) := by rw [d4a, hS i t hi ht]
    have v2 : a4v S (π i) (fun b => Rv (M i b - q * M k b)) t (π k) t = Rv (M k t) := by rw [c7V hik, hS k t hk ht]
    have hsucc := c6z S (π i) (fun b => Rv (M i b - q * M k b)) t
    generalize a4v S (π i) (fun b => Rv (M i b - q * M k b)) t = St at *
    refine Safe.inLoop ?_
    refine Safe.rg rfl ?_
    simp only [a8d, a3K hG hi, M_at hG hi, d9j hG hpi, hlt, E3, seval]
    refine Safe.cd rfl ?_
    simp only [E3, seval]
    refine Safe.rg rfl ?_
    simp only [b4y, a1n, a0v, a0E, a0F, a3K hG hi, M_at hG hi, a3K hG hk, M_at hG hk, a5Q hG hpi ht, E_at hG hpi ht, a5Q hG hpk ht, E_at hG hpk ht, v1, v2, a0G, E3, seval]
    refine (c5m q (M k t) hq (hMs k t hk ht) (by omega)).dcall ?_
    simp only [E3, seval]
    refine (d5k (M i t) (q * M k t) (hMs i t hi ht) (e2i hq (hMs k t hk ht)) (by omega)).dcall ?_
    simp only [a5Q hG hpi ht, E3, seval]
    simp only [E_st hG hpi ht (a3m _) (show (Rv _).cells.length = 4 from rfl), hsucc, E3, seval]
    refine Safe.rg rfl ?_
    simp only [b4x, htw, E3, seval]
    refine Safe.keep [0, 1, 2, 7, 8] ?_
    simp only [E3, seval]
    exact ih
  · refine Safe.inLoop ?_
    refine Safe.rg rfl ?_
    simp only [a8d, a3K hG hi, M_at hG hi, d9j hG hpi, Int.lt_irrefl, E3, seval]
    refine Safe.cd rfl ?_
    simp only [E3, seval]
    refine Safe.stl 40 _ ?_
    refine Safe.done rfl ?_
    exact ⟨_, _, rfl, by rw [a7C, a7C], c3M hG hH hπ (fun a b _ _ => c7W hcl (fun b => a4M _) a b), .tup _ (by simp), rfl, rfl⟩
theorem d2P {M : Nat → Nat → Rat} {K i k : Nat} (q : Rat) (hi : i < n) (hk : k < n) (hik : π k ≠ π i) (hπ : ∀ a, a < n → π a < n) (hS : ∀ a b, a < n → b < c → S (π a) b = Rv (M a b)) (hcl : ∀ a b, Cl (S a b))
    (hMs : ∀ a b, a < n → b < c → Rok K (M a b)) (hq : Rok K q) (hK : K + (K + K) < 17592186043000) (hc : c ≤ 2097152) (hn : n ≤ 2097152) (L : Heap) :
    a0n Pr a6u [.mu β 0 n oc', .int .i64 i, .int .i64 k, Rv q] (hap (hM G β n 4 c oc π S) L) fun r' H' => r' = .tup [] ∧ H' = hap (hM G β n 4 c oc π (a4v S (π i) (fun b => Rv (M i b - q * M k b)) c)) L := by
  have h := d5Z (G := hap G L) (β := β) (n := n) (c := c) (oc := oc) (oc' := oc') (π := π) (S := S) (by simp [hap]; omega) q hi hk hik hπ hS hcl hMs hq hK hc hn
  rw [d8i _ _ _ _ _ _ _ _ _ hG]
  refine h.mono ?_
  rintro r' H' ⟨rfl, rfl⟩
  exact ⟨rfl, (d8i _ _ _ _ _ _ _ _ _ hG).symm⟩
end
end Go.Abs
set_option linter.unusedVariables false
set_option linter.unusedSimpArgs false
namespace Go.Abs
def intV (x : Nat) : AV := .int .i64 (x : Int)
theorem a8T (x : Nat) : Cl (intV x) := .int _ _
/-- Places, as a value. -/
def hsV (cs : List Nat) : AV := .sl 1 (cs.map intV)
theorem e1B (cs : List Nat) : Cl (hsV cs) := e0O 1 intV cs a8T
theorem d4B {G : Heap} {β n w c : Nat} {oc : Option Nat} {π : Nat → Nat} {S : Nat → Nat → AV} {α : Type} (hH : a0L (hM G β n w c oc π S)) {L : Heap} (i : Nat) {n0 : Nat} (hn : n0 ≤ lid G i) {env : Env} {wd bytes : Nat} {f : α → AV} (hf : ∀ x, Cl (f x)) (l : List α) (x : α) {y : AV} {len : Nat}
    (hlen : len = l.length) (hl : L[i]? = some (some ⟨wd, l.map f⟩)) (hL : RC L) (hy : y = f x) (hb : (len + 1) * bytes ≤ 140737488355328) (hbb : len + 1 ≤ 9223372036854775807) :
    appV n0 wd bytes false (.mu (lid G i) 0 len none) (.sl wd [y]) env (hap (hM G β n w c oc π S) L) = some (.mu (lid G i) 0 (len + 1) none, scrub (lid G i) env, hap (hM G β n w c oc π S) (L.set i (some ⟨wd, (l ++ [x]).map f⟩))) := by
  have := a6T (H := hM G β n w c oc π S) hH i (by rw [a1n]; exact hn) (env := env) (bytes := bytes) hf l x (l ++ [x]) hlen hl hL hy rfl hb hbb
  rwa [a1n] at this
theorem e1s (π : Nat → Nat) (p r : Nat) : (fun t => if t = r then π p else (fun t => if t = p then π r else π t) t) = swp π p r := by
  funext t; unfold swp
  by_cases h1 : t = r
  · by_cases h2 : t = p
    · rw [if_pos h1, if_pos h2]; rw [← h1, ← h2]
    · rw [if_pos h1, if_neg h2, if_pos h1]
  · rw [if_neg h1]
    show (if t = p then π r else π t) = _
    by_cases h2 : t = p
    · rw [if_pos h2, if_pos h2]
    · rw [if_neg h2, if_neg h2, if_neg h1]
/-- A matrix's logical entries. -/
structure Lk (n c : Nat) (π : Nat → Nat) (S : Nat → Nat → AV) (F : Nat → Nat → AV) : Prop where
  lt : ∀ a, a < n → π a < n
  inj : ∀ a b, a < n → b < n → π a = π b → a = b
  at_ : ∀ a b, a < n → b < c → S (π a) b = F a b
  cl : ∀ a b, Cl (S a b)
theorem Lk.swap {n c : Nat} {π : Nat → Nat} {S : Nat → Nat → AV} {α : Type} {M : Nat → Nat → α} {f : α → AV} (h : Lk n c π S fun a b => f (M a b)) {p r : Nat} (hp : p < n) (hr : r < n) : Lk n c (swp π p r) S fun a b => f (if a = p then M r b else if a = r then M p b else M a b) := by
  refine ⟨fun a ha => ?_, fun a b ha hb he => ?_, fun a b ha hb => ?_, h.cl⟩
  · unfold swp; split
    · exact h.lt r hr
    · split
      · exact h.lt p hp
      · exact h.lt a ha
  · unfold swp at he
    split at he
    · split at he
      · omega
      · split at he
        · have := h.inj _ _ hr hp he; omega
        · have := h.inj _ _ hr hb he; omega
    · split at he
      · split at he
        · have := h.inj _ _ hp hr he; omega
        · split at he
          · omega
          · have := h.inj _ _ hp hb he; omega
      · split at he
        · have := h.inj _ _ ha hr he; omega
        · split at he
          · have := h.inj _ _ ha hp he; omega
          · exact h.inj _ _ ha hb he
  · unfold swp
    split
    · exact h.at_ r b hr hb
    · split
      · exact h.at_ p b hp hb
      · exact h.at_ a b ha hb
section
variable {G : Heap} {β n c : Nat} {e : Nat} (hG : β + n < G.length) (B : Nat → Nat → Rat) (hB : Bd e B) (hn : n ≤ 64 ∨ c ≤ 64) (hn2 : n ≤ 2097152) (hc : c ≤ 2097152) (hK : KB e + 1 < 2199023255552)
include hG hB hn hn2 hc hK
omit hG hn2 hc hK in
theorem e5j (t i k : Nat) (ht : t ≤ c) : Rok (KB e + 1) ((a1t n B t).M i k) := by
  obtain ⟨h1, h2⟩ := e5b (n := n) hB t i k (by omega)
  have : LB ^ KB e < LB ^ (KB e + 1) := Nat.pow_lt_pow_right (by decide) (by omega)
  exact ⟨by omega, by omega⟩
omit hG hn2 hc hK in
theorem e4h (t : Nat) (ht : t ≤ c) : Rok (KB e + 1) (dv n B t) := by
  obtain ⟨z, hz, hz1⟩ := e3k (n := n) hB t (by omega)
  have : LB ^ KB e < LB ^ (KB e + 1) := Nat.pow_lt_pow_right (by decide) (by omega)
  have h1 : 1 ≤ LB ^ KB e := Nat.one_le_iff_ne_zero.2 (by have := c3E (KB e); omega)
  rw [hz]
  refine ⟨?_, ?_⟩
  · show z.natAbs < _; omega
  · show 1 < _; omega
theorem c7N {S : Nat → Nat → AV} (hS : Lk n c (fun i => i) S fun a b => Rv (B a b)) :
    a0n Pr a1d [.mu β 0 n none, .int .i64 c] (hM G β n 4 c none (fun i => i) S) fun r' H' => ∃ π S', Lk n c π S' (fun a b => Rv ((a1t n B c).M a b)) ∧ H' = hM G β n 4 c none π S' ∧
      r' = .tup [.mu β 0 (gproc n B c).cs.length none, hsV (gproc n B c).cs, Rv (dv n B c)] := by
  refine a0n.eff c1h c1f (Nat.le_of_ble_eq_true rfl) fun hH => ?_
  have hBi : ∀ i k, ∃ z : Int, B i k = z := fun i k => by obtain ⟨z, h, _⟩ := hB i k; exact ⟨z, h⟩
  have hrok := e5j B hB hn
  have hrdv := e4h B hB hn
  have hrw : lid (hM G β n 4 c none (fun i => i) S) 0 = lid G 0 := a1n _ _ _ _ _ _ _ _ _
  refine Safe.rg rfl ?_
  simp only [a9s, a1n, a0v, a0E, a0F, a0w, E3, seval]
  refine Safe.rg rfl ?_
  simp only [a9r, a1n, a0v, a0E, a0F, a3m, a0G, a0w, E3, seval]
  first | refine (a2b 1 (by decide) (by decide)).acall ?_ | refine (a2b 1 (by decide) (by decide)).dcall ?_
  try simp only [E3, seval]
  refine (b6d (canZ 1) ((a0k (k := 1) (by decide)).mono (by decide))).acall ?_
  rw [a0s]
  simp only [a1n, a0v, a0E, a0F, a3m, a0G, a0w, E3, seval]
  refine Safe.rg rfl ?_
  simp only [a9q, E3, seval]
  refine Safe.nilrow 8 1 (by decide) (by simp only [E3, seval]) ?_
  refine Safe.rg rfl ?_
  simp only [a9p, E3, seval]
  refine Safe.rg rfl ?_
  simp only [a9o, E3, seval]
  refine Safe.lp rfl ?_
  refine Safe.keep [0, 1, 6, 7, 8, 9, 10] ?_
  simp only [a1n, a0v, a0E, a0F, E3, seval]
  refine Safe.loopW (α := Nat × (Nat → Nat) × (Nat → Nat → AV)) (fun s => c - s.1)
    (fun s => [(0, .mu β 0 n none), (1, .int .i64 c), (6, .loc (lid G 0) 0 0), (7, .loc (lid G 1) 0 0), (8, .mu (lid G 2) 0 (gproc n B s.1).cs.length none), (9, .int .i64 (gproc n B s.1).cs.length), (10, .int .i64 s.1)])
    (fun s => hap (hM G β n 4 c none s.2.1 s.2.2) [some ⟨4, [.agg [.bool false, .nil, .bool false, .nil]]⟩, some ⟨4, [Rv (dv n B s.1)]⟩, some ⟨1, (gproc n B s.1).cs.map intV⟩])
    (fun s => s.1 ≤ c ∧ Lk n c s.2.1 s.2.2 fun a b => Rv ((a1t n B s.1).M a b)) (0, fun i => i, S) rfl ?_ ⟨Nat.zero_le _, hS⟩ ?_
  · simp only [e3h]; rfl
  rintro ⟨t, π, S1⟩ ⟨ht, hL⟩ ih
  simp only at ht hL ih ⊢
  have hok := b1I (n := n) hBi t
  have hrn := hok.g.len
  have hlow := hok.low
  rw [a2w] at hrn hlow
  have hHr : ∀ {π' : Nat → Nat} {S' : Nat → Nat → AV} {F : Nat → Nat → AV}, Lk n c π' S' F → a0L (hM G β n 4 c none π' S') := fun h => c3M hG hH h.lt fun a b _ _ => h.cl a b
  have hlen : (gproc n B t).cs.length ≤ 64 := d3l hB t (by omega)
  have htlt : t < 9223372036854775807 := by omega
  have htw : IntKind.wrap .i64 ((t : Int) + 1) = ((t + 1 : Nat) : Int) := by rw [a0a] <;> omega
  refine Safe.inLoop ?_
  by_cases htc : t < c
  · have hlt : ((t : Int) < (c : Int)) = True := eq_true (by omega)
    refine Safe.rg rfl ?_
    simp only [a4r, hlt, E3, seval]
    refine Safe.cd rfl ?_
    simp only [E3, seval]
    refine Safe.rg rfl ?_
    simp only [a9n, E3, seval]
    have entry : ∀ q, q < n → S1 (π q) t = Rv ((a1t n B t).M q t) := fun q hq => hL.at_ q t hq htc
    rcases a1l (fun p => (gproc n B t).g p t) (gproc n B t).cs.length n with ⟨p, hf, h1, h2, h3, h4⟩ | ⟨hf, h4⟩
    · have hj := c6B (j := a1t n B t) (c := t) (n := n) (p := p) (by rw [a2w]; exact hf)
      have hdv := e3i hBi hf h1
      have hcs : (gproc n B (t + 1)).cs = (gproc n B t).cs ++ [t] := by
        show (b0h n (gproc n B t) t).cs = _
        rw [a0U hf]
      have hM' : (a1t n B (t + 1)).M = jel (gproc n B t).cs.length t (a0H p (gproc n B t).cs.length (a1t n B t).M) := by
        show (c4M n (a1t n B t) t).M = _
        rw [hj, a2w]
      have hMp : ∀ q, (gproc n B t).cs.length ≤ q → (a1t n B t).M q t = (gproc n B t).g q t := fun q hq => hlow q t hq
      have hrokM : ∀ a b, Rok (KB e + 1) (a0H p (gproc n B t).cs.length (a1t n B t).M a b) := by
        intro a b; unfold a0H
        split
        · exact hrok _ _ _ ht
        · split <;> exact hrok _ _ _ ht
      have hM0r : a0H p (gproc n B t).cs.length (a1t n B t).M (gproc n B t).cs.length t = (gproc n B t).g p t := by
        unfold a0H
        by_cases e : (gproc n B t).cs.length = p
        · rw [if_pos e, ← e, hMp _ (Nat.le_refl _)]
        · rw [if_neg e, if_pos rfl, hMp _ h1]
      generalize hcsl : (gproc n B t).cs.length = r at *
      have hr : r < n := by omega
      have hgp : (gproc n B t).g p t ≠ 0 := h3
      generalize hM0 : a0H p r (a1t n B t).M = M0 at *
      have main : ∀ π', Lk n c π' S1 (fun a b => Rv (M0 a b)) → Safe ⟨Pr, fun _ _ => false, a1d, 136, [.tmp 4, .tmp 5, .cell 6 (some 4)], (hM G β n 4 c none (fun i => i) S).length⟩
          [.code ((ACode.region a3B false).seq ((ACode.region a3A false).seq (((ACode.region a3z false).seq (.block 4 (.loop a9u))).seq (((ACode.region a3x false).seq (.block 6 (.loop a9t))).seq ((ACode.region a3u false).seq (.region a3t false)))))),
            .inBlock 1, .code (.region a2p false), .inLoop a9v, .inBlock 0, .code ((ACode.region a3s true).seq .ret)]
          [(0, .mu β 0 n none), (1, .int .i64 c), (6, .loc (lid G 0) 0 0), (7, .loc (lid G 1) 0 0), (8, .mu (lid G 2) 0 r none), (9, .int .i64 r), (10, .int .i64 t)]
          (hap (hM G β n 4 c none π' S1) [some ⟨4, [.agg [.bool false, .nil, .bool false, .nil]]⟩, some ⟨4, [Rv (if p = r then dv n B t else -dv n B t)]⟩, some ⟨1, (gproc n B t).cs.map intV⟩])
          fun r' H' => ∃ H1 L, H' = hap H1 L ∧ H1.length = (hM G β n 4 c none (fun i => i) S).length ∧ a0L H1 ∧ Ref (fun x => x < (hM G β n 4 c none (fun i => i) S).length) r' ∧
            ∃ π S', Lk n c π S' (fun a b => Rv ((a1t n B c).M a b)) ∧ H1 = hM G β n 4 c none π S' ∧ r' = .tup [.mu β 0 (gproc n B c).cs.length none, hsV (gproc n B c).cs, Rv (dv n B c)] := by
        intro π' hL'
        have hpr := hL'.lt r hr
        have hdr : Rok (KB e + 1) (if p = r then dv n B t else -dv n B t) := by
          split
          · exact (hrdv t ht)
          · exact d7f ((hrdv t ht))
        have v0 : S1 (π' r) t = Rv (M0 r t) := hL'.at_ r t hr htc
        refine Safe.rg rfl ?_
        simp only [a3B, a1n, a0v, a0E, a0F, a3K hG hr, M_at hG hr, a5Q hG hpr htc, E_at hG hpr htc, v0, a0G, a3m, a0w, E3, seval]
        refine Safe.rg rfl ?_
        simp only [a3A, a1n, a0v, a0E, a0F, a0G, a3m, E3, seval]
        refine (c5m _ (M0 r t) hdr (hrokM r t) (by omega)).acall ?_
        rw [hM0r, ← hdv]
        simp only [a1n, a0v, a0E, a0F, a0G, a3m, E3, seval]
        have hrokh := hrokM r t
        rw [hM0r] at hrokh
        have hM0rr := hM0r
        generalize (gproc n B t).g p t = h at *
        refine Safe.rg rfl ?_
        simp only [a3z, E3, seval]
        refine Safe.lp rfl ?_
        refine Safe.keep [0, 1, 6, 7, 8, 9, 10, 12, 13] ?_
        try simp only [E3, seval]
        refine Safe.loopN c (fun k => [(0, .mu β 0 n none), (1, .int .i64 c), (6, .loc (lid G 0) 0 0), (7, .loc (lid G 1) 0 0), (8, .mu (lid G 2) 0 r none), (9, .int .i64 r), (10, .int .i64 t), (12, .loc (lid G 3) 0 0), (13, .int .i64 k)])
          (fun k => hap (hM G β n 4 c none π' (a4v S1 (π' r) (fun b => Rv (M0 r b / h)) k)) [some ⟨4, [.agg [.bool false, .nil, .bool false, .nil]]⟩, some ⟨4, [Rv (dv n B (t + 1))]⟩, some ⟨1, (gproc n B t).cs.map intV⟩, some ⟨4, [Rv h]⟩]) rfl ?_ (fun k hk ihk => ?_) ?_
        · rw [c6y]; rfl
        · have hlt : ((k : Int) < (c : Int)) = True := eq_true (by omega)
          have hkw : IntKind.wrap .i64 ((k : Int) + 1) = ((k + 1 : Nat) : Int) := by rw [a0a] <;> omega
          have v1 : a4v S1 (π' r) (fun b => Rv (M0 r b / h)) k (π' r) k = Rv (M0 r k) := by rw [d4a, hL'.at_ r k hr hk]
          have hsucc := c6z S1 (π' r) (fun b => Rv (M0 r b / h)) k
          generalize a4v S1 (π' r) (fun b => Rv (M0 r b / h)) k = St at *
          refine Safe.inLoop ?_
          refine Safe.rg rfl ?_
          simp only [a3y, hlt, E3, seval]
          refine Safe.cd rfl ?_
          simp only [E3, seval]
          refine Safe.rg rfl ?_
          simp only [a7b, a1n, a0v, a0E, a0F, a3K hG hr, M_at hG hr, a5Q hG hpr hk, E_at hG hpr hk, v1, a0G, E3, seval]
          refine (d5l (M0 r k) h (hrokM r k) hrokh (by omega) hgp).dcall ?_
          simp only [a5Q hG hpr hk, E3, seval]
          simp only [E_st hG hpr hk (a3m _) (show (Rv _).cells.length = 4 from rfl), hsucc, E3, seval]
          refine Safe.rg rfl ?_
          simp only [a7a, hkw, E3, seval]
          refine Safe.keep [0, 1, 6, 7, 8, 9, 10, 12, 13] ?_
          simp only [E3, seval]
          exact ihk
        · refine Safe.inLoop ?_
          refine Safe.rg rfl ?_
          simp only [a3y, Int.lt_irrefl, E3, seval]
          refine Safe.cd rfl ?_
          simp only [E3, seval]
          have hL2 : Lk n c π' (a4v S1 (π' r) (fun b => Rv (M0 r b / h)) c) (fun a b => Rv (if a = r then M0 r b / h else M0 a b)) := by
            refine ⟨hL'.lt, hL'.inj, fun a b ha hb => ?_, c7W hL'.cl fun _ => a4M _⟩
            by_cases e : a = r
            · subst e; rw [if_pos rfl]; unfold a4v; rw [if_pos ⟨rfl, hb⟩]
            · rw [if_neg e, c7V (fun h => e (hL'.inj _ _ ha hr h)), hL'.at_ a b ha hb]
          generalize a4v S1 (π' r) (fun b => Rv (M0 r b / h)) c = S2 at *
          refine Safe.rg rfl ?_
          simp only [a3x, E3, seval]
          refine Safe.lp rfl ?_
          refine Safe.keep [0, 1, 6, 7, 8, 9, 10, 14] ?_
          try simp only [E3, seval]
          refine Safe.loopW (α := Nat × (Nat → Nat → AV)) (fun s => n - s.1)
            (fun s => [(0, .mu β 0 n none), (1, .int .i64 c), (6, .loc (lid G 0) 0 0), (7, .loc (lid G 1) 0 0), (8, .mu (lid G 2) 0 r none), (9, .int .i64 r), (10, .int .i64 t), (14, .int .i64 s.1)])
            (fun s => hap (hM G β n 4 c none π' s.2) [some ⟨4, [.agg [.bool false, .nil, .bool false, .nil]]⟩, some ⟨4, [Rv (dv n B (t + 1))]⟩, some ⟨1, (gproc n B t).cs.map intV⟩, some ⟨4, [Rv h]⟩])
            (fun s => s.1 ≤ n ∧ Lk n c π' s.2 (fun a b => Rv (if a = r then M0 r b / h else if a < s.1 then M0 a b - M0 a t * (M0 r b / h) else M0 a b))) (0, S2) rfl rfl
            ⟨Nat.zero_le _, by
              refine ⟨hL2.lt, hL2.inj, fun a b ha hb => ?_, hL2.cl⟩
              refine (hL2.at_ a b ha hb).trans ?_; dsimp only; simp⟩ ?_
          rintro ⟨i, S3⟩ ⟨hi, hL3⟩ ih3
          simp only at hi hL3 ih3 ⊢
          refine Safe.inLoop ?_
          by_cases hin : i < n
          · have hlt : ((i : Int) < (n : Int)) = True := eq_true (by omega)
            have hiw : IntKind.wrap .i64 ((i : Int) + 1) = ((i + 1 : Nat) : Int) := by rw [a0a] <;> omega
            have hpi := hL3.lt i hin
            refine Safe.rg rfl ?_
            simp only [a3w, b1U hG, hlt, E3, seval]
            refine Safe.cd rfl ?_
            simp only [E3, seval]
            by_cases hir : i = r
            · subst hir
              refine Safe.rg rfl ?_
              simp only [a3v, E3, seval]
              refine Safe.cd rfl ?_
              simp only [E3, seval]
              refine Safe.rg rfl ?_
              simp only [a2q, hiw, E3, seval]
              refine Safe.keep [0, 1, 6, 7, 8, 9, 10, 14] ?_
              simp only [E3, seval]
              refine ih3 (i + 1, S3) ⟨by omega, hL3.lt, hL3.inj, fun a b ha hb => ?_, hL3.cl⟩ (by show n - (i + 1) < n - i; omega)
              refine (hL3.at_ a b ha hb).trans ?_
              dsimp only
              by_cases e : a = i
              · rw [if_pos e, if_pos e]
              · rw [if_neg e, if_neg e]
                by_cases e2 : a < i
                · rw [if_pos e2, if_pos (show a < i + 1 by omega)]
                · rw [if_neg e2, if_neg (show ¬ a < i + 1 by omega)]
            · have hne : ((i : Int) = (r : Int)) = False := eq_false (by omega)
              have v3 : S3 (π' i) t = Rv (M0 i t) := by rw [hL3.at_ i t hin htc, if_neg hir, if_neg (Nat.lt_irrefl _)]
              refine Safe.rg rfl ?_
              simp only [a3v, hne, a3K hG hin, M_at hG hin, a5Q hG hpi htc, E_at hG hpi htc, v3, a0G, E3, seval]
              refine (b1C (M0 i t) (hrokM i t) (by omega)).acall ?_
              by_cases hz : M0 i t = 0
              · simp only [hz, E3, seval]
                refine Safe.cd rfl ?_
                simp only [E3, seval]
                refine Safe.rg rfl ?_
                simp only [a2q, hiw, E3, seval]
                refine Safe.keep [0, 1, 6, 7, 8, 9, 10, 14] ?_
                simp only [E3, seval]
                refine ih3 (i + 1, S3) ⟨by omega, hL3.lt, hL3.inj, fun a b ha hb => ?_, hL3.cl⟩ (by show n - (i + 1) < n - i; omega)
                refine (hL3.at_ a b ha hb).trans ?_
                dsimp only
                by_cases e : a = r
                · rw [if_pos e, if_pos e]
                · rw [if_neg e, if_neg e]
                  by_cases e2 : a < i
                  · rw [if_pos e2, if_pos (show a < i + 1 by omega)]
                  · rw [if_neg e2]
                    by_cases e3 : a = i
                    · subst e3
                      rw [if_pos (show a < a + 1 by omega), hz]
                      congr 1
                      generalize M0 r b / h = y
                      grind
                    · rw [if_neg (show ¬ a < i + 1 by omega)]
              · simp only [hz, E3, seval]
                refine Safe.cd rfl ?_
                simp only [E3, seval]
                have hMs : ∀ a b, a < n → b < c → Rok (KB e + 1) (if a = r then M0 r b / h else if a < i then M0 a b - M0 a t * (M0 r b / h) else M0 a b) := by
                  intro a b _ _
                  have h0 := hrok (t + 1) a b (by omega)
                  rw [hM'] at h0
                  unfold jel at h0
                  rw [hM0rr] at h0
                  by_cases e : a = r
                  · rw [if_pos e] at h0 ⊢; exact h0
                  · rw [if_neg e] at h0 ⊢
                    split
                    · exact h0
                    · exact hrokM a b
                have hcall := d2P (G := G) (β := β) (n := n) (c := c) (oc := none) (oc' := none) (π := π') (S := S3) hG (M := fun a b => if a = r then M0 r b / h else if a < i then M0 a b - M0 a t * (M0 r b / h) else M0 a b) (M0 i t) hin hr
                  (fun h => hir (hL3.inj _ _ hr hin h).symm) hL3.lt hL3.at_ hL3.cl hMs (hrokM i t) (by omega) hc (by omega)
                  [some ⟨4, [.agg [.bool false, .nil, .bool false, .nil]]⟩, some ⟨4, [Rv (dv n B (t + 1))]⟩, some ⟨1, (gproc n B t).cs.map intV⟩, some ⟨4, [Rv h]⟩]
                obtain ⟨S4, hS4⟩ : ∃ S4, S4 = a4v S3 (π' i) (fun b => Rv ((fun a b => if a = r then M0 r b / h else if a < i then M0 a b - M0 a t * (M0 r b / h) else M0 a b) i b - M0 i t * (fun a b => if a = r then M0 r b / h else if a < i then M0 a b - M0 a t * (M0 r b / h) else M0 a b) r b)) c := ⟨_, rfl⟩
                rw [← hS4] at hcall
                refine Safe.rg rfl ?_
                simp only [a6Z, a3K hG hin, M_at hG hin, a5Q hG hpi htc, E_at hG hpi htc, v3, a0G, E3, seval]
                refine hcall.mono ?_
                rintro r' H' ⟨rfl, rfl⟩
                simp only [E3, seval]
                refine Safe.rg rfl ?_
                simp only [a2q, hiw, E3, seval]
                refine Safe.keep [0, 1, 6, 7, 8, 9, 10, 14] ?_
                simp only [E3, seval]
                refine ih3 (i + 1, S4) ⟨by omega, hL3.lt, hL3.inj, fun a b ha hb => ?_, by rw [hS4]; exact c7W hL3.cl fun _ => a4M _⟩ (by show n - (i + 1) < n - i; omega)
                show S4 (π' a) b = Rv (if a = r then M0 r b / h else if a < i + 1 then M0 a b - M0 a t * (M0 r b / h) else M0 a b)
                rw [hS4]
                by_cases e3 : a = i
                · subst e3
                  unfold a4v
                  rw [if_pos ⟨rfl, hb⟩]
                  simp only [if_neg hir, Nat.lt_irrefl, if_false, if_true, Nat.lt_succ_self]
                · rw [c7V (fun h => e3 (hL3.inj _ _ ha hin h)), hL3.at_ a b ha hb]
                  by_cases e : a = r
                  · rw [if_pos e, if_pos e]
                  · rw [if_neg e, if_neg e]
                    by_cases e2 : a < i
                    · rw [if_pos e2, if_pos (show a < i + 1 by omega)]
                    · rw [if_neg e2, if_neg (show ¬ a < i + 1 by omega)]
          · have hin' : i = n := by omega
            subst hin'
            refine Safe.rg rfl ?_
            simp only [a3w, b1U hG, Int.lt_irrefl, E3, seval]
            refine Safe.cd rfl ?_
            simp only [E3, seval]
            have hL4 : Lk i c π' S3 fun a b => Rv ((a1t i B (t + 1)).M a b) := by
              refine ⟨hL3.lt, hL3.inj, fun a b ha hb => ?_, hL3.cl⟩
              rw [hL3.at_ a b ha hb, hM']
              unfold jel
              rw [hM0rr]
              by_cases e : a = r
              · rw [if_pos e, if_pos e]
              · rw [if_neg e, if_neg e, if_pos ha]
            have hrw2 : IntKind.wrap .i64 ((r : Int) + 1) = ((r + 1 : Nat) : Int) := by rw [a0a] <;> omega
            have hRC : RC [some ⟨4, [.agg [.bool false, .nil, .bool false, .nil]]⟩, some ⟨4, [Rv (dv i B (t + 1))]⟩, some ⟨1, (gproc i B t).cs.map intV⟩, some ⟨4, [Rv h]⟩] :=
              RC.one d3D (RC.one (a4M _) (RC.row a8T (RC.one (a4M _) RC.nil)))
            have hnb2 : nref (lid G 2) (.mu β 0 i none) = true := b3n (by unfold lid; omega)
            have hnb3 : nref (lid G 3) (.mu β 0 i none) = true := b3n (by unfold lid; omega)
            refine Safe.rg rfl ?_
            simp only [a3u, E3, seval]
            rw [d4B (n0 := (hM G β i 4 c none (fun i => i) S).length) (bytes := 8) (y := .int .i64 (t : Int)) (hHr hL3) 2 (by rw [a7C]; exact a1k G 2) (f := intV) a8T (gproc i B t).cs t hcsl.symm rfl hRC rfl (by omega) (by omega)]
            simp only [hnb2, List.set_cons_succ, List.set_cons_zero, E3, seval]
            refine Safe.rg rfl ?_
            simp only [a3t, hrw2, E3, seval]
            refine Safe.rg rfl ?_
            simp only [a2p, htw, E3, seval]
            refine Safe.keep [0, 1, 6, 7, 8, 9, 10] ?_
            simp only [E3, seval]
            refine Safe.dropM [some ⟨4, [.agg [.bool false, .nil, .bool false, .nil]]⟩, some ⟨4, [Rv (dv i B (t + 1))]⟩, some ⟨1, ((gproc i B t).cs ++ [t]).map intV⟩] (hHr hL4) (by rw [a7C]; exact Nat.le_refl _) (by simp only [List.all_cons, List.all_nil, hnb3, E3, seval]) (RC.one d3D (RC.one (a4M _) (RC.row a8T RC.nil))) ?_
            have hfin := ih (t + 1, π', S3) ⟨htc, hL4⟩ (by show c - (t + 1) < c - t; omega)
            simp only [hcs, a1I, hcsl] at hfin
            exact hfin
      -- the head's row
      refine Safe.lp rfl ?_
      refine Safe.keep [0, 1, 6, 7, 8, 9, 10, 11] ?_
      try simp only [E3, seval]
      refine Safe.loopN (p - r) (fun j => [(0, .mu β 0 n none), (1, .int .i64 c), (6, .loc (lid G 0) 0 0), (7, .loc (lid G 1) 0 0), (8, .mu (lid G 2) 0 r none), (9, .int .i64 r), (10, .int .i64 t), (11, .int .i64 ((r + j : Nat) : Int))])
        (fun _ => hap (hM G β n 4 c none π S1) [some ⟨4, [.agg [.bool false, .nil, .bool false, .nil]]⟩, some ⟨4, [Rv (dv n B t)]⟩, some ⟨1, (gproc n B t).cs.map intV⟩]) rfl rfl (fun j hj2 ihj => ?_) ?_
      · have hq : r + j < n := by omega
        have hlt2 : (((r + j : Nat) : Int) < (n : Int)) = True := eq_true (by omega)
        have hpq := hL.lt (r + j) hq
        have hqw : IntKind.wrap .i64 (((r + j : Nat) : Int) + 1) = ((r + (j + 1) : Nat) : Int) := by rw [a0a] <;> omega
        have hz : (a1t n B t).M (r + j) t = 0 := by rw [hMp _ (by omega)]; exact h4 _ (by omega) (by omega)
        have v4 := entry (r + j) hq
        refine Safe.inLoop ?_
        refine Safe.rg rfl ?_
        simp only [a1K, b1U hG, hlt2, a3K hG hq, M_at hG hq, a5Q hG hpq htc, E_at hG hpq htc, v4, a0G, E3, seval]
        refine (b1C _ (hrok t (r + j) t ht) (by omega)).acall ?_
        simp only [hz, E3, seval]
        refine Safe.cd rfl ?_
        simp only [E3, seval]
        refine Safe.rg rfl ?_
        simp only [a4q, hqw, E3, seval]
        refine Safe.keep [0, 1, 6, 7, 8, 9, 10, 11] ?_
        simp only [E3, seval]
        refine Safe.inBlock ?_
        exact ihj
      · have hrp : r + (p - r) = p := by omega
        rw [hrp]
        have hlt2 : ((p : Int) < (n : Int)) = True := eq_true (by omega)
        have hpq := hL.lt p h2
        have hz : ((a1t n B t).M p t = 0) = False := eq_false (by rw [hMp _ h1]; exact hgp)
        have v4 := entry p h2
        have hpn : ((p : Int) = (n : Int)) = False := eq_false (by omega)
        refine Safe.inLoop ?_
        refine Safe.rg rfl ?_
        simp only [a1K, b1U hG, hlt2, a3K hG h2, M_at hG h2, a5Q hG hpq htc, E_at hG hpq htc, v4, a0G, E3, seval]
        refine (b1C _ (hrok t p t ht) (by omega)).acall ?_
        simp only [hz, E3, seval]
        refine Safe.cd rfl ?_
        simp only [E3, seval]
        refine Safe.rg rfl ?_
        simp only [a4p, b1U hG, hpn, E3, seval]
        refine Safe.cd rfl ?_
        simp only [E3, seval]
        by_cases hpr : p = r
        · have hpr1 : ((p : Int) = (r : Int)) = True := eq_true (by omega)
          refine Safe.rg rfl ?_
          simp only [a3C, hpr1, E3, seval]
          refine Safe.cd rfl ?_
          simp only [E3, seval]
          refine Safe.keep [0, 1, 6, 7, 8, 9, 10] ?_
          simp only [E3, seval]
          have hm := main π (by rw [← hM0, hpr, c5a]; exact hL)
          rw [if_pos hpr] at hm
          refine Safe.skip ?_
          exact hm
        · have hpr1 : ((p : Int) = (r : Int)) = False := eq_false (by omega)
          refine Safe.rg rfl ?_
          simp only [a3C, hpr1, E3, seval]
          refine Safe.cd rfl ?_
          simp only [E3, seval]
          refine Safe.rg rfl ?_
          simp only [a7d, a3K hG h2, M_at hG h2, a3K hG hr, M_at hG hr, E3, seval]
          simp only [M_st hG h2, a3K hG hr, M_st hG hr, e1s, E3, seval]
          refine Safe.rg rfl ?_
          simp only [a7c, a1n, a0v, a0E, a0F, a0G, a3m, E3, seval]
          refine (c5l (dv n B t) ((hrdv t ht)) (by omega)).acall ?_
          simp only [a1n, a0v, a0E, a0F, a0G, a3m, E3, seval]
          refine Safe.keep [0, 1, 6, 7, 8, 9, 10] ?_
          simp only [E3, seval]
          have hm := main (swp π p r) (by
            have hsw := Lk.swap (f := Rv) hL h2 hr
            refine ⟨hsw.lt, hsw.inj, fun a b ha hb => ?_, hsw.cl⟩
            rw [hsw.at_ a b ha hb, ← hM0]
            unfold a0H
            split
            · rfl
            · split <;> rfl)
          rw [if_neg hpr] at hm
          exact hm
    · -- no head in this column
      have hcs : gproc n B (t + 1) = gproc n B t := a1Q hf
      have hj : a1t n B (t + 1) = a1t n B t := c6C (by rw [a2w]; exact hf)
      have hdv := e3j hf
      generalize hcsl : (gproc n B t).cs.length = r at *
      refine Safe.lp rfl ?_
      refine Safe.keep [0, 1, 6, 7, 8, 9, 10, 11] ?_
      try simp only [E3, seval]
      refine Safe.loopN (n - r) (fun j => [(0, .mu β 0 n none), (1, .int .i64 c), (6, .loc (lid G 0) 0 0), (7, .loc (lid G 1) 0 0), (8, .mu (lid G 2) 0 r none), (9, .int .i64 r), (10, .int .i64 t), (11, .int .i64 ((r + j : Nat) : Int))])
        (fun _ => hap (hM G β n 4 c none π S1) [some ⟨4, [.agg [.bool false, .nil, .bool false, .nil]]⟩, some ⟨4, [Rv (dv n B t)]⟩, some ⟨1, (gproc n B t).cs.map intV⟩]) rfl rfl (fun j hj2 ihj => ?_) ?_
      · have hq : r + j < n := by omega
        have hlt2 : (((r + j : Nat) : Int) < (n : Int)) = True := eq_true (by omega)
        have hpq := hL.lt (r + j) hq
        have hqw : IntKind.wrap .i64 (((r + j : Nat) : Int) + 1) = ((r + (j + 1) : Nat) : Int) := by rw [a0a] <;> omega
        have hz : (a1t n B t).M (r + j) t = 0 := by rw [hlow _ _ (by omega)]; exact h4 _ (by omega) (by omega)
        have v4 := entry (r + j) hq
        refine Safe.inLoop ?_
        refine Safe.rg rfl ?_
        simp only [a1K, b1U hG, hlt2, a3K hG hq, M_at hG hq, a5Q hG hpq htc, E_at hG hpq htc, v4, a0G, E3, seval]
        refine (b1C _ (hrok t (r + j) t ht) (by omega)).acall ?_
        simp only [hz, E3, seval]
        refine Safe.cd rfl ?_
        simp only [E3, seval]
        refine Safe.rg rfl ?_
        simp only [a4q, hqw, E3, seval]
        refine Safe.keep [0, 1, 6, 7, 8, 9, 10, 11] ?_
        simp only [E3, seval]
        refine Safe.inBlock ?_
        exact ihj
      · have hrp : r + (n - r) = n := by omega
        rw [hrp]
        refine Safe.inLoop ?_
        refine Safe.rg rfl ?_
        simp only [a1K, b1U hG, Int.lt_irrefl, E3, seval]
        refine Safe.cd rfl ?_
        simp only [E3, seval]
        refine Safe.rg rfl ?_
        simp only [a4p, b1U hG, E3, seval]
        refine Safe.cd rfl ?_
        simp only [E3, seval]
        refine Safe.rg rfl ?_
        simp only [a7e, E3, seval]
        first | refine (a2b 0 (by decide) (by decide)).acall ?_ | refine (a2b 0 (by decide) (by decide)).dcall ?_
        try simp only [E3, seval]
        refine (b6d (canZ 0) ((a0k (k := 1) (by decide)).mono (by decide))).acall ?_
        rw [a0s]
        simp only [a1n, a0v, a0E, a0F, a3m, a0G, a0w, E3, seval]
        refine Safe.rg rfl ?_
        simp only [a2p, htw, E3, seval]
        refine Safe.keep [0, 1, 6, 7, 8, 9, 10] ?_
        simp only [E3, seval]
        have hfin := ih (t + 1, π, S1) ⟨htc, by rw [hj]; exact hL⟩ (by show c - (t + 1) < c - t; omega)
        simp only [hcs, hcsl, hdv] at hfin
        exact hfin
  · have htc' : t = c := by omega
    subst htc'
    refine Safe.rg rfl ?_
    simp only [a4r, Int.lt_irrefl, E3, seval]
    refine Safe.cd rfl ?_
    simp only [E3, seval]
    have hnb2 : frz (lid G 2) ⟨1, (gproc n B t).cs.map intV⟩ (.mu β 0 n none) = .mu β 0 n none := b1c (.mu _ _ _ _ (by show β ≠ _; unfold lid; omega))
    refine Safe.freezeM 2 (hHr hL) (by rw [a7C]; exact Nat.le_refl _) rfl (a1T 1 intV _ a8T) ?_
    refine Safe.keep [0, 6, 7, 8, 9] ?_
    simp only [hnb2, a8U, List.length_map, a0C, d9h, E3, seval]
    have hcl : frz (lid G 2) ⟨1, (gproc n B t).cs.map intV⟩ (.mu (lid G 2) 0 (gproc n B t).cs.length none) = hsV (gproc n B t).cs := a7F (H := G) 2 1 intV _ none
    refine Safe.rg rfl ?_
    simp only [a3s, a1n, a0v, a0E, a0F, e5r hG hrn, hcl, a0G, a3m, E3, seval]
    refine Safe.rt rfl ?_
    simp only [a1n, a0v, a0E, a0F, a0G, a3m, E3, seval]
    refine ⟨_, _, rfl, by rw [a7C, a7C], hHr hL, .tup _ ?_, π, S1, hL, rfl, rfl⟩
    intro a ha
    simp only [List.mem_cons, List.not_mem_nil, or_false] at ha
    rcases ha with rfl | rfl | rfl
    · exact .mu _ _ _ _ (by show β < _; rw [a7C]; omega)
    · exact (e1B _).ref
    · exact (a4M _).ref
end
end Go.Abs
set_option linter.unusedVariables false
set_option linter.unusedSimpArgs false
namespace Go.Abs
section
variable {G L : Heap} {id w : Nat} {X : List AV}
theorem lst (h : G[id]? = some (some ⟨w, X⟩)) {j : Nat} (hj : j < X.length) {v : AV} (hf : v.fit = true) (hn : v.cells.length = w) (env : Env) : a2r w (.loc id j 0) v env (hap G L) = some (.top, env, hap (G.set id (some ⟨w, X.set j v⟩)) L) := by
  have hid := a0m h
  have hr : hrow (hap G L) id = some ⟨w, X⟩ := by rw [a6m _ _ _ hid]; simp [hrow, h]
  simp only [a2r, hr, Option.bind_some]
  rw [if_pos ⟨hj, hf, hn, by omega⟩, a2Z, b7o _ _ _ _ hid]
theorem lcpy (h : G[id]? = some (some ⟨w, X⟩)) {len : Nat} (hlen : X.length = len) {oc : Option Nat} {y : AV} {ys : List AV} (hy : a0V (hap G L) w false y = some ys) (hyl : ys.length = len) (env : Env) :
    cpyV w (.mu id 0 len oc) y env (hap G L) = some (.int .i64 len, env, hap (G.set id (some ⟨w, ys⟩)) L) := by
  have hid := a0m h
  have hr : hrow (hap G L) id = some ⟨w, X⟩ := by rw [a6m _ _ _ hid]; simp [hrow, h]
  simp only [cpyV, hy, hr, Option.bind_some]
  rw [if_pos ⟨trivial, by omega⟩, b7o _ _ _ _ hid]
  simp [hyl, hlen]
  rw [List.take_of_length_le (by omega), List.drop_eq_nil_of_le (by omega), List.append_nil]
end
/-- The copy as it grows. -/
def b3E (β n i w c : Nat) (oc : Option Nat) (S : Nat → Nat → AV) : Heap := some ⟨1, fr n fun a => if a < i then .mu (β + 1 + a) 0 c oc else .nil⟩ :: (List.range i).map fun j => some ⟨w, fr c (S j)⟩
theorem d7H (β n i w c : Nat) (oc : Option Nat) (S : Nat → Nat → AV) : (b3E β n i w c oc S).length = i + 1 := by simp [b3E]
theorem d5X (β n w c : Nat) (oc : Option Nat) (S : Nat → Nat → AV) : b3E β n n w c oc S = a1i β n w c oc S := by
  unfold b3E a1i orow
  rw [a5a fun a ha => by rw [if_pos ha]]
theorem d5W (H : Heap) {n i : Nat} (w c : Nat) (oc : Option Nat) (S : Nat → Nat → AV) :
    hap ((hap H (b3E (lid H 0) n i w c oc S)).set (lid H 0) (some ⟨1, (fr n fun a => if a < i then .mu (lid H 0 + 1 + a) 0 c oc else .nil).set i (.mu (lid H 0 + 1 + i) 0 c oc)⟩)) [some ⟨w, fr c (S i)⟩] = hap H (b3E (lid H 0) n (i + 1) w c oc S) := by
  have e2 : (fr n fun a => if a < i then AV.mu (lid H 0 + 1 + a) 0 c oc else .nil).set i (.mu (lid H 0 + 1 + i) 0 c oc) = fr n fun a => if a < i + 1 then .mu (lid H 0 + 1 + a) 0 c oc else .nil := by
    rw [d8r]
    refine a5a fun a _ => ?_
    by_cases h : a = i
    · subst h; rw [if_pos rfl, if_pos (by omega)]
    · rw [if_neg h]
      by_cases h2 : a < i
      · rw [if_pos h2, if_pos (by omega)]
      · rw [if_neg h2, if_neg (by omega)]
  rw [e2]
  simp only [hap, lid, Nat.add_zero]
  rw [List.set_append_right _ _ (Nat.le_refl _), Nat.sub_self]
  simp only [b3E, List.set_cons_zero, List.append_assoc, List.cons_append]
  congr 2
  rw [List.range_succ, List.map_append]; rfl
def zav (b : List (List ZI)) (j k : Nat) : AV := ((mg b j).getD k ⟨false, []⟩).av
theorem e1R (b : List (List ZI)) {i c : Nat} (hi : i < b.length) (hc : b[i].length = c) : b[i].map ZI.av = fr c (zav b i) := by
  apply List.ext_getElem?
  intro k
  simp only [fr, zav, a3H hi, List.getElem?_map]
  rcases Nat.lt_or_ge k c with h | h
  · rw [List.getElem?_range h, List.getElem?_eq_getElem (by omega)]
    simp only [Option.map_some, zav, a3H hi]
    simp [List.getD_eq_getElem?_getD, List.getElem?_eq_getElem (show k < b[i].length by omega)]
  · rw [List.getElem?_eq_none (by omega), List.getElem?_eq_none (by simp; omega)]; rfl
theorem d1r (b : List (List ZI)) {c : Nat} (hc : ∀ i, (h : i < b.length) → b[i].length = c) (hnb : b.length ≤ 2097152) (hcb : c ≤ 2097152) (H : Heap) :
    a0n Pr a9l [matV b] H fun r' H' => r' = .mu (lid H 0) 0 b.length (some b.length) ∧ H' = hap H (a1i (lid H 0) b.length 2 c (some c) (zav b)) := by
  refine a0n.introH c4P c4N (Nat.le_of_ble_eq_true rfl) fun hH => ?_
  refine Safe.rg rfl ?_
  simp only [b3a, E3, seval]
  refine Safe.rg rfl ?_
  simp only [b2Z, E3, seval]
  have hmk : ∀ env : Env, c4L 1 24 .nil (.int .i64 b.length) (.int .i64 b.length) env (hap H []) = some (.mu (lid H 0) 0 b.length (some b.length), env, hap H (b3E (lid H 0) b.length 0 2 c (some c) (zav b))) := by
    intro env
    simp only [c4L]
    rw [if_pos ⟨by decide, by omega, by omega, by omega, by omega⟩]
    simp only [Int.toNat_natCast, c3C, List.length_nil, c4x, List.nil_append]
    have : List.replicate b.length AV.nil = fr b.length fun a => if a < 0 then .mu (lid H 0 + 1 + a) 0 c (some c) else .nil := by
      apply List.ext_getElem?
      intro j
      simp only [fr, List.getElem?_map, List.getElem?_replicate]
      rcases Nat.lt_or_ge j b.length with h | h
      · rw [List.getElem?_range h]; simp [h]
      · rw [List.getElem?_eq_none (by simpa using h), if_neg (by omega)]; rfl
    rw [this]; rfl
  simp only [hmk, E3, seval]
  refine Safe.rg rfl ?_
  simp only [b2Y, E3, seval]
  refine Safe.lp rfl ?_
  refine Safe.keep [0, 3, 9, 10, 11] ?_
  try simp only [E3, seval]
  refine Safe.loopN (b.length) (fun i => [(0, matV b), (3, .mu (lid H 0) 0 b.length (some b.length)), (9, matV b), (10, .int .i64 b.length), (11, .int .i64 i)]) (fun i => hap H (b3E (lid H 0) b.length i 2 c (some c) (zav b))) rfl rfl (fun i hi ih => ?_) ?_
  · have hlt : ((i : Int) < (b.length : Int)) = True := eq_true (by omega)
    have hbc := hc i hi
    have hiw : IntKind.wrap .i64 ((i : Int) + 1) = ((i + 1 : Nat) : Int) := by rw [a0a] <;> omega
    refine Safe.inLoop ?_
    refine Safe.rg rfl ?_
    simp only [a6S, hlt, E3, seval]
    refine Safe.cd rfl ?_
    simp only [E3, seval]
    refine Safe.rg rfl ?_
    simp only [b2X, a2u _ b _ i hi, E3, seval]
    have hG0 : (hap H (b3E (lid H 0) b.length i 2 c (some c) (zav b)))[lid H 0]? = some (some ⟨1, fr b.length fun a => if a < i then .mu (lid H 0 + 1 + a) 0 c (some c) else .nil⟩) := by
      simp only [hap, lid]; rw [List.getElem?_append_right (by omega)]; simp [b3E, lid]
    have hGl : (hap H (b3E (lid H 0) b.length i 2 c (some c) (zav b))).length = lid H 0 + 1 + i := by simp [hap, lid, d7H]; omega
    have hsucc := d5W H (n := b.length) (i := i) 2 c (some c) (zav b)
    rw [← a2N (hap H (b3E (lid H 0) b.length i 2 c (some c) (zav b)))]
    generalize hap H (b3E (lid H 0) b.length i 2 c (some c) (zav b)) = G at *
    have hlG : lid G 0 = lid H 0 + 1 + i := hGl
    have hmk2 : ∀ env : Env, c4L 2 32 (.agg [.bool false, .nil]) (.int .i64 c) (.int .i64 c) env (hap G []) = some (.mu (lid G 0) 0 c (some c), env, hap G [some ⟨2, List.replicate c (.agg [.bool false, .nil])⟩]) := by
      intro env
      simp only [c4L]
      rw [if_pos ⟨by decide, by omega, by omega, by omega, by omega⟩]
      simp only [Int.toNat_natCast, c3C, List.length_nil, c4x, List.nil_append]
    have e1 : lid H 0 + 1 + i = lid G 0 := hlG.symm
    rw [e1] at hsucc
    have hXl : (fr b.length fun a => if a < i then AV.mu (lid H 0 + 1 + a) 0 c (some c) else .nil).length = b.length := c1c _ _
    generalize (fr b.length fun a => if a < i then AV.mu (lid H 0 + 1 + a) 0 c (some c) else .nil) = X at *
    refine Safe.rg rfl ?_
    simp only [b2W, hbc, hmk2, lidx hG0 rfl (some b.length) .i64 hi, E3, seval]
    rw [lst hG0 (by omega) rfl rfl]
    simp only [E3, seval]
    rw [← a2N (hap (G.set _ _) _)]
    have h2a : (hap (G.set (lid H 0) (some ⟨1, X.set i (.mu (lid G 0) 0 c (some c))⟩)) [some ⟨2, List.replicate c (.agg [.bool false, .nil])⟩])[lid H 0]? = some (some ⟨1, X.set i (.mu (lid G 0) 0 c (some c))⟩) := by
      simp only [hap]
      rw [List.getElem?_append_left (by rw [List.length_set]; omega), List.getElem?_set]
      simp; omega
    have h2b : (hap (G.set (lid H 0) (some ⟨1, X.set i (.mu (lid G 0) 0 c (some c))⟩)) [some ⟨2, List.replicate c (.agg [.bool false, .nil])⟩])[lid G 0]? = some (some ⟨2, List.replicate c (.agg [.bool false, .nil])⟩) := by
      simp only [hap, lid, Nat.add_zero]
      rw [List.getElem?_append_right (by simp)]; simp
    have h2c : (hap (G.set (lid H 0) (some ⟨1, X.set i (.mu (lid G 0) 0 c (some c))⟩)) [some ⟨2, List.replicate c (.agg [.bool false, .nil])⟩]).set (lid G 0) (some ⟨2, b[i].map ZI.av⟩) = hap H (b3E (lid H 0) b.length (i + 1) 2 c (some c) (zav b)) := by
      rw [← hsucc, e1R b hi hbc]
      simp only [hap, lid, Nat.add_zero]
      rw [List.set_append_right _ _ (by simp)]
      simp
    generalize hap (G.set (lid H 0) (some ⟨1, X.set i (.mu (lid G 0) 0 c (some c))⟩)) [some ⟨2, List.replicate c (.agg [.bool false, .nil])⟩] = G2 at *
    have hxi : (X.set i (AV.mu (lid G 0) 0 c (some c))).getD i .top = .mu (lid G 0) 0 c (some c) := by
      simp [List.getD_eq_getElem?_getD, hXl, hi]
    refine Safe.rg rfl ?_
    simp only [b2V, lidx h2a rfl (some b.length) .i64 hi, lat h2a (show i < (X.set i (AV.mu (lid G 0) 0 c (some c))).length by rw [List.length_set]; omega), hxi, E3, seval]
    rw [lcpy h2b (by simp) (show a0V (hap G2 []) 2 false (vecV b[i]) = some (b[i].map ZI.av) by simp [a0V, vecV]) (by simpa using hbc), h2c, a2N]
    simp only [E3, seval]
    refine Safe.rg rfl ?_
    simp only [b2U, hiw, E3, seval]
    refine Safe.keep [0, 3, 9, 10, 11] ?_
    simp only [E3, seval]
    exact ih
  · refine Safe.inLoop ?_
    refine Safe.rg rfl ?_
    simp only [a6S, Int.lt_irrefl, E3, seval]
    refine Safe.cd rfl ?_
    simp only [E3, seval]
    refine Safe.rg rfl ?_
    simp only [b2T, E3, seval]
    refine Safe.rt rfl ?_
    simp only [E3, seval]
    rw [d5X]
end Go.Abs
set_option linter.unusedVariables false
set_option linter.unusedSimpArgs false
namespace Go.Abs
/-- A matrix's logical entries: whole numbers. -/
structure Lz (n c K : Nat) (π : Nat → Nat) (S : Nat → Nat → AV) (f : Nat → Nat → Int) : Prop where
  lt : ∀ a, a < n → π a < n
  inj : ∀ a b, a < n → b < n → π a = π b → a = b
  at_ : ∀ a b, a < n → b < c → ∃ x : ZI, S (π a) b = x.av ∧ x.z = f a b ∧ Zok K x
  cl : ∀ a b, Cl (S a b)
theorem Lz.swap {n c K : Nat} {π : Nat → Nat} {S : Nat → Nat → AV} {f : Nat → Nat → Int} (h : Lz n c K π S f) {p r : Nat} (hp : p < n) (hr : r < n) : Lz n c K (swp π p r) S fun a b => if a = p then f r b else if a = r then f p b else f a b := by
  have h0 : Lk n c π S fun a b => S (π a) b := ⟨h.lt, h.inj, fun _ _ _ _ => rfl, h.cl⟩
  have hs := Lk.swap (f := fun x : AV => x) h0 hp hr
  refine ⟨hs.lt, hs.inj, fun a b ha hb => ?_, h.cl⟩
  unfold swp
  split
  · exact h.at_ r b hr hb
  · split
    · exact h.at_ p b hp hb
    · exact h.at_ a b ha hb
/-- Row j from a place on told anew. -/
def a7W (S : Nat → Nat → AV) (j : Nat) (f : Nat → AV) (t : Nat) : Nat → Nat → AV := fun a b => if a = j ∧ t ≤ b then f b else S a b
theorem c6R {S : Nat → Nat → AV} {j : Nat} {f : Nat → AV} {t b : Nat} (h : b < t) : a7W S j f t j b = S j b := by simp [a7W]; omega
theorem c6Q {S : Nat → Nat → AV} {j a : Nat} {f : Nat → AV} {t b : Nat} (h : a ≠ j) : a7W S j f t a b = S a b := by simp [a7W, h]
theorem d4X (S : Nat → Nat → AV) (j : Nat) (f : Nat → AV) (t : Nat) : upd2 (a7W S j f (t + 1)) j t (f t) = a7W S j f t := by
  funext a b
  unfold upd2 a7W
  by_cases h1 : a = j
  · subst h1
    by_cases h2 : b = t
    · subst h2; simp
    · by_cases h3 : t + 1 ≤ b
      · rw [if_pos rfl, if_neg h2, if_pos ⟨rfl, h3⟩, if_pos ⟨rfl, by omega⟩]
      · rw [if_pos rfl, if_neg h2, if_neg (by omega), if_neg (by omega)]
  · rw [if_neg h1, if_neg (by omega), if_neg (by omega)]
theorem d3F {S : Nat → Nat → AV} {j : Nat} {f : Nat → AV} {t : Nat} (hS : ∀ a b, Cl (S a b)) (hf : ∀ b, Cl (f b)) : ∀ a b, Cl (a7W S j f t a b) := by
  intro a b; unfold a7W; split
  · exact hf b
  · exact hS a b
theorem a8B {q : Rat} {z : Int} (h : q = z) : q.num = z ∧ (q.num : Rat) = q := by subst h; exact ⟨rfl, rfl⟩
section
variable {n c e K : Nat} (b : List (List ZI)) (B : Nat → Nat → Rat)
/-- The last head as a whole number. -/
def b1T (n : Nat) (B : Nat → Nat → Rat) (t : Nat) : Int := (gproc n B t).last.num
def ZgI (n : Nat) (B : Nat → Nat → Rat) (t a k : Nat) : Int := (Zg (gproc n B t) a k).num
section
variable (hB : Bd e B) (hn : n ≤ 64)
include hB hn
theorem c8c (t : Nat) : (b1T n B t : Rat) = (gproc n B t).last ∧ (b1T n B t).natAbs ≤ LB ^ KB e := by
  obtain ⟨z, hz, hz1⟩ := b2K hB t (.inl hn)
  obtain ⟨h1, h2⟩ := a8B hz
  exact ⟨h2, by unfold b1T; rw [h1]; exact hz1⟩
theorem e1O (t : Nat) {a : Nat} (k : Nat) (ha : a < n) : (ZgI n B t a k : Rat) = Zg (gproc n B t) a k ∧ (ZgI n B t a k).natAbs ≤ LB ^ KB e := by
  obtain ⟨z, hz, hz1⟩ := e1l hB hn t k ha
  obtain ⟨h1, h2⟩ := a8B hz
  exact ⟨h2, by unfold ZgI; rw [h1]; exact hz1⟩
omit hB hn in
theorem b1O (t : Nat) {a : Nat} (k : Nat) {z : Int} (h : (z : Rat) = Zg (gproc n B t) a k) : z = ZgI n B t a k := by
  unfold ZgI; rw [← h]; rfl
end
def bScp : ACode := .seq (.region a5G false) (.seq (.region a5F false) (.seq (.region a5E false) (.seq (.label 0) (.seq (.seq (.region a5D false) (.block 0 (.loop a5H))) (.seq (.region a2H true) (.ret))))))
theorem d0X {H X : Heap} (hH : a0L H) (hX : ∀ b, some b ∈ X → ∀ a ∈ b.flat, Cl a) : a0L (hap H X) := by
  intro id b hb a ha
  have hlen : (hap H X).length = H.length + X.length := by simp [hap]
  simp only [hap] at hb
  rcases Nat.lt_or_ge id H.length with h1 | h1
  · rw [List.getElem?_append_left h1] at hb
    exact (hH id b hb a ha).mono fun i hi => by have : i < H.length := hi; show i < _; omega
  · rw [List.getElem?_append_right h1] at hb
    exact (hX b (List.mem_of_getElem? hb) a ha).ref
/-- What bareiss hands out. -/
def d4z (H : Heap) (n c e : Nat) (B : Nat → Nat → Rat) (r' : AV) (H' : Heap) : Prop := ∃ β π S L lx, Lz n c (KB e + 1) π S (ZgI n B c) ∧ H.length ≤ β ∧ β + n < (hap H L).length ∧ H' = hM (hap H L) β n 2 c (some c) π S ∧ a0L H' ∧
      ZI.z lx = b1T n B c ∧ Zok (KB e + 1) lx ∧ r' = .tup [.mu β 0 n (some n), hsV (gproc n B c).cs, lx.av, .bool (gproc n B c).odd]
theorem c8H (hb : ∀ i, (h : i < b.length) → b[i].length = c) (hBb : ∀ a k, B a k = (zg (mg b a) k : Int)) (hm : Mok e b) (hB : Bd e B) (hn : b.length = n) (hn64 : n ≤ 64) (hc : c ≤ 2097152) (hK : KB e + 1 < 1099511627776) (H : Heap) :
    a0n Pr a3Z [matV b, .int .i64 c] H (d4z H n c e B) := by
  refine a0n.introH c4e c4b (Nat.le_of_ble_eq_true rfl) fun hH => ?_
  have hBi : ∀ i k, ∃ z : Int, B i k = z := fun i k => by obtain ⟨z, h, _⟩ := hB i k; exact ⟨z, h⟩
  refine Safe.rg rfl ?_
  simp only [b1k, E3, seval]
  refine Safe.rg rfl ?_
  simp only [a5G, E3, seval]
  refine (d1r b hb (by omega) hc (hap H [some ⟨2, [.agg [.bool false, .nil]]⟩])).mono ?_
  rintro r' H' ⟨rfl, rfl⟩
  simp only [E3, seval]
  have e0 : lid (hap H [some ⟨2, [.agg [.bool false, .nil]]⟩]) 0 = lid H 1 := by simp [hap, lid]
  rw [e0, a6n, hn]
  have hX : ∀ x, some x ∈ [some (Blk.mk 2 [.agg [.bool false, .nil]])] → ∀ a ∈ x.flat, Cl a := RC.zero RC.nil
  have hS0 : ∀ j k, Cl (zav b j k) := fun _ _ => ZI.cl _
  have hGr : a0L (hap H ([some ⟨2, [.agg [.bool false, .nil]]⟩] ++ a1i (lid H 1) n 2 c (some c) (zav b))) := b1G hH hX fun j k _ _ => hS0 j k
  have hGm : hM (hap H ([some ⟨2, [.agg [.bool false, .nil]]⟩] ++ a1i (lid H 1) n 2 c (some c) (zav b))) (lid H 1) n 2 c (some c) (fun i => i) (zav b) = hap H ([some ⟨2, [.agg [.bool false, .nil]]⟩] ++ a1i (lid H 1) n 2 c (some c) (zav b)) := d3f H [some ⟨2, [.agg [.bool false, .nil]]⟩] n 2 c (some c) (zav b)
  have hG : lid H 1 + n < (hap H ([some ⟨2, [.agg [.bool false, .nil]]⟩] ++ a1i (lid H 1) n 2 c (some c) (zav b))).length := c1z H [some ⟨2, [.agg [.bool false, .nil]]⟩] n 2 c (some c) (zav b)
  have hbox : (hap H ([some ⟨2, [.agg [.bool false, .nil]]⟩] ++ a1i (lid H 1) n 2 c (some c) (zav b)))[lid H 0]? = some (some ⟨2, [.agg [.bool false, .nil]]⟩) := by
    simp only [hap, lid, Nat.add_zero]
    rw [List.getElem?_append_right (Nat.le_refl _)]; simp
  have hGH : ∃ L0, hap H ([some ⟨2, [.agg [.bool false, .nil]]⟩] ++ a1i (lid H 1) n 2 c (some c) (zav b)) = hap H L0 := ⟨_, rfl⟩
  rw [← hGm] at hGr
  rw [← hGm, ← a2N (hM _ _ _ _ _ _ _ _)]
  clear hGm
  generalize hap H ([some ⟨2, [.agg [.bool false, .nil]]⟩] ++ a1i (lid H 1) n 2 c (some c) (zav b)) = G at *
  have hb01 : lid H 0 < lid H 1 := by simp [lid]
  have hb0 : H.length ≤ lid H 1 := a1k H 1
  have hb00 : H.length ≤ lid H 0 := a1k H 0
  have hbl : lid H 0 = H.length := by simp [lid]
  generalize lid H 1 = β at *
  generalize lid H 0 = b0 at *
  have hHn : H.length ≤ G.length := by omega
  refine Safe.rg rfl ?_
  simp only [a5F, E3, seval]
  refine Safe.nilrow 9 1 (by decide) (by simp only [E3, seval]) ?_
  refine Safe.rg rfl ?_
  simp only [a5E, a1n, a0v, a0E, a0F, E3, seval]
  first | refine (d3B 1 (by decide) (by decide)).acall ?_ | refine (d3B 1 (by decide) (by decide)).dcall ?_
  try simp only [E3, seval]
  simp only [a1n, a0v, a0E, a0F, E3, seval]
  refine Safe.rg rfl ?_
  simp only [a5D, a1n, a0v, a0E, a0F, E3, seval]
  refine Safe.lp rfl ?_
  refine Safe.keep [6, 8, 9, 10, 11, 21, 22] ?_
  simp only [a1n, a0v, a0E, a0F, E3, seval]
  have hlast0 : b1T n B 0 = 1 := by unfold b1T; rfl
  refine Safe.loopW (α := Nat × (Nat → Nat) × (Nat → Nat → AV) × ZI) (fun s => c - s.1)
    (fun s => [(6, .loc b0 0 0), (8, .mu β 0 n (some n)), (9, .mu (lid G 0) 0 (gproc n B s.1).cs.length none), (10, .loc (lid G 1) 0 0), (11, .bool (gproc n B s.1).odd), (21, .int .i64 c), (22, .int .i64 s.1)])
    (fun s => hap (hM G β n 2 c (some c) s.2.1 s.2.2.1) [some ⟨1, (gproc n B s.1).cs.map intV⟩, some ⟨2, [s.2.2.2.av]⟩])
    (fun s => s.1 ≤ c ∧ Lz n c (KB e + 1) s.2.1 s.2.2.1 (ZgI n B s.1) ∧ s.2.2.2.z = b1T n B s.1 ∧ Zok (KB e + 1) s.2.2.2) (0, fun i => i, zav b, canZ 1) rfl rfl
    ⟨Nat.zero_le _, ⟨fun a h => h, fun _ _ _ _ h => h, fun a k ha hk => ?_, hS0⟩, by rw [hlast0]; exact a0s 1, a0k (e1z _)⟩ ?_
  · refine ⟨(mg b a).getD k ⟨false, []⟩, rfl, ?_, ?_⟩
    · refine b1O B 0 k (a := a) ?_
      show ((zg (mg b a) k : Int) : Rat) = Zg (gproc n B 0) a k
      rw [d9g k (Nat.zero_le _)]
      show ((zg (mg b a) k : Int) : Rat) = a4Z B [] * a2z B [] a k
      rw [d7X, d1d, hBb]; grind
    · have hr := hm.row a
      have hl : (mg b a).length = c := by rw [a3H (by omega)]; exact hb a (by omega)
      rw [List.getD_eq_getElem?_getD, List.getElem?_eq_getElem (by omega)]
      exact (hr.get (by omega)).mono (by unfold KB; omega)
  rintro ⟨t, π, S1, lx⟩ ⟨ht, hL, hlz, hlk⟩ ih
  simp only at ht hL hlz hlk ih ⊢
  have hok := a6o (n := n) hBi t
  have hrn := hok.len
  have hHr : ∀ {K : Nat} {π' : Nat → Nat} {S' : Nat → Nat → AV} {F : Nat → Nat → Int}, Lz n c K π' S' F → a0L (hM G β n 2 c (some c) π' S') := fun h => c3M hG hGr h.lt fun a b _ _ => h.cl a b
  have htlt : t < 9223372036854775807 := by omega
  have htw : IntKind.wrap .i64 ((t : Int) + 1) = ((t + 1 : Nat) : Int) := by rw [a0a] <;> omega
  refine Safe.inLoop ?_
  by_cases htc : t < c
  · have hlt : ((t : Int) < (c : Int)) = True := eq_true (by omega)
    refine Safe.rg rfl ?_
    simp only [a5C, hlt, E3, seval]
    refine Safe.cd rfl ?_
    simp only [E3, seval]
    refine Safe.rg rfl ?_
    simp only [b1j, E3, seval]
    refine Safe.rg rfl ?_
    simp only [b1i, a1n, a0v, a0E, a0F, E3, seval]
    refine Safe.rg rfl ?_
    simp only [b1h, E3, seval]
    have entry : ∀ q, q < n → ∃ x : ZI, S1 (π q) t = x.av ∧ x.z = ZgI n B t q t ∧ Zok (KB e + 1) x := fun q hq => hL.at_ q t hq htc
    have hzg : ∀ q k, (gproc n B t).cs.length ≤ q → q < n → (ZgI n B t q k : Rat) = (gproc n B t).last * (gproc n B t).g q k := fun q k h1 h2 => by
      rw [(e1O B hB hn64 t k h2).1, d9g k h1]
    have hlne : (gproc n B t).last ≠ 0 := b6H hok.piv
    have hz0 : ∀ q, (gproc n B t).cs.length ≤ q → q < n → (ZgI n B t q t = 0 ↔ (gproc n B t).g q t = 0) := fun q h1 h2 => by
      have h := hzg q t h1 h2
      constructor
      · intro h0; rw [h0] at h
        have : (gproc n B t).last * (gproc n B t).g q t = 0 := by rw [← h]; rfl
        rcases Rat.mul_eq_zero.1 this with h | h
        · exact absurd h hlne
        · exact h
      · intro h0; rw [h0, Rat.mul_zero] at h
        exact Rat.intCast_inj.1 (by rw [h]; rfl)
    rcases a1l (fun p => (gproc n B t).g p t) (gproc n B t).cs.length n with ⟨p, hf, h1, h2, h3, h4⟩ | ⟨hf, h4⟩
    · have hcs : (gproc n B (t + 1)).cs = (gproc n B t).cs ++ [t] := by
        show (b0h n (gproc n B t) t).cs = _
        rw [a0U hf]
      have hodd : (gproc n B (t + 1)).odd = if p = (gproc n B t).cs.length then (gproc n B t).odd else !(gproc n B t).odd := by
        show (b0h n (gproc n B t) t).odd = _
        rw [a0U hf]
      have hr : (gproc n B t).cs.length < n := by omega
      obtain ⟨hlq, hlb⟩ := c8c B hB hn64 t
      obtain ⟨hlq1, hlb1⟩ := c8c B hB hn64 (t + 1)
      have hls := d7W hf h1 hok
      have hgz := d1e (n := n) hBi t
      have hgz1 := d1e (n := n) hBi (t + 1)
      have hZab : ∀ a k, a < (gproc n B t).cs.length → ZgI n B (t + 1) a k = ZgI n B t a k := fun a k ha => by unfold ZgI; rw [e1m hf h1 k ha]
      have hZhd : ∀ k, ZgI n B (t + 1) (gproc n B t).cs.length k = ZgI n B t p k := fun k => by
        refine (b1O B (t + 1) k ?_).symm
        rw [hzg p k h1 h2, e3K hf h1 k]
      have hZpt : (ZgI n B t p t : Rat) = (gproc n B t).last * (gproc n B t).g p t := hzg p t h1 h2
      have hlast1 : ZgI n B t p t = b1T n B (t + 1) := Rat.intCast_inj.1 (by rw [hZpt, hlq1, hls])
      have hl0 : b1T n B t ≠ 0 := fun h => hlne (by rw [← hlq, h]; rfl)
      -- the new rows below
      have hrows : ∀ i k, (gproc n B t).cs.length < i → i < n → ZgI n B t p t * ZgI n B t (if i = p then (gproc n B t).cs.length else i) k - ZgI n B t (if i = p then (gproc n B t).cs.length else i) t * ZgI n B t p k = b1T n B t * ZgI n B (t + 1) i k := by
        intro i k hi hin
        have hσ1 : (gproc n B t).cs.length ≤ (if i = p then (gproc n B t).cs.length else i) := by split <;> omega
        have hσ2 : (if i = p then (gproc n B t).cs.length else i) < n := by split <;> omega
        obtain ⟨z, hz1, hz2⟩ := c8G hok (p := p) (c := t) (i := i) (k := k) h1 h3 hi hlq (hzg p t h1 h2) (hzg _ k hσ1 hσ2) (hzg _ t hσ1 hσ2) (hzg p k h1 h2)
        have : z = ZgI n B (t + 1) i k := by
          refine b1O B (t + 1) k ?_
          rw [hz2, d4E hf k hi, hls]
          have e : gproc n B (t + 1) = _ := a0U hf
          rw [e]; rfl
        rw [← this]; exact hz1
      have hzero : ∀ i k, (gproc n B t).cs.length < i → i < n → k < t → ZgI n B t (if i = p then (gproc n B t).cs.length else i) k = ZgI n B (t + 1) i k := by
        intro i k hi hin hk
        have hσ1 : (gproc n B t).cs.length ≤ (if i = p then (gproc n B t).cs.length else i) := by split <;> omega
        have hσ2 : (if i = p then (gproc n B t).cs.length else i) < n := by split <;> omega
        refine b1O B (t + 1) k ?_
        rw [hzg _ k hσ1 hσ2, hgz _ k hσ1 hσ2 hk, d4E hf k hi, hgz1 i k (by rw [hcs, a1I]; omega) hin (by omega)]
        grind
      have hZb : ∀ a k, a < n → (ZgI n B (t + 1) a k).natAbs < LB ^ (KB e + 1) := fun a k ha => by
        have h1 := (e1O B hB hn64 (t + 1) k ha).2
        have : LB ^ KB e < LB ^ (KB e + 1) := Nat.pow_lt_pow_right (by decide) (by omega)
        omega
      clear hlq hlq1 hls hgz hgz1 hzg
      generalize hcsl : (gproc n B t).cs.length = r at *
      let f0 : Nat → Nat → Int := fun a k => if a = p then ZgI n B t r k else if a = r then ZgI n B t p k else ZgI n B t a k
      have hf0r : ∀ k, f0 r k = ZgI n B t p k := fun k => by
        show (if r = p then ZgI n B t r k else if r = r then ZgI n B t p k else ZgI n B t r k) = _
        split
        · rename_i h; rw [h]
        · rw [if_pos rfl]
      have hf0i : ∀ i k, r < i → f0 i k = ZgI n B t (if i = p then r else i) k := fun i k hi => by
        show (if i = p then ZgI n B t r k else if i = r then ZgI n B t p k else ZgI n B t i k) = _
        split
        · rfl
        · rw [if_neg (by omega)]
      have hf0a : ∀ a k, a < r → f0 a k = ZgI n B t a k := fun a k ha => by
        show (if a = p then ZgI n B t r k else if a = r then ZgI n B t p k else ZgI n B t a k) = _
        rw [if_neg (by omega), if_neg (by omega)]
      have main : ∀ π', Lz n c (KB e + 1) π' S1 f0 → Safe ⟨Pr, fun _ _ => false, a3Z, 147, [.tmp 4, .tmp 5, .cell 6 (some 2), .tmp 7], H.length⟩
          [.code (((ACode.region a4E false).seq (.block 4 (.loop b1l))).seq ((ACode.region a4B false).seq (.region a4A false))),
            .inBlock 1, .code (.region a2I false), .inLoop a5H, .inBlock 0, .code ((ACode.region a2H true).seq .ret), .inScope bScp]
          [(6, .loc b0 0 0), (8, .mu β 0 n (some n)), (9, .mu (lid G 0) 0 r none), (10, .loc (lid G 1) 0 0), (11, .bool (gproc n B (t + 1)).odd), (12, .int .i64 t), (13, .int .i64 r), (21, .int .i64 c), (22, .int .i64 t)]
          (hap (hM G β n 2 c (some c) π' S1) [some ⟨1, (gproc n B t).cs.map intV⟩, some ⟨2, [lx.av]⟩]) (d4z H n c e B) := by
        intro π' hL'
        have hpr := hL'.lt r hr
        have hrw2 : IntKind.wrap .i64 ((r : Int) + 1) = ((r + 1 : Nat) : Int) := by rw [a0a] <;> omega
        refine Safe.rg rfl ?_
        simp only [a4E, hrw2, E3, seval]
        refine Safe.lp rfl ?_
        refine Safe.keep [6, 8, 9, 10, 11, 12, 13, 15, 21, 22] ?_
        try simp only [E3, seval]
        refine Safe.loopW (α := Nat × (Nat → Nat → AV)) (fun s => n - s.1)
          (fun s => [(6, .loc b0 0 0), (8, .mu β 0 n (some n)), (9, .mu (lid G 0) 0 r none), (10, .loc (lid G 1) 0 0), (11, .bool (gproc n B (t + 1)).odd), (12, .int .i64 t), (13, .int .i64 r), (15, .int .i64 s.1), (21, .int .i64 c), (22, .int .i64 t)])
          (fun s => hap (hM G β n 2 c (some c) π' s.2) [some ⟨1, (gproc n B t).cs.map intV⟩, some ⟨2, [lx.av]⟩])
          (fun s => r < s.1 ∧ s.1 ≤ n ∧ Lz n c (KB e + 1) π' s.2 (fun a k => if r < a ∧ a < s.1 then ZgI n B (t + 1) a k else f0 a k)) (r + 1, S1) rfl rfl
          ⟨Nat.lt_succ_self r, hr, hL'.lt, hL'.inj, fun a k ha hk => ?_, hL'.cl⟩ ?_
        · have := hL'.at_ a k ha hk
          show ∃ x : ZI, S1 (π' a) k = x.av ∧ x.z = (if r < a ∧ a < r + 1 then ZgI n B (t + 1) a k else f0 a k) ∧ Zok (KB e + 1) x
          rw [if_neg (by omega)]; exact this
        rintro ⟨i, S2⟩ ⟨hri, hin, hL2⟩ ih2
        simp only at hri hin hL2 ih2 ⊢
        refine Safe.inLoop ?_
        by_cases hi : i < n
        · have hlt2 : ((i : Int) < (n : Int)) = True := eq_true (by omega)
          have hiw : IntKind.wrap .i64 ((i : Int) + 1) = ((i + 1 : Nat) : Int) := by rw [a0a] <;> omega
          have hcw : IntKind.wrap .i64 ((c : Int) - 1) = (c : Int) - 1 := a0a (by omega) (by omega)
          have hpi := hL2.lt i hi
          have hne : π' r ≠ π' i := fun h => by have := hL2.inj _ _ hr hi h; omega
          refine Safe.rg rfl ?_
          simp only [a4D, b1U hG, hlt2, E3, seval]
          refine Safe.cd rfl ?_
          simp only [E3, seval]
          refine Safe.rg rfl ?_
          simp only [a9P, a3K hG hi, M_at hG hi, d9j hG hpi, hcw, E3, seval]
          refine Safe.lp rfl ?_
          refine Safe.keep [6, 8, 9, 10, 11, 12, 13, 15, 16, 21, 22] ?_
          try simp only [E3, seval]
          refine Safe.loopD (c - t) (fun m => [(6, .loc b0 0 0), (8, .mu β 0 n (some n)), (9, .mu (lid G 0) 0 r none), (10, .loc (lid G 1) 0 0), (11, .bool (gproc n B (t + 1)).odd), (12, .int .i64 t), (13, .int .i64 r), (15, .int .i64 i), (16, .int .i64 (((t + m : Nat) : Int) - 1)), (21, .int .i64 c), (22, .int .i64 t)])
            (fun m => hap (hM G β n 2 c (some c) π' (a7W S2 (π' i) (fun k => Z (ZgI n B (t + 1) i k)) (t + m))) [some ⟨1, (gproc n B t).cs.map intV⟩, some ⟨2, [lx.av]⟩]) ?_ ?_ (fun m hm ihm => ?_) ?_
          · rw [show t + (c - t) = c by omega]
          · rw [show t + (c - t) = c by omega]
            refine congrArg (fun x => hap x _) (e0v fun j k hj hk => ?_)
            unfold a7W; rw [if_neg (by omega)]
          · have hkc : t + m < c := by omega
            have e1 : (((t + (m + 1) : Nat) : Int) - 1) = ((t + m : Nat) : Int) := by omega
            rw [e1]
            have hge : (((t + m : Nat) : Int) ≥ (t : Int)) = True := eq_true (by omega)
            have hkw : IntKind.wrap .i64 (((t + m : Nat) : Int) - 1) = ((t + m : Nat) : Int) - 1 := a0a (by omega) (by omega)
            obtain ⟨x1, hx1, hz1, hk1⟩ := hL2.at_ r t hr htc
            obtain ⟨x2, hx2, hz2, hk2⟩ := hL2.at_ i (t + m) hi hkc
            obtain ⟨x3, hx3, hz3, hk3⟩ := hL2.at_ i t hi htc
            obtain ⟨x4, hx4, hz4, hk4⟩ := hL2.at_ r (t + m) hr hkc
            rw [if_neg (by omega), hf0r] at hz1 hz4
            rw [if_neg (by omega), hf0i i _ hri] at hz2 hz3
            have hex := hrows i (t + m) hri hi
            rw [← hz1, ← hz2, ← hz3, ← hz4, ← hlz] at hex
            have v1 : a7W S2 (π' i) (fun k => Z (ZgI n B (t + 1) i k)) (t + (m + 1)) (π' r) t = x1.av := by rw [c6Q hne]; exact hx1
            have v2 : a7W S2 (π' i) (fun k => Z (ZgI n B (t + 1) i k)) (t + (m + 1)) (π' i) (t + m) = x2.av := by rw [c6R (by omega)]; exact hx2
            have v3 : a7W S2 (π' i) (fun k => Z (ZgI n B (t + 1) i k)) (t + (m + 1)) (π' i) t = x3.av := by rw [c6R (by omega)]; exact hx3
            have v4 : a7W S2 (π' i) (fun k => Z (ZgI n B (t + 1) i k)) (t + (m + 1)) (π' r) (t + m) = x4.av := by rw [c6Q hne]; exact hx4
            have hstep := d4X S2 (π' i) (fun k => Z (ZgI n B (t + 1) i k)) (t + m)
            have hclS : ∀ a b, Cl (a7W S2 (π' i) (fun k => Z (ZgI n B (t + 1) i k)) (t + m) a b) := d3F hL2.cl fun _ => Z_cl _
            have hm1 := a5v hk1.abs hk2.abs
            have hm2 := a5v hk3.abs hk4.abs
            have hs1 := e1W hm1 hm2
            rw [show t + (m + 1) = t + m + 1 by omega] at v1 v2 v3 v4 ⊢
            generalize a7W S2 (π' i) (fun k => Z (ZgI n B (t + 1) i k)) (t + m + 1) = St at *
            refine Safe.inLoop ?_
            refine Safe.rg rfl ?_
            simp only [a4C, hge, E3, seval]
            refine Safe.cd rfl ?_
            simp only [E3, seval]
            refine Safe.rg rfl ?_
            simp only [a9O, a1n, a0v, a0E, a0F, a3K hG hr, M_at hG hr, a3K hG hi, M_at hG hi, a5Q hG hpr htc, E_at hG hpr htc, a5Q hG hpi hkc, E_at hG hpi hkc, a5Q hG hpi htc, E_at hG hpi htc, a5Q hG hpr hkc, E_at hG hpr hkc, v1, v2, v3, v4, E3, seval]
            refine (c8K x1 x2 _ _ hk1 hk2 (by omega)).dcall ?_
            simp only [a1n, a0v, a0E, a0F, a3K hG hr, M_at hG hr, a3K hG hi, M_at hG hi, a5Q hG hpi htc, E_at hG hpi htc, a5Q hG hpr hkc, E_at hG hpr hkc, v3, v4, E3, seval]
            refine (c8K x3 x4 _ _ hk3 hk4 (by omega)).dcall ?_
            simp only [E3, seval]
            refine (d9m hm1 hm2 (by omega)).dcall ?_
            simp only [a1n, a0v, a0E, a0F, E3, seval]
            have hfl := b0k (canZ (x1.z * x2.z - x3.z * x4.z)) lx (KB e + 1 + (KB e + 1) + 1) (a0k hs1) (hlk.mono (by omega)) (by omega) (ZgI n B (t + 1) i (t + m)) (by rw [hlz]; exact hl0) (by rw [a0s]; exact hex)
            rw [a2O] at hfl
            refine Safe.rg rfl ?_
            simp only [a9N, a1n, a0v, a0E, a0F, a3K hG hi, M_at hG hi, a5Q hG hpi hkc, E3, seval]
            refine hfl.dcall ?_
            simp only [a1n, a0v, a0E, a0F, a5Q hG hpi hkc, E3, seval]
            simp only [E_st hG hpi hkc (e4Z _) (show (Z _).cells.length = 2 from rfl), hstep, E3, seval]
            refine Safe.rg rfl ?_
            simp only [a9M, hkw, E3, seval]
            refine Safe.keep [6, 8, 9, 10, 11, 12, 13, 15, 16, 21, 22] ?_
            simp only [E3, seval]
            have hnb2 : nref (lid G 2) (.mu β 0 n (some n)) = true := b3n (by unfold lid; omega)
            have hnb3 : nref (lid G 2) (.loc b0 0 0) = true := a0y.2 (.loc _ _ _ (by show b0 ≠ _; unfold lid; omega))
            refine Safe.dropM [some ⟨1, (gproc n B t).cs.map intV⟩, some ⟨2, [lx.av]⟩] (c3M hG hGr hL'.lt fun a b _ _ => hclS a b) (by show H.length ≤ _; exact hHn) (by simp only [List.all_cons, List.all_nil, hnb2, hnb3, E3, seval]) (RC.row a8T (RC.one (ZI.cl _) RC.nil)) ?_
            exact ihm
          · have hge : ((t : Int) - 1 ≥ (t : Int)) = False := eq_false (by omega)
            refine Safe.inLoop ?_
            refine Safe.rg rfl ?_
            simp only [a4C, hge, E3, seval]
            refine Safe.cd rfl ?_
            simp only [E3, seval]
            refine Safe.rg rfl ?_
            simp only [a9L, hiw, E3, seval]
            refine Safe.keep [6, 8, 9, 10, 11, 12, 13, 15, 21, 22] ?_
            simp only [E3, seval]
            refine ih2 (i + 1, _) ⟨Nat.lt_succ_of_lt hri, hi, hL2.lt, hL2.inj, fun a k ha hk => ?_, d3F hL2.cl fun _ => Z_cl _⟩ (by show n - (i + 1) < n - i; omega)
            show ∃ x : ZI, a7W S2 (π' i) (fun k => Z (ZgI n B (t + 1) i k)) t (π' a) k = x.av ∧ x.z = (if r < a ∧ a < i + 1 then ZgI n B (t + 1) a k else f0 a k) ∧ Zok (KB e + 1) x
            by_cases hai : a = i
            · subst hai
              rw [if_pos ⟨hri, Nat.lt_succ_self a⟩]
              by_cases hkt : t ≤ k
              · refine ⟨canZ (ZgI n B (t + 1) a k), ?_, a0s _, a0k (hZb a k ha)⟩
                unfold a7W; rw [if_pos ⟨rfl, hkt⟩, a2O]
              · obtain ⟨x, hx, hz, hk'⟩ := hL2.at_ a k ha hk
                rw [if_neg (by omega), hf0i a k hri, hzero a k hri ha (by omega)] at hz
                exact ⟨x, by rw [c6R (by omega)]; exact hx, hz, hk'⟩
            · obtain ⟨x, hx, hz, hk'⟩ := hL2.at_ a k ha hk
              refine ⟨x, by rw [c6Q (fun h => hai (hL2.inj _ _ ha hi h))]; exact hx, ?_, hk'⟩
              rw [hz]
              by_cases h5 : r < a ∧ a < i
              · rw [if_pos h5, if_pos ⟨h5.1, by omega⟩]
              · rw [if_neg h5, if_neg (by omega)]
        · have hin' : i = n := by omega
          subst hin'
          refine Safe.rg rfl ?_
          simp only [a4D, b1U hG, Int.lt_irrefl, E3, seval]
          refine Safe.cd rfl ?_
          simp only [E3, seval]
          have hL3 : Lz i c (KB e + 1) π' S2 (ZgI i B (t + 1)) := by
            refine ⟨hL2.lt, hL2.inj, fun a k ha hk => ?_, hL2.cl⟩
            obtain ⟨x, hx, hz, hk'⟩ := hL2.at_ a k ha hk
            refine ⟨x, hx, ?_, hk'⟩
            rw [hz]
            rcases Nat.lt_trichotomy a r with h | h | h
            · rw [if_neg (by omega), hf0a a k h, hZab a k h]
            · subst h; rw [if_neg (by omega), hf0r, hZhd]
            · rw [if_pos ⟨h, ha⟩]
          obtain ⟨x1, hx1, hz1, hk1⟩ := hL3.at_ r t hr htc
          rw [hZhd, hlast1] at hz1
          have hnb2 : nref (lid G 0) (.mu β 0 i (some i)) = true := b3n (by unfold lid; omega)
          have hnb3 : nref (lid G 0) (.loc b0 0 0) = true := a0y.2 (.loc _ _ _ (by show b0 ≠ _; unfold lid; omega))
          refine Safe.rg rfl ?_
          simp only [a4B, a1n, a0v, a0E, a0F, a3K hG hr, M_at hG hr, a5Q hG hpr htc, E_at hG hpr htc, hx1, E3, seval]
          have hRC : RC [some ⟨1, (gproc i B t).cs.map intV⟩, some ⟨2, [x1.av]⟩] := RC.row a8T (RC.one (ZI.cl _) RC.nil)
          refine Safe.rg rfl ?_
          simp only [a4A, E3, seval]
          have happ := fun env : Env => d4B (hHr hL3) (L := [some ⟨1, (gproc i B t).cs.map intV⟩, some ⟨2, [x1.av]⟩]) 0 (n0 := H.length) (Nat.le_trans hHn (a1k G 0)) (env := env) (wd := 1) (bytes := 8) (f := intV) (y := .int .i64 (t : Int)) a8T (gproc i B t).cs t hcsl.symm rfl hRC rfl (by omega) (by omega)
          simp only [ZI.av] at happ
          rw [happ]
          simp only [hnb2, hnb3, List.set_cons_succ, List.set_cons_zero, E3, seval]
          refine Safe.rg rfl ?_
          simp only [a2I, htw, E3, seval]
          refine Safe.keep [6, 8, 9, 10, 11, 21, 22] ?_
          simp only [E3, seval]
          have hfin := ih (t + 1, π', S2, x1) ⟨htc, hL3, hz1, hk1⟩ (by show c - (t + 1) < c - t; omega)
          simp only [hcs, a1I, hcsl] at hfin
          exact hfin
      -- the head's row
      refine Safe.lp rfl ?_
      refine Safe.keep [6, 8, 9, 10, 11, 12, 13, 14, 21, 22] ?_
      try simp only [E3, seval]
      refine Safe.loopN (p - r) (fun j => [(6, .loc b0 0 0), (8, .mu β 0 n (some n)), (9, .mu (lid G 0) 0 r none), (10, .loc (lid G 1) 0 0), (11, .bool (gproc n B t).odd), (12, .int .i64 t), (13, .int .i64 r), (14, .int .i64 ((r + j : Nat) : Int)), (21, .int .i64 c), (22, .int .i64 t)])
        (fun _ => hap (hM G β n 2 c (some c) π S1) [some ⟨1, (gproc n B t).cs.map intV⟩, some ⟨2, [lx.av]⟩]) rfl rfl (fun j hj2 ihj => ?_) ?_
      · have hq : r + j < n := by omega
        have hlt2 : (((r + j : Nat) : Int) < (n : Int)) = True := eq_true (by omega)
        have hpq := hL.lt (r + j) hq
        have hqw : IntKind.wrap .i64 (((r + j : Nat) : Int) + 1) = ((r + (j + 1) : Nat) : Int) := by rw [a0a] <;> omega
        obtain ⟨x, v4, hxz, hxk⟩ := entry (r + j) hq
        have hz : ZgI n B t (r + j) t = 0 := (hz0 _ (by omega) hq).2 (h4 _ (by omega) (by omega))
        rw [hz] at hxz
        refine Safe.inLoop ?_
        refine Safe.rg rfl ?_
        simp only [a2f, b1U hG, hlt2, a3K hG hq, M_at hG hq, a5Q hG hpq htc, E_at hG hpq htc, v4, E3, seval]
        refine (a3o x (hxk.mono (by omega))).acall ?_
        simp only [hxz, Int.sign_zero, E3, seval]
        refine Safe.cd rfl ?_
        simp only [E3, seval]
        refine Safe.rg rfl ?_
        simp only [a4H, hqw, E3, seval]
        refine Safe.keep [6, 8, 9, 10, 11, 12, 13, 14, 21, 22] ?_
        simp only [E3, seval]
        refine Safe.inBlock ?_
        exact ihj
      · have hrp : r + (p - r) = p := by omega
        rw [hrp]
        have hlt2 : ((p : Int) < (n : Int)) = True := eq_true (by omega)
        have hpq := hL.lt p h2
        obtain ⟨x, v4, hxz, hxk⟩ := entry p h2
        have hz : (x.z.sign = 0) = False := eq_false (by rw [hxz, Int.sign_eq_zero_iff_zero, hz0 p h1 h2]; exact h3)
        have hpn : ((p : Int) = (n : Int)) = False := eq_false (by omega)
        refine Safe.inLoop ?_
        refine Safe.rg rfl ?_
        simp only [a2f, b1U hG, hlt2, a3K hG h2, M_at hG h2, a5Q hG hpq htc, E_at hG hpq htc, v4, E3, seval]
        refine (a3o x (hxk.mono (by omega))).acall ?_
        simp only [hz, E3, seval]
        refine Safe.cd rfl ?_
        simp only [E3, seval]
        refine Safe.rg rfl ?_
        simp only [a4G, b1U hG, hpn, E3, seval]
        refine Safe.cd rfl ?_
        simp only [E3, seval]
        by_cases hpr : p = r
        · have hpr1 : ((p : Int) = (r : Int)) = True := eq_true (by omega)
          refine Safe.rg rfl ?_
          simp only [a4F, hpr1, E3, seval]
          refine Safe.cd rfl ?_
          simp only [E3, seval]
          refine Safe.keep [6, 8, 9, 10, 11, 12, 13, 21, 22] ?_
          simp only [E3, seval]
          have hm := main π (by
            refine ⟨hL.lt, hL.inj, fun a k ha hk => ?_, hL.cl⟩
            obtain ⟨x, hx, hz, hk'⟩ := hL.at_ a k ha hk
            refine ⟨x, hx, ?_, hk'⟩
            rw [hz]
            show _ = if a = p then ZgI n B t r k else if a = r then ZgI n B t p k else ZgI n B t a k
            split
            · rename_i h; rw [h, hpr]
            · split
              · rename_i h; omega
              · rfl)
          rw [hodd, if_pos hpr] at hm
          refine Safe.skip ?_
          exact hm
        · have hpr1 : ((p : Int) = (r : Int)) = False := eq_false (by omega)
          refine Safe.rg rfl ?_
          simp only [a4F, hpr1, E3, seval]
          refine Safe.cd rfl ?_
          simp only [E3, seval]
          refine Safe.rg rfl ?_
          simp only [a9R, a3K hG h2, M_at hG h2, a3K hG hr, M_at hG hr, E3, seval]
          simp only [M_st hG h2, a3K hG hr, M_st hG hr, e1s, E3, seval]
          refine Safe.rg rfl ?_
          simp only [a9Q, E3, seval]
          refine Safe.keep [6, 8, 9, 10, 11, 12, 13, 21, 22] ?_
          simp only [E3, seval]
          have hm := main (swp π p r) (Lz.swap hL h2 hr)
          rw [hodd, if_neg hpr] at hm
          exact hm
    · -- no head in this column
      have hcs : gproc n B (t + 1) = gproc n B t := a1Q hf
      generalize hcsl : (gproc n B t).cs.length = r at *
      refine Safe.lp rfl ?_
      refine Safe.keep [6, 8, 9, 10, 11, 12, 13, 14, 21, 22] ?_
      try simp only [E3, seval]
      refine Safe.loopN (n - r) (fun j => [(6, .loc b0 0 0), (8, .mu β 0 n (some n)), (9, .mu (lid G 0) 0 r none), (10, .loc (lid G 1) 0 0), (11, .bool (gproc n B t).odd), (12, .int .i64 t), (13, .int .i64 r), (14, .int .i64 ((r + j : Nat) : Int)), (21, .int .i64 c), (22, .int .i64 t)])
        (fun _ => hap (hM G β n 2 c (some c) π S1) [some ⟨1, (gproc n B t).cs.map intV⟩, some ⟨2, [lx.av]⟩]) rfl rfl (fun j hj2 ihj => ?_) ?_
      · have hq : r + j < n := by omega
        have hlt2 : (((r + j : Nat) : Int) < (n : Int)) = True := eq_true (by omega)
        have hpq := hL.lt (r + j) hq
        have hqw : IntKind.wrap .i64 (((r + j : Nat) : Int) + 1) = ((r + (j + 1) : Nat) : Int) := by rw [a0a] <;> omega
        obtain ⟨x, v4, hxz, hxk⟩ := entry (r + j) hq
        have hz : ZgI n B t (r + j) t = 0 := (hz0 _ (by omega) hq).2 (h4 _ (by omega) (by omega))
        rw [hz] at hxz
        refine Safe.inLoop ?_
        refine Safe.rg rfl ?_
        simp only [a2f, b1U hG, hlt2, a3K hG hq, M_at hG hq, a5Q hG hpq htc, E_at hG hpq htc, v4, E3, seval]
        refine (a3o x (hxk.mono (by omega))).acall ?_
        simp only [hxz, Int.sign_zero, E3, seval]
        refine Safe.cd rfl ?_
        simp only [E3, seval]
        refine Safe.rg rfl ?_
        simp only [a4H, hqw, E3, seval]
        refine Safe.keep [6, 8, 9, 10, 11, 12, 13, 14, 21, 22] ?_
        simp only [E3, seval]
        refine Safe.inBlock ?_
        exact ihj
      · have hrp : r + (n - r) = n := by omega
        rw [hrp]
        refine Safe.inLoop ?_
        refine Safe.rg rfl ?_
        simp only [a2f, b1U hG, Int.lt_irrefl, E3, seval]
        refine Safe.cd rfl ?_
        simp only [E3, seval]
        refine Safe.rg rfl ?_
        simp only [a4G, b1U hG, E3, seval]
        refine Safe.cd rfl ?_
        simp only [E3, seval]
        refine Safe.rg rfl ?_
        simp only [a2I, htw, E3, seval]
        refine Safe.keep [6, 8, 9, 10, 11, 21, 22] ?_
        simp only [E3, seval]
        have hz1 : ZgI n B (t + 1) = ZgI n B t := by funext a k; unfold ZgI; rw [hcs]
        have hl1 : b1T n B (t + 1) = b1T n B t := by unfold b1T; rw [hcs]
        have hfin := ih (t + 1, π, S1, lx) ⟨htc, by rw [hz1]; exact hL, by rw [hl1]; exact hlz, hlk⟩ (by show c - (t + 1) < c - t; omega)
        simp only [hcs, hcsl] at hfin
        exact hfin
  · have htc' : t = c := by omega
    subst htc'
    refine Safe.rg rfl ?_
    simp only [a5C, Int.lt_irrefl, E3, seval]
    refine Safe.cd rfl ?_
    simp only [E3, seval]
    have hnb2 : frz (lid G 0) ⟨1, (gproc n B t).cs.map intV⟩ (.mu β 0 n (some n)) = .mu β 0 n (some n) := b1c (.mu _ _ _ _ (by show β ≠ _; unfold lid; omega))
    have hnb3 : frz (lid G 0) ⟨1, (gproc n B t).cs.map intV⟩ (.loc b0 0 0) = .loc b0 0 0 := b1c (.loc _ _ _ (by show b0 ≠ _; unfold lid; omega))
    have hcl : frz (lid G 0) ⟨1, (gproc n B t).cs.map intV⟩ (.mu (lid G 0) 0 (gproc n B t).cs.length none) = hsV (gproc n B t).cs := a7F (H := G) 0 1 intV _ none
    refine Safe.freezeM 0 (hHr hL) (by show H.length ≤ _; exact hHn) rfl (a1T 1 intV _ a8T) ?_
    refine Safe.keep [6, 8, 9, 10, 11] ?_
    simp only [hnb2, hnb3, hcl, a0C, ZI.av_frz, E3, seval]
    refine Safe.rg rfl ?_
    simp only [a2H, a1n, a0v, a0E, a0F, E3, seval]
    have hbox' : (G.set b0 (some ⟨2, [.agg [.bool lx.neg, natV lx.mag]]⟩))[b0]? = some (some ⟨2, [.agg [.bool lx.neg, natV lx.mag]]⟩) := by
      rw [List.getElem?_set]; simp; omega
    have hG' : β + n < (G.set b0 (some ⟨2, [.agg [.bool lx.neg, natV lx.mag]]⟩)).length := by rw [List.length_set]; exact hG
    simp only [e4a hG hb01 hbox (show (AV.agg [.bool lx.neg, natV lx.mag]).fit = true from rfl) (show (AV.agg [.bool lx.neg, natV lx.mag]).cells.length = 2 from rfl), E3, seval]
    refine Safe.rt rfl ?_
    simp only [e4T hG' hb01 hbox', E3, seval]
    obtain ⟨L0, hL0⟩ := hGH
    have hH1 : a0L (hM (G.set b0 (some ⟨2, [.agg [.bool lx.neg, natV lx.mag]]⟩)) β n 2 t (some t) π S1) := by
      have e := d7a (L := []) (O := orow β n t (some t) π) (R := fun j => some ⟨2, fr t (S1 j)⟩) hG hb01 (some ⟨2, [.agg [.bool lx.neg, natV lx.mag]]⟩)
      rw [a2N, a2N] at e
      unfold hM
      rw [← e]
      refine a0L.set (hHr hL) b0 fun a ha => ?_
      have := RC.one (wd := 2) (ZI.cl lx) RC.nil ⟨2, [lx.av]⟩ (by simp) a ha
      exact this.ref
    have hGs : G.set b0 (some ⟨2, [.agg [.bool lx.neg, natV lx.mag]]⟩) = hap H (L0.set 0 (some ⟨2, [.agg [.bool lx.neg, natV lx.mag]]⟩)) := by
      rw [hL0, hbl]
      simp only [hap]
      rw [List.set_append_right _ _ (Nat.le_refl _), Nat.sub_self]
    refine ⟨β, π, S1, L0.set 0 (some ⟨2, [.agg [.bool lx.neg, natV lx.mag]]⟩) ++ [none, some ⟨2, [lx.av]⟩], lx, hL, hb0, ?_, ?_, ?_, hlz, hlk, rfl⟩
    · have : G.length = H.length + L0.length := by rw [hL0]; simp [hap]
      simp [hap]; omega
    · rw [d8i _ _ _ _ _ _ _ _ _ hG', hGs, a6n]
    · exact d0X hH1 (RC.none (RC.one (ZI.cl _) RC.nil))
end
end Go.Abs
set_option linter.unusedVariables false
set_option linter.unusedSimpArgs false
namespace Go.Abs
/-- A matrix's entries as fractions. -/
def Bm (b : List (List ZI)) : Nat → Nat → Rat := fun a k => (zg (mg b a) k : Int)
theorem d9k {b : List (List ZI)} {e : Nat} (h : Mok e b) : Bd e (Bm b) := fun a k => ⟨zg (mg b a) k, rfl, Nat.le_of_lt ((h.row a).abs k)⟩
/-- The determinant. -/
def detI (n : Nat) (B : Nat → Nat → Rat) : Int := (dv n B n).num
def c1l (n c : Nat) (B : Nat → Nat → Rat) : Nat := (gproc n B c).cs.length
theorem e1A (H : Heap) (cs : List Nat) : lenV H (hsV cs) = some (.int .i64 cs.length) := d3I H 1 intV cs
theorem d9G (n c : Nat) (B : Nat → Nat → Rat) : c1l n c B ≤ c := a7D n B c
section
variable (b : List (List ZI)) {e n c : Nat} (hm : Mok e b) (hn : b.length = n) (hn64 : n ≤ 64) (hK : KB e + 1 < 1099511627776)
include hm hn hn64 hK
theorem c8v (hb : ∀ i, (h : i < b.length) → b[i].length = n) : a0d Pr b1R [matV b] (Z (detI n (Bm b))) := by
  have hB := d9k hm
  obtain ⟨hlq, hlb⟩ := c8c (Bm b) hB hn64 n
  have hrl := d9G n n (Bm b)
  unfold c1l at hrl
  refine a0d.introL d3p d3o (Nat.le_of_ble_eq_true rfl) (Z_cl _) fun H hH => ?_
  refine Safe.rg rfl ?_
  simp only [c3Z, E3, seval]
  refine Safe.rg rfl ?_
  simp only [c3Y, hn, E3, seval]
  refine Safe.rg rfl ?_
  simp only [c3X, E3, seval]
  refine (c8H b (Bm b) hb (fun _ _ => rfl) hm hB hn hn64 (by omega) hK (hap H [some ⟨2, [.agg [.bool false, .nil]]⟩])).mono ?_
  rintro r' H' ⟨β, π, S, L, lx, hLz, hβ, hβn, rfl, hHr, hlz, hlk, rfl⟩
  obtain ⟨L', hL'⟩ := e1D (w := 2) (c := n) (oc := some n) (π := π) (S := S) hβ hβn
  rw [hL']
  have hA0 : (hap (hap H [some ⟨2, [.agg [.bool false, .nil]]⟩]) L')[lid H 0]? = some (some ⟨2, [.agg [.bool false, .nil]]⟩) := by
    simp [hap, lid]
  have hAH : ∃ L, hap (hap H [some ⟨2, [.agg [.bool false, .nil]]⟩]) L' = hap H L := ⟨_, a6n _ _ _⟩
  clear hL' hHr hβn hβ
  rw [← a2N (hap (hap H _) L')]
  generalize hap (hap H [some ⟨2, [.agg [.bool false, .nil]]⟩]) L' = A at *
  simp only [E3, seval]
  refine Safe.rg rfl ?_
  simp only [c3W, e1A, E3, seval]
  have hfinal : ∀ v : AV, v.fit = true → v.cells.length = 2 → ∀ L : Heap, ∃ L2, hap (A.set (lid H 0) (some ⟨2, [v]⟩)) L = hap H L2 := by
    intro v _ _ L
    obtain ⟨L0, hL0⟩ := hAH
    rw [hL0, a5n]; exact ⟨_, a6n _ _ _⟩
  have hld : ∀ v : AV, ∀ L : Heap, atV (hap (A.set (lid H 0) (some ⟨2, [v]⟩)) L) (.loc (lid H 0) 0 0) = some v.cells := by
    intro v L
    have hlt := a0m hA0
    exact lat (b := ⟨2, [v]⟩) (by rw [List.getElem?_set]; simp [hlt]) (by simp)
  by_cases hlt : (gproc n (Bm b) n).cs.length < n
  · have hc : (((gproc n (Bm b) n).cs.length : Int) < (n : Int)) = True := eq_true (by omega)
    simp only [hc, E3, seval]
    refine Safe.cd rfl ?_
    simp only [E3, seval]
    refine Safe.rg rfl ?_
    simp only [c3V, E3, seval]
    rw [lst hA0 (by simp) rfl rfl]
    simp only [E3, seval]
    refine Safe.rt rfl ?_
    simp only [hld, E3, seval]
    refine ⟨?_, hfinal (.agg [.bool false, .nil]) rfl rfl _⟩
    have : detI n (Bm b) = 0 := by unfold detI dv; rw [if_neg (by omega)]; rfl
    rw [this]; exact le_zero
  · have hc : (((gproc n (Bm b) n).cs.length : Int) < (n : Int)) = False := eq_false (by omega)
    simp only [hc, E3, seval]
    refine Safe.cd rfl ?_
    simp only [E3, seval]
    refine Safe.rg rfl ?_
    simp only [c3U, E3, seval]
    have hdet : detI n (Bm b) = if (gproc n (Bm b) n).odd then -b1T n (Bm b) n else b1T n (Bm b) n := by
      unfold detI dv b1T
      rw [if_pos (by omega)]
      split
      · exact Rat.neg_num _
      · rfl
    cases ho : (gproc n (Bm b) n).odd
    · rw [ho] at hdet
      refine Safe.cd rfl ?_
      simp only [E3, seval]
      refine Safe.rg rfl ?_
      simp only [c3S, E3, seval]
      refine (d4P lx (hlk.mono (by omega))).acall ?_
      simp only [Z, E3, seval]
      rw [lst hA0 (by simp) rfl rfl]
      simp only [E3, seval]
      refine Safe.rt rfl ?_
      simp only [hld, E3, seval]
      refine ⟨?_, hfinal (Z lx.z) rfl rfl _⟩
      rw [hdet, hlz]
      exact Le.refl _
    · rw [ho] at hdet
      refine Safe.cd rfl ?_
      simp only [E3, seval]
      refine Safe.rg rfl ?_
      simp only [c3T, E3, seval]
      refine (b3Y lx (hlk.mono (by omega))).acall ?_
      simp only [Z, E3, seval]
      rw [lst hA0 (by simp) rfl rfl]
      simp only [E3, seval]
      refine Safe.rt rfl ?_
      simp only [hld, E3, seval]
      refine ⟨?_, hfinal (Z (-lx.z)) rfl rfl _⟩
      rw [hdet, hlz]
      exact Le.refl _
end
/-- The error of a matrix. -/
noncomputable def elE (b : List (List ZI)) : Int := @ite _ (Rect b) (Classical.propDecidable _) (if b.length > 64 ∨ wid b > 64 then 60 else 0) 8
theorem b6Y (b : List (List ZI)) : (¬ Rect b ∧ elE b = 8) ∨ (Rect b ∧ (b.length > 64 ∨ wid b > 64) ∧ elE b = 60) ∨ (Rect b ∧ b.length ≤ 64 ∧ wid b ≤ 64 ∧ elE b = 0) := by
  unfold elE
  by_cases h : Rect b
  · by_cases h2 : b.length > 64 ∨ wid b > 64
    · exact .inr (.inl ⟨h, h2, by rw [if_pos h, if_pos h2]⟩)
    · exact .inr (.inr ⟨h, by omega, by omega, by rw [if_pos h, if_neg h2]⟩)
  · exact .inl ⟨h, by rw [if_neg h]⟩
noncomputable def askT (b : List (List ZI)) : AV := if elE b = 0 then .tup [.int .i64 b.length, .int .i64 (wid b), .int .i64 0] else .tup [.int .i64 0, .int .i64 0, .int .i64 (elE b)]
section
variable (b : List (List ZI)) {e : Nat} (hm : Mok e b)
include hm
theorem d6z : a0d Pr b1B [matV b] (askT b) := by
  have hw : wid b ≤ 2097152 := (hm.row 0).len
  rcases b6Y b with ⟨hr, he⟩ | ⟨hr, h2, he⟩ | ⟨hr, h2, h3, he⟩
  · unfold askT
    rw [he, if_neg (by decide)]
    refine a0d.intro a8Z a8Y (Nat.le_of_ble_eq_true rfl) (cl3i _ _ _) fun H hH => ?_
    refine Safe.rg rfl ?_
    simp only [a5e, E3, seval]
    refine Safe.rg rfl ?_
    simp only [a5d, E3, seval]
    first | refine (c6x b e hm hr).acall ?_ | refine (c6x b e hm hr).dcall ?_
    try simp only [E3, seval]
    refine Safe.rg rfl ?_
    simp only [a5c, E3, seval]
    refine Safe.cd rfl ?_
    simp only [E3, seval]
    refine Safe.rg rfl ?_
    simp only [b6X, E3, seval]
    refine Safe.rt rfl ?_
    simp only [one3, E3, seval]
    first | exact ⟨rfl, _, rfl⟩ | exact ⟨_, rfl⟩ | exact ⟨trivial, _, rfl⟩
  · unfold askT
    rw [he, if_neg (by decide)]
    refine a0d.intro a8Z a8Y (Nat.le_of_ble_eq_true rfl) (cl3i _ _ _) fun H hH => ?_
    refine Safe.rg rfl ?_
    simp only [a5e, E3, seval]
    refine Safe.rg rfl ?_
    simp only [a5d, E3, seval]
    first | refine (b6p b e hm hr).acall ?_ | refine (b6p b e hm hr).dcall ?_
    try simp only [E3, seval]
    refine Safe.rg rfl ?_
    simp only [a5c, E3, seval]
    refine Safe.cd rfl ?_
    simp only [E3, seval]
    by_cases h : b.length > 64
    · have hc : ((b.length : Int) > 64) = True := eq_true (by omega)
      refine Safe.rg rfl ?_
      simp only [a5b, hc, E3, seval]
      refine Safe.cd rfl ?_
      simp only [E3, seval]
      refine Safe.rg rfl ?_
      simp only [a8X, E3, seval]
      refine Safe.rt rfl ?_
      simp only [one3, E3, seval]
      first | exact ⟨rfl, _, rfl⟩ | exact ⟨_, rfl⟩ | exact ⟨trivial, _, rfl⟩
    · have hc : ((b.length : Int) > 64) = False := eq_false (by omega)
      have hc2 : ((wid b : Int) > 64) = True := eq_true (by omega)
      refine Safe.rg rfl ?_
      simp only [a5b, hc, hc2, E3, seval]
      refine Safe.cd rfl ?_
      simp only [E3, seval]
      refine Safe.rg rfl ?_
      simp only [a8X, E3, seval]
      refine Safe.rt rfl ?_
      simp only [one3, E3, seval]
      first | exact ⟨rfl, _, rfl⟩ | exact ⟨_, rfl⟩ | exact ⟨trivial, _, rfl⟩
  · unfold askT
    rw [he, if_pos rfl]
    have hc : ((b.length : Int) > 64) = False := eq_false (by omega)
    have hc2 : ((wid b : Int) > 64) = False := eq_false (by omega)
    refine a0d.intro a8Z a8Y (Nat.le_of_ble_eq_true rfl) (cl3i _ _ _) fun H hH => ?_
    refine Safe.rg rfl ?_
    simp only [a5e, E3, seval]
    refine Safe.rg rfl ?_
    simp only [a5d, E3, seval]
    first | refine (b6p b e hm hr).acall ?_ | refine (b6p b e hm hr).dcall ?_
    try simp only [E3, seval]
    refine Safe.rg rfl ?_
    simp only [a5c, E3, seval]
    refine Safe.cd rfl ?_
    simp only [E3, seval]
    refine Safe.rg rfl ?_
    simp only [a5b, hc, hc2, E3, seval]
    refine Safe.cd rfl ?_
    simp only [E3, seval]
    refine Safe.rg rfl ?_
    simp only [b6W, E3, seval]
    refine Safe.rt rfl ?_
    simp only [one3, E3, seval]
    first | exact ⟨rfl, _, rfl⟩ | exact ⟨_, rfl⟩ | exact ⟨trivial, _, rfl⟩
theorem a1R : a0d Pr a5h [matV b] (.int .i64 (elE b)) := by
  rcases b6Y b with ⟨hr, he⟩ | ⟨hr, h2, he⟩ | ⟨hr, h2, h3, he⟩
  · rw [he]
    refine a0d.intro a6C a6B (Nat.le_of_ble_eq_true rfl) (.int _ _) fun H hH => ?_
    refine Safe.rg rfl ?_
    simp only [a3Q, E3, seval]
    refine Safe.rg rfl ?_
    simp only [a3P, E3, seval]
    first | refine (c5g b e hm hr).acall ?_ | refine (c5g b e hm hr).dcall ?_
    try simp only [E3, seval]
    refine Safe.rg rfl ?_
    simp only [a3O, E3, seval]
    refine Safe.cd rfl ?_
    simp only [E3, seval]
    refine Safe.rg rfl ?_
    simp only [b2d, E3, seval]
    refine Safe.rt rfl ?_
    simp only [E3, seval]
    first | exact ⟨rfl, _, rfl⟩ | exact ⟨_, rfl⟩ | exact ⟨trivial, _, rfl⟩
  · rw [he]
    refine a0d.intro a6C a6B (Nat.le_of_ble_eq_true rfl) (.int _ _) fun H hH => ?_
    refine Safe.rg rfl ?_
    simp only [a3Q, E3, seval]
    refine Safe.rg rfl ?_
    simp only [a3P, E3, seval]
    first | refine (a6X b e hm hr).acall ?_ | refine (a6X b e hm hr).dcall ?_
    try simp only [E3, seval]
    refine Safe.rg rfl ?_
    simp only [a3O, E3, seval]
    refine Safe.cd rfl ?_
    simp only [E3, seval]
    by_cases h : b.length > 64
    · have hc : ((b.length : Int) > 64) = True := eq_true (by omega)
      refine Safe.rg rfl ?_
      simp only [a3N, hc, E3, seval]
      refine Safe.cd rfl ?_
      simp only [E3, seval]
      refine Safe.rg rfl ?_
      simp only [a6A, E3, seval]
      refine Safe.rt rfl ?_
      simp only [E3, seval]
      first | exact ⟨rfl, _, rfl⟩ | exact ⟨_, rfl⟩ | exact ⟨trivial, _, rfl⟩
    · have hc : ((b.length : Int) > 64) = False := eq_false (by omega)
      have hc2 : ((wid b : Int) > 64) = True := eq_true (by omega)
      refine Safe.rg rfl ?_
      simp only [a3N, hc, hc2, E3, seval]
      refine Safe.cd rfl ?_
      simp only [E3, seval]
      refine Safe.rg rfl ?_
      simp only [a6A, E3, seval]
      refine Safe.rt rfl ?_
      simp only [E3, seval]
      first | exact ⟨rfl, _, rfl⟩ | exact ⟨_, rfl⟩ | exact ⟨trivial, _, rfl⟩
  · rw [he]
    have hc : ((b.length : Int) > 64) = False := eq_false (by omega)
    have hc2 : ((wid b : Int) > 64) = False := eq_false (by omega)
    refine a0d.intro a6C a6B (Nat.le_of_ble_eq_true rfl) (.int _ _) fun H hH => ?_
    refine Safe.rg rfl ?_
    simp only [a3Q, E3, seval]
    refine Safe.rg rfl ?_
    simp only [a3P, E3, seval]
    first | refine (a6X b e hm hr).acall ?_ | refine (a6X b e hm hr).dcall ?_
    try simp only [E3, seval]
    refine Safe.rg rfl ?_
    simp only [a3O, E3, seval]
    refine Safe.cd rfl ?_
    simp only [E3, seval]
    refine Safe.rg rfl ?_
    simp only [a3N, hc, hc2, E3, seval]
    refine Safe.cd rfl ?_
    simp only [E3, seval]
    refine Safe.rg rfl ?_
    simp only [b2c, E3, seval]
    refine Safe.rt rfl ?_
    simp only [E3, seval]
    first | exact ⟨rfl, _, rfl⟩ | exact ⟨_, rfl⟩ | exact ⟨trivial, _, rfl⟩
theorem a4l (hr : Rect b) : a0d Pr a6v [matV b] (.int .i64 (wid b)) := by
  refine a0d.intro c7h c7g (Nat.le_of_ble_eq_true rfl) (.int _ _) fun H hH => ?_
  refine Safe.rg rfl ?_
  simp only [b4D, E3, seval]
  refine Safe.rg rfl ?_
  simp only [b4C, E3, seval]
  first | refine (a6X b e hm hr).acall ?_ | refine (a6X b e hm hr).dcall ?_
  try simp only [E3, seval]
  refine Safe.rg rfl ?_
  simp only [b4B, E3, seval]
  refine Safe.rt rfl ?_
  simp only [E3, seval]
  first | exact ⟨rfl, _, rfl⟩ | exact ⟨_, rfl⟩ | exact ⟨trivial, _, rfl⟩
end
/-- Square matrices only. -/
noncomputable def sqE (b : List (List ZI)) : Int := if elE b = 0 then (if b.length = wid b then 0 else 8) else elE b
noncomputable def sqT (b : List (List ZI)) : AV := .tup [.int .i64 (if elE b = 0 then (b.length : Int) else 0), .int .i64 (sqE b)]
theorem c1t {b : List (List ZI)} (h : sqE b = 0) : elE b = 0 ∧ b.length = wid b := by
  unfold sqE at h
  split at h
  · rename_i h0
    split at h
    · exact ⟨h0, by assumption⟩
    · exact absurd h (by decide)
  · exact absurd h (by assumption)
theorem e4b {b : List (List ZI)} (h : sqE b ≠ 0) (h0 : elE b = 0) : b.length ≠ wid b ∧ sqE b = 8 := by
  unfold sqE at h ⊢
  rw [if_pos h0] at h ⊢
  split at h
  · exact absurd rfl h
  · rename_i h1; exact ⟨h1, by rw [if_neg h1]⟩
theorem b3g {b : List (List ZI)} (h : sqE b = 0) : b.length ≤ 64 ∧ ∀ i, (h : i < b.length) → b[i].length = b.length := by
  obtain ⟨h0, hw⟩ := c1t h
  rcases b6Y b with ⟨_, h⟩ | ⟨_, _, h⟩ | ⟨hr, h2, h3, _⟩
  · omega
  · omega
  · refine ⟨h2, fun i hi => ?_⟩
    have := hr i hi
    rw [a3H hi] at this
    rw [this, hw]; rfl
theorem b6c {b : List (List ZI)} (h : elE b = 0) : b.length ≤ 64 ∧ wid b ≤ 64 ∧ Rect b ∧ ∀ i, (h : i < b.length) → b[i].length = wid b := by
  rcases b6Y b with ⟨_, h⟩ | ⟨_, _, h⟩ | ⟨hr, h2, h3, _⟩
  · omega
  · omega
  · refine ⟨h2, h3, hr, fun i hi => ?_⟩
    have := hr i hi
    rw [a3H hi] at this
    exact this
theorem cl2i (a b : Int) : Cl (.tup [.int .i64 a, .int .i64 b]) := b1s (.int _ _) (.int _ _)
section
variable (b : List (List ZI)) {e : Nat} (hm : Mok e b)
include hm
theorem b3h : a0d Pr a9k [matV b] (sqT b) := by
  have hask := d6z b hm
  unfold sqT askT at *
  by_cases h0 : elE b = 0
  · rw [if_pos h0] at hask ⊢
    by_cases hw : b.length = wid b
    · have hs : sqE b = 0 := by unfold sqE; rw [if_pos h0, if_pos hw]
      have hwi : (b.length : Int) = (wid b : Int) := by omega
      rw [hs]
      rw [← hwi] at hask
      refine a0d.intro a6R a6Q (Nat.le_of_ble_eq_true rfl) (cl2i _ _) fun H hH => ?_
      refine Safe.rg rfl ?_
      simp only [a3Y, E3, seval]
      refine Safe.rg rfl ?_
      simp only [a3X, E3, seval]
      first | refine (hask).acall ?_ | refine (hask).dcall ?_
      try simp only [E3, seval]
      refine Safe.rg rfl ?_
      simp only [a3W, E3, seval]
      refine Safe.cd rfl ?_
      simp only [E3, seval]
      refine Safe.rg rfl ?_
      simp only [a3V, E3, seval]
      refine Safe.rt rfl ?_
      simp only [E3, seval]
      first | exact ⟨rfl, _, rfl⟩ | exact ⟨_, rfl⟩ | exact ⟨trivial, _, rfl⟩
    · have hs : sqE b = 8 := by unfold sqE; rw [if_pos h0, if_neg hw]
      have hwi : ((b.length : Int) = (wid b : Int)) = False := eq_false (by omega)
      rw [hs]
      refine a0d.intro a6R a6Q (Nat.le_of_ble_eq_true rfl) (cl2i _ _) fun H hH => ?_
      refine Safe.rg rfl ?_
      simp only [a3Y, E3, seval]
      refine Safe.rg rfl ?_
      simp only [a3X, E3, seval]
      first | refine (hask).acall ?_ | refine (hask).dcall ?_
      try simp only [E3, seval]
      refine Safe.rg rfl ?_
      simp only [a3W, hwi, E3, seval]
      refine Safe.cd rfl ?_
      simp only [E3, seval]
      refine Safe.rg rfl ?_
      simp only [b2S, E3, seval]
      refine Safe.rg rfl ?_
      simp only [a3V, E3, seval]
      refine Safe.rt rfl ?_
      simp only [E3, seval]
      first | exact ⟨rfl, _, rfl⟩ | exact ⟨_, rfl⟩ | exact ⟨trivial, _, rfl⟩
  · rw [if_neg h0] at hask ⊢
    have hs : sqE b = elE b := by unfold sqE; rw [if_neg h0]
    have h0' : (elE b = 0) = False := eq_false h0
    rw [hs]
    refine a0d.intro a6R a6Q (Nat.le_of_ble_eq_true rfl) (cl2i _ _) fun H hH => ?_
    refine Safe.rg rfl ?_
    simp only [a3Y, E3, seval]
    refine Safe.rg rfl ?_
    simp only [a3X, E3, seval]
    first | refine (hask).acall ?_ | refine (hask).dcall ?_
    try simp only [E3, seval]
    refine Safe.rg rfl ?_
    simp only [a3W, h0', E3, seval]
    refine Safe.cd rfl ?_
    simp only [E3, seval]
    refine Safe.rg rfl ?_
    simp only [a3V, E3, seval]
    refine Safe.rt rfl ?_
    simp only [E3, seval]
    first | exact ⟨rfl, _, rfl⟩ | exact ⟨_, rfl⟩ | exact ⟨trivial, _, rfl⟩
end
end Go.Abs
set_option linter.unusedVariables false
set_option linter.unusedSimpArgs false
namespace Go.Abs
theorem c0l {B : Nat → Nat → Rat} {e n c : Nat} (hB : Bd e B) (hn : n ≤ 64 ∨ c ≤ 64) (hn2 : n ≤ 2097152) (hc : c ≤ 2097152) (hK : KB e + 1 < 1099511627776) (A : Heap) :
    a0n Pr a1d [.mu (lid A 0) 0 n none, .int .i64 c] (hap A (a1i (lid A 0) n 4 c none fun j k => Rv (B j k))) fun r' H' => ∃ π S', Lk n c π S' (fun a b => Rv ((a1t n B c).M a b)) ∧
      H' = hM (hap A (a1i (lid A 0) n 4 c none fun j k => Rv (B j k))) (lid A 0) n 4 c none π S' ∧ r' = .tup [.mu (lid A 0) 0 (gproc n B c).cs.length none, hsV (gproc n B c).cs, Rv (dv n B c)] := by
  have h := c7N (G := hap A ([] ++ a1i (lid A 0) n 4 c none fun j k => Rv (B j k))) (β := lid A 0) (c1z A [] n 4 c none _) B hB hn hn2 hc (by omega) (S := fun j k => Rv (B j k)) ⟨fun a h => h, fun _ _ _ _ h => h, fun a k _ _ => rfl, fun _ _ => a4M _⟩
  have e1 := d3f A [] n 4 c none fun j k => Rv (B j k)
  simp only [List.length_nil, List.nil_append] at e1 h
  rw [e1] at h
  exact h
section
variable (b : List (List ZI)) {e : Nat} (hm : Mok e b) (hK : KB e + 1 < 1099511627776)
include hm hK
theorem d7J : Mok 17592186044416 b := hm.mono (by unfold KB at hK; omega)
theorem c1w (h0 : elE b = 0) : a0d Pr b1z [matV b] (.tup [.int .i64 (c1l b.length (wid b) (Bm b)), .int .i64 0]) := by
  obtain ⟨hn, hw, hr, hrows⟩ := b6c h0
  refine a0d.intro c7k c7j (Nat.le_of_ble_eq_true rfl) (cl2i _ _) fun H hH => ?_
  refine Safe.rg rfl ?_
  simp only [b4I, E3, seval]
  refine Safe.rg rfl ?_
  simp only [b4H, E3, seval]
  first | refine (a1R b hm).acall ?_ | refine (a1R b hm).dcall ?_
  try simp only [E3, seval]
  refine Safe.rg rfl ?_
  simp only [b4G, h0, E3, seval]
  refine Safe.cd rfl ?_
  simp only [E3, seval]
  refine Safe.rg rfl ?_
  simp only [b4F, E3, seval]
  refine (c5j b hrows (by omega) (by omega) (d7J b hm hK) (hap H [])).mono ?_
  rintro r' H' ⟨rfl, rfl⟩
  simp only [E3, seval]
  first | refine (a4l b hm hr).acall ?_ | refine (a4l b hm hr).dcall ?_
  try simp only [E3, seval]
  refine (c0l (d9k hm) (.inl hn) (by omega) (by omega) hK (hap H [])).mono ?_
  rintro r' H' ⟨π, S', hLk, rfl, rfl⟩
  obtain ⟨L', hL'⟩ := e1D (H := hap H []) (L := a1i (lid (hap H []) 0) b.length 4 (wid b) none fun j k => Rv (Bm b j k)) (n := b.length) (w := 4) (c := wid b) (oc := none) (π := π) (S := S') (a1k (hap H []) 0) (c1z (hap H []) [] b.length 4 (wid b) none _)
  rw [hL']
  have hAH : ∃ L, hap (hap H []) L' = hap H L := ⟨_, a6n _ _ _⟩
  rw [← a2N (hap (hap H []) L')]
  clear hL'
  generalize hap (hap H []) L' = A at *
  simp only [a0w, a0G, a3m, E3, seval]
  refine Safe.rg rfl ?_
  simp only [b4E, e1A, E3, seval]
  refine Safe.rt rfl ?_
  simp only [E3, seval]
  obtain ⟨L0, rfl⟩ := hAH
  exact ⟨rfl, _, a6n _ _ _⟩
omit hK in
theorem e4N (n : Nat) (hn : n ≤ 64) : (dv n (Bm b) n).num = detI n (Bm b) ∧ (detI n (Bm b)).natAbs ≤ LB ^ KB e := by
  obtain ⟨z, hz, hz1⟩ := e3k (d9k hm) n (.inl hn)
  refine ⟨rfl, ?_⟩
  unfold detI
  rw [(a8B hz).1]; exact hz1
end
end Go.Abs
set_option linter.unusedVariables false
set_option linter.unusedSimpArgs false
namespace Go.Abs
theorem d7Z : KB 1048576 + 1 < 1099511627776 := by decide
theorem d3s {b : List (List ZI)} {e n : Nat} (hb : Mok e b) (hn : n ≤ 64) (hK : KB e + 1 < 1099511627776) : (detI n (Bm b)).natAbs < LB ^ (KB e + 1) := by
  have h := (e4N b hb n hn).2
  have : LB ^ KB e < LB ^ (KB e + 1) := Nat.pow_lt_pow_right (by decide) (by omega)
  omega
theorem e0J {z : Int} {k : Nat} (h : z.natAbs < LB ^ k) (hk : k ≤ 17592186044416) : a0d Pr a7S [Z z, Z z] (.bool true) := by
  have := d3n (canZ z) ((a0k h).mono hk)
  rwa [a2O] at this
end Go.Abs
set_option linter.unusedVariables false
set_option linter.unusedSimpArgs false
namespace Go.Abs
theorem e1S (H : Heap) (v : List ZI) (k : IntKind) {n : Nat} (h : n ≤ v.length) : slcV H 2 (vecV v) none (some (.int k n)) none = some (vecV (v.take n)) := by
  simp only [slcV, vecV, a2t, Option.bind_some, List.length_map]
  rw [if_pos ⟨trivial, by omega, by omega, by omega⟩]
  simp [List.map_take]
theorem Vok.take {k : Nat} {v : List ZI} (h : Vok k v) (n : Nat) : Vok k (v.take n) := ⟨by rw [List.length_take]; have := h.len; omega, fun x hx => h.el x (List.mem_of_mem_take hx)⟩
/-- The first square of a size. -/
def sub (b : List (List ZI)) (k : Nat) : List (List ZI) := mat k fun i => (mg b i).take k
end Go.Abs
set_option linter.unusedVariables false
set_option linter.unusedSimpArgs false
namespace Go.Abs
/-- Rows of whole numbers with such values. -/
structure Rz (n c K : Nat) (rows : List (List ZI)) (f : Nat → Nat → Int) : Prop where
  len : rows.length = n
  wid : ∀ i, i < n → (mg rows i).length = c
  at_ : ∀ i k, i < n → k < c → zg (mg rows i) k = f i k
  ok : ∀ i, i < n → Vok K (mg rows i)
end Go.Abs
set_option linter.unusedVariables false
set_option linter.unusedSimpArgs false
namespace Go.Abs
def rvV (x : Nat → Rat) (c : Nat) : AV := .sl 4 (fr c fun k => Rv (x k))
def a0K (x : Nat → Rat) : Nat → Nat
  | 0 => 1
  | n + 1 => a0K x n * ((x n).den / Nat.gcd (a0K x n) (x n).den)
def outI (x : Nat → Rat) (c i : Nat) : Int := (x i).num * ((a0K x c / (x i).den : Nat) : Int)
theorem b7Q (x : Nat → Rat) (n : Nat) : a0K x (n + 1) = Nat.lcm (a0K x n) (x n).den := by
  rw [a0K, Nat.lcm, Nat.mul_div_assoc _ (Nat.gcd_dvd_right _ _)]
theorem b0U (x : Nat → Rat) : ∀ n, 0 < a0K x n
  | 0 => Nat.one_pos
  | n + 1 => by rw [b7Q]; exact Nat.lcm_pos (b0U x n) (x n).den_pos
theorem b0V {x : Nat → Rat} {M : Nat} : ∀ {n : Nat}, (∀ i, i < n → (x i).den ∣ M) → a0K x n ∣ M
  | 0, _ => Nat.one_dvd _
  | n + 1, h => by rw [b7Q]; exact Nat.lcm_dvd (b0V fun i hi => h i (by omega)) (h n (by omega))
theorem c4p (x : Nat → Rat) : ∀ {n i : Nat}, i < n → (x i).den ∣ a0K x n
  | 0, _, h => absurd h (by omega)
  | n + 1, i, h => by
    rw [b7Q]
    by_cases e : i = n
    · subst e; exact Nat.dvd_lcm_right _ _
    · exact Nat.dvd_trans (c4p x (by omega)) (Nat.dvd_lcm_left _ _)
/-- All of them times one number are whole, of such a size. -/
structure Sz (x : Nat → Rat) (c K : Nat) : Prop where
  ex : ∃ D : Int, D ≠ 0 ∧ D.natAbs < LB ^ K ∧ ∀ i, i < c → ∃ z : Int, (D : Rat) * x i = z ∧ z.natAbs < LB ^ K
theorem d1p {D z : Int} {q : Rat} (hD : D ≠ 0) (h : (D : Rat) * q = z) : q.den ∣ D.natAbs := by
  have hl : (D : Rat) ≠ 0 := fun e => hD (Rat.intCast_inj.1 (by rw [e]; rfl))
  have e : q = Rat.divInt z D := by
    rw [Rat.divInt_eq_div, ← h]
    generalize (D : Rat) = x at *
    grind
  rw [e, Rat.den_divInt, if_neg hD]
  exact Nat.div_dvd_of_dvd (by rw [Int.gcd]; exact Nat.gcd_dvd_left _ _)
theorem c7R (x : Nat → Rat) {c i : Nat} (hi : i < c) : ((a0K x c : Nat) : Rat) * x i = ((outI x c i : Int) : Rat) := by
  obtain ⟨m, hm⟩ := c4p x hi
  unfold outI
  have hd := (x i).den_pos
  rw [hm, Nat.mul_div_cancel_left _ hd]
  have h1 : x i = ((x i).num : Rat) / ((x i).den : Rat) := by rw [← Rat.mkRat_eq_div, Rat.mkRat_self]
  have h2 : ((x i).den : Rat) ≠ 0 := by
    intro h
    have : ((x i).den : Nat) = 0 := by exact_mod_cast h
    omega
  rw [Rat.intCast_mul, Rat.natCast_mul]
  have h3 : (((m : Nat) : Int) : Rat) = ((m : Nat) : Rat) := rfl
  rw [h3]
  have h4 := Rat.div_mul_cancel (a := ((x i).num : Rat)) h2
  rw [← h1] at h4
  clear h1 hm
  generalize ((x i).den : Rat) = d at *
  generalize ((x i).num : Rat) = a at *
  generalize ((m : Nat) : Rat) = k
  generalize x i = y at *
  grind
section
variable {x : Nat → Rat} {c K : Nat} (h : Sz x c K)
include h
theorem e1y {n : Nat} (hn : n ≤ c) : a0K x n < LB ^ K := by
  obtain ⟨D, hD, hD1, hz⟩ := h.ex
  have hd : a0K x n ∣ D.natAbs := b0V fun i hi => by obtain ⟨z, hz, _⟩ := hz i (by omega); exact d1p hD hz
  exact Nat.lt_of_le_of_lt (Nat.le_of_dvd (by omega) hd) hD1
theorem e4O {i : Nat} (hi : i < c) : (x i).den < LB ^ K := by
  obtain ⟨D, hD, hD1, hz⟩ := h.ex
  obtain ⟨z, hz, _⟩ := hz i hi
  exact Nat.lt_of_le_of_lt (Nat.le_of_dvd (by omega) (d1p hD hz)) hD1
theorem e1w {i : Nat} (hi : i < c) : (outI x c i).natAbs < LB ^ K := by
  obtain ⟨D, hD, hD1, hz⟩ := h.ex
  have hd : a0K x c ∣ D.natAbs := b0V fun i hi => by obtain ⟨z, hz, _⟩ := hz i hi; exact d1p hD hz
  obtain ⟨z, hz, hz1⟩ := hz i hi
  obtain ⟨m, hm⟩ := Int.ofNat_dvd_left.2 hd
  have hm0 : m ≠ 0 := fun e => hD (by rw [hm, e, Int.mul_zero])
  have ho := c7R x hi
  have : z = m * outI x c i := by
    refine Rat.intCast_inj.1 ?_
    rw [← hz, Rat.intCast_mul, ← ho, hm, Rat.intCast_mul]
    have h3 : (((a0K x c : Nat) : Int) : Rat) = ((a0K x c : Nat) : Rat) := rfl
    rw [h3]
    generalize ((a0K x c : Nat) : Rat) = l
    generalize (m : Rat) = k
    generalize x i = y
    grind
  rw [this, Int.natAbs_mul] at hz1
  exact Nat.lt_of_le_of_lt (Nat.le_mul_of_pos_left _ (by omega)) hz1
theorem e4u {i : Nat} (hi : i < c) : (x i).num.natAbs < LB ^ K := by
  obtain ⟨D, hD, hD1, hz⟩ := h.ex
  obtain ⟨z, hz, hz1⟩ := hz i hi
  have hl : (D : Rat) ≠ 0 := fun e => hD (Rat.intCast_inj.1 (by rw [e]; rfl))
  exact Nat.lt_of_le_of_lt (d0s hl hz).1 hz1
end
section
variable (H : Heap) (x : Nat → Rat) {c i : Nat}
theorem d3O : lenV H (rvV x c) = some (.int .i64 c) := by
  have := d3I H 4 (fun k => Rv (x k)) (List.range c)
  rw [List.length_range] at this; exact this
theorem d3P (k : IntKind) (h : i < c) : idxV H 4 (rvV x c) (.int k i) = some (.ro (Rv (x i)) 0) := by
  have := d6U H 4 (fun k => Rv (x k)) (List.range c) k i (by simpa using h)
  simp only [List.getElem_range] at this; exact this
theorem e4g : Cl (rvV x c) := e0O 4 (fun k => Rv (x k)) (List.range c) fun _ => a4M _
theorem b1D (id : Nat) : nref id (rvV x c) = true := a2c (e4g x)
theorem e5a : atV H (.ro (Rv (x i)) 0) = some [.bool (decide ((x i).num < 0)), natV (limbs (x i).num.natAbs), .bool false, natV (limbs (x i).den)] := rfl
theorem d9i : atV H (.ro (Rv (x i)) 2) = some [.bool false, natV (limbs (x i).den)] := rfl
end
end Go.Abs
set_option linter.unusedVariables false
set_option linter.unusedSimpArgs false
namespace Go.Abs
def InC (j : JS) (c : Nat) (v : Nat → Rat) : Prop := ∀ k, k < c → v k = sumR (fun i => v (j.s.cs.getD i 0) * j.M i k) j.s.cs.length
/-- Row i with the a0N from m on cleared. -/
structure RowP (j : JS) (c m i : Nat) (f : Nat → Int) : Prop where
  inn : InC j c fun k => (f k : Rat)
  lo : ∀ t, t < i → f (j.s.cs.getD t 0) = 0
  hi : ∀ t, m ≤ t → t < j.s.cs.length → t ≠ i → f (j.s.cs.getD t 0) = 0
  piv : f (j.s.cs.getD i 0) ≠ 0
section
variable {j : JS} {c : Nat} (hcs : ∀ t, t < j.s.cs.length → j.s.cs.getD t 0 < c)
include hcs
theorem e2h {m i : Nat} {f : Nat → Int} (hi : i < j.s.cs.length) (h : RowP j c m i f) : Nz f c := ⟨_, hcs i hi, h.piv⟩
omit hcs in
theorem d7d {m : Nat} {f : Nat → Int} (hf : RowP j c (m + 1) m f) : RowP j c m m f :=
  ⟨hf.inn, hf.lo, fun t h1 h2 h3 => hf.hi t (by omega) h2 h3, hf.piv⟩
/-- Cleared everywhere it is the row of the fractions. -/
theorem c9f {m i : Nat} {f : Nat → Int} (hmi : m ≤ i) (hi : i < j.s.cs.length) (hf : RowP j c m i f) (hpr : ∀ k, k < c → b0J f c k = f k) : ∀ k, k < c → f k = b0J (outI (j.M i) c) c k := by
  intro k hk
  have hall : ∀ t, t < j.s.cs.length → t ≠ i → ((f (j.s.cs.getD t 0) : Int) : Rat) = 0 := fun t ht hne => by
    have : f (j.s.cs.getD t 0) = 0 := by
      rcases Nat.lt_or_ge t i with h | h
      · exact hf.lo t h
      · exact hf.hi t (by omega) ht hne
    rw [this]; rfl
  have hM : ∀ k, k < c → ((f k : Int) : Rat) = (f (j.s.cs.getD i 0) : Rat) * j.M i k := fun k hk => by
    have h1 := hf.inn k hk
    rw [b4l hi fun t ht hne => by show ((f (j.s.cs.getD t 0) : Int) : Rat) * j.M t k = 0; rw [hall t ht hne]; grind] at h1
    exact h1
  rw [← hpr k hk]
  have hl := b0U (j.M i) c
  refine d9M (a := (a0K (j.M i) c : Int)) (b := f (j.s.cs.getD i 0)) (by omega) hf.piv (e2h hcs hi hf) (fun t ht => ?_) hk
  refine Rat.intCast_inj.1 ?_
  rw [Rat.intCast_mul, Rat.intCast_mul, hM t ht, ← c7R (j.M i) ht]
  have h3 : (((a0K (j.M i) c : Nat) : Int) : Rat) = ((a0K (j.M i) c : Nat) : Rat) := rfl
  rw [h3]
  generalize ((a0K (j.M i) c : Nat) : Rat) = l
  generalize (f (j.s.cs.getD i 0) : Rat) = p
  generalize j.M i t = y
  grind
end
end Go.Abs
set_option linter.unusedVariables false
set_option linter.unusedSimpArgs false
namespace Go.Abs
def e5f (h c : Nat) (f g : Nat → Int) : Nat → Int := if f h = 0 then f else b0J (fun k => g h * f k - f h * g k) c
/-- The rows after k a0N have been cleared. -/
def Fs (cs : List Nat) (c : Nat) (F0 : Nat → Nat → Int) : Nat → Nat → Nat → Int
  | 0 => F0
  | k + 1 => fun i => if i < cs.length - (k + 1) then e5f (cs.getD (cs.length - (k + 1)) 0) c (Fs cs c F0 k i) (Fs cs c F0 k (cs.length - (k + 1))) else Fs cs c F0 k i
section
variable {n c e : Nat} {B : Nat → Nat → Rat} (hB : Bd e B) (hn : n ≤ 64)
include hB hn
def F0s (n : Nat) (B : Nat → Nat → Rat) (c : Nat) : Nat → Nat → Int := fun i => b0J (ZgI n B c i) c
def Fk (n : Nat) (B : Nat → Nat → Rat) (c k : Nat) : Nat → Nat → Int := Fs (gproc n B c).cs c (F0s n B c) k
omit hB hn in
theorem e1C : ∀ t, t < (a1t n B c).s.cs.length → (a1t n B c).s.cs.getD t 0 < c := by
  intro t ht
  rw [a2w] at ht ⊢
  exact d6u ht
structure Fok (n c e : Nat) (B : Nat → Nat → Rat) (k : Nat) : Prop where
  row : ∀ i, i < (gproc n B c).cs.length → RowP (a1t n B c) c ((gproc n B c).cs.length - k) i (Fk n B c k i)
  idem : ∀ i, i < (gproc n B c).cs.length → ∀ t, t < c → b0J (Fk n B c k i) c t = Fk n B c k i t
  sz : ∀ i, i < (gproc n B c).cs.length → ∀ t, t < c → (Fk n B c k i t).natAbs < LB ^ ((KB e + 1) + k * (KB e + 2))
omit hB hn in
theorem Fok.top {k i : Nat} (h : Fok n c e B k) (hi : i < (gproc n B c).cs.length) (hk : (gproc n B c).cs.length - k ≤ i + 1) : ∀ t, t < c → Fk n B c k i t = b0J (outI ((a1t n B c).M i) c) c t := by
  have hrow : RowP (a1t n B c) c ((gproc n B c).cs.length - k) i (Fk n B c k i) := h.row i hi
  have hlen : (a1t n B c).s.cs.length = (gproc n B c).cs.length := by rw [a2w]
  by_cases e : (gproc n B c).cs.length - k ≤ i
  · exact c9f (e1C) e (by rw [hlen]; exact hi) hrow (h.idem i hi)
  · have e2 : (gproc n B c).cs.length - k = i + 1 := by omega
    rw [e2] at hrow
    exact c9f (e1C) (Nat.le_refl i) (by rw [hlen]; exact hi) (d7d hrow) (h.idem i hi)
end
end Go.Abs
set_option linter.unusedVariables false
set_option linter.unusedSimpArgs false
namespace Go.Abs
theorem e4z {H L : Heap} {β n : Nat} {O : List AV} {R : Nat → Option Blk} (hβ : H.length ≤ β) (hG : β + n < (hap H L).length) : ∃ L', hm (hap H L) β n O R = hap H L' := by
  refine ⟨(hm (hap H L) β n O R).drop H.length, ?_⟩
  have ht : (hm (hap H L) β n O R).take H.length = H := by
    apply List.ext_getElem?
    intro j
    rw [List.getElem?_take]
    have hl : (hap H L).length = H.length + L.length := by simp [hap]
    split
    · rename_i hj
      rw [a2s _ _ _ _ _ _ (by omega), if_neg (by omega), if_neg (by omega)]
      simp only [hap]
      rw [List.getElem?_append_left hj]
    · rename_i hj
      rw [List.getElem?_eq_none (by omega)]
  exact (List.take_append_drop H.length _).symm.trans (by rw [ht]; rfl)
/-- With the first m rows told. -/
def redM (m : Nat) (A : Heap) (β n c : Nat) (B : Nat → Nat → Rat) (r' : AV) (H' : Heap) : Prop := ∃ π S L, Lk n c π S (fun a b => Rv ((a1t n B c).M a b)) ∧ β + n < (hap A L).length ∧
  H' = hm (hap A L) (β) n (fr n fun i => if π i < m then .sl 4 (fr c (S (π i))) else .mu (β + 1 + π i) 0 c none) (fun j => if j < m then none else some ⟨4, fr c (S j)⟩) ∧ a0L H' ∧
  r' = .tup [.mu (β) 0 (gproc n B c).cs.length none, hsV (gproc n B c).cs, Rv (dv n B c)]
/-- The rows as values. -/
def redV (A : Heap) (n c : Nat) (B : Nat → Nat → Rat) (r' : AV) (H' : Heap) : Prop := H'[lid A 0]? = some (some ⟨1, fr n fun i => rvV ((a1t n B c).M i) c⟩) ∧ (∃ L, H' = hap A L) ∧ a0L H' ∧
  r' = .tup [.mu (lid A 0) 0 (gproc n B c).cs.length none, hsV (gproc n B c).cs, Rv (dv n B c)]
section
variable {B : Nat → Nat → Rat} {e n c : Nat} (hB : Bd e B) (hn : n ≤ 64 ∨ c ≤ 64) (hn2 : n ≤ 2097152) (hc : c ≤ 2097152) (hK : KB e + 1 < 1099511627776) {A : Heap} (hA : a0L A)
include hB hn hn2 hc hK hA
theorem c0k : ∀ m, m ≤ n → a0n Pr a1d [.mu (lid A 0) 0 n none, .int .i64 c] (hap A (a1i (lid A 0) n 4 c none fun j k => Rv (B j k))) (redM m A (lid A 0) n c B)
  | 0, _ => (c0l hB hn hn2 hc hK A).mono fun r' H' ⟨π, S, h1, h2, h3⟩ => by
    have hr := b1G (X := []) (n := n) (w := 4) (c := c) (oc := none) (S := fun j k => Rv (B j k)) hA (fun b hb => absurd hb (by simp)) fun _ _ _ _ => a4M _
    have hl : lid A 0 + n < (hap A (a1i (lid A 0) n 4 c none fun j k => Rv (B j k))).length := c1z A [] n 4 c none _
    have e1 := d3f A [] n 4 c none fun j k => Rv (B j k)
    simp only [List.length_nil, List.nil_append] at hr e1
    rw [← e1] at hr
    refine ⟨π, S, _, h1, hl, ?_, ?_, h3⟩
    · rw [h2]
      refine b6I (a5a fun i hi => ?_) fun j hj => ?_
      · rw [if_neg (by omega)]
      · rw [if_neg (by omega)]
    · rw [h2]
      exact c3M hl hr h1.lt fun j k _ _ => h1.cl j k
  | m + 1, hmn => by
    refine (c0k m (by omega)).frz ?_
    rintro hH r' H' ⟨π, S, L, h1, h3, rfl, h5, rfl⟩
    have hb : A.length ≤ lid A 0 := a1k A 0
    generalize lid A 0 = β at *
    have hc : ∀ a ∈ (Blk.mk 4 (fr c (S m))).flat, Cl a := a3I fun k _ => h1.cl m k
    have hget : (hm (hap A L) β n (fr n fun i => if π i < m then .sl 4 (fr c (S (π i))) else .mu (β + 1 + π i) 0 c none) (fun j => if j < m then none else some ⟨4, fr c (S j)⟩))[β + 1 + m]? = some (some ⟨4, fr c (S m)⟩) := by
      rw [a2s _ _ _ _ _ _ (by omega), if_neg (by omega), if_pos (by omega), show β + 1 + m - (β + 1) = m by omega, if_neg (Nat.lt_irrefl m)]
    refine ⟨β + 1 + m, ⟨4, fr c (S m)⟩, hget, hc, ?_⟩
    have hfH : frzH (β + 1 + m) ⟨4, fr c (S m)⟩ (hap A L) = hap A ((frzL (β + 1 + m) ⟨4, fr c (S m)⟩ L).set (β + 1 + m - A.length) none) := by
      have := c1C hA (β + 1 + m - A.length) ⟨4, fr c (S m)⟩ L
      rwa [show lid A (β + 1 + m - A.length) = β + 1 + m by unfold lid; omega] at this
    refine ⟨π, S, (frzL (β + 1 + m) ⟨4, fr c (S m)⟩ L).set (β + 1 + m - A.length) none, h1, ?_, ?_, d8g h5 _ _, ?_⟩
    · rw [← hfH]; simp only [frzH, List.length_set, List.length_map]; exact h3
    · rw [e2U h3 (by omega), hfH]
      refine b6I ?_ fun j hj => ?_
      · unfold fr
        rw [List.map_map]
        refine List.map_congr_left fun i hi => ?_
        simp only [Function.comp]
        by_cases h : π i < m
        · rw [if_pos h, if_pos (by omega)]; simp only [frz]
        · rw [if_neg h]
          by_cases h2 : π i = m
          · rw [if_pos (by omega), h2]
            simp only [frz, if_true]
            rw [if_pos (show 0 + c ≤ (List.map (S m) (List.range c)).length by simp)]
            simp only [List.drop_zero]
            rw [List.take_of_length_le (by simp)]
          · rw [if_neg (by omega)]
            simp only [frz]
            rw [if_neg (by omega)]
      · by_cases hjm : j = m
        · rw [if_pos hjm, if_pos (by omega)]
        · rw [if_neg hjm]
          by_cases hlt : j < m
          · rw [if_pos hlt, if_pos (by omega)]; rfl
          · rw [if_neg hlt, if_neg (by omega)]
            simp only [Option.map_some, frzB]
            congr 2
            refine (List.map_congr_left (g := fun x => x) fun a ha => ?_).trans (List.map_id' _)
            obtain ⟨k, hk, rfl⟩ := d8s ha
            exact b1d (h1.cl j k)
    · simp only [frz, List.map_cons, List.map_nil]
      rw [if_neg (by omega)]
      have e1 := b1d (id := β + 1 + m) (b := ⟨4, fr c (S m)⟩) (e1B (gproc n B c).cs)
      have e2 := b1d (id := β + 1 + m) (b := ⟨4, fr c (S m)⟩) (a4M (dv n B c))
      rw [e1, e2]
theorem d0r : a0n Pr a1d [.mu (lid A 0) 0 n none, .int .i64 c] (hap A (a1i (lid A 0) n 4 c none fun j k => Rv (B j k))) (redV A n c B) := by
  refine (c0k hB hn hn2 hc hK hA n (Nat.le_refl n)).mono ?_
  rintro r' H' ⟨π, S, L, h1, h3, rfl, h5, rfl⟩
  refine ⟨?_, e4z (a1k A 0) h3, h5, rfl⟩
  rw [a2s _ _ _ _ _ _ (by omega), if_pos rfl]
  congr 3
  refine a5a fun i hi => ?_
  rw [if_pos (h1.lt i hi)]
  unfold rvV
  congr 1
  exact a5a fun k hk => h1.at_ i k hi hk
end
end Go.Abs
set_option linter.unusedVariables false
set_option linter.unusedSimpArgs false
namespace Go.Abs
theorem e5c {A : Heap} {β : Nat} {x : Blk} (h : A[β]? = some (some x)) (L : Heap) : hrow (hap A L) β = some x := by
  unfold hrow hap
  rw [List.getElem?_append_left (a0m h), h]; rfl
theorem e5s {A : Heap} {β : Nat} {xs : List AV} (h : A[β]? = some (some ⟨1, xs⟩)) (L : Heap) {j len : Nat} (hj : j < len) (oc : Option Nat) (k : IntKind) : idxV (hap A L) 1 (.mu β 0 len oc) (.int k j) = some (.loc β j 0) := by
  rw [b7S _ _ _ _ _ _ _ _ (by omega) (by omega), e5c h L]; simp
theorem B_at {A : Heap} {β n : Nat} {f : Nat → AV} (h : A[β]? = some (some ⟨1, fr n f⟩)) (hc : ∀ j, j < n → (f j).cells = [f j]) (L : Heap) {j : Nat} (hj : j < n) : atV (hap A L) (.loc β j 0) = some [f j] := by
  rw [b1v, e5c h L]
  simp only [Option.bind_some, c1c]
  rw [if_pos hj, d8t hj, hc j hj]; rfl
end Go.Abs
set_option linter.unusedVariables false
set_option linter.unusedSimpArgs false
namespace Go.Abs
theorem c8x {b : List (List ZI)} {e n : Nat} (hm : Mok e b) (hn : n ≤ 64) : ((detI n (Bm b) : Int) : Rat) = det n (Bm b) := by
  obtain ⟨z, hz, _⟩ := e3k (d9k hm) n (.inl hn)
  have h := e1G (n := n) (B := Bm b) fun i k => ⟨_, rfl⟩
  rw [← h]
  unfold detI
  rw [(a8B hz).1, hz]
end Go.Abs

/- Part 7 of the proof of WholeDual: W10, W11, W12, W13, W14, W15, W16, W17, W18, W19, W20, W21, W22, W23, W24, W26, W28, W30, W31, W35, W36, W37, W38, W40, W42, W43, G1, G2. -/
import Derived.Test.YtidemmcbjiccfaaWholeDualK6
set_option linter.unusedVariables false
set_option linter.unusedSimpArgs false
namespace Go.Abs
theorem e3G (H L M : Heap) : hap (hap H L) M = hap H (L ++ M) := by simp [hap]
theorem e3r (H L : Heap) (i : Nat) : lid (hap H L) i = lid H (L.length + i) := by simp [hap, lid, Nat.add_assoc]
theorem b9J (n : Nat) : limbs (val (limbs n)) = limbs n := by rw [a0a]
theorem e6G {M k n : Nat} (hk : k = (limbs M).length) (hn : k ≤ n) : (fl n (dig M)).take k = limbs M := by
 rw [d7T _ hn, hk]
 have := b9L (a0b M) rfl
 rw [a0a] at this
 exact this.symm
theorem d9a {H : Heap} {i len : Nat} {X : List Nat} (oc : Option Nat) (h : len ≤ X.length) : frz (lid H i) ⟨1, u32s X⟩ (.mu (lid H i) 0 len oc) = natV (X.take len) := by
 simp only [frz, if_true, Nat.zero_add, a0D, h, List.drop_zero, b5X]; rfl
theorem e7s {H : Heap} (hH : a0C H) {n0 : Nat} {env : Env} {L : Heap} {len c : Nat} {X l : List Nat} {o : Option Blk} (hn : n0 ≤ lid H 0) (hlen : len ≤ X.length) (hc : c < len + l.length) (hb : X.length + l.length ≤ 35184372088832) :
  appV n0 1 4 false (.mu (lid H 0) 0 len (some c)) (.sl 1 (u32s l)) env (hap H [some ⟨1, u32s X⟩]) = some (.mu (lid H 0) 0 (len + l.length) none, scrub (lid H 0) env, hap H [some ⟨1, u32s (X.take len ++ l)⟩]) := by
 have hf : free (hap H [some ⟨1, u32s X⟩]) (lid H 0) = true := d2i hH (c4d fun b hb a ha => by
  simp at hb; subst hb; exact a0F X a ha)
 simp only [appV, a1f, Option.bind_some, a0I, List.getElem?_cons_zero, Option.join_some, a2P, List.set_cons_zero]
 rw [if_neg (by simp [a0D]; omega), if_pos]
 ·simp only [a0D, b5X, c4C, a1c]
  rw [Option.bind_some, if_neg (by omega)]
 ·simp only [a0D, true_and]
  refine ⟨hlen, hn, hf, ?_, ?_, by omega, by omega⟩
  ·exact List.all_eq_true.2 fun a ha => a0y (a8n ha)
  ·exact List.all_eq_true.2 fun a ha => a0y (a8n ha)
theorem e5q {H L : Heap} {i lo hi len m : Nat} {b : Blk} (hl : L[i]? = some (some b)) {wd : Nat} (hw : b.wd = wd) (oc : Option Nat) (k k' : IntKind) (h1 : hi = lo + m) (h2 : hi ≤ len) :
  slcV (hap H L) wd (.mu (lid H i) 0 len oc) (some (.int k lo)) (some (.int k' hi)) none = some (.mu (lid H i) lo m (oc.map (· - lo))) := by
 subst h1
 simp only [slcV, a0I, hl, Option.join_some, Option.bind_some, a3V]
 rw [if_pos ⟨hw, by omega, by omega, by omega⟩]
 simp
 omega
theorem e2z {U V i nv : Nat} (hV : V < LB ^ nv) (hV0 : 0 < V) : (∀ j, xr (dig (U % (V * LB ^ (i + 1)))) i (fl (nv + 1) (dig (U % (V * LB ^ (i + 1)) / LB ^ i % V))) j = dig (U % (V * LB ^ i)) j) ∧
  U % (V * LB ^ (i + 1)) / LB ^ i / V = dig (U / V) i ∧ val (fl (nv + 1) fun t => dig (U % (V * LB ^ (i + 1))) (i + t)) = U % (V * LB ^ (i + 1)) / LB ^ i ∧ U % (V * LB ^ (i + 1)) / LB ^ i < LB * V := by
 have hp := a5g i
 have e1 : V * LB ^ (i + 1) = V * LB ^ i * LB := by rw [Nat.pow_succ, Nat.mul_assoc]
 have hR1 : U % (V * LB ^ (i + 1)) < V * LB ^ (i + 1) := Nat.mod_lt _ (Nat.mul_pos hV0 (a5g _))
 have hS : U % (V * LB ^ (i + 1)) / LB ^ i < LB * V := by
  rw [Nat.div_lt_iff_lt_mul hp]
  have : LB * V * LB ^ i = V * LB ^ (i + 1) := by rw [e1]; rw [Nat.mul_comm LB, Nat.mul_right_comm]
  rw [this]; exact hR1
 have hSl : U % (V * LB ^ (i + 1)) / LB ^ i < LB ^ (nv + 1) := by
  have : LB * V ≤ LB ^ (nv + 1) := by rw [Nat.pow_succ']; exact Nat.mul_le_mul_left _ (Nat.le_of_lt hV)
  omega
 have hR : U % (V * LB ^ i) = U % (V * LB ^ (i + 1)) % (V * LB ^ i) := by
  rw [e1, Nat.mod_mul_right_mod]
 have hq : U % (V * LB ^ (i + 1)) / LB ^ i % V = U % (V * LB ^ i) / LB ^ i := by
  rw [hR, Nat.mul_comm V (LB ^ i), Nat.mod_mul_right_div_self]
 refine ⟨fun j => ?_, ?_, ?_, hS⟩
 ·unfold xr
  rw [a0M]
  by_cases h : i ≤ j ∧ j < i + (nv + 1)
  ·rw [if_pos h, b8j (by omega), hq, e4e]
   congr 1; omega
  ·rw [if_neg h]
   rcases Nat.lt_or_ge j i with h1 | h1
   ·have h2 := Nat.mod_add_div (U % (V * LB ^ (i + 1))) (V * LB ^ i)
    rw [← hR] at h2
    have h3 : V * LB ^ i * (U % (V * LB ^ (i + 1)) / (V * LB ^ i)) = LB ^ i * (V * (U % (V * LB ^ (i + 1)) / (V * LB ^ i))) := by rw [Nat.mul_comm V, Nat.mul_assoc]
    rw [h3] at h2
    conv => lhs; rw [← h2]
    exact c7v _ h1
   ·have hj : i + (nv + 1) ≤ j := by omega
    have hpj : LB ^ (nv + (i + 1)) ≤ LB ^ j := Nat.pow_le_pow_right (by decide) (by omega)
    have h3 : V * LB ^ (i + 1) ≤ LB ^ (nv + (i + 1)) := by rw [Nat.pow_add LB nv (i + 1)]; exact Nat.mul_le_mul_right _ (Nat.le_of_lt hV)
    have h4 : U % (V * LB ^ i) ≤ U % (V * LB ^ (i + 1)) := by rw [hR]; exact Nat.mod_le _ _
    rw [b2O (by omega), b2O (by omega)]
 ·rw [Nat.div_div_eq_div_mul, Nat.mul_comm (LB ^ i), e1, Nat.mod_mul_right_div_self]
  unfold dig
  rw [Nat.div_div_eq_div_mul]
 ·have : (fl (nv + 1) fun t => dig (U % (V * LB ^ (i + 1))) (i + t)) = fl (nv + 1) (dig (U % (V * LB ^ (i + 1)) / LB ^ i)) := a2Z fun t _ => (e4e _ _ _).symm
  rw [this, a1N hSl]
theorem b7Q {l : List Nat} (h : (l.getLast?).getD 1 ≠ 0) (hl : 0 < l.length) : 0 < l.getD (l.length - 1) 0 := by
 rw [List.getLast?_eq_getElem?, List.getElem?_eq_getElem (by omega)] at h
 rw [List.getD_eq_getElem?_getD, List.getElem?_eq_getElem (by omega)]
 simp at h ⊢; omega
theorem d5T {n : Nat} (h : n < LB) : blen n ≤ 32 := by
 rcases Nat.lt_or_ge 32 (blen n) with hc | hc
 ·exfalso
  have h0 : n ≠ 0 := by rintro rfl; simp [d5S] at hc
  have := c0f h0
  have h2 : 2 ^ 32 ≤ 2 ^ (blen n - 1) := Nat.pow_le_pow_right (by decide) (by omega)
  have : (2 : Nat) ^ 32 = LB := by decide
  omega
 ·exact hc
theorem d1O {l : List Nat} (hl : Lim l) (h0 : 0 < l.length) (ht : 0 < l.getD (l.length - 1) 0) : val l * 2 ^ (32 - blen (l.getD (l.length - 1) 0)) < LB ^ l.length ∧ LB ^ (l.length - 1) ≤ val l := by
 have hd := a0L hl (l.length - 1)
 have hb := d5T hd
 have hs := a3A l (l.length - 1)
 have hdr : val (l.drop (l.length - 1)) = l.getD (l.length - 1) 0 := by
  rw [a2I, show l.length - 1 + 1 = l.length by omega, List.drop_length]; simp [val]
 rw [hdr] at hs
 have htk := a3c hl (l.length - 1)
 generalize l.getD (l.length - 1) 0 = d at *
 have hlt := d2B d
 constructor
 ·have h1 : val l < LB ^ (l.length - 1) * 2 ^ blen d := by
   have : LB ^ (l.length - 1) * (d + 1) ≤ LB ^ (l.length - 1) * 2 ^ blen d := Nat.mul_le_mul_left _ hlt
   rw [Nat.mul_add] at this
   omega
  have h2 : LB ^ (l.length - 1) * 2 ^ blen d * 2 ^ (32 - blen d) = LB ^ l.length := by
   rw [Nat.mul_assoc, ← Nat.pow_add, show blen d + (32 - blen d) = 32 by omega, show (2 : Nat) ^ 32 = LB by decide, ← Nat.pow_succ]
   congr 1; omega
  rw [← h2]
  exact Nat.mul_lt_mul_of_pos_right h1 (Nat.pow_pos (by decide))
 ·have : LB ^ (l.length - 1) * 1 ≤ LB ^ (l.length - 1) * d := Nat.mul_le_mul_left _ ht
  omega
theorem c3N (r : Nat) : AV.sl 1 [.int .u32 (r : Int)] = natV [r] := rfl
theorem b7O {r : Nat} : val [r] = r := by simp [val]
theorem a4e (a b : List Nat) (ha : Nt a) (hb : Nt b) (hal : a.length < 17592186044000) (hbl : b.length < 17592186044000) (hb0 : val b ≠ 0) : a0d Pr b8R [natV a, natV b] (.tup [natV (limbs (val a / val b)), natV (limbs (val a % val b)), .int .i64 0]) := by
 have hLB : LB = 4294967296 := rfl
 have hna := ha.limbs
 have hnb := hb.limbs
 have hlal : (limbs (val a)).length < 17592186044000 := Nat.lt_of_le_of_lt (a0X ha.lim) hal
 have hlbl : (limbs (val b)).length < 17592186044000 := Nat.lt_of_le_of_lt (a0X hb.lim) hbl
 have hva := a0a (val a)
 have hvb := a0a (val b)
 have hlasta := a5z (val a)
 have hlastb := a5z (val b)
 have hia := b9J (val a)
 have hib := b9J (val b)
 refine a0d.introL e0L e0J (Nat.le_of_ble_eq_true rfl) (c7H (a0V _) (a0V _) (.int _ _)) fun H hH => ?_
 refine Safe.rg rfl ?_
 simp only [c9P, E3, seval]
 refine Safe.rg rfl ?_
 simp only [c9O, E3, seval]
 first | refine (a0p a ha.lim ha.len).acall ?_ | refine (a0p a ha.lim ha.len).dcall ?_ | refine (a0p a ha.lim ha.len).dgcall ?_
 try simp only [E3, seval]
 first | refine (a0p b hb.lim hb.len).acall ?_ | refine (a0p b hb.lim hb.len).dcall ?_ | refine (a0p b hb.lim hb.len).dgcall ?_
 try simp only [E3, seval]
 generalize limbs (val a) = la at *
 generalize limbs (val b) = lb at *
 generalize val a = A at *
 generalize val b = B at *
 subst hva
 subst hvb
 have hb1 : 0 < lb.length := by
  rcases Nat.eq_zero_or_pos lb.length with h | h
  ·exfalso; have := List.length_eq_zero_iff.1 h; subst this; exact hb0 rfl
  ·exact h
 have hB : 0 < val lb := Nat.pos_of_ne_zero hb0
 refine Safe.rg rfl ?_
 simp only [c9N, show (((lb.length : Nat) : Int) = 0) = False from eq_false (by omega), E3, seval]
 refine Safe.cd rfl ?_
 simp only [E3, seval]
 refine Safe.rg rfl ?_
 simp only [c9M, E3, seval]
 refine (b4X la lb hna hnb).acall ?_
 by_cases hab : val la < val lb
 ·have hcm : (cmpI (val la) (val lb) < 0) = True := by rw [c0b]; exact eq_true hab
  simp only [hcm, E3, seval]
  refine Safe.cd rfl ?_
  simp only [E3, seval]
  refine Safe.rg rfl ?_
  simp only [c9L, E3, seval]
  first | refine (a3N la hna).acall ?_ | refine (a3N la hna).dcall ?_ | refine (a3N la hna).dgcall ?_
  try simp only [E3, seval]
  refine Safe.rt rfl ?_
  simp only [E3, seval]
  rw [Nat.div_eq_of_lt hab, Nat.mod_eq_of_lt hab, a0J]
  exact ⟨Le.tup3 (Le.nil 1 (by decide)) (Le.refl _) (Le.refl _), _, rfl⟩
 have hcm : (cmpI (val la) (val lb) < 0) = False := by rw [c0b]; exact eq_false hab
 simp only [hcm, E3, seval]
 refine Safe.cd rfl ?_
 simp only [E3, seval]
 have htb := b7Q hlastb hb1
 have hdl := a0L hnb.lim (lb.length - 1)
 by_cases hone : lb.length = 1
 ·have h1 : (((lb.length : Nat) : Int) = 1) = True := eq_true (by omega)
  refine Safe.rg rfl ?_
  simp only [b9w, h1, E3, seval]
  refine Safe.cd rfl ?_
  simp only [E3, seval]
  have hvb1 : val lb = lb.getD 0 0 := by
   have := a2I lb 0
   rw [List.drop_zero, List.drop_eq_nil_of_le (by omega)] at this
   simpa [val] using this
  have i0 := a0E (hap H []) lb .i64 0 hb1
  rw [Int.natCast_zero] at i0
  have hd0 : 0 < lb.getD 0 0 := by rw [← hvb1]; exact hB
  have hd1 : lb.getD 0 0 < LB := a0L hnb.lim 0
  refine Safe.rg rfl ?_
  simp only [c9K, i0, E3, seval]
  first | refine (b9e la (lb.getD 0 0) hna hd0 hd1).acall ?_ | refine (b9e la (lb.getD 0 0) hna hd0 hd1).dcall ?_ | refine (b9e la (lb.getD 0 0) hna hd0 hd1).dgcall ?_
  try simp only [E3, seval]
  have hrl : val la % lb.getD 0 0 < LB := Nat.lt_trans (Nat.mod_lt _ hd0) hd1
  refine Safe.rg rfl ?_
  simp only [c9J, c3N, E3, seval]
  first | refine (a0p [val la % lb.getD 0 0] (by intro d hd; simp at hd; subst hd; exact hrl) (by simp)).acall ?_ | refine (a0p [val la % lb.getD 0 0] (by intro d hd; simp at hd; subst hd; exact hrl) (by simp)).dcall ?_ | refine (a0p [val la % lb.getD 0 0] (by intro d hd; simp at hd; subst hd; exact hrl) (by simp)).dgcall ?_
  try simp only [E3, seval]
  refine Safe.rt rfl ?_
  simp only [E3, seval]
  rw [hvb1, b7O]
  exact ⟨Le.refl _, _, rfl⟩
 have h1 : (((lb.length : Nat) : Int) = 1) = False := eq_false (by omega)
 refine Safe.rg rfl ?_
 simp only [b9w, h1, E3, seval]
 refine Safe.cd rfl ?_
 simp only [E3, seval]
 have w0 : IntKind.wrap .i64 (((lb.length : Nat) : Int) - 1) = ((lb.length - 1 : Nat) : Int) := by rw [a0c] <;> omega
 refine Safe.rg rfl ?_
 simp only [c9I, w0, a0E _ lb _ (lb.length - 1) (by omega), E3, seval]
 first | refine (d2y _ hdl).acall ?_ | refine (d2y _ hdl).dcall ?_ | refine (d2y _ hdl).dgcall ?_
 try simp only [E3, seval]
 obtain ⟨hVl, hBl⟩ := d1O hnb.lim hb1 htb
 have hn32 : 32 - blen (lb.getD (lb.length - 1) 0) < 32 := by
  have : 0 < blen (lb.getD (lb.length - 1) 0) := by unfold blen; rw [if_neg (by omega)]; omega
  omega
 generalize hn : 32 - blen (lb.getD (lb.length - 1) 0) = n at *
 have hp2 : 0 < 2 ^ n := Nat.pow_pos (by decide)
 -- the divisor
 refine Safe.rg rfl ?_
 simp only [c5O, E3, seval]
 refine a0m.mono (d3h lb n hnb (by omega) hb0 hn32 (hap H [])) ?_
 rintro r' H' ⟨rfl, rfl⟩
 simp only [e3G, e3r, List.nil_append, List.length_nil, hib, E3, seval]
 have hVp : 0 < val lb * 2 ^ n := Nat.mul_pos hB hp2
 have hnv1 : (limbs (val lb * 2 ^ n)).length ≤ lb.length := a0l hVl
 have hnv2 : lb.length ≤ (limbs (val lb * 2 ^ n)).length := by
  rcases Nat.lt_or_ge (limbs (val lb * 2 ^ n)).length lb.length with h | h
  ·exfalso
   have h2 := a1d (a0b (val lb * 2 ^ n))
   rw [a0a] at h2
   have h3 : LB ^ (limbs (val lb * 2 ^ n)).length ≤ LB ^ (lb.length - 1) := Nat.pow_le_pow_right (by decide) (by omega)
   have h4 : val lb * 1 ≤ val lb * 2 ^ n := Nat.mul_le_mul_left _ hp2
   omega
  ·exact h
 have hnv : (limbs (val lb * 2 ^ n)).length = lb.length := by omega
 refine Safe.freeze 0 hH rfl rfl (a0F _) ?_
 refine Safe.keep [0, 1, 9, 10] ?_
 simp only [d9a (H := H) (i := 0) _ (show (limbs (val lb * 2 ^ n)).length ≤ (fl (lb.length + 1) (dig (val lb * 2 ^ n))).length by rw [a0M]; omega), e6G (M := val lb * 2 ^ n) rfl (show (limbs (val lb * 2 ^ n)).length ≤ lb.length + 1 by omega), E3, seval]
 refine Safe.drop0 hH rfl (by simp only [List.all_cons, List.all_nil, E3, seval]) (by repeat (first | exact RC.nil | refine RC.none ?_ | refine RC.mo ?_ | refine RC.io ?_ | refine RC.row ZI.cl ?_ | refine RC.cons (a0F _) ?_ | refine RC.row a0g ?_ | refine RC.emp ?_ | refine RC.zero ?_ | refine RC.one (Z_cl _) ?_ | refine RC.one (ZI.cl _) ?_ | refine RC.one (a0g _) ?_)) ?_
 -- the dividend
 have hA0 : val la ≠ 0 := by omega
 have hla1 : 0 < la.length := by
  rcases Nat.eq_zero_or_pos la.length with h | h
  ·exfalso; have := List.length_eq_zero_iff.1 h; subst this; exact hA0 rfl
  ·exact h
 have hU1 : la.length ≤ (limbs (val la * 2 ^ n)).length := by
  rcases Nat.lt_or_ge (limbs (val la * 2 ^ n)).length la.length with h | h
  ·exfalso
   have h2 := a1d (a0b (val la * 2 ^ n))
   rw [a0a] at h2
   have h3 : LB ^ (limbs (val la * 2 ^ n)).length ≤ LB ^ (la.length - 1) := Nat.pow_le_pow_right (by decide) (by omega)
   have h4 : val la * 1 ≤ val la * 2 ^ n := Nat.mul_le_mul_left _ hp2
   have h5 := (d1O hna.lim hla1 (b7Q hlasta hla1)).2
   omega
  ·exact h
 have hU2 : val la * 2 ^ n < LB ^ (la.length + 1) := by
  rw [Nat.pow_succ]
  have h2n : 2 ^ n ≤ LB := by
   have : LB = 2 ^ (32 - n) * 2 ^ n := by rw [← Nat.pow_add, show 32 - n + n = 32 by omega]
   rw [this]; exact Nat.le_mul_of_pos_left _ (Nat.pow_pos (by decide))
  exact Nat.lt_of_lt_of_le (Nat.mul_lt_mul_of_pos_right (a1d hna.lim) hp2) (Nat.mul_le_mul_left _ h2n)
 have hU3 : (limbs (val la * 2 ^ n)).length ≤ la.length + 1 := a0l hU2
 refine Safe.rg rfl ?_
 simp only [c5N, E3, seval]
 refine a0m.mono (d3h la n hna (by omega) hA0 hn32 (hap H [])) ?_
 rintro r' H' ⟨rfl, rfl⟩
 generalize hK : (limbs (val la * 2 ^ n)).length = K at *
 have hrow : (fl (la.length + 1) (dig (val la * 2 ^ n))).take K ++ [0, 0] = fl (K + 2) (dig (val la * 2 ^ n)) := by
  have hh : val la * 2 ^ n < LB ^ K := by have := a1d (a0b (val la * 2 ^ n)); rwa [a0a, hK] at this
  have hh2 : val la * 2 ^ n < LB ^ (K + 1) := Nat.lt_of_lt_of_le hh (Nat.pow_le_pow_right (by decide) (by omega))
  rw [d7T _ hU3, d2j, d2j, b2O hh, b2O hh2, List.append_assoc]; rfl
 have happ := fun (env : Env) => e7s (H := H) hH (n0 := H.length) (env := env) (L := []) (len := K) (c := la.length + 1) (X := fl (la.length + 1) (dig (val la * 2 ^ n))) (l := [0, 0]) (o := none) (a1M H 0) (by rw [a0M]; exact hU3) (by simp; omega) (by rw [a0M]; simp; omega)
 have w2 : IntKind.wrap .i64 ((la.length : Int) + 1) = ((la.length + 1 : Nat) : Int) := by rw [a0c] <;> omega
 have hslc : slcV (hap H [some ⟨1, u32s (fl (K + 2) (dig (val la * 2 ^ n)))⟩]) 1 (.mu (lid H 0) 0 (K + 2) none) none (some (.int .i64 ((la.length + 1 : Nat) : Int))) none = some (.mu (lid H 0) 0 (la.length + 1) none) := by
  simp only [slcV, a0I, List.getElem?_cons_zero, Option.join_some, Option.bind_some, a3V]
  rw [if_pos ⟨trivial, by omega, by omega, by omega⟩]
  simp
 simp only [c4B, e5j, Int.natCast_zero, List.length_cons, List.length_nil, hrow] at happ
 simp only [e3G, e3r, List.nil_append, List.length_nil, hia, E3, seval]
 simp only [happ, w2, hslc, E3, seval]
 have hle : lb.length ≤ la.length := by
  rcases Nat.lt_or_ge la.length lb.length with h | h
  ·exfalso
   have h2 := a1d hna.lim
   have h3 : LB ^ la.length ≤ LB ^ (lb.length - 1) := Nat.pow_le_pow_right (by decide) (by omega)
   omega
  ·exact h
 have w3 : IntKind.wrap .i64 ((la.length : Int) - (lb.length : Int)) = ((la.length - lb.length : Nat) : Int) := by rw [a0c] <;> omega
 generalize hm : la.length - lb.length = m at *
 have w4 : IntKind.wrap .i64 ((m : Int) + 1) = ((m + 1 : Nat) : Int) := by rw [a0c] <;> omega
 refine Safe.rg rfl ?_
 simp only [c5M, w3, w4, b9D (H := H) (L := [some ⟨1, u32s (fl (K + 2) (dig (val la * 2 ^ n)))⟩]) (n := m + 1) (by omega), E3, seval]
 refine Safe.rg rfl ?_
 simp only [c5L, w3, E3, seval]
 have hUV : val la * 2 ^ n < val lb * 2 ^ n * LB ^ (m + 1) := by
  rw [Nat.mul_right_comm]
  refine Nat.mul_lt_mul_of_pos_right ?_ hp2
  have h1 := a1d hna.lim
  have h2 : LB ^ (lb.length - 1) * LB ^ (m + 1) ≤ val lb * LB ^ (m + 1) := Nat.mul_le_mul_right _ hBl
  rw [← Nat.pow_add, show lb.length - 1 + (m + 1) = la.length by omega] at h2
  omega
 generalize hU : val la * 2 ^ n = U at *
 generalize hV : val lb * 2 ^ n = V at *
 have hvt : 0 < (limbs V).getD (lb.length - 1) 0 := by
  have := b7Q (a5z V) (by omega)
  rwa [hnv] at this
 refine Safe.lp rfl ?_
 refine Safe.keep [0, 1, 9, 10, 11, 12, 13] ?_
 simp only [E3, seval]
 refine Safe.loopD (m + 1) (fun i => [(0, natV la), (1, natV lb), (9, .int .i64 n), (10, natV (limbs V)), (11, .mu (lid H 0) 0 (la.length + 1) none), (12, .mu (lid H 1) 0 (m + 1) (some (m + 1))), (13, .int .i64 ((i : Int) - 1))])
  (fun i => hap H [some ⟨1, u32s (fl (K + 2) (dig (U % (V * LB ^ i))))⟩, some ⟨1, u32s (fl (m + 1) fun j => if i ≤ j then dig (U / V) j else 0)⟩]) ?_ ?_ (fun i hi ih => ?_) ?_
 ·have : (((m + 1 : Nat) : Int) - 1) = (m : Int) := by omega
  rw [this]
 ·rw [b8F, Nat.mod_eq_of_lt hUV]
 ·have e1 : ((i + 1 : Nat) : Int) - 1 = (i : Int) := by omega
  rw [e1]
  obtain ⟨s1, s2, s3, s4⟩ := e2z (U := U) (V := V) (i := i) (nv := lb.length) hVl hVp
  refine Safe.inLoop ?_
  refine Safe.rg rfl ?_
  simp only [b5i, Int.natCast_nonneg i, E3, seval]
  refine Safe.cd rfl ?_
  simp only [E3, seval]
  have w5 : IntKind.wrap .i64 ((i : Int) + (lb.length : Int)) = ((i + lb.length : Nat) : Int) := by rw [a0c] <;> omega
  have w6 : IntKind.wrap .i64 (((i + lb.length : Nat) : Int) + 1) = ((i + lb.length + 1 : Nat) : Int) := by rw [a0c] <;> omega
  refine Safe.rg rfl ?_
  simp only [c5K, hnv, w5, w6, e5q (H := H) (i := 0) (L := [some ⟨1, u32s (fl (K + 2) (dig (U % (V * LB ^ (i + 1)))))⟩, some ⟨1, u32s (fl (m + 1) fun j => if i + 1 ≤ j then dig (U / V) j else 0)⟩]) rfl rfl none .i64 .i64 (show i + lb.length + 1 = i + (lb.length + 1) by omega) (show i + lb.length + 1 ≤ la.length + 1 by omega), E3, seval]
  have hcall := d8f (H := hap H [some ⟨1, u32s (fl (K + 2) (dig (U % (V * LB ^ (i + 1)))))⟩, some ⟨1, u32s (fl (m + 1) fun j => if i + 1 ≤ j then dig (U / V) j else 0)⟩]) (id := lid H 0) (off := i) (N := K + 2) (n := lb.length) (oc := none) (v := limbs V) (f := dig (U % (V * LB ^ (i + 1))))
   (e3H rfl) (a0b V) hnv hb1 hvt (by omega) (by omega) (fun j _ => b8H _ _) s3 (by rw [a0a]; exact s4)
  refine a0m.mono hcall ?_
  rintro r' H' ⟨rfl, rfl⟩
  rw [a0a, s2, a2Z fun j _ => s1 j]
  simp only [a2P, List.set_cons_zero, f2r (show i < m + 1 by omega), fst1 (show i < m + 1 by omega), b8G, E3, seval]
  refine Safe.inBlock ?_
  refine Safe.rg rfl ?_
  simp only [c5J, a0c (n := (i : Int) - 1) (by omega) (by omega), E3, seval]
  refine Safe.keep [0, 1, 9, 10, 11, 12, 13] ?_
  simp only [E3, seval]
  exact ih
 ·refine Safe.inLoop ?_
  refine Safe.rg rfl ?_
  simp only [b5i, show (0 ≤ ((0 : Nat) : Int) - 1) = False by simp, E3, seval]
  refine Safe.cd rfl ?_
  simp only [E3, seval]
  have hR0 : U % (V * LB ^ 0) = U % V := by rw [Nat.pow_zero, Nat.mul_one]
  rw [hR0]
  refine Safe.freeze 0 hH rfl rfl (a0F _) ?_
  refine Safe.keep [9, 11, 12] ?_
  simp only [d9a (H := H) (i := 0) none (show la.length + 1 ≤ (fl (K + 2) (dig (U % V))).length by rw [a0M]; omega), a1m, E3, seval]
  refine Safe.freeze 1 hH rfl rfl (a0F _) ?_
  refine Safe.keep [9, 11, 12] ?_
  simp only [d5x, E3, seval]
  rw [c3X, d7T _ (show la.length + 1 ≤ K + 2 by omega)]
  have hUm : U % V < LB ^ (la.length + 1) := Nat.lt_of_le_of_lt (Nat.mod_le _ _) hU2
  have hUd : U / V < LB ^ (m + 1) := by rw [Nat.div_lt_iff_lt_mul hVp, Nat.mul_comm]; exact hUV
  refine Safe.rg rfl ?_
  simp only [c5I, E3, seval]
  first | refine (a0p _ (a1y (U / V) (m + 1)) (by rw [a0M]; omega)).acall ?_ | refine (a0p _ (a1y (U / V) (m + 1)) (by rw [a0M]; omega)).dcall ?_ | refine (a0p _ (a1y (U / V) (m + 1)) (by rw [a0M]; omega)).dgcall ?_
  try simp only [E3, seval]
  first | refine (a0p _ (a1y (U % V) (la.length + 1)) (by rw [a0M]; omega)).acall ?_ | refine (a0p _ (a1y (U % V) (la.length + 1)) (by rw [a0M]; omega)).dcall ?_ | refine (a0p _ (a1y (U % V) (la.length + 1)) (by rw [a0M]; omega)).dgcall ?_
  try simp only [E3, seval]
  rw [a1N hUm, a1N hUd]
  first | refine (d1f (limbs (U % V)) n ⟨a0b _, Nat.le_trans (a0l hUm) (by omega)⟩ hn32).acall ?_ | refine (d1f (limbs (U % V)) n ⟨a0b _, Nat.le_trans (a0l hUm) (by omega)⟩ hn32).dcall ?_ | refine (d1f (limbs (U % V)) n ⟨a0b _, Nat.le_trans (a0l hUm) (by omega)⟩ hn32).dgcall ?_
  try simp only [E3, seval]
  refine Safe.rt rfl ?_
  simp only [E3, seval]
  rw [a0a, ← hU, ← hV, Nat.mul_mod_mul_right, Nat.mul_div_cancel _ hp2, Nat.mul_div_mul_right _ _ hp2]
  exact ⟨Le.refl _, _, rfl⟩
end Go.Abs
namespace Go.Abs
theorem e8G {n m : Bool} {A B : Nat} {q : Int} (hB : B ≠ 0) (h : sgn n A = sgn m B * q) : A % B = 0 ∧ sgn (!(n == m)) (A / B) = q := by
 have hA : A = B * q.natAbs := by
  have := congrArg Int.natAbs h
  rwa [b4Q, Int.natAbs_mul, b4Q] at this
 refine ⟨by rw [hA]; exact Nat.mul_mod_right _ _, ?_⟩
 have hne : sgn m B ≠ 0 := by cases m <;> simp [sgn] <;> omega
 refine Int.eq_of_mul_eq_mul_left hne ?_
 rw [← h, d6D]
 have hC : B * (A / B) = A := by rw [hA, Nat.mul_div_cancel_left _ (Nat.pos_of_ne_zero hB)]
 rw [hC]
 cases n <;> cases m <;> rfl
theorem a6w (x y : ZI) (k : Nat) (hx : Zok k x) (hy : Zok k y) (hk : k < 17592186044000) (q : Int) (hy0 : y.z ≠ 0) (hq : x.z = y.z * q) : a0d Pr a1Z [x.av, y.av] (.tup [Z q, Z 0, .int .i64 0]) := by
 obtain ⟨n, a⟩ := x
 obtain ⟨m, b⟩ := y
 have hal := hx.len
 have hbl := hy.len
 simp only at hal hbl
 have ha : Nt a := ⟨hx.lim, by omega⟩
 have hb : Nt b := ⟨hy.lim, by omega⟩
 simp only [ZI.av, ZI.z] at *
 have hb0 : val b ≠ 0 := by
  intro h; rw [h, c3K] at hy0; exact hy0 rfl
 obtain ⟨hr, hqq⟩ := e8G hb0 hq
 have hnt : ∀ v, v ≤ val a → Nt (limbs v) := fun v hv => ⟨a0b _, Nat.le_trans (a0l (Nat.lt_of_le_of_lt hv (a1d ha.lim))) ha.len⟩
 refine a0d.intro d0M d0L (Nat.le_of_ble_eq_true rfl) (c7H (Z_cl _) (Z_cl _) (.int _ _)) fun H hH => ?_
 refine Safe.rg rfl ?_
 simp only [b5L, E3, seval]
 refine Safe.rg rfl ?_
 simp only [b5K, E3, seval]
 first | refine (a4e a b ha hb (by omega) (by omega) hb0).acall ?_ | refine (a4e a b ha hb (by omega) (by omega) hb0).dcall ?_ | refine (a4e a b ha hb (by omega) (by omega) hb0).dgcall ?_
 try simp only [E3, seval]
 refine Safe.rg rfl ?_
 simp only [b5J, E3, seval]
 refine Safe.cd rfl ?_
 simp only [E3, seval]
 refine Safe.rx rfl (by simp only [c4M, d1g, d4V, E3, seval]) ?_
 simp only [b5I, b3a, b2Z, E3, seval]
 refine (a1x (!(n == m)) _ (hnt _ (Nat.div_le_self _ _))).dcall ?_
 rw [a0a, hqq]
 simp only [E3, seval]
 refine (a1x n _ (hnt _ (Nat.mod_le _ _))).dcall ?_
 rw [a0a, hr, c3K]
 simp only [E3, seval]
 refine ⟨?_, ?_⟩
 all_goals
  refine Safe.rg rfl ?_
  simp only [b5H, E3, seval]
  refine (a3h (canZ 0) (a0q (k := 1) (by decide) |>.mono (by omega))).dcall ?_
  rw [a0x]
  simp only [Int.sign_zero, E3, seval]
  refine Safe.cd rfl ?_
  simp only [E3, seval]
  refine Safe.rx rfl (by simp only [c4M, d1g, d4V, E3, seval]) ?_
  simp only [b5G, b2Y, b2X, E3, seval]
  refine Safe.rt rfl ?_
  simp only [E3, seval]
  exact ⟨rfl, _, rfl⟩
end Go.Abs
namespace Go.Abs
theorem c8N {x : Nat} (h : x < LB) : IntKind.wrap .u64 ((x : Int) * 4294967296) = ((x * LB : Nat) : Int) := b8X (x := x) (y := LB) (by
 have : LB = 4294967296 := rfl
 have : x * LB ≤ 4294967295 * LB := Nat.mul_le_mul_right _ (by omega)
 omega)
theorem b9d (a : List Nat) (d : Nat) (ha : Nt a) (hd : 0 < d) (hd2 : d < LB) : a0d Pr a9N [natV a, .int .u64 d] (.tup [natV (limbs (val a / d)), .int .u64 (val a % d : Nat)]) := by
 have hLB : LB = 4294967296 := rfl
 have hlen := ha.len
 have hv := a1d ha.lim
 refine a0d.intro c8i c8g (Nat.le_of_ble_eq_true rfl) (a2S (a0V _) (.int _ _)) fun H hH => ?_
 refine Safe.rg rfl ?_
 simp only [b3F, E3, seval]
 refine Safe.rg rfl ?_
 simp only [b3E, b9D (H := H) (L := []) (n := a.length) (by omega), E3, seval]
 refine Safe.rg rfl ?_
 simp only [b3D, E3, seval]
 refine Safe.rg rfl ?_
 simp only [b3C, a0c (n := (a.length : Int) - 1) (by omega) (by omega), E3, seval]
 refine Safe.lp rfl ?_
 refine Safe.keep [0, 1, 6, 7, 8] ?_
 simp only [E3, seval]
 refine Safe.loopD a.length (fun i => [(0, natV a), (1, .int .u64 d), (6, .mu (lid H 0) 0 a.length (some a.length)), (7, .int .u64 (val a / LB ^ i % d : Nat)), (8, .int .i64 ((i : Int) - 1))])
  (fun i => hap H [some ⟨1, u32s (fl a.length fun j => if i ≤ j then dig (val a / d) j else 0)⟩]) ?_ ?_ (fun i hi ih => ?_) ?_
 ·rw [Nat.div_eq_of_lt hv]; rfl
 ·rw [b8F]
 ·have e1 : ((i + 1 : Nat) : Int) - 1 = (i : Int) := by omega
  rw [e1]
  refine Safe.inLoop ?_
  refine Safe.rg rfl ?_
  simp only [a7i, Int.natCast_nonneg i, E3, seval]
  refine Safe.cd rfl ?_
  simp only [E3, seval]
  have hr : val a / LB ^ (i + 1) % d < LB := Nat.lt_trans (Nat.mod_lt _ hd) hd2
  have hai : a.getD i 0 < LB := a0L ha.lim i
  have hb : val a / LB ^ (i + 1) % d * LB + a.getD i 0 < 18446744073709551616 := by
   have : val a / LB ^ (i + 1) % d * LB ≤ 4294967295 * LB := Nat.mul_le_mul_right _ (by omega)
   omega
  have hmul := c8N hr
  refine Safe.rg rfl ?_
  simp only [b3B, a0E _ a _ i hi, hmul, a2r (x := a.getD i 0) (by omega), a5x hb, E3, seval]
  rw [← d2s ha.lim i] at hb ⊢
  have hs := c4H (val a) d i
  have hq := c4I (val a) d i
  refine Safe.rg rfl ?_
  simp only [b3A, d1I hd hb, hq, a9X (b8H _ _), e1p hi, fst0 hi, E3, seval]
  refine Safe.rg rfl ?_
  simp only [b3z, e2B hd, hs, E3, seval]
  refine Safe.rg rfl ?_
  simp only [b3y, a0c (n := (i : Int) - 1) (by omega) (by omega), E3, seval]
  refine Safe.keep [0, 1, 6, 7, 8] ?_
  simp only [E3, seval]
  rw [b8G]
  exact ih
 ·refine Safe.inLoop ?_
  refine Safe.rg rfl ?_
  simp only [a7i, show (0 ≤ ((0 : Nat) : Int) - 1) = False by simp, E3, seval]
  refine Safe.cd rfl ?_
  simp only [E3, seval]
  refine Safe.freeze 0 hH rfl rfl (a0F _) ?_
  refine Safe.keep [6, 7] ?_
  simp only [d5x, E3, seval]
  rw [c3X]
  have hr : val a % d < LB := Nat.lt_trans (Nat.mod_lt _ hd) hd2
  refine Safe.rg rfl ?_
  simp only [b3x, E3, seval]
  first | refine (a0n _ ⟨a1y _ _, by rw [a0M]; exact hlen⟩).acall ?_ | refine (a0n _ ⟨a1y _ _, by rw [a0M]; exact hlen⟩).dcall ?_ | refine (a0n _ ⟨a1y _ _, by rw [a0M]; exact hlen⟩).dgcall ?_
  try simp only [E3, seval]
  simp only [a1N (b2N hv (d := d)), Nat.pow_zero, Nat.div_one, E3, seval]
  refine Safe.rt rfl ?_
  simp only [E3, seval]
  first | exact ⟨rfl, _, rfl⟩ | exact ⟨_, rfl⟩ | exact ⟨trivial, _, rfl⟩
theorem d0X (n : Nat) (hn : n < 32) : a0d Pr b5z [.int .i64 n] (natV [2 ^ n]) := by
 have hLB : LB = 4294967296 := rfl
 have h2n : 2 ^ n < LB := by
  have : 2 ^ n ≤ 2 ^ 31 := Nat.pow_le_pow_right (by decide) (by omega)
  have : (2 : Nat) ^ 31 < LB := by decide
  omega
 refine a0d.intro d4f d4d (Nat.le_of_ble_eq_true rfl) (a0V _) fun H hH => ?_
 have hq : binV .quo (.int .i64 (n : Int)) (.int .i64 32) = some (.int .i64 0) := by
  have := e5A (x := n) (y := 32) (by decide) (by omega)
  rw [Nat.div_eq_of_lt hn] at this; exact this
 have hr : binV .rem (.int .i64 (n : Int)) (.int .i64 32) = some (.int .i64 (n : Int)) := by
  have := e5y (x := n) (y := 32) (by decide)
  rw [Nat.mod_eq_of_lt hn] at this; exact this
 refine Safe.rg rfl ?_
 simp only [c1t, E3, seval]
 refine Safe.rg rfl ?_
 simp only [c1s, E3, seval]
 refine Safe.rg rfl ?_
 simp only [c1r, E3, seval]
 refine Safe.lp rfl ?_
 refine Safe.inLoop ?_
 refine Safe.rg rfl ?_
 simp only [c1q, hq, Int.lt_irrefl, E3, seval]
 refine Safe.cd rfl ?_
 simp only [E3, seval]
 have hs : b0I .shl .u32 1 (n : Int) = some (.int .u32 ((2 ^ n : Nat) : Int)) := by
  rw [d3i _ _ _ (by omega)]
  have hm : min (Int.toNat (n : Int)) IntKind.u32.bits = n := by
   show min n 32 = n
   omega
  rw [hm]
  have : (1 : Int) * 2 ^ n = ((2 ^ n : Nat) : Int) := by simp
  rw [this, a9X h2n]
 refine Safe.rg rfl ?_
 simp only [c1p, hr, a2r (x := n) (by omega), hs, c3N, c7L _ _ H [] [2 ^ n] (by simp), E3, seval]
 refine Safe.freeze 0 hH rfl rfl (a0F _) ?_
 refine Safe.keep [2] ?_
 simp only [show frz (lid H 0) ⟨1, u32s [2 ^ n]⟩ (.mu (lid H 0) 0 1 none) = natV [2 ^ n] from a7Z H 0 [2 ^ n] none, E3, seval]
 refine Safe.rt rfl ?_
 simp only [E3, seval]
 first | exact ⟨rfl, _, rfl⟩ | exact ⟨_, rfl⟩ | exact ⟨trivial, _, rfl⟩
theorem c4P (a : List Nat) (n : Nat) (ha : Nt a) (hn : n < 32) : a0d Pr b5A [natV a, .int .i64 n] (.tup [natV (limbs (val a / 2 ^ n)), .int .i64 0]) := by
 have hLB : LB = 4294967296 := rfl
 have hal := ha.len
 have hq : binV .quo (.int .i64 (n : Int)) (.int .i64 32) = some (.int .i64 0) := by
  have := e5A (x := n) (y := 32) (by decide) (by omega)
  rw [Nat.div_eq_of_lt hn] at this; exact this
 have hr : binV .rem (.int .i64 (n : Int)) (.int .i64 32) = some (.int .i64 (n : Int)) := by
  have := e5y (x := n) (y := 32) (by decide)
  rw [Nat.mod_eq_of_lt hn] at this; exact this
 refine a0d.introL d4m d4k (Nat.le_of_ble_eq_true rfl) (a2S (a0V _) (.int _ _)) fun H hH => ?_
 refine Safe.rg rfl ?_
 simp only [c1E, E3, seval]
 refine Safe.rg rfl ?_
 simp only [c1D, show ((n : Int) < 0) = False from eq_false (by omega), E3, seval]
 refine Safe.cd rfl ?_
 simp only [E3, seval]
 refine Safe.rg rfl ?_
 simp only [c1C, E3, seval]
 refine (a1X a ha).acall ?_
 by_cases hb : blen (val a) ≤ n
 ·have hc : (((blen (val a) : Nat) : Int) ≤ (n : Int)) = True := eq_true (by omega)
  simp only [hc, E3, seval]
  refine Safe.cd rfl ?_
  simp only [E3, seval]
  refine Safe.rg rfl ?_
  simp only [c1B, E3, seval]
  refine Safe.rt rfl ?_
  simp only [E3, seval]
  have h0 : val a / 2 ^ n = 0 := by
   rw [Nat.div_eq_of_lt]
   have := d2B (val a)
   have h2 : 2 ^ blen (val a) ≤ 2 ^ n := Nat.pow_le_pow_right (by decide) hb
   omega
  rw [h0, a0J]
  exact ⟨Le.tup2 (Le.nil 1 (by decide)) (Le.refl _), _, rfl⟩
 have hc : (((blen (val a) : Nat) : Int) ≤ (n : Int)) = False := eq_false (by omega)
 simp only [hc, E3, seval]
 refine Safe.cd rfl ?_
 simp only [E3, seval]
 refine Safe.rg rfl ?_
 simp only [c1A, E3, seval]
 refine Safe.nilrow 6 1 (by decide) (by simp only [E3, seval]) ?_
 refine Safe.rg rfl ?_
 simp only [c1z, hq, E3, seval]
 refine Safe.lp rfl ?_
 refine Safe.keep [0, 1, 6, 7] ?_
 simp only [E3, seval]
 refine Safe.loopN a.length (fun i => [(0, natV a), (1, .int .i64 n), (6, .mu (lid H 0) 0 (fl i (dig (val a / 2 ^ n))).length none), (7, .int .i64 i)]) (fun i => hap H [some ⟨1, u32s (fl i (dig (val a / 2 ^ n)))⟩]) rfl rfl (fun i hi ih => ?_) ?_
 ·have hlt : ((i : Int) < (a.length : Int)) = True := eq_true (by omega)
  have hai := a0L ha.lim i
  have hai1 := a0L ha.lim (i + 1)
  have w4 : IntKind.wrap .i64 ((i : Int) + 1) = ((i + 1 : Nat) : Int) := by rw [a0c] <;> omega
  refine Safe.inLoop ?_
  refine Safe.rg rfl ?_
  simp only [b0Z, hlt, E3, seval]
  refine Safe.cd rfl ?_
  simp only [E3, seval]
  have hmx : a.getD (i + 1) 0 * LB ≤ 4294967295 * LB := Nat.mul_le_mul_right _ (by omega)
  have hmul : IntKind.wrap .u64 (((a.getD (i + 1) 0 : Nat) : Int) * 4294967296) = ((a.getD (i + 1) 0 * LB : Nat) : Int) := b8X (x := a.getD (i + 1) 0) (y := LB) (by omega)
  have hadd : IntKind.wrap .u64 (((a.getD i 0 : Nat) : Int) + ((a.getD (i + 1) 0 * LB : Nat) : Int)) = ((a.getD (i + 1) 0 * LB + a.getD i 0 : Nat) : Int) := by
   rw [a5x (by omega), Nat.add_comm]
  refine Safe.rg rfl ?_
  simp only [c1y, E3, seval]
  first | refine (a0P a i ha.lim hal).acall ?_ | refine (a0P a i ha.lim hal).dcall ?_ | refine (a0P a i ha.lim hal).dgcall ?_
  try simp only [E3, seval]
  simp only [w4, E3, seval]
  first | refine (a0P a (i + 1) ha.lim hal).acall ?_ | refine (a0P a (i + 1) ha.lim hal).dcall ?_ | refine (a0P a (i + 1) ha.lim hal).dgcall ?_
  try simp only [E3, seval]
  simp only [hmul, hadd, E3, seval]
  have hstep := d8A ha.lim i hn
  have hrem := e2C ((a.getD (i + 1) 0 * LB + a.getD i 0) / 2 ^ n)
  rw [hstep] at hrem
  refine Safe.rg rfl ?_
  simp only [c1x, hr, a2r (x := n) (by omega), e8D (show n ≤ 64 by omega), hrem, a9X (b8H (val a / 2 ^ n) i), c5e H hH _ (a1M H 0) _ (fl i (dig (val a / 2 ^ n))) (dig (val a / 2 ^ n) i) (by rw [a0M]; omega), E3, seval]
  refine Safe.rg rfl ?_
  simp only [b6T, w4, E3, seval]
  refine Safe.keep [0, 1, 6, 7] ?_
  simp only [E3, seval]
  rw [← d2j]
  have e : (fl i (dig (val a / 2 ^ n))).length + 1 = (fl (i + 1) (dig (val a / 2 ^ n))).length := by rw [a0M, a0M]
  rw [e]
  exact ih
 ·refine Safe.inLoop ?_
  refine Safe.rg rfl ?_
  simp only [b0Z, Int.lt_irrefl, E3, seval]
  refine Safe.cd rfl ?_
  simp only [E3, seval]
  refine Safe.freeze 0 hH rfl rfl (a0F _) ?_
  refine Safe.keep [6] ?_
  simp only [E3, seval]
  refine Safe.rg rfl ?_
  simp only [b6S, E3, seval]
  first | refine (a0n _ ⟨a1y _ _, by rw [a0M]; exact hal⟩).acall ?_ | refine (a0n _ ⟨a1y _ _, by rw [a0M]; exact hal⟩).dcall ?_ | refine (a0n _ ⟨a1y _ _, by rw [a0M]; exact hal⟩).dgcall ?_
  try simp only [E3, seval]
  simp only [a1N (b2N (a1d ha.lim) (d := 2 ^ n)), E3, seval]
  refine Safe.rt rfl ?_
  simp only [E3, seval]
  exact ⟨Le.refl _, _, rfl⟩
end Go.Abs
namespace Go.Abs
theorem f0y {H : Heap} (hH : a0C H) {n0 : Nat} {env : Env} {L : Heap} {i d c : Nat} {l : List Nat} (hn : n0 ≤ lid H i) (hl : L[i]? = some (some ⟨1, [.int .u32 (d : Int)]⟩)) (hL : e5b H L i) (hc : 0 < l.length → c < 1 + l.length) (hb : l.length ≤ 17592186044416) :
  appV n0 1 4 false (.mu (lid H i) 0 1 (some c)) (natV l) env (hap H L) = some (.mu (lid H i) 0 (1 + l.length) (a1c (some c) (1 + l.length)), scrub (lid H i) env, hap H (L.set i (some ⟨1, u32s (d :: l)⟩))) := by
 have hf : free (hap H L) (lid H i) = true := d2i hH hL
 simp only [appV, b7H, Option.bind_some, a0I, hl, Option.join_some, a2P]
 rw [if_neg, if_pos]
 ·simp [a0D, c4B]
 ·simp only [a0D, true_and]
  refine ⟨Nat.le_refl _, hn, hf, ?_, ?_, by omega, by omega⟩
  ·exact List.all_eq_true.2 fun a ha => a0y (a8n ha)
  ·simp [AV.cells, a3M]
 ·simp only [a0D, Option.any_some]
  rintro ⟨_, _, _, _, h1, h2⟩
  have := hc h1
  simp at h2
  omega
theorem e5g (d : Nat) (l : List Nat) : val (d :: l) = d + LB * val l := rfl
theorem c7T (d n : Nat) : val (d :: limbs n) = n * LB + d := by
 rw [e5g, a0a, Nat.mul_comm, Nat.add_comm]
theorem e9h {d : Nat} {l : List Nat} {n : Nat} (hd : d < LB) (hl : Lim l) (h : l.length ≤ n) (hn : n < 17592186044000) : Nt (d :: l) :=
 ⟨d1X.2 ⟨hd, hl⟩, by rw [List.length_cons]; omega⟩
theorem e1o (H : Heap) (i d : Nat) (l : List Nat) (oc : Option Nat) : [AV.mu (lid H i) 0 (1 + l.length) oc].map (frz (lid H i) ⟨1, u32s (d :: l)⟩) = [natV (d :: l)] := by
 rw [Nat.add_comm]
 exact congrArg (fun x => [x]) (a7Z H i (d :: l) oc)
theorem e4p (a b : Nat) : (cmpI a b > 0) = (b < a) := by
 unfold cmpI; split
 ·simp; omega
 ·split <;> simp <;> omega
theorem b9T (S i : Nat) : (limbs S).getD i 0 = dig S i := by
 rw [← d2s (a0b S), a0a]
theorem a2f (a b : List Nat) (ha : Nt a) (hb : Nt b) (hal : a.length < 17592186044000) (hbl : b.length < 17592186044000) (hb0 : val b ≠ 0) : a0d Pr a4m [natV a, natV b] (.tup [natV (limbs (val a / val b)), natV (limbs (val a % val b)), .int .i64 0]) := by
 have hLB : LB = 4294967296 := rfl
 have hnb := hb.limbs
 have hlbl : (limbs (val b)).length < 17592186044000 := Nat.lt_of_le_of_lt (a0X hb.lim) hbl
 have hvb := a0a (val b)
 have hlastb := a5z (val b)
 have hib := b9J (val b)
 refine a0d.intro d4v d4u (Nat.le_of_ble_eq_true rfl) (c7H (a0V _) (a0V _) (.int _ _)) fun H hH => ?_
 refine Safe.rg rfl ?_
 simp only [c2d, E3, seval]
 refine Safe.rg rfl ?_
 simp only [c2c, E3, seval]
 first | refine (a0n b hb).acall ?_ | refine (a0n b hb).dcall ?_ | refine (a0n b hb).dgcall ?_
 try simp only [E3, seval]
 generalize limbs (val b) = lb at *
 generalize val b = B at *
 subst hvb
 have hb1 : 0 < lb.length := by
  rcases Nat.eq_zero_or_pos lb.length with h | h
  ·exfalso; have := List.length_eq_zero_iff.1 h; subst this; exact hb0 rfl
  ·exact h
 have hB : 0 < val lb := Nat.pos_of_ne_zero hb0
 refine Safe.rg rfl ?_
 simp only [c2b, show (((lb.length : Nat) : Int) = 0) = False from eq_false (by omega), E3, seval]
 refine Safe.cd rfl ?_
 simp only [E3, seval]
 have htb := b7Q hlastb hb1
 have hdl := a0L hnb.lim (lb.length - 1)
 by_cases hone : lb.length = 1
 ·have h1 : (((lb.length : Nat) : Int) = 1) = True := eq_true (by omega)
  refine Safe.rg rfl ?_
  simp only [b1d, h1, E3, seval]
  refine Safe.cd rfl ?_
  simp only [E3, seval]
  have hvb1 : val lb = lb.getD 0 0 := by
   have := a2I lb 0
   rw [List.drop_zero, List.drop_eq_nil_of_le (by omega)] at this
   simpa [val] using this
  have i0 := a0E (hap H []) lb .i64 0 hb1
  rw [Int.natCast_zero] at i0
  have hd0 : 0 < lb.getD 0 0 := by rw [← hvb1]; exact hB
  have hd1 : lb.getD 0 0 < LB := a0L hnb.lim 0
  refine Safe.rg rfl ?_
  simp only [c2a, i0, a2r (x := lb.getD 0 0) (by omega), E3, seval]
  first | refine (b9d a (lb.getD 0 0) ha hd0 hd1).acall ?_ | refine (b9d a (lb.getD 0 0) ha hd0 hd1).dcall ?_ | refine (b9d a (lb.getD 0 0) ha hd0 hd1).dgcall ?_
  try simp only [E3, seval]
  have hrl : val a % lb.getD 0 0 < LB := Nat.lt_trans (Nat.mod_lt _ hd0) hd1
  refine Safe.rg rfl ?_
  simp only [c1Z, a9X hrl, c3N, E3, seval]
  first | refine (a0n [val a % lb.getD 0 0] ⟨by intro d hd; simp at hd; subst hd; exact hrl, by simp⟩).acall ?_ | refine (a0n [val a % lb.getD 0 0] ⟨by intro d hd; simp at hd; subst hd; exact hrl, by simp⟩).dcall ?_ | refine (a0n [val a % lb.getD 0 0] ⟨by intro d hd; simp at hd; subst hd; exact hrl, by simp⟩).dgcall ?_
  try simp only [E3, seval]
  refine Safe.rt rfl ?_
  simp only [hvb1, b7O, E3, seval]
  first | exact ⟨rfl, _, rfl⟩ | exact ⟨_, rfl⟩ | exact ⟨trivial, _, rfl⟩
 have h1 : (((lb.length : Nat) : Int) = 1) = False := eq_false (by omega)
 refine Safe.rg rfl ?_
 simp only [b1d, h1, E3, seval]
 refine Safe.cd rfl ?_
 simp only [E3, seval]
 obtain ⟨hVl, hBl⟩ := d1O hnb.lim hb1 htb
 have hblen : blen (val lb) = 32 * (lb.length - 1) + blen (lb.getD (lb.length - 1) 0) := by
  have hs : lb = lb.take (lb.length - 1) ++ [lb.getD (lb.length - 1) 0] := by
   rw [← a7N (by omega), show lb.length - 1 + 1 = lb.length by omega, List.take_length]
  have := c0e (hnb.lim.take (lb.length - 1)) (show lb.getD (lb.length - 1) 0 ≠ 0 by omega)
  rw [← hs, List.length_take, Nat.min_eq_left (by omega)] at this
  exact this
 have hb32 := d5T hdl
 have hbp : 0 < blen (lb.getD (lb.length - 1) 0) := by unfold blen; rw [if_neg (by omega)]; omega
 generalize hn : 32 - blen (lb.getD (lb.length - 1) 0) = n at *
 have hn32 : n < 32 := by omega
 have hp2 : 0 < 2 ^ n := Nat.pow_pos (by decide)
 have h2n : 2 ^ n < LB := by
  have : 2 ^ n ≤ 2 ^ 31 := Nat.pow_le_pow_right (by decide) (by omega)
  have : (2 : Nat) ^ 31 < LB := by decide
  omega
 have w1 : IntKind.wrap .i64 (32 * ((lb.length : Nat) : Int)) = ((32 * lb.length : Nat) : Int) := by rw [a0c] <;> omega
 have w2 : IntKind.wrap .i64 (((32 * lb.length : Nat) : Int) - ((blen (val lb) : Nat) : Int)) = (n : Int) := by rw [a0c] <;> omega
 refine Safe.rg rfl ?_
 simp only [c1Y, w1, E3, seval]
 first | refine (a1X lb hnb).acall ?_ | refine (a1X lb hnb).dcall ?_ | refine (a1X lb hnb).dgcall ?_
 try simp only [E3, seval]
 simp only [w2, E3, seval]
 first | refine (d0X n hn32).acall ?_ | refine (d0X n hn32).dcall ?_ | refine (d0X n hn32).dgcall ?_
 try simp only [E3, seval]
 have hn1 : Nt [2 ^ n] := ⟨by intro d hd; simp at hd; omega, by simp⟩
 refine Safe.rg rfl ?_
 simp only [c1X, E3, seval]
 first | refine (a1J a [2 ^ n] ha hn1 (by simp; omega)).acall ?_ | refine (a1J a [2 ^ n] ha hn1 (by simp; omega)).dcall ?_ | refine (a1J a [2 ^ n] ha hn1 (by simp; omega)).dgcall ?_
 try simp only [E3, seval]
 refine Safe.rg rfl ?_
 simp only [c1W, E3, seval]
 first | refine (a1J lb [2 ^ n] hnb hn1 (by simp; omega)).acall ?_ | refine (a1J lb [2 ^ n] hnb hn1 (by simp; omega)).dcall ?_ | refine (a1J lb [2 ^ n] hnb hn1 (by simp; omega)).dgcall ?_
 try simp only [E3, seval]
 simp only [b7O]
 have hU2 : val a * 2 ^ n < LB ^ (a.length + 1) := by
  rw [Nat.pow_succ]
  exact Nat.lt_of_lt_of_le (Nat.mul_lt_mul_of_pos_right (a1d ha.lim) hp2) (Nat.mul_le_mul_left _ (by omega))
 have hVp : 0 < val lb * 2 ^ n := Nat.mul_pos hB hp2
 have hnv1 : (limbs (val lb * 2 ^ n)).length ≤ lb.length := a0l hVl
 have hnv2 : lb.length ≤ (limbs (val lb * 2 ^ n)).length := by
  rcases Nat.lt_or_ge (limbs (val lb * 2 ^ n)).length lb.length with h | h
  ·exfalso
   have h2 := a1d (a0b (val lb * 2 ^ n))
   rw [a0a] at h2
   have h3 : LB ^ (limbs (val lb * 2 ^ n)).length ≤ LB ^ (lb.length - 1) := Nat.pow_le_pow_right (by decide) (by omega)
   have h4 : val lb * 1 ≤ val lb * 2 ^ n := Nat.mul_le_mul_left _ hp2
   omega
  ·exact h
 have hnv : (limbs (val lb * 2 ^ n)).length = lb.length := by omega
 have hUV1 : val a * 2 ^ n / (val lb * 2 ^ n) = val a / val lb := Nat.mul_div_mul_right _ _ hp2
 have hUV2 : val a * 2 ^ n % (val lb * 2 ^ n) / 2 ^ n = val a % val lb := by rw [Nat.mul_mod_mul_right, Nat.mul_div_cancel _ hp2]
 have hK1 : (limbs (val a * 2 ^ n)).length ≤ a.length + 1 := a0l hU2
 generalize hU : val a * 2 ^ n = U at *
 generalize hV : val lb * 2 ^ n = V at *
 have hvt : 0 < (limbs V).getD (lb.length - 1) 0 := by
  have := b7Q (a5z V) (by omega)
  rwa [hnv] at this
 have hUl : U < LB ^ (limbs U).length := by have := a1d (a0b U); rwa [a0a] at this
 generalize hK : (limbs U).length = K at *
 have hVl' : V < LB ^ lb.length := hVl
 refine Safe.rg rfl ?_
 simp only [b7m, hK, b9D (H := H) (L := []) (n := K) (by omega), E3, seval]
 refine Safe.rg rfl ?_
 simp only [b7l, E3, seval]
 refine Safe.nilsl 14 1 (by decide) (by simp only [E3, seval]) ?_
 refine Safe.rg rfl ?_
 simp only [b7k, hK, a0c (n := (K : Int) - 1) (by omega) (by omega), E3, seval]
 refine Safe.lp rfl ?_
 refine Safe.keep [7, 11, 12, 13, 14, 15] ?_
 simp only [E3, seval]
 refine Safe.loopD K (fun i => [(7, natV lb), (11, natV (limbs U)), (12, natV (limbs V)), (13, .mu (lid H 0) 0 K (some K)), (14, natV (limbs (U / LB ^ i % V))), (15, .int .i64 ((i : Int) - 1))])
  (fun i => hap H [some ⟨1, u32s (fl K fun j => if i ≤ j then dig (U / V) j else 0)⟩]) ?_ ?_ (fun i hi ih => ?_) ?_
 ·rw [Nat.div_eq_of_lt hUl, Nat.zero_mod, a0J]; rfl
 ·rw [b8F]
 ·have e1 : ((i + 1 : Nat) : Int) - 1 = (i : Int) := by omega
  rw [e1]
  refine Safe.inLoop ?_
  refine Safe.rg rfl ?_
  simp only [a8R, Int.natCast_nonneg i, E3, seval]
  refine Safe.cd rfl ?_
  simp only [E3, seval]
  have hmod := Nat.mod_lt (U / LB ^ (i + 1)) hVp
  have hSm := c4H U V i
  have hSd := c4I U V i
  have hiU : i < (limbs U).length := by omega
  have hdi := b8H U i
  have hdU : (limbs U).getD i 0 = dig U i := b9T U i
  have hml : (limbs (U / LB ^ (i + 1) % V)).length ≤ lb.length := a0l (Nat.lt_trans hmod hVl)
  generalize U / LB ^ (i + 1) % V = R0 at *
  generalize U / LB ^ i % V = R1 at *
  generalize dig U i = d at *
  have hstep := b8G (n := K) (i := i) (U / V)
  generalize dig (U / V) i = q at *
  generalize (fl K fun j => if i ≤ j then dig (U / V) j else 0) = Q1 at *
  generalize hQ0 : (fl K fun j => if i + 1 ≤ j then dig (U / V) j else 0) = Q0 at *
  have hapx := fun (env : Env) => f0y (H := H) hH (n0 := H.length) (env := env) (L := [some ⟨1, u32s Q0⟩, some ⟨1, [.int .u32 (d : Int)]⟩]) (i := 1) (d := d) (c := 1) (l := limbs R0) (a1M H 1) rfl
   (by
    intro j b hb a ha
    match j with
    | 0 => simp at hb; subst hb; exact (a8n ha).ref
    | 1 => simp at hb; subst hb; simp [Blk.flat, AV.cells] at ha; subst ha; exact .int _ _
    | j + 2 => simp at hb) (by omega) (by omega)
  refine Safe.rg rfl ?_
  simp only [b7j, a0E _ (limbs U) _ i hiU, hdU, E3, seval]
  rw [hapx]
  simp only [List.set_cons_succ, List.set_cons_zero, E3, seval]
  have hnt : Nt (d :: limbs R0) := e9h hdi (a0b _) hml hlbl
  have hnc := a0n (d :: limbs R0) hnt
  rw [c7T] at hnc
  refine a0d.consumeL (r := natV (limbs (R0 * LB + d))) hH 1 rfl (a0F _) (by rw [e1o]; exact hnc) ?_
  simp only [d5z, d9b, List.set_cons_succ, List.set_cons_zero, E3, seval]
  have hSl : R0 * LB + d < LB * V := by
   have : (R0 + 1) * LB ≤ V * LB := Nat.mul_le_mul_right _ hmod
   rw [Nat.add_mul, Nat.one_mul] at this
   rw [Nat.mul_comm LB V]; omega
  generalize R0 * LB + d = S at *
  refine Safe.keep [7, 11, 12, 13, 14, 15] ?_
  simp only [E3, seval]
  refine Safe.drop1 hH rfl (by simp only [List.all_cons, List.all_nil, E3, seval]) (by repeat (first | exact RC.nil | refine RC.none ?_ | refine RC.mo ?_ | refine RC.io ?_ | refine RC.row ZI.cl ?_ | refine RC.cons (a0F _) ?_ | refine RC.row a0g ?_ | refine RC.emp ?_ | refine RC.zero ?_ | refine RC.one (Z_cl _) ?_ | refine RC.one (ZI.cl _) ?_ | refine RC.one (a0g _) ?_)) ?_
  have hSn : S < LB ^ (lb.length + 1) := by
   have : LB * V ≤ LB * LB ^ lb.length := Nat.mul_le_mul_left _ (Nat.le_of_lt hVl)
   rw [Nat.pow_succ']; omega
  have hSlen : (limbs S).length ≤ lb.length + 1 := a0l hSn
  have hntS : Nt (limbs S) := ⟨a0b S, by omega⟩
  have hntV : Nt (limbs V) := ⟨a0b V, by omega⟩
  refine Safe.rg rfl ?_
  simp only [b7i, E3, seval]
  refine (a8x (limbs S) (limbs V) hntS hntV).acall ?_
  rw [a0a, a0a]
  have w3 : IntKind.wrap .i64 ((i : Int) - 1) = (i : Int) - 1 := a0c (n := (i : Int) - 1) (by omega) (by omega)
  by_cases hSV : S < V
  ·have hcm : (cmpI S V < 0) = True := by rw [c0b]; exact eq_true hSV
   simp only [hcm, E3, seval]
   refine Safe.cd rfl ?_
   simp only [E3, seval]
   refine Safe.rg rfl ?_
   simp only [a5f, w3, E3, seval]
   refine Safe.keep [7, 11, 12, 13, 14, 15] ?_
   simp only [E3, seval]
   have hS1 : R1 = S := by rw [← hSm, Nat.mod_eq_of_lt hSV]
   have hq0 : q = 0 := by rw [← hSd, Nat.div_eq_of_lt hSV]
   have hQ : Q0 = Q1 := by
    rw [← hQ0, ← hstep]
    refine a2Z fun j _ => ?_
    by_cases hj : j = i
    ·subst hj; rw [if_pos rfl, if_neg (by omega), hq0]
    ·rw [if_neg hj]
   rw [hQ, ← hS1]
   exact ih
  have hcm : (cmpI S V < 0) = False := by rw [c0b]; exact eq_false hSV
  simp only [hcm, E3, seval]
  refine Safe.cd rfl ?_
  simp only [E3, seval]
  have main : ∀ G, S / V ≤ G → G < LB → Safe ⟨Pr, fun _ k => k == 4, a4m, 132, [.tmp 4, .tmp 5, .tmp 6], H.length⟩
    [.code ((ACode.region a8P false).seq ((ACode.block 2 c2e.loop).seq ((ACode.region a8O false).seq (ACode.region a8N false)))),
     .inBlock 1, .code (.region a5f false), .inLoop c2f, .inBlock 0, .code ((ACode.region a8M false).seq ((ACode.region a8L false).seq .ret))]
    [(7, natV lb), (11, natV (limbs U)), (12, natV (limbs V)), (13, .mu (lid H 0) 0 K (some K)), (14, natV (limbs S)), (15, .int .i64 i), (16, .int .u64 G)]
    (hap H [some ⟨1, u32s Q0⟩]) fun r' H' => r' = .tup [natV (limbs (val a / val lb)), natV (limbs (val a % val lb)), .int .i64 0] ∧ ∃ L, H' = hap H L := by
   intro G hG1 hG2
   refine Safe.rg rfl ?_
   simp only [a8P, a9X hG2, c3N, E3, seval]
   have hnG : Nt [G] := ⟨by intro d hd; simp at hd; omega, by simp⟩
   first | refine (a1J (limbs V) [G] hntV hnG (by simp; omega)).acall ?_ | refine (a1J (limbs V) [G] hntV hnG (by simp; omega)).dcall ?_ | refine (a1J (limbs V) [G] hntV hnG (by simp; omega)).dgcall ?_
   try simp only [E3, seval]
   rw [a0a, b7O]
   refine Safe.lp rfl ?_
   refine Safe.keep [7, 11, 12, 13, 14, 15, 16, 17] ?_
   simp only [E3, seval]
   refine Safe.loopW (α := Nat) (fun g => g) (fun g => [(7, natV lb), (11, natV (limbs U)), (12, natV (limbs V)), (13, .mu (lid H 0) 0 K (some K)), (14, natV (limbs S)), (15, .int .i64 i), (16, .int .u64 g), (17, natV (limbs (V * g)))])
    (fun _ => hap H [some ⟨1, u32s Q0⟩]) (fun g => S / V ≤ g ∧ g < LB) G rfl rfl ⟨hG1, hG2⟩ fun g ⟨hg1, hg2⟩ ihg => ?_
   have hVg : V * g < LB ^ (lb.length + 1) := by
    have h1 : V * g ≤ V * LB := Nat.mul_le_mul_left _ (Nat.le_of_lt hg2)
    have h2 : V * LB < LB ^ lb.length * LB := Nat.mul_lt_mul_of_pos_right hVl (by decide)
    rw [Nat.pow_succ]; omega
   have hVgl : (limbs (V * g)).length ≤ lb.length + 1 := a0l hVg
   have hntg : Nt (limbs (V * g)) := ⟨a0b _, by omega⟩
   refine Safe.inLoop ?_
   refine Safe.rg rfl ?_
   simp only [b7f, E3, seval]
   refine (a8x (limbs (V * g)) (limbs S) hntg hntS).acall ?_
   rw [a0a, a0a]
   by_cases hlt : S < V * g
   ·have hcm : (cmpI (V * g) S > 0) = True := by rw [e4p]; exact eq_true hlt
    simp only [hcm, E3, seval]
    refine Safe.cd rfl ?_
    simp only [E3, seval]
    have hgq : S / V < g := by rw [Nat.div_lt_iff_lt_mul hVp, Nat.mul_comm]; exact hlt
    have w4 : IntKind.wrap .u64 ((g : Int) - 1) = ((g - 1 : Nat) : Int) := by rw [a0H] <;> omega
    have hVV : V ≤ V * g := Nat.le_mul_of_pos_right _ (by omega)
    refine Safe.rg rfl ?_
    simp only [b7e, w4, E3, seval]
    refine Safe.rg rfl ?_
    simp only [b7d, E3, seval]
    first | refine (a2w (limbs (V * g)) (limbs V) (a0b _) (a0b _) hntg.len hntV.len (by rw [a0a, a0a]; exact hVV)).acall ?_ | refine (a2w (limbs (V * g)) (limbs V) (a0b _) (a0b _) hntg.len hntV.len (by rw [a0a, a0a]; exact hVV)).dcall ?_ | refine (a2w (limbs (V * g)) (limbs V) (a0b _) (a0b _) hntg.len hntV.len (by rw [a0a, a0a]; exact hVV)).dgcall ?_
    try simp only [E3, seval]
    rw [a0a, a0a, show V * g - V = V * (g - 1) by rw [Nat.mul_sub, Nat.mul_one]]
    refine Safe.keep [7, 11, 12, 13, 14, 15, 16, 17] ?_
    simp only [E3, seval]
    refine Safe.inBlock ?_
    exact ihg (g - 1) ⟨by omega, by omega⟩ (by omega)
   ·have hcm : (cmpI (V * g) S > 0) = False := by rw [e4p]; exact eq_false hlt
    simp only [hcm, E3, seval]
    refine Safe.cd rfl ?_
    simp only [E3, seval]
    have hgq : g = q := by
     have : g ≤ S / V := by rw [Nat.le_div_iff_mul_le hVp, Nat.mul_comm]; omega
     omega
    subst hgq
    rw [← hQ0]
    refine Safe.rg rfl ?_
    simp only [a8O, a9X hg2, e1p hi, fst0 hi, E3, seval]
    have hSr : S - V * g = R1 := by
     rw [← hSm, ← hSd]
     have := Nat.div_add_mod S V
     omega
    refine Safe.rg rfl ?_
    simp only [a8N, E3, seval]
    first | refine (a2w (limbs S) (limbs (V * g)) (a0b _) (a0b _) hntS.len hntg.len (by rw [a0a, a0a]; omega)).acall ?_ | refine (a2w (limbs S) (limbs (V * g)) (a0b _) (a0b _) hntS.len hntg.len (by rw [a0a, a0a]; omega)).dcall ?_ | refine (a2w (limbs S) (limbs (V * g)) (a0b _) (a0b _) hntS.len hntg.len (by rw [a0a, a0a]; omega)).dgcall ?_
    try simp only [E3, seval]
    rw [a0a, a0a, hSr]
    refine Safe.rg rfl ?_
    simp only [a5f, w3, E3, seval]
    refine Safe.keep [7, 11, 12, 13, 14, 15] ?_
    simp only [E3, seval]
    rw [hstep]
    exact ih
  have hguess := d8Y (u := fl (lb.length + 1) (dig S)) (v := limbs V) (n := lb.length) (a1y _ _) (a0b V) (a0M _ _) hnv hb1 (by rw [a0a]; exact hVp) (by rw [a0a, a1N hSn]; exact hSl) hvt
  rw [a1N hSn, a0a, b8j (by omega), b8j (by omega)] at hguess
  have hg1 := Nat.le_trans hguess (Nat.min_le_left _ _)
  have hg2 : S / V ≤ 4294967295 := Nat.le_trans hguess (Nat.min_le_right _ _)
  clear hguess
  have hx1 := b8H S lb.length
  have hx2 := b8H S (lb.length - 1)
  have w5 : IntKind.wrap .i64 ((lb.length : Int) - 1) = ((lb.length - 1 : Nat) : Int) := by rw [a0c] <;> omega
  refine Safe.rg rfl ?_
  simp only [b7h, hnv, E3, seval]
  first | refine (a0P (limbs S) lb.length (a0b S) hntS.len).acall ?_ | refine (a0P (limbs S) lb.length (a0b S) hntS.len).dcall ?_ | refine (a0P (limbs S) lb.length (a0b S) hntS.len).dgcall ?_
  try simp only [E3, seval]
  rw [b9T]
  simp only [c8N hx1, hnv, w5, E3, seval]
  first | refine (a0P (limbs S) (lb.length - 1) (a0b S) hntS.len).acall ?_ | refine (a0P (limbs S) (lb.length - 1) (a0b S) hntS.len).dcall ?_ | refine (a0P (limbs S) (lb.length - 1) (a0b S) hntS.len).dgcall ?_
  try simp only [E3, seval]
  rw [b9T]
  generalize dig S lb.length = x at *
  generalize dig S (lb.length - 1) = y at *
  have hxy : x * LB + y < 18446744073709551616 := by
   have : x * LB ≤ 4294967295 * LB := Nat.mul_le_mul_right _ (by omega)
   omega
  simp only [a5x hxy, hnv, w5, E3, seval]
  first | refine (a0P (limbs V) (lb.length - 1) (a0b V) hntV.len).acall ?_ | refine (a0P (limbs V) (lb.length - 1) (a0b V) hntV.len).dcall ?_ | refine (a0P (limbs V) (lb.length - 1) (a0b V) hntV.len).dgcall ?_
  try simp only [E3, seval]
  generalize (limbs V).getD (lb.length - 1) 0 = z at *
  simp only [d1I hvt hxy, E3, seval]
  by_cases hge : LB ≤ (x * LB + y) / z
  ·have hc : ((((x * LB + y) / z : Nat) : Int) ≥ 4294967296) = True := eq_true (by omega)
   refine Safe.rg rfl ?_
   simp only [a8Q, hc, E3, seval]
   refine Safe.cd rfl ?_
   simp only [E3, seval]
   refine Safe.rg rfl ?_
   simp only [b7g, E3, seval]
   refine Safe.keep [7, 11, 12, 13, 14, 15, 16] ?_
   simp only [E3, seval]
   exact main 4294967295 hg2 (by decide)
  ·have hc : ((((x * LB + y) / z : Nat) : Int) ≥ 4294967296) = False := eq_false (by omega)
   refine Safe.rg rfl ?_
   simp only [a8Q, hc, E3, seval]
   refine Safe.cd rfl ?_
   simp only [E3, seval]
   refine Safe.keep [7, 11, 12, 13, 14, 15, 16] ?_
   simp only [E3, seval]
   refine Safe.skip ?_
   exact main _ hg1 (Nat.lt_of_not_le hge)
 ·refine Safe.inLoop ?_
  refine Safe.rg rfl ?_
  simp only [a8R, show (0 ≤ ((0 : Nat) : Int) - 1) = False by simp, E3, seval]
  refine Safe.cd rfl ?_
  simp only [E3, seval]
  rw [Nat.pow_zero, Nat.div_one]
  refine Safe.freeze 0 hH rfl rfl (a0F _) ?_
  refine Safe.keep [7, 13, 14] ?_
  simp only [d5x, E3, seval]
  rw [c3X]
  have hUm : U % V < LB ^ lb.length := Nat.lt_trans (Nat.mod_lt _ hVp) hVl
  refine Safe.rg rfl ?_
  simp only [a8M, w1, E3, seval]
  first | refine (a1X lb hnb).acall ?_ | refine (a1X lb hnb).dcall ?_ | refine (a1X lb hnb).dgcall ?_
  try simp only [E3, seval]
  simp only [w2, E3, seval]
  first | refine (c4P (limbs (U % V)) n ⟨a0b _, Nat.le_trans (a0l hUm) (by omega)⟩ hn32).acall ?_ | refine (c4P (limbs (U % V)) n ⟨a0b _, Nat.le_trans (a0l hUm) (by omega)⟩ hn32).dcall ?_ | refine (c4P (limbs (U % V)) n ⟨a0b _, Nat.le_trans (a0l hUm) (by omega)⟩ hn32).dgcall ?_
  try simp only [E3, seval]
  rw [a0a, hUV2]
  have hUd : U / V < LB ^ K := Nat.lt_of_le_of_lt (Nat.div_le_self _ _) hUl
  refine Safe.rg rfl ?_
  simp only [a8L, E3, seval]
  first | refine (a0n (fl K (dig (U / V))) ⟨a1y _ _, by rw [a0M]; omega⟩).acall ?_ | refine (a0n (fl K (dig (U / V))) ⟨a1y _ _, by rw [a0M]; omega⟩).dcall ?_ | refine (a0n (fl K (dig (U / V))) ⟨a1y _ _, by rw [a0M]; omega⟩).dgcall ?_
  try simp only [E3, seval]
  rw [a1N hUd, hUV1]
  refine Safe.rt rfl ?_
  simp only [E3, seval]
  first | exact ⟨rfl, _, rfl⟩ | exact ⟨_, rfl⟩ | exact ⟨trivial, _, rfl⟩
end Go.Abs
namespace Go.Abs
theorem b7P {n : Nat} : (((limbs n).length : Nat) : Int) > 0 ↔ n ≠ 0 := by
 have := b3Z n
 omega
theorem b4W (a b : List Nat) (ha : Nt a) (hb : Nt b) (hal : a.length < 17592186044000) (hbl : b.length < 17592186044000) : a0d Pr c7S [natV a, natV b] (natV (limbs (Nat.gcd (val a) (val b)))) := by
 have hva : (limbs (val a)).length < 17592186044000 := Nat.lt_of_le_of_lt (a0X ha.lim) hal
 have hvb : (limbs (val b)).length < 17592186044000 := Nat.lt_of_le_of_lt (a0X hb.lim) hbl
 refine a0d.intro e0H e0F (Nat.le_of_ble_eq_true rfl) (a0V _) fun H hH => ?_
 refine Safe.rg rfl ?_
 simp only [c9H, E3, seval]
 refine Safe.rg rfl ?_
 simp only [c9G, E3, seval]
 first | refine (a3N a ha).acall ?_ | refine (a3N a ha).dcall ?_ | refine (a3N a ha).dgcall ?_
 try simp only [E3, seval]
 first | refine (a3N b hb).acall ?_ | refine (a3N b hb).dcall ?_ | refine (a3N b hb).dgcall ?_
 try simp only [E3, seval]
 refine Safe.lp rfl ?_
 refine Safe.keep [5, 6] ?_
 simp only [E3, seval]
 refine Safe.loopW (α := Nat × Nat) (fun p => p.2) (fun p => [(5, natV (limbs p.1)), (6, natV (limbs p.2))]) (fun _ => hap H [])
  (fun p => Nat.gcd p.1 p.2 = Nat.gcd (val a) (val b) ∧ (limbs p.1).length < 17592186044000 ∧ (limbs p.2).length < 17592186044000) (val a, val b) rfl rfl ⟨rfl, hva, hvb⟩ ?_
 rintro ⟨x, y⟩ ⟨hg, hx, hy⟩ ih
 simp only at hg hx hy ih ⊢
 refine Safe.inLoop ?_
 by_cases h0 : y = 0
 ·subst h0
  refine Safe.rg rfl ?_
  simp only [b9v, a0J, show ((([] : List Nat).length : Nat) : Int) > 0 ↔ False by simp, E3, seval]
  refine Safe.cd rfl ?_
  simp only [E3, seval]
  refine Safe.rg rfl ?_
  simp only [c9D, E3, seval]
  rw [Nat.gcd_zero_right] at hg
  refine Safe.rt rfl ?_
  simp only [hg, E3, seval]
  first | exact ⟨rfl, _, rfl⟩ | exact ⟨_, rfl⟩ | exact ⟨trivial, _, rfl⟩
 ·have hc : ((((limbs y).length : Nat) : Int) > 0) = True := eq_true (b7P.2 h0)
  refine Safe.rg rfl ?_
  simp only [b9v, hc, E3, seval]
  refine Safe.cd rfl ?_
  simp only [E3, seval]
  refine Safe.rg rfl ?_
  simp only [c9F, E3, seval]
  first | refine (a4e (limbs x) (limbs y) ⟨a0b _, by omega⟩ ⟨a0b _, by omega⟩ hx hy (by rw [a0a]; exact h0)).acall ?_ | refine (a4e (limbs x) (limbs y) ⟨a0b _, by omega⟩ ⟨a0b _, by omega⟩ hx hy (by rw [a0a]; exact h0)).dcall ?_ | refine (a4e (limbs x) (limbs y) ⟨a0b _, by omega⟩ ⟨a0b _, by omega⟩ hx hy (by rw [a0a]; exact h0)).dgcall ?_
  try simp only [E3, seval]
  rw [a0a, a0a]
  have hm : x % y < y := Nat.mod_lt _ (Nat.pos_of_ne_zero h0)
  refine Safe.rg rfl ?_
  simp only [c9E, E3, seval]
  refine Safe.keep [5, 6] ?_
  simp only [E3, seval]
  refine Safe.inBlock ?_
  refine ih (y, x % y) ⟨?_, hy, ?_⟩ hm
  ·rw [← hg, Nat.gcd_comm x y, Nat.gcd_rec y x, Nat.gcd_comm]
  ·have h1 := a1d (a0b y)
   rw [a0a] at h1
   exact Nat.lt_of_le_of_lt (a0l (Nat.lt_trans hm h1)) hy
theorem b4S (a b : List Nat) (ha : Nt a) (hb : Nt b) (hal : a.length < 17592186044000) (hbl : b.length < 17592186044000) : a0d Pr b5B [natV a, natV b] (natV (limbs (Nat.gcd (val a) (val b)))) := by
 have hva : (limbs (val a)).length < 17592186044000 := Nat.lt_of_le_of_lt (a0X ha.lim) hal
 have hvb : (limbs (val b)).length < 17592186044000 := Nat.lt_of_le_of_lt (a0X hb.lim) hbl
 refine a0d.intro d4s d4q (Nat.le_of_ble_eq_true rfl) (a0V _) fun H hH => ?_
 refine Safe.rg rfl ?_
 simp only [c1V, E3, seval]
 refine Safe.rg rfl ?_
 simp only [c1U, E3, seval]
 first | refine (a0n a ha).acall ?_ | refine (a0n a ha).dcall ?_ | refine (a0n a ha).dgcall ?_
 try simp only [E3, seval]
 refine Safe.rg rfl ?_
 simp only [c1T, E3, seval]
 first | refine (a0n b hb).acall ?_ | refine (a0n b hb).dcall ?_ | refine (a0n b hb).dgcall ?_
 try simp only [E3, seval]
 refine Safe.lp rfl ?_
 refine Safe.keep [5, 6] ?_
 simp only [E3, seval]
 refine Safe.loopW (α := Nat × Nat) (fun p => p.2) (fun p => [(5, natV (limbs p.1)), (6, natV (limbs p.2))]) (fun _ => hap H [])
  (fun p => Nat.gcd p.1 p.2 = Nat.gcd (val a) (val b) ∧ (limbs p.1).length < 17592186044000 ∧ (limbs p.2).length < 17592186044000) (val a, val b) rfl rfl ⟨rfl, hva, hvb⟩ ?_
 rintro ⟨x, y⟩ ⟨hg, hx, hy⟩ ih
 simp only at hg hx hy ih ⊢
 refine Safe.inLoop ?_
 by_cases h0 : y = 0
 ·subst h0
  refine Safe.rg rfl ?_
  simp only [b1c, a0J, show ((([] : List Nat).length : Nat) : Int) > 0 ↔ False by simp, E3, seval]
  refine Safe.cd rfl ?_
  simp only [E3, seval]
  refine Safe.rg rfl ?_
  simp only [c1P, E3, seval]
  rw [Nat.gcd_zero_right] at hg
  refine Safe.rt rfl ?_
  simp only [hg, E3, seval]
  first | exact ⟨rfl, _, rfl⟩ | exact ⟨_, rfl⟩ | exact ⟨trivial, _, rfl⟩
 ·have hc : ((((limbs y).length : Nat) : Int) > 0) = True := eq_true (b7P.2 h0)
  refine Safe.rg rfl ?_
  simp only [b1c, hc, E3, seval]
  refine Safe.cd rfl ?_
  simp only [E3, seval]
  refine Safe.rg rfl ?_
  simp only [c1S, E3, seval]
  first | refine (a2f (limbs x) (limbs y) ⟨a0b _, by omega⟩ ⟨a0b _, by omega⟩ hx hy (by rw [a0a]; exact h0)).acall ?_ | refine (a2f (limbs x) (limbs y) ⟨a0b _, by omega⟩ ⟨a0b _, by omega⟩ hx hy (by rw [a0a]; exact h0)).dcall ?_ | refine (a2f (limbs x) (limbs y) ⟨a0b _, by omega⟩ ⟨a0b _, by omega⟩ hx hy (by rw [a0a]; exact h0)).dgcall ?_
  try simp only [E3, seval]
  rw [a0a, a0a]
  have hm : x % y < y := Nat.mod_lt _ (Nat.pos_of_ne_zero h0)
  refine Safe.rg rfl ?_
  simp only [c1R, E3, seval]
  refine Safe.rg rfl ?_
  simp only [c1Q, E3, seval]
  refine Safe.keep [5, 6] ?_
  simp only [E3, seval]
  refine Safe.inBlock ?_
  refine ih (y, x % y) ⟨?_, hy, ?_⟩ hm
  ·rw [← hg, Nat.gcd_comm x y, Nat.gcd_rec y x, Nat.gcd_comm]
  ·have h1 := a1d (a0b y)
   rw [a0a] at h1
   exact Nat.lt_of_le_of_lt (a0l (Nat.lt_trans hm h1)) hy
theorem e7S {a b M : Nat} (ha : a < M) (hb : b < M) : Nat.gcd a b < M := by
 rcases Nat.eq_zero_or_pos a with h | h
 ·subst h; rw [Nat.gcd_zero_left]; exact hb
 ·exact Nat.lt_of_le_of_lt (Nat.gcd_le_left _ h) ha
section
variable (x y : ZI) (k : Nat) (hx : Zok k x) (hy : Zok k y) (hk : k < 17592186044000)
include hx hy hk
theorem e1M : a0d Pr c0i [x.av, y.av] (Z (Int.gcd x.z y.z)) := by
 obtain ⟨n, a⟩ := x
 obtain ⟨m, b⟩ := y
 have hal := hx.len
 have hbl := hy.len
 have hav := hx.lt
 have hbv := hy.lt
 simp only at hal hbl hav hbv
 have ha : Nt a := ⟨hx.lim, by omega⟩
 have hb : Nt b := ⟨hy.lim, by omega⟩
 simp only [ZI.av, ZI.z, Int.gcd, b4Q]
 refine a0d.intro d6n d6m (Nat.le_of_ble_eq_true rfl) (Z_cl _) fun H hH => ?_
 refine Safe.rg rfl ?_
 simp only [c4o, E3, seval]
 refine Safe.rg rfl ?_
 simp only [c4n, E3, seval]
 first | refine (b4W a b ha hb (by omega) (by omega)).acall ?_ | refine (b4W a b ha hb (by omega) (by omega)).dcall ?_ | refine (b4W a b ha hb (by omega) (by omega)).dgcall ?_
 try simp only [E3, seval]
 have hg : Nt (limbs (Nat.gcd (val a) (val b))) := ⟨a0b _, Nat.le_trans (a0l (e7S hav hbv)) (by omega)⟩
 first | refine (a1x false _ hg).acall ?_ | refine (a1x false _ hg).dcall ?_ | refine (a1x false _ hg).dgcall ?_
 try simp only [E3, seval]
 rw [a0a]
 refine Safe.rt rfl ?_
 simp only [show sgn false (Nat.gcd (val a) (val b)) = ((Nat.gcd (val a) (val b) : Nat) : Int) from rfl, E3, seval]
 first | exact ⟨rfl, _, rfl⟩ | exact ⟨_, rfl⟩ | exact ⟨trivial, _, rfl⟩
end
theorem e1O (x : ZI) (hx : Zok 17592186044416 x) : a0d Pr c0j [x.av] (Z (x.z.natAbs : Int)) := by
 obtain ⟨n, m⟩ := x
 have hm : Nt m := ⟨hx.lim, hx.len⟩
 simp only [ZI.av, ZI.z, b4Q]
 refine a0d.intro d6t d6s (Nat.le_of_ble_eq_true rfl) (Z_cl _) fun H hH => ?_
 refine Safe.rg rfl ?_
 simp only [c4v, E3, seval]
 refine Safe.rg rfl ?_
 simp only [c4u, E3, seval]
 first | refine (a1x false m hm).acall ?_ | refine (a1x false m hm).dcall ?_ | refine (a1x false m hm).dgcall ?_
 try simp only [E3, seval]
 refine Safe.rt rfl ?_
 simp only [show sgn false (val m) = ((val m : Nat) : Int) from rfl, E3, seval]
 first | exact ⟨rfl, _, rfl⟩ | exact ⟨_, rfl⟩ | exact ⟨trivial, _, rfl⟩
theorem f1x (k : Nat) : (1 : Int).natAbs < LB ^ (k + 1) := Nat.one_lt_pow (Nat.succ_ne_zero k) (by decide)
end Go.Abs
namespace Go.Abs
def Rv (q : Rat) : AV := .agg [.bool (decide (q.num < 0)), natV (limbs q.num.natAbs), .bool false, natV (limbs q.den)]
structure Rok (k : Nat) (q : Rat) : Prop where
 num : q.num.natAbs < LB ^ k
 den : q.den < LB ^ k
theorem Rok.mono {k l : Nat} {q : Rat} (h : Rok k q) (hl : k ≤ l) : Rok l q := ⟨Nat.lt_of_lt_of_le h.num (a4H hl), Nat.lt_of_lt_of_le h.den (a4H hl)⟩
def dZ (d : Nat) : ZI := ⟨false, limbs d⟩
theorem dZ_z (d : Nat) : (dZ d).z = (d : Int) := by simp only [dZ, ZI.z, a0a]; rfl
theorem c8E {k d : Nat} (h : d < LB ^ k) : Zok k (dZ d) := ⟨a0b _, a0l h⟩
theorem a4G (q : Rat) : Cl (Rv q) := .agg _ fun c hc => by
 simp only [List.mem_cons, List.not_mem_nil, or_false] at hc
 rcases hc with rfl | rfl | rfl | rfl
 ·exact .bool _
 ·exact a0V _
 ·exact .bool _
 ·exact a0V _
theorem a1k (q : Rat) : (Rv q).cells = [.bool (decide (q.num < 0)), natV (limbs q.num.natAbs), .bool false, natV (limbs q.den)] := rfl
theorem a3Y (q : Rat) : (Rv q).fit = true := rfl
theorem a0i : (0 < 4) = True := by decide
theorem e8H {n : Int} {g : Nat} (h : g ∣ n.natAbs) : sgn (decide (n < 0)) (n.natAbs / g) = n / (g : Int) := by
 obtain ⟨c, hc⟩ := h
 rcases Nat.eq_zero_or_pos g with rfl | hg
 ·simp [sgn]
 rw [hc, Nat.mul_div_cancel_left _ hg]
 have hg' : (g : Int) ≠ 0 := by omega
 by_cases h0 : n < 0
 ·have : n = (g : Int) * -(c : Int) := by
   have : (n.natAbs : Int) = (g : Int) * (c : Int) := by rw [hc]; exact Int.natCast_mul _ _
   rw [Int.mul_neg]; omega
  rw [decide_eq_true h0, this, Int.mul_ediv_cancel_left _ hg']
  simp [sgn]
 ·have : n = (g : Int) * (c : Int) := by
   have : (n.natAbs : Int) = (g : Int) * (c : Int) := by rw [hc]; exact Int.natCast_mul _ _
   omega
  rw [decide_eq_false h0, this, Int.mul_ediv_cancel_left _ hg']
  simp [sgn]
theorem a8X (x y : ZI) (k : Nat) (hx : Zok k x) (hy : Zok k y) (hk : k < 17592186044000) (hy0 : y.z ≠ 0) : a0d Pr a2E [x.av, y.av] (Rv (Rat.divInt x.z y.z)) := by
 have hax := hx.abs
 have hay := hy.abs
 refine a0d.intro d1p d1o (Nat.le_of_ble_eq_true rfl) (a4G _) fun H hH => ?_
 refine Safe.rg rfl ?_
 simp only [b6p, a0i, E3, seval]
 refine Safe.rg rfl ?_
 simp only [b6o, E3, seval]
 first | refine (a1K x (hx.mono (by omega))).acall ?_ | refine (a1K x (hx.mono (by omega))).dcall ?_ | refine (a1K x (hx.mono (by omega))).dgcall ?_
 try simp only [E3, seval]
 refine Safe.rg rfl ?_
 simp only [b6n, E3, seval]
 first | refine (a1K y (hy.mono (by omega))).acall ?_ | refine (a1K y (hy.mono (by omega))).dcall ?_ | refine (a1K y (hy.mono (by omega))).dgcall ?_
 try simp only [E3, seval]
 have main : ∀ a b : Int, 0 < b → a.natAbs < LB ^ k → b.natAbs < LB ^ k → Rat.divInt a b = Rat.divInt x.z y.z → Safe ⟨Pr, fun _ _ => false, a2E, 54, [.cell 4 (some 4)], H.length⟩
   [.code ((ACode.region a8E false).seq ((ACode.region a8D false).seq ((ACode.region a8C false).seq ((ACode.region a8B false).seq .ret))))]
   [(4, .loc (lid H 2) 0 0), (5, .loc (lid H 3) 0 0), (6, .loc (lid H 4) 0 0)]
   (hap H [some ⟨2, [x.av]⟩, some ⟨2, [y.av]⟩, some ⟨4, [.agg [.bool false, .nil, .bool false, .nil]]⟩, some ⟨2, [Z a]⟩, some ⟨2, [Z b]⟩]) fun r' H' => r' = Rv (Rat.divInt x.z y.z) ∧ ∃ L, H' = hap H L := by
  intro a b hb ha1 hb1 he
  have hla : (limbs a.natAbs).length ≤ k := a0l ha1
  have hlb : (limbs b.natAbs).length ≤ k := a0l hb1
  have hg0 : Nat.gcd a.natAbs b.natAbs ≠ 0 := fun h => by
   have := Nat.gcd_eq_zero_iff.1 h
   omega
  have hnum := Rat.num_divInt a b
  have hden := Rat.den_divInt a b
  rw [Int.sign_eq_one_of_pos hb, Int.one_mul, Int.gcd, Nat.gcd_comm] at hnum
  rw [if_neg (by omega), Int.gcd, Nat.gcd_comm] at hden
  have hgl : (limbs (Nat.gcd a.natAbs b.natAbs)).length ≤ k := a0l (e7S ha1 hb1)
  have hs := e8H (n := a) (Nat.gcd_dvd_left a.natAbs b.natAbs)
  rw [← hnum] at hs
  rw [← he]
  refine Safe.rg rfl ?_
  simp only [a8E, E3, seval]
  first | refine (b4S (limbs a.natAbs) (limbs b.natAbs) ⟨a0b _, by omega⟩ ⟨a0b _, by omega⟩ (by omega) (by omega)).acall ?_ | refine (b4S (limbs a.natAbs) (limbs b.natAbs) ⟨a0b _, by omega⟩ ⟨a0b _, by omega⟩ (by omega) (by omega)).dcall ?_ | refine (b4S (limbs a.natAbs) (limbs b.natAbs) ⟨a0b _, by omega⟩ ⟨a0b _, by omega⟩ (by omega) (by omega)).dgcall ?_
  try simp only [E3, seval]
  simp only [a0a]
  refine Safe.rg rfl ?_
  simp only [a8D, E3, seval]
  first | refine (a2f (limbs a.natAbs) (limbs (Nat.gcd a.natAbs b.natAbs)) ⟨a0b _, by omega⟩ ⟨a0b _, by omega⟩ (by omega) (by omega) (by rw [a0a]; exact hg0)).acall ?_ | refine (a2f (limbs a.natAbs) (limbs (Nat.gcd a.natAbs b.natAbs)) ⟨a0b _, by omega⟩ ⟨a0b _, by omega⟩ (by omega) (by omega) (by rw [a0a]; exact hg0)).dcall ?_ | refine (a2f (limbs a.natAbs) (limbs (Nat.gcd a.natAbs b.natAbs)) ⟨a0b _, by omega⟩ ⟨a0b _, by omega⟩ (by omega) (by omega) (by rw [a0a]; exact hg0)).dgcall ?_
  try simp only [E3, seval]
  simp only [a0a]
  refine Safe.rg rfl ?_
  simp only [a8C, E3, seval]
  first | refine (a2f (limbs b.natAbs) (limbs (Nat.gcd a.natAbs b.natAbs)) ⟨a0b _, by omega⟩ ⟨a0b _, by omega⟩ (by omega) (by omega) (by rw [a0a]; exact hg0)).acall ?_ | refine (a2f (limbs b.natAbs) (limbs (Nat.gcd a.natAbs b.natAbs)) ⟨a0b _, by omega⟩ ⟨a0b _, by omega⟩ (by omega) (by omega) (by rw [a0a]; exact hg0)).dcall ?_ | refine (a2f (limbs b.natAbs) (limbs (Nat.gcd a.natAbs b.natAbs)) ⟨a0b _, by omega⟩ ⟨a0b _, by omega⟩ (by omega) (by omega) (by rw [a0a]; exact hg0)).dgcall ?_
  try simp only [E3, seval]
  simp only [a0a]
  rw [← hden]
  have hna : a.natAbs / Nat.gcd a.natAbs b.natAbs < LB ^ k := Nat.lt_of_le_of_lt (Nat.div_le_self _ _) ha1
  have hcall := a1K ⟨decide (a < 0), limbs (a.natAbs / Nat.gcd a.natAbs b.natAbs)⟩ (c8E hna |>.mono (by omega) |> fun h => ⟨h.lim, h.len⟩)
  simp only [ZI.z, a0a, hs] at hcall
  refine Safe.rg rfl ?_
  simp only [a8B, E3, seval]
  refine hcall.acall ?_
  simp only [Z, E3, seval]
  refine Safe.rt rfl ?_
  simp only [E3, seval]
  first | exact ⟨rfl, _, rfl⟩ | exact ⟨_, rfl⟩ | exact ⟨trivial, _, rfl⟩
 have hfrom : ∀ a b : Int, a.natAbs < LB ^ k → b.natAbs < LB ^ k → Zok 17592186044416 (canZ a) := fun a b h _ => (a0q h).mono (by omega)
 refine Safe.rg rfl ?_
 simp only [b6m, E3, seval]
 refine (a8Y (canZ y.z) ((a0q hay).mono (by omega))).acall ?_
 rw [a0x]
 by_cases hneg : y.z < 0
 ·have hc : (y.z.sign < 0) = True := eq_true (Int.sign_neg_iff.2 hneg)
  simp only [hc, E3, seval]
  refine Safe.cd rfl ?_
  simp only [E3, seval]
  refine Safe.rg rfl ?_
  simp only [b6l, E3, seval]
  refine (b2F (canZ x.z) ((a0q hax).mono (by omega))).acall ?_
  rw [a0x]
  simp only [E3, seval]
  refine Safe.rg rfl ?_
  simp only [b6k, E3, seval]
  refine (b2F (canZ y.z) ((a0q hay).mono (by omega))).acall ?_
  rw [a0x]
  simp only [E3, seval]
  refine Safe.keep [4, 5, 6] ?_
  simp only [E3, seval]
  exact main (-x.z) (-y.z) (by omega) (by rw [Int.natAbs_neg]; exact hax) (by rw [Int.natAbs_neg]; exact hay) (Rat.neg_divInt_neg _ _)
 ·have hc : (y.z.sign < 0) = False := eq_false fun h => hneg (Int.sign_neg_iff.1 h)
  simp only [hc, E3, seval]
  refine Safe.cd rfl ?_
  simp only [E3, seval]
  refine Safe.keep [4, 5, 6] ?_
  simp only [E3, seval]
  refine Safe.skip ?_
  exact main x.z y.z (by omega) hax hay rfl
theorem b9i : a0d Pr b5t [] (Z 1) := by
 refine a0d.intro d3z d3y (Nat.le_of_ble_eq_true rfl) (Z_cl _) fun H hH => ?_
 refine Safe.rg rfl ?_
 simp only [c0M, E3, seval]
 refine Safe.rg rfl ?_
 simp only [c0L, E3, seval]
 first | refine (c5b 1 (by decide) (by decide)).acall ?_ | refine (c5b 1 (by decide) (by decide)).dcall ?_ | refine (c5b 1 (by decide) (by decide)).dgcall ?_
 try simp only [E3, seval]
 refine Safe.rt rfl ?_
 simp only [E3, seval]
 first | exact ⟨rfl, _, rfl⟩ | exact ⟨_, rfl⟩ | exact ⟨trivial, _, rfl⟩
theorem d4B (x : ZI) (hx : Zok 17592186044416 x) : a0d Pr b2S [x.av] (Rv (x.z : Rat)) := by
 refine a0d.intro d6L d6K (Nat.le_of_ble_eq_true rfl) (a4G _) fun H hH => ?_
 refine Safe.rg rfl ?_
 simp only [c4W, a0i, E3, seval]
 refine Safe.rg rfl ?_
 simp only [c4V, E3, seval]
 first | refine (a1K x hx).acall ?_ | refine (a1K x hx).dcall ?_ | refine (a1K x hx).dgcall ?_
 try simp only [E3, seval]
 first | refine (b9i).acall ?_ | refine (b9i).dcall ?_ | refine (b9i).dgcall ?_
 try simp only [E3, seval]
 have h1 : limbs 1 = limbs (Int.natAbs 1) := rfl
 have h2 : (decide ((1 : Int) < 0)) = false := rfl
 simp only [Z, E3, seval]
 refine Safe.rt rfl ?_
 simp only [E3, seval]
 first | exact ⟨rfl, _, rfl⟩ | exact ⟨_, rfl⟩ | exact ⟨trivial, _, rfl⟩
section
variable (a b : Rat) {k l : Nat} (ha : Rok k a) (hb : Rok l b) (hkl : k + l < 17592186043000)
include ha hb hkl
theorem e0g : a0d Pr b5w [Rv a, Rv b] (Rv (a + b)) := by
 have h1 := a1R ha.num (show (b.den : Int).natAbs < LB ^ l from hb.den)
 have h2 := a1R hb.num (show (a.den : Int).natAbs < LB ^ k from ha.den)
 have h3 := a1R (show (a.den : Int).natAbs < LB ^ k from ha.den) (show (b.den : Int).natAbs < LB ^ l from hb.den)
 rw [Nat.add_comm l k] at h2
 have h4 := e4P h1 h2
 refine a0d.intro d3K d3J (Nat.le_of_ble_eq_true rfl) (a4G _) fun H hH => ?_
 simp only [Rv]
 refine Safe.rg rfl ?_
 simp only [c0Y, a0i, E3, seval]
 refine Safe.rg rfl ?_
 simp only [c0X, E3, seval]
 have hm := a2L (canZ a.num) (dZ b.den) k l (a0q ha.num) (c8E hb.den) (by omega)
 rw [a0x, dZ_z] at hm
 refine hm.acall ?_
 simp only [E3, seval]
 refine Safe.rg rfl ?_
 simp only [c0W, E3, seval]
 have hm := a2L (canZ b.num) (dZ a.den) l k (a0q hb.num) (c8E ha.den) (by omega)
 rw [a0x, dZ_z] at hm
 refine hm.acall ?_
 simp only [E3, seval]
 refine Safe.rg rfl ?_
 simp only [c0V, E3, seval]
 refine (b7w h1 h2 (by omega)).dcall ?_
 simp only [E3, seval]
 have hm := a2L (dZ a.den) (dZ b.den) k l (c8E ha.den) (c8E hb.den) (by omega)
 rw [dZ_z, dZ_z] at hm
 refine hm.dcall ?_
 simp only [E3, seval]
 have hm := a8X (canZ (a.num * b.den + b.num * a.den)) (canZ (a.den * b.den)) (k + l + 1) (a0q h4) (a0q h3 |>.mono (by omega)) (by omega) (by
  rw [a0x]
  have h1 := a.den_nz
  have h2 := b.den_nz
  exact Int.mul_ne_zero (by omega) (by omega))
 rw [a2p, a2p, a0x, a0x, ← Int.natCast_mul, Rat.divInt_ofNat, ← Rat.add_def', Int.natCast_mul] at hm
 refine hm.dcall ?_
 simp only [Rv, E3, seval]
 refine Safe.rt rfl ?_
 simp only [E3, seval]
 first | exact ⟨rfl, _, rfl⟩ | exact ⟨_, rfl⟩ | exact ⟨trivial, _, rfl⟩
theorem b2E : a0d Pr a4j [Rv a, Rv b] (Rv (a * b)) := by
 have h1 := a1R ha.num hb.num
 have h3 := a1R (show (a.den : Int).natAbs < LB ^ k from ha.den) (show (b.den : Int).natAbs < LB ^ l from hb.den)
 refine a0d.intro d3F d3E (Nat.le_of_ble_eq_true rfl) (a4G _) fun H hH => ?_
 simp only [Rv]
 refine Safe.rg rfl ?_
 simp only [c0S, a0i, E3, seval]
 refine Safe.rg rfl ?_
 simp only [c0R, E3, seval]
 refine (d4C ha.num hb.num (by omega)).dcall ?_
 simp only [E3, seval]
 have hm := a2L (dZ a.den) (dZ b.den) k l (c8E ha.den) (c8E hb.den) (by omega)
 rw [dZ_z, dZ_z] at hm
 refine hm.dcall ?_
 simp only [E3, seval]
 have hm := a8X (canZ (a.num * b.num)) (canZ (a.den * b.den)) (k + l) (a0q h1) (a0q h3) (by omega) (by
  rw [a0x]
  have h1 := a.den_nz
  have h2 := b.den_nz
  exact Int.mul_ne_zero (by omega) (by omega))
 rw [a2p, a2p, a0x, a0x, ← Int.natCast_mul, Rat.divInt_ofNat, ← Rat.mul_def', Int.natCast_mul] at hm
 refine hm.dcall ?_
 simp only [Rv, E3, seval]
 refine Safe.rt rfl ?_
 simp only [E3, seval]
 first | exact ⟨rfl, _, rfl⟩ | exact ⟨_, rfl⟩ | exact ⟨trivial, _, rfl⟩
omit ha hb hkl in
theorem e0d (b0 : b ≠ 0) : Rat.divInt (a.num * b.den) (a.den * b.num) = a / b := by
 have h1 : (a.den : Int) ≠ 0 := by have := a.den_nz; omega
 have h2 : b.num ≠ 0 := fun h => b0 (Rat.num_eq_zero.1 h)
 rw [← Rat.divInt_mul_divInt, Rat.num_divInt_den, Rat.div_def, Rat.inv_def]
theorem e0f (b0 : b ≠ 0) : a0d Pr b5v [Rv a, Rv b] (Rv (a / b)) := by
 have h1 := a1R ha.num (show (b.den : Int).natAbs < LB ^ l from hb.den)
 have h3 := a1R (show (a.den : Int).natAbs < LB ^ k from ha.den) hb.num
 refine a0d.intro d3I d3H (Nat.le_of_ble_eq_true rfl) (a4G _) fun H hH => ?_
 simp only [Rv]
 refine Safe.rg rfl ?_
 simp only [c0U, a0i, E3, seval]
 refine Safe.rg rfl ?_
 simp only [c0T, E3, seval]
 have hm := a2L (canZ a.num) (dZ b.den) k l (a0q ha.num) (c8E hb.den) (by omega)
 rw [a0x, dZ_z] at hm
 refine hm.dcall ?_
 simp only [E3, seval]
 have hm := a2L (dZ a.den) (canZ b.num) k l (c8E ha.den) (a0q hb.num) (by omega)
 rw [dZ_z, a0x] at hm
 refine hm.dcall ?_
 simp only [E3, seval]
 have hm := a8X (canZ (a.num * b.den)) (canZ (a.den * b.num)) (k + l) (a0q h1) (a0q h3) (by omega) (by
  rw [a0x]
  have h1 := a.den_nz
  exact Int.mul_ne_zero (by omega) fun h => b0 (Rat.num_eq_zero.1 h))
 rw [a2p, a2p, a0x, a0x, e0d a b b0] at hm
 refine hm.dcall ?_
 simp only [Rv, E3, seval]
 refine Safe.rt rfl ?_
 simp only [E3, seval]
 first | exact ⟨rfl, _, rfl⟩ | exact ⟨_, rfl⟩ | exact ⟨trivial, _, rfl⟩
end
theorem e8P {k : Nat} {a : Rat} (h : Rok k a) : Rok k (-a) := ⟨by rw [Rat.neg_num, Int.natAbs_neg]; exact h.num, h.den⟩
theorem e0e (a : Rat) {k : Nat} (ha : Rok k a) (hk : k < 17592186044000) : a0d Pr b5u [Rv a] (Rv (-a)) := by
 refine a0d.intro d3D d3C (Nat.le_of_ble_eq_true rfl) (a4G _) fun H hH => ?_
 simp only [Rv]
 refine Safe.rg rfl ?_
 simp only [c0Q, a0i, E3, seval]
 refine Safe.rg rfl ?_
 simp only [c0P, E3, seval]
 have hm := b2F (canZ a.num) ((a0q ha.num).mono (by omega))
 rw [a0x] at hm
 refine hm.dcall ?_
 simp only [E3, seval]
 have hm := a8X (canZ (-a.num)) (dZ a.den) k (a0q (by rw [Int.natAbs_neg]; exact ha.num)) (c8E ha.den) hk (by
  rw [dZ_z]
  have h1 := a.den_nz
  omega)
 rw [a2p, a0x, dZ_z, ← Rat.neg_divInt, Rat.num_divInt_den] at hm
 refine hm.dcall ?_
 simp only [Rv, E3, seval]
 refine Safe.rt rfl ?_
 simp only [E3, seval]
 first | exact ⟨rfl, _, rfl⟩ | exact ⟨_, rfl⟩ | exact ⟨trivial, _, rfl⟩
theorem c8V (a b : Rat) {k l : Nat} (ha : Rok k a) (hb : Rok l b) (hkl : k + l < 17592186043000) : a0d Pr a9M [Rv a, Rv b] (Rv (a - b)) := by
 refine a0d.intro d3B d3A (Nat.le_of_ble_eq_true rfl) (a4G _) fun H hH => ?_
 refine Safe.rg rfl ?_
 simp only [c0O, a0i, a1k, a3Y, E3, seval]
 refine Safe.rg rfl ?_
 simp only [c0N, a1k, a3Y, E3, seval]
 refine (e0e b hb (by omega)).dcall ?_
 simp only [a1k, a3Y, E3, seval]
 have hm := e0g a (-b) ha (e8P hb) hkl
 rw [← Rat.sub_eq_add_neg] at hm
 refine hm.dcall ?_
 simp only [Rv, E3, seval]
 refine Safe.rt rfl ?_
 simp only [E3, seval]
 first | exact ⟨rfl, _, rfl⟩ | exact ⟨_, rfl⟩ | exact ⟨trivial, _, rfl⟩
end Go.Abs
namespace Go.Abs
theorem e2O {id j off len : Nat} {oc : Option Nat} (h : j ≠ id) : nref id (.mu j off len oc) = true := a0j.2 (.mu _ _ _ _ h)
end Go.Abs
namespace Go.Abs
theorem b9g {a b : Rat} {k l : Nat} (ha : Rok k a) (hb : Rok l b) : Rok (k + l) (a * b) := by
 constructor
 ·rw [Rat.num_mul, Int.natAbs_ediv_of_dvd]
  ·exact Nat.lt_of_le_of_lt (Nat.div_le_self _ _) (a1R ha.num hb.num)
  ·exact Int.ofNat_dvd_left.2 (Nat.gcd_dvd_left _ _)
 ·rw [Rat.den_mul, d8T]
  exact Nat.lt_of_le_of_lt (Nat.div_le_self _ _) (Nat.mul_lt_mul'' ha.den hb.den)
end Go.Abs
namespace Go.Abs
def intV (x : Nat) : AV := .int .i64 (x : Int)
theorem d2c (x : Nat) : Cl (intV x) := .int _ _
def hsV (cs : List Nat) : AV := .sl 1 (cs.map intV)
theorem e7r {G : Heap} {β n w c : Nat} {oc : Option Nat} {π : Nat → Nat} {S : Nat → Nat → AV} {α : Type} (hH : a0C (hM G β n w c oc π S)) {L : Heap} (i : Nat) {n0 : Nat} (hn : n0 ≤ lid G i) {env : Env} {wd bytes : Nat} {f : α → AV} (hf : ∀ x, Cl (f x)) (l : List α) (x : α) {y : AV} {len : Nat}
  (hlen : len = l.length) (hl : L[i]? = some (some ⟨wd, l.map f⟩)) (hL : RC L) (hy : y = f x) (hb : (len + 1) * bytes ≤ 140737488355328) (hbb : len + 1 ≤ 9223372036854775807) :
  appV n0 wd bytes false (.mu (lid G i) 0 len none) (.sl wd [y]) env (hap (hM G β n w c oc π S) L) = some (.mu (lid G i) 0 (len + 1) none, scrub (lid G i) env, hap (hM G β n w c oc π S) (L.set i (some ⟨wd, (l ++ [x]).map f⟩))) := by
 have := c7K (H := hM G β n w c oc π S) hH i (by rw [a4Y]; exact hn) (env := env) (bytes := bytes) hf l x (l ++ [x]) hlen hl hL hy rfl hb hbb
 rwa [a4Y] at this
theorem f0U (π : Nat → Nat) (p r : Nat) : (fun t => if t = r then π p else (fun t => if t = p then π r else π t) t) = swp π p r := by
 funext t; unfold swp
 by_cases h1 : t = r
 ·by_cases h2 : t = p
  ·rw [if_pos h1, if_pos h2]; rw [← h1, ← h2]
  ·rw [if_pos h1, if_neg h2, if_pos h1]
 ·rw [if_neg h1]
  show (if t = p then π r else π t) = _
  by_cases h2 : t = p
  ·rw [if_pos h2, if_pos h2]
  ·rw [if_neg h2, if_neg h2, if_neg h1]
structure Lk (n c : Nat) (π : Nat → Nat) (S : Nat → Nat → AV) (F : Nat → Nat → AV) : Prop where
 lt : ∀ a, a < n → π a < n
 inj : ∀ a b, a < n → b < n → π a = π b → a = b
 at_ : ∀ a b, a < n → b < c → S (π a) b = F a b
 cl : ∀ a b, Cl (S a b)
theorem Lk.swap {n c : Nat} {π : Nat → Nat} {S : Nat → Nat → AV} {α : Type} {M : Nat → Nat → α} {f : α → AV} (h : Lk n c π S fun a b => f (M a b)) {p r : Nat} (hp : p < n) (hr : r < n) : Lk n c (swp π p r) S fun a b => f (if a = p then M r b else if a = r then M p b else M a b) := by
 refine ⟨fun a ha => ?_, fun a b ha hb he => ?_, fun a b ha hb => ?_, h.cl⟩
 ·unfold swp; split
  ·exact h.lt r hr
  ·split
   ·exact h.lt p hp
   ·exact h.lt a ha
 ·unfold swp at he
  split at he
  ·split at he
   ·omega
   ·split at he
    ·have := h.inj _ _ hr hp he; omega
    ·have := h.inj _ _ hr hb he; omega
  ·split at he
   ·split at he
    ·have := h.inj _ _ hp hr he; omega
    ·split at he
     ·omega
     ·have := h.inj _ _ hp hb he; omega
   ·split at he
    ·have := h.inj _ _ ha hr he; omega
    ·split at he
     ·have := h.inj _ _ ha hp he; omega
     ·exact h.inj _ _ ha hb he
 ·unfold swp
  split
  ·exact h.at_ r b hr hb
  ·split
   ·exact h.at_ p b hp hb
   ·exact h.at_ a b ha hb
end Go.Abs
namespace Go.Abs
section
variable {G L : Heap} {id w : Nat} {X : List AV}
theorem lst (h : G[id]? = some (some ⟨w, X⟩)) {j : Nat} (hj : j < X.length) {v : AV} (hf : v.fit = true) (hn : v.cells.length = w) (env : Env) : a2s w (.loc id j 0) v env (hap G L) = some (.top, env, hap (G.set id (some ⟨w, X.set j v⟩)) L) := by
 have hid := a0o h
 have hr : hrow (hap G L) id = some ⟨w, X⟩ := by rw [a9m _ _ _ hid]; simp [hrow, h]
 simp only [a2s, hr, Option.bind_some]
 rw [if_pos ⟨hj, hf, hn, by omega⟩, a3B, c4L _ _ _ _ hid]
theorem lcpy (h : G[id]? = some (some ⟨w, X⟩)) {len : Nat} (hlen : X.length = len) {oc : Option Nat} {y : AV} {ys : List AV} (hy : a0Q (hap G L) w false y = some ys) (hyl : ys.length = len) (env : Env) :
  cpyV w (.mu id 0 len oc) y env (hap G L) = some (.int .i64 len, env, hap (G.set id (some ⟨w, ys⟩)) L) := by
 have hid := a0o h
 have hr : hrow (hap G L) id = some ⟨w, X⟩ := by rw [a9m _ _ _ hid]; simp [hrow, h]
 simp only [cpyV, hy, hr, Option.bind_some]
 rw [if_pos ⟨trivial, by omega⟩, c4L _ _ _ _ hid]
 simp [hyl, hlen]
 rw [List.take_of_length_le (by omega), List.drop_eq_nil_of_le (by omega), List.append_nil]
end
def b5n (β n i w c : Nat) (oc : Option Nat) (S : Nat → Nat → AV) : Heap := some ⟨1, fr n fun a => if a < i then .mu (β + 1 + a) 0 c oc else .nil⟩ :: (List.range i).map fun j => some ⟨w, fr c (S j)⟩
theorem e3c (β n i w c : Nat) (oc : Option Nat) (S : Nat → Nat → AV) : (b5n β n i w c oc S).length = i + 1 := by simp [b5n]
theorem e0U (β n w c : Nat) (oc : Option Nat) (S : Nat → Nat → AV) : b5n β n n w c oc S = a7m β n w c oc S := by
 unfold b5n a7m orow
 rw [b2L fun a ha => by rw [if_pos ha]]
theorem e0T (H : Heap) {n i : Nat} (w c : Nat) (oc : Option Nat) (S : Nat → Nat → AV) :
  hap ((hap H (b5n (lid H 0) n i w c oc S)).set (lid H 0) (some ⟨1, (fr n fun a => if a < i then .mu (lid H 0 + 1 + a) 0 c oc else .nil).set i (.mu (lid H 0 + 1 + i) 0 c oc)⟩)) [some ⟨w, fr c (S i)⟩] = hap H (b5n (lid H 0) n (i + 1) w c oc S) := by
 have e2 : (fr n fun a => if a < i then AV.mu (lid H 0 + 1 + a) 0 c oc else .nil).set i (.mu (lid H 0 + 1 + i) 0 c oc) = fr n fun a => if a < i + 1 then .mu (lid H 0 + 1 + a) 0 c oc else .nil := by
  rw [e3Q]
  refine b2L fun a _ => ?_
  by_cases h : a = i
  ·subst h; rw [if_pos rfl, if_pos (by omega)]
  ·rw [if_neg h]
   by_cases h2 : a < i
   ·rw [if_pos h2, if_pos (by omega)]
   ·rw [if_neg h2, if_neg (by omega)]
 rw [e2]
 simp only [hap, lid, Nat.add_zero]
 rw [List.set_append_right _ _ (Nat.le_refl _), Nat.sub_self]
 simp only [b5n, List.set_cons_zero, List.append_assoc, List.cons_append]
 congr 2
 rw [List.range_succ, List.map_append]; rfl
def zav (b : List (List ZI)) (j k : Nat) : AV := ((mg b j).getD k ⟨false, []⟩).av
theorem e8n (b : List (List ZI)) {i c : Nat} (hi : i < b.length) (hc : b[i].length = c) : b[i].map ZI.av = fr c (zav b i) := by
 apply List.ext_getElem?
 intro k
 simp only [fr, zav, a1F hi, List.getElem?_map]
 rcases Nat.lt_or_ge k c with h | h
 ·rw [List.getElem?_range h, List.getElem?_eq_getElem (by omega)]
  simp only [Option.map_some, zav, a1F hi]
  simp [List.getD_eq_getElem?_getD, List.getElem?_eq_getElem (show k < b[i].length by omega)]
 ·rw [List.getElem?_eq_none (by omega), List.getElem?_eq_none (by simp; omega)]; rfl
theorem d5O (b : List (List ZI)) {c : Nat} (hc : ∀ i, (h : i < b.length) → b[i].length = c) (hnb : b.length ≤ 2097152) (hcb : c ≤ 2097152) (H : Heap) :
  a0m Pr a9U [matV b] H fun r' H' => r' = .mu (lid H 0) 0 b.length (some b.length) ∧ H' = hap H (a7m (lid H 0) b.length 2 c (some c) (zav b)) := by
 refine a0m.introH c8y c8w (Nat.le_of_ble_eq_true rfl) fun hH => ?_
 refine Safe.rg rfl ?_
 simp only [b4q, E3, seval]
 refine Safe.rg rfl ?_
 simp only [b4p, E3, seval]
 have hmk : ∀ env : Env, c6b 1 24 .nil (.int .i64 b.length) (.int .i64 b.length) env (hap H []) = some (.mu (lid H 0) 0 b.length (some b.length), env, hap H (b5n (lid H 0) b.length 0 2 c (some c) (zav b))) := by
  intro env
  simp only [c6b]
  rw [if_pos ⟨by decide, by omega, by omega, by omega, by omega⟩]
  simp only [Int.toNat_natCast, b9N, List.length_nil, c0g, List.nil_append]
  have : List.replicate b.length AV.nil = fr b.length fun a => if a < 0 then .mu (lid H 0 + 1 + a) 0 c (some c) else .nil := by
   apply List.ext_getElem?
   intro j
   simp only [fr, List.getElem?_map, List.getElem?_replicate]
   rcases Nat.lt_or_ge j b.length with h | h
   ·rw [List.getElem?_range h]; simp [h]
   ·rw [List.getElem?_eq_none (by simpa using h), if_neg (by omega)]; rfl
  rw [this]; rfl
 simp only [hmk, E3, seval]
 refine Safe.rg rfl ?_
 simp only [b4o, E3, seval]
 refine Safe.lp rfl ?_
 refine Safe.keep [0, 3, 9, 10, 11] ?_
 try simp only [E3, seval]
 refine Safe.loopN (b.length) (fun i => [(0, matV b), (3, .mu (lid H 0) 0 b.length (some b.length)), (9, matV b), (10, .int .i64 b.length), (11, .int .i64 i)]) (fun i => hap H (b5n (lid H 0) b.length i 2 c (some c) (zav b))) rfl rfl (fun i hi ih => ?_) ?_
 ·have hlt : ((i : Int) < (b.length : Int)) = True := eq_true (by omega)
  have hbc := hc i hi
  have hiw : IntKind.wrap .i64 ((i : Int) + 1) = ((i + 1 : Nat) : Int) := by rw [a0c] <;> omega
  refine Safe.inLoop ?_
  refine Safe.rg rfl ?_
  simp only [a7y, hlt, E3, seval]
  refine Safe.cd rfl ?_
  simp only [E3, seval]
  refine Safe.rg rfl ?_
  simp only [b4n, a1r _ b _ i hi, E3, seval]
  have hG0 : (hap H (b5n (lid H 0) b.length i 2 c (some c) (zav b)))[lid H 0]? = some (some ⟨1, fr b.length fun a => if a < i then .mu (lid H 0 + 1 + a) 0 c (some c) else .nil⟩) := by
   simp only [hap, lid]; rw [List.getElem?_append_right (by omega)]; simp [b5n, lid]
  have hGl : (hap H (b5n (lid H 0) b.length i 2 c (some c) (zav b))).length = lid H 0 + 1 + i := by simp [hap, lid, e3c]; omega
  have hsucc := e0T H (n := b.length) (i := i) 2 c (some c) (zav b)
  rw [← a1T (hap H (b5n (lid H 0) b.length i 2 c (some c) (zav b)))]
  generalize hap H (b5n (lid H 0) b.length i 2 c (some c) (zav b)) = G at *
  have hlG : lid G 0 = lid H 0 + 1 + i := hGl
  have hmk2 : ∀ env : Env, c6b 2 32 (.agg [.bool false, .nil]) (.int .i64 c) (.int .i64 c) env (hap G []) = some (.mu (lid G 0) 0 c (some c), env, hap G [some ⟨2, List.replicate c (.agg [.bool false, .nil])⟩]) := by
   intro env
   simp only [c6b]
   rw [if_pos ⟨by decide, by omega, by omega, by omega, by omega⟩]
   simp only [Int.toNat_natCast, b9N, List.length_nil, c0g, List.nil_append]
  have e1 : lid H 0 + 1 + i = lid G 0 := hlG.symm
  rw [e1] at hsucc
  have hXl : (fr b.length fun a => if a < i then AV.mu (lid H 0 + 1 + a) 0 c (some c) else .nil).length = b.length := d5A _ _
  generalize (fr b.length fun a => if a < i then AV.mu (lid H 0 + 1 + a) 0 c (some c) else .nil) = X at *
  refine Safe.rg rfl ?_
  simp only [b4m, hbc, hmk2, lidx hG0 rfl (some b.length) .i64 hi, E3, seval]
  rw [lst hG0 (by omega) rfl rfl]
  simp only [E3, seval]
  rw [← a1T (hap (G.set _ _) _)]
  have h2a : (hap (G.set (lid H 0) (some ⟨1, X.set i (.mu (lid G 0) 0 c (some c))⟩)) [some ⟨2, List.replicate c (.agg [.bool false, .nil])⟩])[lid H 0]? = some (some ⟨1, X.set i (.mu (lid G 0) 0 c (some c))⟩) := by
   simp only [hap]
   rw [List.getElem?_append_left (by rw [List.length_set]; omega), List.getElem?_set]
   simp; omega
  have h2b : (hap (G.set (lid H 0) (some ⟨1, X.set i (.mu (lid G 0) 0 c (some c))⟩)) [some ⟨2, List.replicate c (.agg [.bool false, .nil])⟩])[lid G 0]? = some (some ⟨2, List.replicate c (.agg [.bool false, .nil])⟩) := by
   simp only [hap, lid, Nat.add_zero]
   rw [List.getElem?_append_right (by simp)]; simp
  have h2c : (hap (G.set (lid H 0) (some ⟨1, X.set i (.mu (lid G 0) 0 c (some c))⟩)) [some ⟨2, List.replicate c (.agg [.bool false, .nil])⟩]).set (lid G 0) (some ⟨2, b[i].map ZI.av⟩) = hap H (b5n (lid H 0) b.length (i + 1) 2 c (some c) (zav b)) := by
   rw [← hsucc, e8n b hi hbc]
   simp only [hap, lid, Nat.add_zero]
   rw [List.set_append_right _ _ (by simp)]
   simp
  generalize hap (G.set (lid H 0) (some ⟨1, X.set i (.mu (lid G 0) 0 c (some c))⟩)) [some ⟨2, List.replicate c (.agg [.bool false, .nil])⟩] = G2 at *
  have hxi : (X.set i (AV.mu (lid G 0) 0 c (some c))).getD i .top = .mu (lid G 0) 0 c (some c) := by
   simp [List.getD_eq_getElem?_getD, hXl, hi]
  refine Safe.rg rfl ?_
  simp only [b4l, lidx h2a rfl (some b.length) .i64 hi, lat h2a (show i < (X.set i (AV.mu (lid G 0) 0 c (some c))).length by rw [List.length_set]; omega), hxi, E3, seval]
  rw [lcpy h2b (by simp) (show a0Q (hap G2 []) 2 false (vecV b[i]) = some (b[i].map ZI.av) by simp [a0Q, vecV]) (by simpa using hbc), h2c, a1T]
  simp only [E3, seval]
  refine Safe.rg rfl ?_
  simp only [b4k, hiw, E3, seval]
  refine Safe.keep [0, 3, 9, 10, 11] ?_
  simp only [E3, seval]
  exact ih
 ·refine Safe.inLoop ?_
  refine Safe.rg rfl ?_
  simp only [a7y, Int.lt_irrefl, E3, seval]
  refine Safe.cd rfl ?_
  simp only [E3, seval]
  refine Safe.rg rfl ?_
  simp only [b4j, E3, seval]
  refine Safe.rt rfl ?_
  simp only [E3, seval]
  rw [e0U]
end Go.Abs
namespace Go.Abs
structure Lz (n c K : Nat) (π : Nat → Nat) (S : Nat → Nat → AV) (f : Nat → Nat → Int) : Prop where
 lt : ∀ a, a < n → π a < n
 inj : ∀ a b, a < n → b < n → π a = π b → a = b
 at_ : ∀ a b, a < n → b < c → ∃ x : ZI, S (π a) b = x.av ∧ x.z = f a b ∧ Zok K x
 cl : ∀ a b, Cl (S a b)
theorem Lz.swap {n c K : Nat} {π : Nat → Nat} {S : Nat → Nat → AV} {f : Nat → Nat → Int} (h : Lz n c K π S f) {p r : Nat} (hp : p < n) (hr : r < n) : Lz n c K (swp π p r) S fun a b => if a = p then f r b else if a = r then f p b else f a b := by
 have h0 : Lk n c π S fun a b => S (π a) b := ⟨h.lt, h.inj, fun _ _ _ _ => rfl, h.cl⟩
 have hs := Lk.swap (f := fun x : AV => x) h0 hp hr
 refine ⟨hs.lt, hs.inj, fun a b ha hb => ?_, h.cl⟩
 unfold swp
 split
 ·exact h.at_ r b hr hb
 ·split
  ·exact h.at_ p b hp hb
  ·exact h.at_ a b ha hb
def a8t (S : Nat → Nat → AV) (j : Nat) (f : Nat → AV) (t : Nat) : Nat → Nat → AV := fun a b => if a = j ∧ t ≤ b then f b else S a b
theorem d0Z {S : Nat → Nat → AV} {j : Nat} {f : Nat → AV} {t b : Nat} (h : b < t) : a8t S j f t j b = S j b := by simp [a8t]; omega
theorem d0Y {S : Nat → Nat → AV} {j a : Nat} {f : Nat → AV} {t b : Nat} (h : a ≠ j) : a8t S j f t a b = S a b := by simp [a8t, h]
theorem d9M (S : Nat → Nat → AV) (j : Nat) (f : Nat → AV) (t : Nat) : upd2 (a8t S j f (t + 1)) j t (f t) = a8t S j f t := by
 funext a b
 unfold upd2 a8t
 by_cases h1 : a = j
 ·subst h1
  by_cases h2 : b = t
  ·subst h2; simp
  ·by_cases h3 : t + 1 ≤ b
   ·rw [if_pos rfl, if_neg h2, if_pos ⟨rfl, h3⟩, if_pos ⟨rfl, by omega⟩]
   ·rw [if_pos rfl, if_neg h2, if_neg (by omega), if_neg (by omega)]
 ·rw [if_neg h1, if_neg (by omega), if_neg (by omega)]
theorem d8w {S : Nat → Nat → AV} {j : Nat} {f : Nat → AV} {t : Nat} (hS : ∀ a b, Cl (S a b)) (hf : ∀ b, Cl (f b)) : ∀ a b, Cl (a8t S j f t a b) := by
 intro a b; unfold a8t; split
 ·exact hf b
 ·exact hS a b
theorem a3e {q : Rat} {z : Int} (h : q = z) : q.num = z ∧ (q.num : Rat) = q := by subst h; exact ⟨rfl, rfl⟩
section
variable {n c e K : Nat} (b : List (List ZI)) (B : Nat → Nat → Rat)
def b2V (n : Nat) (B : Nat → Nat → Rat) (t : Nat) : Int := (gproc n B t).last.num
def ZgI (n : Nat) (B : Nat → Nat → Rat) (t a k : Nat) : Int := (Zg (gproc n B t) a k).num
section
variable (hB : Bd e B) (hn : n ≤ 64)
include hB hn
theorem d1Y (t : Nat) : (b2V n B t : Rat) = (gproc n B t).last ∧ (b2V n B t).natAbs ≤ LB ^ KB e := by
 obtain ⟨z, hz, hz1⟩ := b4b hB t (.inl hn)
 obtain ⟨h1, h2⟩ := a3e hz
 exact ⟨h2, by unfold b2V; rw [h1]; exact hz1⟩
theorem e8j (t : Nat) {a : Nat} (k : Nat) (ha : a < n) : (ZgI n B t a k : Rat) = Zg (gproc n B t) a k ∧ (ZgI n B t a k).natAbs ≤ LB ^ KB e := by
 obtain ⟨z, hz, hz1⟩ := e7w hB hn t k ha
 obtain ⟨h1, h2⟩ := a3e hz
 exact ⟨h2, by unfold ZgI; rw [h1]; exact hz1⟩
omit hB hn in
theorem b2R (t : Nat) {a : Nat} (k : Nat) {z : Int} (h : (z : Rat) = Zg (gproc n B t) a k) : z = ZgI n B t a k := by
 unfold ZgI; rw [← h]; rfl
end
def bScp : ACode := .seq (.region a6f false) (.seq (.region a6e false) (.seq (.region a6d false) (.seq (.label 0) (.seq (.seq (.region a6c false) (.block 0 (.loop a6g))) (.seq (.region a3a true) (.ret))))))
theorem c6I {H X : Heap} (hH : a0C H) (hX : ∀ b, some b ∈ X → ∀ a ∈ b.flat, Cl a) : a0C (hap H X) := by
 intro id b hb a ha
 have hlen : (hap H X).length = H.length + X.length := by simp [hap]
 simp only [hap] at hb
 rcases Nat.lt_or_ge id H.length with h1 | h1
 ·rw [List.getElem?_append_left h1] at hb
  exact (hH id b hb a ha).mono fun i hi => by have : i < H.length := hi; show i < _; omega
 ·rw [List.getElem?_append_right h1] at hb
  exact (hX b (List.mem_of_getElem? hb) a ha).ref
def d9q (H : Heap) (n c e : Nat) (B : Nat → Nat → Rat) (r' : AV) (H' : Heap) : Prop := ∃ β π S L lx, Lz n c (KB e + 1) π S (ZgI n B c) ∧ H.length ≤ β ∧ β + n < (hap H L).length ∧ H' = hM (hap H L) β n 2 c (some c) π S ∧ a0C H' ∧
   ZI.z lx = b2V n B c ∧ Zok (KB e + 1) lx ∧ r' = .tup [.mu β 0 n (some n), hsV (gproc n B c).cs, lx.av, .bool (gproc n B c).odd]
theorem d2G (hb : ∀ i, (h : i < b.length) → b[i].length = c) (hBb : ∀ a k, B a k = (zg (mg b a) k : Int)) (hm : Mok e b) (hB : Bd e B) (hn : b.length = n) (hn64 : n ≤ 64) (hc : c ≤ 2097152) (hK : KB e + 1 < 1099511627776) (H : Heap) :
  a0m Pr a4A [matV b, .int .i64 c] H (d9q H n c e B) := by
 refine a0m.introH c7h c7e (Nat.le_of_ble_eq_true rfl) fun hH => ?_
 have hBi : ∀ i k, ∃ z : Int, B i k = z := fun i k => by obtain ⟨z, h, _⟩ := hB i k; exact ⟨z, h⟩
 refine Safe.rg rfl ?_
 simp only [b2e, E3, seval]
 refine Safe.rg rfl ?_
 simp only [a6f, E3, seval]
 refine (d5O b hb (by omega) hc (hap H [some ⟨2, [.agg [.bool false, .nil]]⟩])).mono ?_
 rintro r' H' ⟨rfl, rfl⟩
 simp only [E3, seval]
 have e0 : lid (hap H [some ⟨2, [.agg [.bool false, .nil]]⟩]) 0 = lid H 1 := by simp [hap, lid]
 rw [e0, a0v, hn]
 have hX : ∀ x, some x ∈ [some (Blk.mk 2 [.agg [.bool false, .nil]])] → ∀ a ∈ x.flat, Cl a := RC.zero RC.nil
 have hS0 : ∀ j k, Cl (zav b j k) := fun _ _ => ZI.cl _
 have hGr : a0C (hap H ([some ⟨2, [.agg [.bool false, .nil]]⟩] ++ a7m (lid H 1) n 2 c (some c) (zav b))) := e0S hH hX fun j k _ _ => hS0 j k
 have hGm : hM (hap H ([some ⟨2, [.agg [.bool false, .nil]]⟩] ++ a7m (lid H 1) n 2 c (some c) (zav b))) (lid H 1) n 2 c (some c) (fun i => i) (zav b) = hap H ([some ⟨2, [.agg [.bool false, .nil]]⟩] ++ a7m (lid H 1) n 2 c (some c) (zav b)) := e9t H [some ⟨2, [.agg [.bool false, .nil]]⟩] n 2 c (some c) (zav b)
 have hG : lid H 1 + n < (hap H ([some ⟨2, [.agg [.bool false, .nil]]⟩] ++ a7m (lid H 1) n 2 c (some c) (zav b))).length := e5Y H [some ⟨2, [.agg [.bool false, .nil]]⟩] n 2 c (some c) (zav b)
 have hbox : (hap H ([some ⟨2, [.agg [.bool false, .nil]]⟩] ++ a7m (lid H 1) n 2 c (some c) (zav b)))[lid H 0]? = some (some ⟨2, [.agg [.bool false, .nil]]⟩) := by
  simp only [hap, lid, Nat.add_zero]
  rw [List.getElem?_append_right (Nat.le_refl _)]; simp
 have hGH : ∃ L0, hap H ([some ⟨2, [.agg [.bool false, .nil]]⟩] ++ a7m (lid H 1) n 2 c (some c) (zav b)) = hap H L0 := ⟨_, rfl⟩
 rw [← hGm] at hGr
 rw [← hGm, ← a1T (hM _ _ _ _ _ _ _ _)]
 clear hGm
 generalize hap H ([some ⟨2, [.agg [.bool false, .nil]]⟩] ++ a7m (lid H 1) n 2 c (some c) (zav b)) = G at *
 have hb01 : lid H 0 < lid H 1 := by simp [lid]
 have hb0 : H.length ≤ lid H 1 := a1M H 1
 have hb00 : H.length ≤ lid H 0 := a1M H 0
 have hbl : lid H 0 = H.length := by simp [lid]
 generalize lid H 1 = β at *
 generalize lid H 0 = b0 at *
 have hHn : H.length ≤ G.length := by omega
 refine Safe.rg rfl ?_
 simp only [a6e, E3, seval]
 refine Safe.nilrow 9 1 (by decide) (by simp only [E3, seval]) ?_
 refine Safe.rg rfl ?_
 simp only [a6d, a4Y, a1S, a2J, a2X, E3, seval]
 first | refine (b2A 1 (by decide) (by decide)).acall ?_ | refine (b2A 1 (by decide) (by decide)).dcall ?_ | refine (b2A 1 (by decide) (by decide)).dgcall ?_
 try simp only [E3, seval]
 simp only [a4Y, a1S, a2J, a2X, E3, seval]
 refine Safe.rg rfl ?_
 simp only [a6c, a4Y, a1S, a2J, a2X, E3, seval]
 refine Safe.lp rfl ?_
 refine Safe.keep [6, 8, 9, 10, 11, 21, 22] ?_
 simp only [a4Y, a1S, a2J, a2X, E3, seval]
 have hlast0 : b2V n B 0 = 1 := by unfold b2V; rfl
 refine Safe.loopW (α := Nat × (Nat → Nat) × (Nat → Nat → AV) × ZI) (fun s => c - s.1)
  (fun s => [(6, .loc b0 0 0), (8, .mu β 0 n (some n)), (9, .mu (lid G 0) 0 (gproc n B s.1).cs.length none), (10, .loc (lid G 1) 0 0), (11, .bool (gproc n B s.1).odd), (21, .int .i64 c), (22, .int .i64 s.1)])
  (fun s => hap (hM G β n 2 c (some c) s.2.1 s.2.2.1) [some ⟨1, (gproc n B s.1).cs.map intV⟩, some ⟨2, [s.2.2.2.av]⟩])
  (fun s => s.1 ≤ c ∧ Lz n c (KB e + 1) s.2.1 s.2.2.1 (ZgI n B s.1) ∧ s.2.2.2.z = b2V n B s.1 ∧ Zok (KB e + 1) s.2.2.2) (0, fun i => i, zav b, canZ 1) rfl rfl
  ⟨Nat.zero_le _, ⟨fun a h => h, fun _ _ _ _ h => h, fun a k ha hk => ?_, hS0⟩, by rw [hlast0]; exact a0x 1, a0q (f1x _)⟩ ?_
 ·refine ⟨(mg b a).getD k ⟨false, []⟩, rfl, ?_, ?_⟩
  ·refine b2R B 0 k (a := a) ?_
   show ((zg (mg b a) k : Int) : Rat) = Zg (gproc n B 0) a k
   rw [e4Q k (Nat.zero_le _)]
   show ((zg (mg b a) k : Int) : Rat) = a7q B [] * a2R B [] a k
   rw [e3x, c6N, hBb]; grind
  ·have hr := hm.row a
   have hl : (mg b a).length = c := by rw [a1F (by omega)]; exact hb a (by omega)
   rw [List.getD_eq_getElem?_getD, List.getElem?_eq_getElem (by omega)]
   exact (hr.get (by omega)).mono (by unfold KB; omega)
 rintro ⟨t, π, S1, lx⟩ ⟨ht, hL, hlz, hlk⟩ ih
 simp only at ht hL hlz hlk ih ⊢
 have hok := b8f (n := n) hBi t
 have hrn := hok.len
 have hHr : ∀ {K : Nat} {π' : Nat → Nat} {S' : Nat → Nat → AV} {F : Nat → Nat → Int}, Lz n c K π' S' F → a0C (hM G β n 2 c (some c) π' S') := fun h => e3I hG hGr h.lt fun a b _ _ => h.cl a b
 have htlt : t < 9223372036854775807 := by omega
 have htw : IntKind.wrap .i64 ((t : Int) + 1) = ((t + 1 : Nat) : Int) := by rw [a0c] <;> omega
 refine Safe.inLoop ?_
 by_cases htc : t < c
 ·have hlt : ((t : Int) < (c : Int)) = True := eq_true (by omega)
  refine Safe.rg rfl ?_
  simp only [a6b, hlt, E3, seval]
  refine Safe.cd rfl ?_
  simp only [E3, seval]
  refine Safe.rg rfl ?_
  simp only [b2d, E3, seval]
  refine Safe.rg rfl ?_
  simp only [b2c, a4Y, a1S, a2J, a2X, E3, seval]
  refine Safe.rg rfl ?_
  simp only [b2b, E3, seval]
  have entry : ∀ q, q < n → ∃ x : ZI, S1 (π q) t = x.av ∧ x.z = ZgI n B t q t ∧ Zok (KB e + 1) x := fun q hq => hL.at_ q t hq htc
  have hzg : ∀ q k, (gproc n B t).cs.length ≤ q → q < n → (ZgI n B t q k : Rat) = (gproc n B t).last * (gproc n B t).g q k := fun q k h1 h2 => by
   rw [(e8j B hB hn64 t k h2).1, e4Q k h1]
  have hlne : (gproc n B t).last ≠ 0 := d1Z hok.piv
  have hz0 : ∀ q, (gproc n B t).cs.length ≤ q → q < n → (ZgI n B t q t = 0 ↔ (gproc n B t).g q t = 0) := fun q h1 h2 => by
   have h := hzg q t h1 h2
   constructor
   ·intro h0; rw [h0] at h
    have : (gproc n B t).last * (gproc n B t).g q t = 0 := by rw [← h]; rfl
    rcases Rat.mul_eq_zero.1 this with h | h
    ·exact absurd h hlne
    ·exact h
   ·intro h0; rw [h0, Rat.mul_zero] at h
    exact Rat.intCast_inj.1 (by rw [h]; rfl)
  rcases a1H (fun p => (gproc n B t).g p t) (gproc n B t).cs.length n with ⟨p, hf, h1, h2, h3, h4⟩ | ⟨hf, h4⟩
  ·have hcs : (gproc n B (t + 1)).cs = (gproc n B t).cs ++ [t] := by
    show (b1T n (gproc n B t) t).cs = _
    rw [a1o hf]
   have hodd : (gproc n B (t + 1)).odd = if p = (gproc n B t).cs.length then (gproc n B t).odd else !(gproc n B t).odd := by
    show (b1T n (gproc n B t) t).odd = _
    rw [a1o hf]
   have hr : (gproc n B t).cs.length < n := by omega
   obtain ⟨hlq, hlb⟩ := d1Y B hB hn64 t
   obtain ⟨hlq1, hlb1⟩ := d1Y B hB hn64 (t + 1)
   have hls := e3w hf h1 hok
   have hgz := d5u (n := n) hBi t
   have hgz1 := d5u (n := n) hBi (t + 1)
   have hZab : ∀ a k, a < (gproc n B t).cs.length → ZgI n B (t + 1) a k = ZgI n B t a k := fun a k ha => by unfold ZgI; rw [e7x hf h1 k ha]
   have hZhd : ∀ k, ZgI n B (t + 1) (gproc n B t).cs.length k = ZgI n B t p k := fun k => by
    refine (b2R B (t + 1) k ?_).symm
    rw [hzg p k h1 h2, f0z hf h1 k]
   have hZpt : (ZgI n B t p t : Rat) = (gproc n B t).last * (gproc n B t).g p t := hzg p t h1 h2
   have hlast1 : ZgI n B t p t = b2V n B (t + 1) := Rat.intCast_inj.1 (by rw [hZpt, hlq1, hls])
   have hl0 : b2V n B t ≠ 0 := fun h => hlne (by rw [← hlq, h]; rfl)
   -- the new rows below
   have hrows : ∀ i k, (gproc n B t).cs.length < i → i < n → ZgI n B t p t * ZgI n B t (if i = p then (gproc n B t).cs.length else i) k - ZgI n B t (if i = p then (gproc n B t).cs.length else i) t * ZgI n B t p k = b2V n B t * ZgI n B (t + 1) i k := by
    intro i k hi hin
    have hσ1 : (gproc n B t).cs.length ≤ (if i = p then (gproc n B t).cs.length else i) := by split <;> omega
    have hσ2 : (if i = p then (gproc n B t).cs.length else i) < n := by split <;> omega
    obtain ⟨z, hz1, hz2⟩ := d2F hok (fun i k => by obtain ⟨z, h, _⟩ := hB.gproc (n := n) t i k; exact ⟨z, h⟩) (p := p) (c := t) (i := i) (k := k) h1 h3 hi hlq (hzg p t h1 h2) (hzg _ k hσ1 hσ2) (hzg _ t hσ1 hσ2) (hzg p k h1 h2)
    have : z = ZgI n B (t + 1) i k := by
     refine b2R B (t + 1) k ?_
     rw [hz2, d9s hf k hi, hls]
     have e : gproc n B (t + 1) = _ := a1o hf
     rw [e]; rfl
    rw [← this]; exact hz1
   have hzero : ∀ i k, (gproc n B t).cs.length < i → i < n → k < t → ZgI n B t (if i = p then (gproc n B t).cs.length else i) k = ZgI n B (t + 1) i k := by
    intro i k hi hin hk
    have hσ1 : (gproc n B t).cs.length ≤ (if i = p then (gproc n B t).cs.length else i) := by split <;> omega
    have hσ2 : (if i = p then (gproc n B t).cs.length else i) < n := by split <;> omega
    refine b2R B (t + 1) k ?_
    rw [hzg _ k hσ1 hσ2, hgz _ k hσ1 hσ2 hk, d9s hf k hi, hgz1 i k (by rw [hcs, a2N]; omega) hin (by omega)]
    grind
   have hZb : ∀ a k, a < n → (ZgI n B (t + 1) a k).natAbs < LB ^ (KB e + 1) := fun a k ha => by
    have h1 := (e8j B hB hn64 (t + 1) k ha).2
    have : LB ^ KB e < LB ^ (KB e + 1) := Nat.pow_lt_pow_right (by decide) (by omega)
    omega
   clear hlq hlq1 hls hgz hgz1 hzg
   generalize hcsl : (gproc n B t).cs.length = r at *
   let f0 : Nat → Nat → Int := fun a k => if a = p then ZgI n B t r k else if a = r then ZgI n B t p k else ZgI n B t a k
   have hf0r : ∀ k, f0 r k = ZgI n B t p k := fun k => by
    show (if r = p then ZgI n B t r k else if r = r then ZgI n B t p k else ZgI n B t r k) = _
    split
    ·rename_i h; rw [h]
    ·rw [if_pos rfl]
   have hf0i : ∀ i k, r < i → f0 i k = ZgI n B t (if i = p then r else i) k := fun i k hi => by
    show (if i = p then ZgI n B t r k else if i = r then ZgI n B t p k else ZgI n B t i k) = _
    split
    ·rfl
    ·rw [if_neg (by omega)]
   have hf0a : ∀ a k, a < r → f0 a k = ZgI n B t a k := fun a k ha => by
    show (if a = p then ZgI n B t r k else if a = r then ZgI n B t p k else ZgI n B t a k) = _
    rw [if_neg (by omega), if_neg (by omega)]
   have main : ∀ π', Lz n c (KB e + 1) π' S1 f0 → Safe ⟨Pr, fun _ _ => false, a4A, 147, [.tmp 4, .tmp 5, .cell 6 (some 2), .tmp 7], H.length⟩
     [.code (((ACode.region a4Q false).seq (.block 4 (.loop b2f))).seq ((ACode.region a4N false).seq (.region a4M false))),
      .inBlock 1, .code (.region a3b false), .inLoop a6g, .inBlock 0, .code ((ACode.region a3a true).seq .ret), .inScope bScp]
     [(6, .loc b0 0 0), (8, .mu β 0 n (some n)), (9, .mu (lid G 0) 0 r none), (10, .loc (lid G 1) 0 0), (11, .bool (gproc n B (t + 1)).odd), (12, .int .i64 t), (13, .int .i64 r), (21, .int .i64 c), (22, .int .i64 t)]
     (hap (hM G β n 2 c (some c) π' S1) [some ⟨1, (gproc n B t).cs.map intV⟩, some ⟨2, [lx.av]⟩]) (d9q H n c e B) := by
    intro π' hL'
    have hpr := hL'.lt r hr
    have hrw2 : IntKind.wrap .i64 ((r : Int) + 1) = ((r + 1 : Nat) : Int) := by rw [a0c] <;> omega
    refine Safe.rg rfl ?_
    simp only [a4Q, hrw2, E3, seval]
    refine Safe.lp rfl ?_
    refine Safe.keep [6, 8, 9, 10, 11, 12, 13, 15, 21, 22] ?_
    try simp only [E3, seval]
    refine Safe.loopW (α := Nat × (Nat → Nat → AV)) (fun s => n - s.1)
     (fun s => [(6, .loc b0 0 0), (8, .mu β 0 n (some n)), (9, .mu (lid G 0) 0 r none), (10, .loc (lid G 1) 0 0), (11, .bool (gproc n B (t + 1)).odd), (12, .int .i64 t), (13, .int .i64 r), (15, .int .i64 s.1), (21, .int .i64 c), (22, .int .i64 t)])
     (fun s => hap (hM G β n 2 c (some c) π' s.2) [some ⟨1, (gproc n B t).cs.map intV⟩, some ⟨2, [lx.av]⟩])
     (fun s => r < s.1 ∧ s.1 ≤ n ∧ Lz n c (KB e + 1) π' s.2 (fun a k => if r < a ∧ a < s.1 then ZgI n B (t + 1) a k else f0 a k)) (r + 1, S1) rfl rfl
     ⟨Nat.lt_succ_self r, hr, hL'.lt, hL'.inj, fun a k ha hk => ?_, hL'.cl⟩ ?_
    ·have := hL'.at_ a k ha hk
     show ∃ x : ZI, S1 (π' a) k = x.av ∧ x.z = (if r < a ∧ a < r + 1 then ZgI n B (t + 1) a k else f0 a k) ∧ Zok (KB e + 1) x
     rw [if_neg (by omega)]; exact this
    rintro ⟨i, S2⟩ ⟨hri, hin, hL2⟩ ih2
    simp only at hri hin hL2 ih2 ⊢
    refine Safe.inLoop ?_
    by_cases hi : i < n
    ·have hlt2 : ((i : Int) < (n : Int)) = True := eq_true (by omega)
     have hiw : IntKind.wrap .i64 ((i : Int) + 1) = ((i + 1 : Nat) : Int) := by rw [a0c] <;> omega
     have hcw : IntKind.wrap .i64 ((c : Int) - 1) = (c : Int) - 1 := a0c (by omega) (by omega)
     have hpi := hL2.lt i hi
     have hne : π' r ≠ π' i := fun h => by have := hL2.inj _ _ hr hi h; omega
     refine Safe.rg rfl ?_
     simp only [a4P, d6c hG, hlt2, E3, seval]
     refine Safe.cd rfl ?_
     simp only [E3, seval]
     refine Safe.rg rfl ?_
     simp only [b0m, c0h hG hi, M_at hG hi, f1Z hG hpi, hcw, E3, seval]
     refine Safe.lp rfl ?_
     refine Safe.keep [6, 8, 9, 10, 11, 12, 13, 15, 16, 21, 22] ?_
     try simp only [E3, seval]
     refine Safe.loopD (c - t) (fun m => [(6, .loc b0 0 0), (8, .mu β 0 n (some n)), (9, .mu (lid G 0) 0 r none), (10, .loc (lid G 1) 0 0), (11, .bool (gproc n B (t + 1)).odd), (12, .int .i64 t), (13, .int .i64 r), (15, .int .i64 i), (16, .int .i64 (((t + m : Nat) : Int) - 1)), (21, .int .i64 c), (22, .int .i64 t)])
      (fun m => hap (hM G β n 2 c (some c) π' (a8t S2 (π' i) (fun k => Z (ZgI n B (t + 1) i k)) (t + m))) [some ⟨1, (gproc n B t).cs.map intV⟩, some ⟨2, [lx.av]⟩]) ?_ ?_ (fun m hm ihm => ?_) ?_
     ·rw [show t + (c - t) = c by omega]
     ·rw [show t + (c - t) = c by omega]
      refine congrArg (fun x => hap x _) (e6u fun j k hj hk => ?_)
      unfold a8t; rw [if_neg (by omega)]
     ·have hkc : t + m < c := by omega
      have e1 : (((t + (m + 1) : Nat) : Int) - 1) = ((t + m : Nat) : Int) := by omega
      rw [e1]
      have hge : (((t + m : Nat) : Int) ≥ (t : Int)) = True := eq_true (by omega)
      have hkw : IntKind.wrap .i64 (((t + m : Nat) : Int) - 1) = ((t + m : Nat) : Int) - 1 := a0c (by omega) (by omega)
      obtain ⟨x1, hx1, hz1, hk1⟩ := hL2.at_ r t hr htc
      obtain ⟨x2, hx2, hz2, hk2⟩ := hL2.at_ i (t + m) hi hkc
      obtain ⟨x3, hx3, hz3, hk3⟩ := hL2.at_ i t hi htc
      obtain ⟨x4, hx4, hz4, hk4⟩ := hL2.at_ r (t + m) hr hkc
      rw [if_neg (by omega), hf0r] at hz1 hz4
      rw [if_neg (by omega), hf0i i _ hri] at hz2 hz3
      have hex := hrows i (t + m) hri hi
      rw [← hz1, ← hz2, ← hz3, ← hz4, ← hlz] at hex
      have v1 : a8t S2 (π' i) (fun k => Z (ZgI n B (t + 1) i k)) (t + (m + 1)) (π' r) t = x1.av := by rw [d0Y hne]; exact hx1
      have v2 : a8t S2 (π' i) (fun k => Z (ZgI n B (t + 1) i k)) (t + (m + 1)) (π' i) (t + m) = x2.av := by rw [d0Z (by omega)]; exact hx2
      have v3 : a8t S2 (π' i) (fun k => Z (ZgI n B (t + 1) i k)) (t + (m + 1)) (π' i) t = x3.av := by rw [d0Z (by omega)]; exact hx3
      have v4 : a8t S2 (π' i) (fun k => Z (ZgI n B (t + 1) i k)) (t + (m + 1)) (π' r) (t + m) = x4.av := by rw [d0Y hne]; exact hx4
      have hstep := d9M S2 (π' i) (fun k => Z (ZgI n B (t + 1) i k)) (t + m)
      have hclS : ∀ a b, Cl (a8t S2 (π' i) (fun k => Z (ZgI n B (t + 1) i k)) (t + m) a b) := d8w hL2.cl fun _ => Z_cl _
      have hm1 := a1R hk1.abs hk2.abs
      have hm2 := a1R hk3.abs hk4.abs
      have hs1 := e2b hm1 hm2
      rw [show t + (m + 1) = t + m + 1 by omega] at v1 v2 v3 v4 ⊢
      generalize a8t S2 (π' i) (fun k => Z (ZgI n B (t + 1) i k)) (t + m + 1) = St at *
      refine Safe.inLoop ?_
      refine Safe.rg rfl ?_
      simp only [a4O, hge, E3, seval]
      refine Safe.cd rfl ?_
      simp only [E3, seval]
      refine Safe.rg rfl ?_
      simp only [b0l, a4Y, a1S, a2J, a2X, c0h hG hr, M_at hG hr, c0h hG hi, M_at hG hi, c3G hG hpr htc, E_at hG hpr htc, c3G hG hpi hkc, E_at hG hpi hkc, c3G hG hpi htc, E_at hG hpi htc, c3G hG hpr hkc, E_at hG hpr hkc, v1, v2, v3, v4, E3, seval]
      refine (a7J x1 x2 _ _ hk1 hk2 (by omega)).dcall ?_
      simp only [a4Y, a1S, a2J, a2X, c0h hG hr, M_at hG hr, c0h hG hi, M_at hG hi, c3G hG hpi htc, E_at hG hpi htc, c3G hG hpr hkc, E_at hG hpr hkc, v3, v4, E3, seval]
      refine (a7J x3 x4 _ _ hk3 hk4 (by omega)).dcall ?_
      simp only [E3, seval]
      refine (d8r hm1 hm2 (by omega)).dcall ?_
      simp only [a4Y, a1S, a2J, a2X, E3, seval]
      have hfl := a6w (canZ (x1.z * x2.z - x3.z * x4.z)) lx (KB e + 1 + (KB e + 1) + 1) (a0q hs1) (hlk.mono (by omega)) (by omega) (ZgI n B (t + 1) i (t + m)) (by rw [hlz]; exact hl0) (by rw [a0x]; exact hex)
      rw [a2p] at hfl
      refine Safe.rg rfl ?_
      simp only [b0k, a4Y, a1S, a2J, a2X, c0h hG hi, M_at hG hi, c3G hG hpi hkc, E3, seval]
      refine hfl.dcall ?_
      simp only [a4Y, a1S, a2J, a2X, c3G hG hpi hkc, E3, seval]
      simp only [E_st hG hpi hkc (f1Y _) (show (Z _).cells.length = 2 from rfl), hstep, E3, seval]
      refine Safe.rg rfl ?_
      simp only [b0j, hkw, E3, seval]
      refine Safe.keep [6, 8, 9, 10, 11, 12, 13, 15, 16, 21, 22] ?_
      simp only [E3, seval]
      have hnb2 : nref (lid G 2) (.mu β 0 n (some n)) = true := e2O (by unfold lid; omega)
      have hnb3 : nref (lid G 2) (.loc b0 0 0) = true := a0j.2 (.loc _ _ _ (by show b0 ≠ _; unfold lid; omega))
      refine Safe.dropM [some ⟨1, (gproc n B t).cs.map intV⟩, some ⟨2, [lx.av]⟩] (e3I hG hGr hL'.lt fun a b _ _ => hclS a b) (by show H.length ≤ _; exact hHn) (by simp only [List.all_cons, List.all_nil, hnb2, hnb3, E3, seval]) (RC.row d2c (RC.one (ZI.cl _) RC.nil)) ?_
      exact ihm
     ·have hge : ((t : Int) - 1 ≥ (t : Int)) = False := eq_false (by omega)
      refine Safe.inLoop ?_
      refine Safe.rg rfl ?_
      simp only [a4O, hge, E3, seval]
      refine Safe.cd rfl ?_
      simp only [E3, seval]
      refine Safe.rg rfl ?_
      simp only [b0i, hiw, E3, seval]
      refine Safe.keep [6, 8, 9, 10, 11, 12, 13, 15, 21, 22] ?_
      simp only [E3, seval]
      refine ih2 (i + 1, _) ⟨Nat.lt_succ_of_lt hri, hi, hL2.lt, hL2.inj, fun a k ha hk => ?_, d8w hL2.cl fun _ => Z_cl _⟩ (by show n - (i + 1) < n - i; omega)
      show ∃ x : ZI, a8t S2 (π' i) (fun k => Z (ZgI n B (t + 1) i k)) t (π' a) k = x.av ∧ x.z = (if r < a ∧ a < i + 1 then ZgI n B (t + 1) a k else f0 a k) ∧ Zok (KB e + 1) x
      by_cases hai : a = i
      ·subst hai
       rw [if_pos ⟨hri, Nat.lt_succ_self a⟩]
       by_cases hkt : t ≤ k
       ·refine ⟨canZ (ZgI n B (t + 1) a k), ?_, a0x _, a0q (hZb a k ha)⟩
        unfold a8t; rw [if_pos ⟨rfl, hkt⟩, a2p]
       ·obtain ⟨x, hx, hz, hk'⟩ := hL2.at_ a k ha hk
        rw [if_neg (by omega), hf0i a k hri, hzero a k hri ha (by omega)] at hz
        exact ⟨x, by rw [d0Z (by omega)]; exact hx, hz, hk'⟩
      ·obtain ⟨x, hx, hz, hk'⟩ := hL2.at_ a k ha hk
       refine ⟨x, by rw [d0Y (fun h => hai (hL2.inj _ _ ha hi h))]; exact hx, ?_, hk'⟩
       rw [hz]
       by_cases h5 : r < a ∧ a < i
       ·rw [if_pos h5, if_pos ⟨h5.1, by omega⟩]
       ·rw [if_neg h5, if_neg (by omega)]
    ·have hin' : i = n := by omega
     subst hin'
     refine Safe.rg rfl ?_
     simp only [a4P, d6c hG, Int.lt_irrefl, E3, seval]
     refine Safe.cd rfl ?_
     simp only [E3, seval]
     have hL3 : Lz i c (KB e + 1) π' S2 (ZgI i B (t + 1)) := by
      refine ⟨hL2.lt, hL2.inj, fun a k ha hk => ?_, hL2.cl⟩
      obtain ⟨x, hx, hz, hk'⟩ := hL2.at_ a k ha hk
      refine ⟨x, hx, ?_, hk'⟩
      rw [hz]
      rcases Nat.lt_trichotomy a r with h | h | h
      ·rw [if_neg (by omega), hf0a a k h, hZab a k h]
      ·subst h; rw [if_neg (by omega), hf0r, hZhd]
      ·rw [if_pos ⟨h, ha⟩]
     obtain ⟨x1, hx1, hz1, hk1⟩ := hL3.at_ r t hr htc
     rw [hZhd, hlast1] at hz1
     have hnb2 : nref (lid G 0) (.mu β 0 i (some i)) = true := e2O (by unfold lid; omega)
     have hnb3 : nref (lid G 0) (.loc b0 0 0) = true := a0j.2 (.loc _ _ _ (by show b0 ≠ _; unfold lid; omega))
     refine Safe.rg rfl ?_
     simp only [a4N, a4Y, a1S, a2J, a2X, c0h hG hr, M_at hG hr, c3G hG hpr htc, E_at hG hpr htc, hx1, E3, seval]
     have hRC : RC [some ⟨1, (gproc i B t).cs.map intV⟩, some ⟨2, [x1.av]⟩] := RC.row d2c (RC.one (ZI.cl _) RC.nil)
     refine Safe.rg rfl ?_
     simp only [a4M, E3, seval]
     have happ := fun env : Env => e7r (hHr hL3) (L := [some ⟨1, (gproc i B t).cs.map intV⟩, some ⟨2, [x1.av]⟩]) 0 (n0 := H.length) (Nat.le_trans hHn (a1M G 0)) (env := env) (wd := 1) (bytes := 8) (f := intV) (y := .int .i64 (t : Int)) d2c (gproc i B t).cs t hcsl.symm rfl hRC rfl (by omega) (by omega)
     simp only [ZI.av] at happ
     rw [happ]
     simp only [hnb2, hnb3, List.set_cons_succ, List.set_cons_zero, E3, seval]
     refine Safe.rg rfl ?_
     simp only [a3b, htw, E3, seval]
     refine Safe.keep [6, 8, 9, 10, 11, 21, 22] ?_
     simp only [E3, seval]
     have hfin := ih (t + 1, π', S2, x1) ⟨htc, hL3, hz1, hk1⟩ (by show c - (t + 1) < c - t; omega)
     simp only [hcs, a2N, hcsl] at hfin
     exact hfin
   -- the head's row
   refine Safe.lp rfl ?_
   refine Safe.keep [6, 8, 9, 10, 11, 12, 13, 14, 21, 22] ?_
   try simp only [E3, seval]
   refine Safe.loopN (p - r) (fun j => [(6, .loc b0 0 0), (8, .mu β 0 n (some n)), (9, .mu (lid G 0) 0 r none), (10, .loc (lid G 1) 0 0), (11, .bool (gproc n B t).odd), (12, .int .i64 t), (13, .int .i64 r), (14, .int .i64 ((r + j : Nat) : Int)), (21, .int .i64 c), (22, .int .i64 t)])
    (fun _ => hap (hM G β n 2 c (some c) π S1) [some ⟨1, (gproc n B t).cs.map intV⟩, some ⟨2, [lx.av]⟩]) rfl rfl (fun j hj2 ihj => ?_) ?_
   ·have hq : r + j < n := by omega
    have hlt2 : (((r + j : Nat) : Int) < (n : Int)) = True := eq_true (by omega)
    have hpq := hL.lt (r + j) hq
    have hqw : IntKind.wrap .i64 (((r + j : Nat) : Int) + 1) = ((r + (j + 1) : Nat) : Int) := by rw [a0c] <;> omega
    obtain ⟨x, v4, hxz, hxk⟩ := entry (r + j) hq
    have hz : ZgI n B t (r + j) t = 0 := (hz0 _ (by omega) hq).2 (h4 _ (by omega) (by omega))
    rw [hz] at hxz
    refine Safe.inLoop ?_
    refine Safe.rg rfl ?_
    simp only [a2A, d6c hG, hlt2, c0h hG hq, M_at hG hq, c3G hG hpq htc, E_at hG hpq htc, v4, E3, seval]
    refine (a3h x (hxk.mono (by omega))).acall ?_
    simp only [hxz, Int.sign_zero, E3, seval]
    refine Safe.cd rfl ?_
    simp only [E3, seval]
    refine Safe.rg rfl ?_
    simp only [a4T, hqw, E3, seval]
    refine Safe.keep [6, 8, 9, 10, 11, 12, 13, 14, 21, 22] ?_
    simp only [E3, seval]
    refine Safe.inBlock ?_
    exact ihj
   ·have hrp : r + (p - r) = p := by omega
    rw [hrp]
    have hlt2 : ((p : Int) < (n : Int)) = True := eq_true (by omega)
    have hpq := hL.lt p h2
    obtain ⟨x, v4, hxz, hxk⟩ := entry p h2
    have hz : (x.z.sign = 0) = False := eq_false (by rw [hxz, Int.sign_eq_zero_iff_zero, hz0 p h1 h2]; exact h3)
    have hpn : ((p : Int) = (n : Int)) = False := eq_false (by omega)
    refine Safe.inLoop ?_
    refine Safe.rg rfl ?_
    simp only [a2A, d6c hG, hlt2, c0h hG h2, M_at hG h2, c3G hG hpq htc, E_at hG hpq htc, v4, E3, seval]
    refine (a3h x (hxk.mono (by omega))).acall ?_
    simp only [hz, E3, seval]
    refine Safe.cd rfl ?_
    simp only [E3, seval]
    refine Safe.rg rfl ?_
    simp only [a4S, d6c hG, hpn, E3, seval]
    refine Safe.cd rfl ?_
    simp only [E3, seval]
    by_cases hpr : p = r
    ·have hpr1 : ((p : Int) = (r : Int)) = True := eq_true (by omega)
     refine Safe.rg rfl ?_
     simp only [a4R, hpr1, E3, seval]
     refine Safe.cd rfl ?_
     simp only [E3, seval]
     refine Safe.keep [6, 8, 9, 10, 11, 12, 13, 21, 22] ?_
     simp only [E3, seval]
     have hm := main π (by
      refine ⟨hL.lt, hL.inj, fun a k ha hk => ?_, hL.cl⟩
      obtain ⟨x, hx, hz, hk'⟩ := hL.at_ a k ha hk
      refine ⟨x, hx, ?_, hk'⟩
      rw [hz]
      show _ = if a = p then ZgI n B t r k else if a = r then ZgI n B t p k else ZgI n B t a k
      split
      ·rename_i h; rw [h, hpr]
      ·split
       ·rename_i h; omega
       ·rfl)
     rw [hodd, if_pos hpr] at hm
     refine Safe.skip ?_
     exact hm
    ·have hpr1 : ((p : Int) = (r : Int)) = False := eq_false (by omega)
     refine Safe.rg rfl ?_
     simp only [a4R, hpr1, E3, seval]
     refine Safe.cd rfl ?_
     simp only [E3, seval]
     refine Safe.rg rfl ?_
     simp only [b0o, c0h hG h2, M_at hG h2, c0h hG hr, M_at hG hr, E3, seval]
     simp only [M_st hG h2, c0h hG hr, M_st hG hr, f0U, E3, seval]
     refine Safe.rg rfl ?_
     simp only [b0n, E3, seval]
     refine Safe.keep [6, 8, 9, 10, 11, 12, 13, 21, 22] ?_
     simp only [E3, seval]
     have hm := main (swp π p r) (Lz.swap hL h2 hr)
     rw [hodd, if_neg hpr] at hm
     exact hm
  ·-- no head in this column
   have hcs : gproc n B (t + 1) = gproc n B t := a3u hf
   generalize hcsl : (gproc n B t).cs.length = r at *
   refine Safe.lp rfl ?_
   refine Safe.keep [6, 8, 9, 10, 11, 12, 13, 14, 21, 22] ?_
   try simp only [E3, seval]
   refine Safe.loopN (n - r) (fun j => [(6, .loc b0 0 0), (8, .mu β 0 n (some n)), (9, .mu (lid G 0) 0 r none), (10, .loc (lid G 1) 0 0), (11, .bool (gproc n B t).odd), (12, .int .i64 t), (13, .int .i64 r), (14, .int .i64 ((r + j : Nat) : Int)), (21, .int .i64 c), (22, .int .i64 t)])
    (fun _ => hap (hM G β n 2 c (some c) π S1) [some ⟨1, (gproc n B t).cs.map intV⟩, some ⟨2, [lx.av]⟩]) rfl rfl (fun j hj2 ihj => ?_) ?_
   ·have hq : r + j < n := by omega
    have hlt2 : (((r + j : Nat) : Int) < (n : Int)) = True := eq_true (by omega)
    have hpq := hL.lt (r + j) hq
    have hqw : IntKind.wrap .i64 (((r + j : Nat) : Int) + 1) = ((r + (j + 1) : Nat) : Int) := by rw [a0c] <;> omega
    obtain ⟨x, v4, hxz, hxk⟩ := entry (r + j) hq
    have hz : ZgI n B t (r + j) t = 0 := (hz0 _ (by omega) hq).2 (h4 _ (by omega) (by omega))
    rw [hz] at hxz
    refine Safe.inLoop ?_
    refine Safe.rg rfl ?_
    simp only [a2A, d6c hG, hlt2, c0h hG hq, M_at hG hq, c3G hG hpq htc, E_at hG hpq htc, v4, E3, seval]
    refine (a3h x (hxk.mono (by omega))).acall ?_
    simp only [hxz, Int.sign_zero, E3, seval]
    refine Safe.cd rfl ?_
    simp only [E3, seval]
    refine Safe.rg rfl ?_
    simp only [a4T, hqw, E3, seval]
    refine Safe.keep [6, 8, 9, 10, 11, 12, 13, 14, 21, 22] ?_
    simp only [E3, seval]
    refine Safe.inBlock ?_
    exact ihj
   ·have hrp : r + (n - r) = n := by omega
    rw [hrp]
    refine Safe.inLoop ?_
    refine Safe.rg rfl ?_
    simp only [a2A, d6c hG, Int.lt_irrefl, E3, seval]
    refine Safe.cd rfl ?_
    simp only [E3, seval]
    refine Safe.rg rfl ?_
    simp only [a4S, d6c hG, E3, seval]
    refine Safe.cd rfl ?_
    simp only [E3, seval]
    refine Safe.rg rfl ?_
    simp only [a3b, htw, E3, seval]
    refine Safe.keep [6, 8, 9, 10, 11, 21, 22] ?_
    simp only [E3, seval]
    have hz1 : ZgI n B (t + 1) = ZgI n B t := by funext a k; unfold ZgI; rw [hcs]
    have hl1 : b2V n B (t + 1) = b2V n B t := by unfold b2V; rw [hcs]
    have hfin := ih (t + 1, π, S1, lx) ⟨htc, by rw [hz1]; exact hL, by rw [hl1]; exact hlz, hlk⟩ (by show c - (t + 1) < c - t; omega)
    simp only [hcs, hcsl] at hfin
    exact hfin
 ·have htc' : t = c := by omega
  subst htc'
  refine Safe.rg rfl ?_
  simp only [a6b, Int.lt_irrefl, E3, seval]
  refine Safe.cd rfl ?_
  simp only [E3, seval]
  have hnb2 : frz (lid G 0) ⟨1, (gproc n B t).cs.map intV⟩ (.mu β 0 n (some n)) = .mu β 0 n (some n) := a2o (.mu _ _ _ _ (by show β ≠ _; unfold lid; omega))
  have hnb3 : frz (lid G 0) ⟨1, (gproc n B t).cs.map intV⟩ (.loc b0 0 0) = .loc b0 0 0 := a2o (.loc _ _ _ (by show b0 ≠ _; unfold lid; omega))
  have hcl : frz (lid G 0) ⟨1, (gproc n B t).cs.map intV⟩ (.mu (lid G 0) 0 (gproc n B t).cs.length none) = hsV (gproc n B t).cs := d0y (H := G) 0 1 intV _ none
  refine Safe.freezeM 0 (hHr hL) (by show H.length ≤ _; exact hHn) rfl (a1t 1 intV _ d2c) ?_
  refine Safe.keep [6, 8, 9, 10, 11] ?_
  simp only [hnb2, hnb3, hcl, a0G, ZI.av_frz, E3, seval]
  refine Safe.rg rfl ?_
  simp only [a3a, a4Y, a1S, a2J, a2X, E3, seval]
  have hbox' : (G.set b0 (some ⟨2, [.agg [.bool lx.neg, natV lx.mag]]⟩))[b0]? = some (some ⟨2, [.agg [.bool lx.neg, natV lx.mag]]⟩) := by
   rw [List.getElem?_set]; simp; omega
  have hG' : β + n < (G.set b0 (some ⟨2, [.agg [.bool lx.neg, natV lx.mag]]⟩)).length := by rw [List.length_set]; exact hG
  simp only [f0V hG hb01 hbox (show (AV.agg [.bool lx.neg, natV lx.mag]).fit = true from rfl) (show (AV.agg [.bool lx.neg, natV lx.mag]).cells.length = 2 from rfl), E3, seval]
  refine Safe.rt rfl ?_
  simp only [f1V hG' hb01 hbox', E3, seval]
  obtain ⟨L0, hL0⟩ := hGH
  have hH1 : a0C (hM (G.set b0 (some ⟨2, [.agg [.bool lx.neg, natV lx.mag]]⟩)) β n 2 t (some t) π S1) := by
   have e := e2s (L := []) (O := orow β n t (some t) π) (R := fun j => some ⟨2, fr t (S1 j)⟩) hG hb01 (some ⟨2, [.agg [.bool lx.neg, natV lx.mag]]⟩)
   rw [a1T, a1T] at e
   unfold hM
   rw [← e]
   refine a0C.set (hHr hL) b0 fun a ha => ?_
   have := RC.one (wd := 2) (ZI.cl lx) RC.nil ⟨2, [lx.av]⟩ (by simp) a ha
   exact this.ref
  have hGs : G.set b0 (some ⟨2, [.agg [.bool lx.neg, natV lx.mag]]⟩) = hap H (L0.set 0 (some ⟨2, [.agg [.bool lx.neg, natV lx.mag]]⟩)) := by
   rw [hL0, hbl]
   simp only [hap]
   rw [List.set_append_right _ _ (Nat.le_refl _), Nat.sub_self]
  refine ⟨β, π, S1, L0.set 0 (some ⟨2, [.agg [.bool lx.neg, natV lx.mag]]⟩) ++ [none, some ⟨2, [lx.av]⟩], lx, hL, hb0, ?_, ?_, ?_, hlz, hlk, rfl⟩
  ·have : G.length = H.length + L0.length := by rw [hL0]; simp [hap]
   simp [hap]; omega
  ·rw [f1A _ _ _ _ _ _ _ _ _ hG', hGs, a0v]
  ·exact c6I hH1 (RC.none (RC.one (ZI.cl _) RC.nil))
end
end Go.Abs
namespace Go.Abs
def Bm (b : List (List ZI)) : Nat → Nat → Rat := fun a k => (zg (mg b a) k : Int)
theorem f0G {b : List (List ZI)} {e : Nat} (h : Mok e b) : Bd e (Bm b) := fun a k => ⟨zg (mg b a) k, rfl, Nat.le_of_lt ((h.row a).abs k)⟩
def detI (n : Nat) (B : Nat → Nat → Rat) : Int := (dv n B n).num
def f1a (n c : Nat) (B : Nat → Nat → Rat) : Nat := (gproc n B c).cs.length
theorem f1y (H : Heap) (cs : List Nat) : lenV H (hsV cs) = some (.int .i64 cs.length) := e2i H 1 intV cs
theorem e5z (n c : Nat) (B : Nat → Nat → Rat) : f1a n c B ≤ c := b1X n B c
section
variable (b : List (List ZI)) {e n c : Nat} (hm : Mok e b) (hn : b.length = n) (hn64 : n ≤ 64) (hK : KB e + 1 < 1099511627776)
include hm hn hn64 hK
theorem b8I (hb : ∀ i, (h : i < b.length) → b[i].length = n) : a0d Pr a8m [matV b] (Z (detI n (Bm b))) := by
 have hB := f0G hm
 obtain ⟨hlq, hlb⟩ := d1Y (Bm b) hB hn64 n
 have hrl := e5z n n (Bm b)
 unfold f1a at hrl
 refine a0d.introL d7X d7W (Nat.le_of_ble_eq_true rfl) (Z_cl _) fun H hH => ?_
 refine Safe.rg rfl ?_
 simp only [c7c, E3, seval]
 refine Safe.rg rfl ?_
 simp only [c7b, hn, E3, seval]
 refine Safe.rg rfl ?_
 simp only [c7a, E3, seval]
 refine (d2G b (Bm b) hb (fun _ _ => rfl) hm hB hn hn64 (by omega) hK (hap H [some ⟨2, [.agg [.bool false, .nil]]⟩])).mono ?_
 rintro r' H' ⟨β, π, S, L, lx, hLz, hβ, hβn, rfl, hHr, hlz, hlk, rfl⟩
 obtain ⟨L', hL'⟩ := f1B (w := 2) (c := n) (oc := some n) (π := π) (S := S) hβ hβn
 rw [hL']
 have hA0 : (hap (hap H [some ⟨2, [.agg [.bool false, .nil]]⟩]) L')[lid H 0]? = some (some ⟨2, [.agg [.bool false, .nil]]⟩) := by
  simp [hap, lid]
 have hAH : ∃ L, hap (hap H [some ⟨2, [.agg [.bool false, .nil]]⟩]) L' = hap H L := ⟨_, a0v _ _ _⟩
 clear hL' hHr hβn hβ
 rw [← a1T (hap (hap H _) L')]
 generalize hap (hap H [some ⟨2, [.agg [.bool false, .nil]]⟩]) L' = A at *
 simp only [E3, seval]
 refine Safe.rg rfl ?_
 simp only [c6Z, f1y, E3, seval]
 have hfinal : ∀ v : AV, v.fit = true → v.cells.length = 2 → ∀ L : Heap, ∃ L2, hap (A.set (lid H 0) (some ⟨2, [v]⟩)) L = hap H L2 := by
  intro v _ _ L
  obtain ⟨L0, hL0⟩ := hAH
  rw [hL0, a2P]; exact ⟨_, a0v _ _ _⟩
 have hld : ∀ v : AV, ∀ L : Heap, atV (hap (A.set (lid H 0) (some ⟨2, [v]⟩)) L) (.loc (lid H 0) 0 0) = some v.cells := by
  intro v L
  have hlt := a0o hA0
  exact lat (b := ⟨2, [v]⟩) (by rw [List.getElem?_set]; simp [hlt]) (by simp)
 by_cases hlt : (gproc n (Bm b) n).cs.length < n
 ·have hc : (((gproc n (Bm b) n).cs.length : Int) < (n : Int)) = True := eq_true (by omega)
  simp only [hc, E3, seval]
  refine Safe.cd rfl ?_
  simp only [E3, seval]
  refine Safe.rg rfl ?_
  simp only [c6Y, E3, seval]
  rw [lst hA0 (by simp) rfl rfl]
  simp only [E3, seval]
  refine Safe.rt rfl ?_
  simp only [hld, E3, seval]
  refine ⟨?_, hfinal (.agg [.bool false, .nil]) rfl rfl _⟩
  have : detI n (Bm b) = 0 := by unfold detI dv; rw [if_neg (by omega)]; rfl
  rw [this]; exact le_zero
 ·have hc : (((gproc n (Bm b) n).cs.length : Int) < (n : Int)) = False := eq_false (by omega)
  simp only [hc, E3, seval]
  refine Safe.cd rfl ?_
  simp only [E3, seval]
  refine Safe.rg rfl ?_
  simp only [c6X, E3, seval]
  have hdet : detI n (Bm b) = if (gproc n (Bm b) n).odd then -b2V n (Bm b) n else b2V n (Bm b) n := by
   unfold detI dv b2V
   rw [if_pos (by omega)]
   split
   ·exact Rat.neg_num _
   ·rfl
  cases ho : (gproc n (Bm b) n).odd
  ·rw [ho] at hdet
   refine Safe.cd rfl ?_
   simp only [E3, seval]
   refine Safe.rg rfl ?_
   simp only [c6V, E3, seval]
   refine (d9D lx (hlk.mono (by omega))).acall ?_
   simp only [Z, E3, seval]
   rw [lst hA0 (by simp) rfl rfl]
   simp only [E3, seval]
   refine Safe.rt rfl ?_
   simp only [hld, E3, seval]
   refine ⟨?_, hfinal (Z lx.z) rfl rfl _⟩
   rw [hdet, hlz]
   exact Le.refl _
  ·rw [ho] at hdet
   refine Safe.cd rfl ?_
   simp only [E3, seval]
   refine Safe.rg rfl ?_
   simp only [c6W, E3, seval]
   refine (b5F lx (hlk.mono (by omega))).acall ?_
   simp only [Z, E3, seval]
   rw [lst hA0 (by simp) rfl rfl]
   simp only [E3, seval]
   refine Safe.rt rfl ?_
   simp only [hld, E3, seval]
   refine ⟨?_, hfinal (Z (-lx.z)) rfl rfl _⟩
   rw [hdet, hlz]
   exact Le.refl _
end
noncomputable def elE (b : List (List ZI)) : Int := @ite _ (Rect b) (Classical.propDecidable _) (if b.length > 64 ∨ wid b > 64 then 60 else 0) 8
theorem c7t (b : List (List ZI)) : (¬ Rect b ∧ elE b = 8) ∨ (Rect b ∧ (b.length > 64 ∨ wid b > 64) ∧ elE b = 60) ∨ (Rect b ∧ b.length ≤ 64 ∧ wid b ≤ 64 ∧ elE b = 0) := by
 unfold elE
 by_cases h : Rect b
 ·by_cases h2 : b.length > 64 ∨ wid b > 64
  ·exact .inr (.inl ⟨h, h2, by rw [if_pos h, if_pos h2]⟩)
  ·exact .inr (.inr ⟨h, by omega, by omega, by rw [if_pos h, if_neg h2]⟩)
 ·exact .inl ⟨h, by rw [if_neg h]⟩
noncomputable def askT (b : List (List ZI)) : AV := if elE b = 0 then .tup [.int .i64 b.length, .int .i64 (wid b), .int .i64 0] else .tup [.int .i64 0, .int .i64 0, .int .i64 (elE b)]
section
variable (b : List (List ZI)) {e : Nat} (hm : Mok e b)
include hm
theorem e1G : a0d Pr b2z [matV b] (askT b) := by
 have hw : wid b ≤ 2097152 := (hm.row 0).len
 rcases c7t b with ⟨hr, he⟩ | ⟨hr, h2, he⟩ | ⟨hr, h2, h3, he⟩
 ·unfold askT
  rw [he, if_neg (by decide)]
  refine a0d.intro a9F a9E (Nat.le_of_ble_eq_true rfl) (cl3i _ _ _) fun H hH => ?_
  refine Safe.rg rfl ?_
  simp only [a5s, E3, seval]
  refine Safe.rg rfl ?_
  simp only [a5r, E3, seval]
  first | refine (a5y b e hm hr).acall ?_ | refine (a5y b e hm hr).dcall ?_ | refine (a5y b e hm hr).dgcall ?_
  try simp only [E3, seval]
  refine Safe.rg rfl ?_
  simp only [a5q, E3, seval]
  refine Safe.cd rfl ?_
  simp only [E3, seval]
  refine Safe.rg rfl ?_
  simp only [b8v, E3, seval]
  refine Safe.rt rfl ?_
  simp only [one3, E3, seval]
  first | exact ⟨rfl, _, rfl⟩ | exact ⟨_, rfl⟩ | exact ⟨trivial, _, rfl⟩
 ·unfold askT
  rw [he, if_neg (by decide)]
  refine a0d.intro a9F a9E (Nat.le_of_ble_eq_true rfl) (cl3i _ _ _) fun H hH => ?_
  refine Safe.rg rfl ?_
  simp only [a5s, E3, seval]
  refine Safe.rg rfl ?_
  simp only [a5r, E3, seval]
  first | refine (a1g b e hm hr).acall ?_ | refine (a1g b e hm hr).dcall ?_ | refine (a1g b e hm hr).dgcall ?_
  try simp only [E3, seval]
  refine Safe.rg rfl ?_
  simp only [a5q, E3, seval]
  refine Safe.cd rfl ?_
  simp only [E3, seval]
  by_cases h : b.length > 64
  ·have hc : ((b.length : Int) > 64) = True := eq_true (by omega)
   refine Safe.rg rfl ?_
   simp only [a5p, hc, E3, seval]
   refine Safe.cd rfl ?_
   simp only [E3, seval]
   refine Safe.rg rfl ?_
   simp only [a9D, E3, seval]
   refine Safe.rt rfl ?_
   simp only [one3, E3, seval]
   first | exact ⟨rfl, _, rfl⟩ | exact ⟨_, rfl⟩ | exact ⟨trivial, _, rfl⟩
  ·have hc : ((b.length : Int) > 64) = False := eq_false (by omega)
   have hc2 : ((wid b : Int) > 64) = True := eq_true (by omega)
   refine Safe.rg rfl ?_
   simp only [a5p, hc, hc2, E3, seval]
   refine Safe.cd rfl ?_
   simp only [E3, seval]
   refine Safe.rg rfl ?_
   simp only [a9D, E3, seval]
   refine Safe.rt rfl ?_
   simp only [one3, E3, seval]
   first | exact ⟨rfl, _, rfl⟩ | exact ⟨_, rfl⟩ | exact ⟨trivial, _, rfl⟩
 ·unfold askT
  rw [he, if_pos rfl]
  have hc : ((b.length : Int) > 64) = False := eq_false (by omega)
  have hc2 : ((wid b : Int) > 64) = False := eq_false (by omega)
  refine a0d.intro a9F a9E (Nat.le_of_ble_eq_true rfl) (cl3i _ _ _) fun H hH => ?_
  refine Safe.rg rfl ?_
  simp only [a5s, E3, seval]
  refine Safe.rg rfl ?_
  simp only [a5r, E3, seval]
  first | refine (a1g b e hm hr).acall ?_ | refine (a1g b e hm hr).dcall ?_ | refine (a1g b e hm hr).dgcall ?_
  try simp only [E3, seval]
  refine Safe.rg rfl ?_
  simp only [a5q, E3, seval]
  refine Safe.cd rfl ?_
  simp only [E3, seval]
  refine Safe.rg rfl ?_
  simp only [a5p, hc, hc2, E3, seval]
  refine Safe.cd rfl ?_
  simp only [E3, seval]
  refine Safe.rg rfl ?_
  simp only [b8u, E3, seval]
  refine Safe.rt rfl ?_
  simp only [one3, E3, seval]
  first | exact ⟨rfl, _, rfl⟩ | exact ⟨_, rfl⟩ | exact ⟨trivial, _, rfl⟩
end
noncomputable def sqE (b : List (List ZI)) : Int := if elE b = 0 then (if b.length = wid b then 0 else 8) else elE b
noncomputable def sqT (b : List (List ZI)) : AV := .tup [.int .i64 (if elE b = 0 then (b.length : Int) else 0), .int .i64 (sqE b)]
theorem d1d {b : List (List ZI)} (h : sqE b = 0) : elE b = 0 ∧ b.length = wid b := by
 unfold sqE at h
 split at h
 ·rename_i h0
  split at h
  ·exact ⟨h0, by assumption⟩
  ·exact absurd h (by decide)
 ·exact absurd h (by assumption)
theorem c4F {b : List (List ZI)} (h : sqE b = 0) : b.length ≤ 64 ∧ ∀ i, (h : i < b.length) → b[i].length = b.length := by
 obtain ⟨h0, hw⟩ := d1d h
 rcases c7t b with ⟨_, h⟩ | ⟨_, _, h⟩ | ⟨hr, h2, h3, _⟩
 ·omega
 ·omega
 ·refine ⟨h2, fun i hi => ?_⟩
  have := hr i hi
  rw [a1F hi] at this
  rw [this, hw]; rfl
theorem cl2i (a b : Int) : Cl (.tup [.int .i64 a, .int .i64 b]) := a2S (.int _ _) (.int _ _)
section
variable (b : List (List ZI)) {e : Nat} (hm : Mok e b)
include hm
theorem c4G : a0d Pr a5v [matV b] (sqT b) := by
 have hask := e1G b hm
 unfold sqT askT at *
 by_cases h0 : elE b = 0
 ·rw [if_pos h0] at hask ⊢
  by_cases hw : b.length = wid b
  ·have hs : sqE b = 0 := by unfold sqE; rw [if_pos h0, if_pos hw]
   have hwi : (b.length : Int) = (wid b : Int) := by omega
   rw [hs]
   rw [← hwi] at hask
   refine a0d.intro a7x a7w (Nat.le_of_ble_eq_true rfl) (cl2i _ _) fun H hH => ?_
   refine Safe.rg rfl ?_
   simp only [a4y, E3, seval]
   refine Safe.rg rfl ?_
   simp only [a4x, E3, seval]
   first | refine (hask).acall ?_ | refine (hask).dcall ?_ | refine (hask).dgcall ?_
   try simp only [E3, seval]
   refine Safe.rg rfl ?_
   simp only [a4w, E3, seval]
   refine Safe.cd rfl ?_
   simp only [E3, seval]
   refine Safe.rg rfl ?_
   simp only [a4v, E3, seval]
   refine Safe.rt rfl ?_
   simp only [E3, seval]
   first | exact ⟨rfl, _, rfl⟩ | exact ⟨_, rfl⟩ | exact ⟨trivial, _, rfl⟩
  ·have hs : sqE b = 8 := by unfold sqE; rw [if_pos h0, if_neg hw]
   have hwi : ((b.length : Int) = (wid b : Int)) = False := eq_false (by omega)
   rw [hs]
   refine a0d.intro a7x a7w (Nat.le_of_ble_eq_true rfl) (cl2i _ _) fun H hH => ?_
   refine Safe.rg rfl ?_
   simp only [a4y, E3, seval]
   refine Safe.rg rfl ?_
   simp only [a4x, E3, seval]
   first | refine (hask).acall ?_ | refine (hask).dcall ?_ | refine (hask).dgcall ?_
   try simp only [E3, seval]
   refine Safe.rg rfl ?_
   simp only [a4w, hwi, E3, seval]
   refine Safe.cd rfl ?_
   simp only [E3, seval]
   refine Safe.rg rfl ?_
   simp only [b4i, E3, seval]
   refine Safe.rg rfl ?_
   simp only [a4v, E3, seval]
   refine Safe.rt rfl ?_
   simp only [E3, seval]
   first | exact ⟨rfl, _, rfl⟩ | exact ⟨_, rfl⟩ | exact ⟨trivial, _, rfl⟩
 ·rw [if_neg h0] at hask ⊢
  have hs : sqE b = elE b := by unfold sqE; rw [if_neg h0]
  have h0' : (elE b = 0) = False := eq_false h0
  rw [hs]
  refine a0d.intro a7x a7w (Nat.le_of_ble_eq_true rfl) (cl2i _ _) fun H hH => ?_
  refine Safe.rg rfl ?_
  simp only [a4y, E3, seval]
  refine Safe.rg rfl ?_
  simp only [a4x, E3, seval]
  first | refine (hask).acall ?_ | refine (hask).dcall ?_ | refine (hask).dgcall ?_
  try simp only [E3, seval]
  refine Safe.rg rfl ?_
  simp only [a4w, h0', E3, seval]
  refine Safe.cd rfl ?_
  simp only [E3, seval]
  refine Safe.rg rfl ?_
  simp only [a4v, E3, seval]
  refine Safe.rt rfl ?_
  simp only [E3, seval]
  first | exact ⟨rfl, _, rfl⟩ | exact ⟨_, rfl⟩ | exact ⟨trivial, _, rfl⟩
end
end Go.Abs
namespace Go.Abs
section
variable (b : List (List ZI)) {e : Nat} (hm : Mok e b) (hK : KB e + 1 < 1099511627776)
include hm hK
omit hK in
theorem f1P (n : Nat) (hn : n ≤ 64) : (dv n (Bm b) n).num = detI n (Bm b) ∧ (detI n (Bm b)).natAbs ≤ LB ^ KB e := by
 obtain ⟨z, hz, hz1⟩ := f1O (f0G hm) n (.inl hn)
 refine ⟨rfl, ?_⟩
 unfold detI
 rw [(a3e hz).1]; exact hz1
theorem e9b (h0 : sqE b = 0) : a0d Pr c0m [matV b] (.tup [Z (detI b.length (Bm b)), .int .i64 0]) := by
 obtain ⟨hn, hrows⟩ := c4F h0
 have hsq := c4G b hm
 unfold sqT at hsq
 rw [if_pos (d1d h0).1, h0] at hsq
 refine a0d.intro d8a d7Z (Nat.le_of_ble_eq_true rfl) (a2S (Z_cl _) (.int _ _)) fun H hH => ?_
 refine Safe.rg rfl ?_
 simp only [c7s, E3, seval]
 refine Safe.rg rfl ?_
 simp only [c7r, E3, seval]
 first | refine (hsq).acall ?_ | refine (hsq).dcall ?_ | refine (hsq).dgcall ?_
 try simp only [E3, seval]
 refine Safe.rg rfl ?_
 simp only [c7q, E3, seval]
 refine Safe.cd rfl ?_
 simp only [E3, seval]
 refine Safe.rg rfl ?_
 simp only [c7p, E3, seval]
 first | refine (b8I b hm rfl hn hK hrows).acall ?_ | refine (b8I b hm rfl hn hK hrows).dcall ?_ | refine (b8I b hm rfl hn hK hrows).dgcall ?_
 try simp only [E3, seval]
 simp only [Z, E3, seval]
 refine Safe.rt rfl ?_
 simp only [E3, seval]
 first | exact ⟨rfl, _, rfl⟩ | exact ⟨_, rfl⟩ | exact ⟨trivial, _, rfl⟩
end
end Go.Abs
namespace Go.Abs
theorem d2t {b : List (List ZI)} {e n : Nat} (hb : Mok e b) (hn : n ≤ 64) (hK : KB e + 1 < 1099511627776) : (detI n (Bm b)).natAbs < LB ^ (KB e + 1) := by
 have h := (f1P b hb n hn).2
 have : LB ^ KB e < LB ^ (KB e + 1) := Nat.pow_lt_pow_right (by decide) (by omega)
 omega
end Go.Abs
namespace Go.Abs
theorem e8o (H : Heap) (v : List ZI) (k : IntKind) {n : Nat} (h : n ≤ v.length) : slcV H 2 (vecV v) none (some (.int k n)) none = some (vecV (v.take n)) := by
 simp only [slcV, vecV, a3V, Option.bind_some, List.length_map]
 rw [if_pos ⟨trivial, by omega, by omega, by omega⟩]
 simp [List.map_take]
theorem Vok.take {k : Nat} {v : List ZI} (h : Vok k v) (n : Nat) : Vok k (v.take n) := ⟨by rw [List.length_take]; have := h.len; omega, fun x hx => h.el x (List.mem_of_mem_take hx)⟩
def sub (b : List (List ZI)) (k : Nat) : List (List ZI) := mat k fun i => (mg b i).take k
end Go.Abs
namespace Go.Abs
structure Rz (n c K : Nat) (rows : List (List ZI)) (f : Nat → Nat → Int) : Prop where
 len : rows.length = n
 wid : ∀ i, i < n → (mg rows i).length = c
 at_ : ∀ i k, i < n → k < c → zg (mg rows i) k = f i k
 ok : ∀ i, i < n → Vok K (mg rows i)
end Go.Abs
namespace Go.Abs
def a1B (x : Nat → Rat) : Nat → Nat
 | 0 => 1
 | n + 1 => a1B x n * ((x n).den / Nat.gcd (a1B x n) (x n).den)
def outI (x : Nat → Rat) (c i : Nat) : Int := (x i).num * ((a1B x c / (x i).den : Nat) : Int)
theorem b9O (x : Nat → Rat) (n : Nat) : a1B x (n + 1) = Nat.lcm (a1B x n) (x n).den := by
 rw [a1B, Nat.lcm, Nat.mul_div_assoc _ (Nat.gcd_dvd_right _ _)]
theorem b1R (x : Nat → Rat) : ∀ n, 0 < a1B x n
 | 0 => Nat.one_pos
 | n + 1 => by rw [b9O]; exact Nat.lcm_pos (b1R x n) (x n).den_pos
theorem c6D {x : Nat → Rat} {M : Nat} : ∀ {n : Nat}, (∀ i, i < n → (x i).den ∣ M) → a1B x n ∣ M
 | 0, _ => Nat.one_dvd _
 | n + 1, h => by rw [b9O]; exact Nat.lcm_dvd (c6D fun i hi => h i (by omega)) (h n (by omega))
theorem c7D (x : Nat → Rat) : ∀ {n i : Nat}, i < n → (x i).den ∣ a1B x n
 | 0, _, h => absurd h (by omega)
 | n + 1, i, h => by
  rw [b9O]
  by_cases e : i = n
  ·subst e; exact Nat.dvd_lcm_right _ _
  ·exact Nat.dvd_trans (c7D x (by omega)) (Nat.dvd_lcm_left _ _)
structure Sz (x : Nat → Rat) (c K : Nat) : Prop where
 ex : ∃ D : Int, D ≠ 0 ∧ D.natAbs < LB ^ K ∧ ∀ i, i < c → ∃ z : Int, (D : Rat) * x i = z ∧ z.natAbs < LB ^ K
theorem e8d {D z : Int} {q : Rat} (hD : D ≠ 0) (h : (D : Rat) * q = z) : q.den ∣ D.natAbs := by
 have hl : (D : Rat) ≠ 0 := fun e => hD (Rat.intCast_inj.1 (by rw [e]; rfl))
 have e : q = Rat.divInt z D := by
  rw [Rat.divInt_eq_div, ← h]
  generalize (D : Rat) = x at *
  grind
 rw [e, Rat.den_divInt, if_neg hD]
 exact Nat.div_dvd_of_dvd (by rw [Int.gcd]; exact Nat.gcd_dvd_left _ _)
theorem d7h (x : Nat → Rat) {c i : Nat} (hi : i < c) : ((a1B x c : Nat) : Rat) * x i = ((outI x c i : Int) : Rat) := by
 obtain ⟨m, hm⟩ := c7D x hi
 unfold outI
 have hd := (x i).den_pos
 rw [hm, Nat.mul_div_cancel_left _ hd]
 have h1 : x i = ((x i).num : Rat) / ((x i).den : Rat) := by rw [← Rat.mkRat_eq_div, Rat.mkRat_self]
 have h2 : ((x i).den : Rat) ≠ 0 := by
  intro h
  have : ((x i).den : Nat) = 0 := by exact_mod_cast h
  omega
 rw [Rat.intCast_mul, Rat.natCast_mul]
 have h3 : (((m : Nat) : Int) : Rat) = ((m : Nat) : Rat) := rfl
 rw [h3]
 have h4 := Rat.div_mul_cancel (a := ((x i).num : Rat)) h2
 rw [← h1] at h4
 clear h1 hm
 generalize ((x i).den : Rat) = d at *
 generalize ((x i).num : Rat) = a at *
 generalize ((m : Nat) : Rat) = k
 generalize x i = y at *
 grind
end Go.Abs
namespace Go.Abs
def InC (j : JS) (c : Nat) (v : Nat → Rat) : Prop := ∀ k, k < c → v k = sumR (fun i => v (j.s.cs.getD i 0) * j.M i k) j.s.cs.length
structure RowP (j : JS) (c m i : Nat) (f : Nat → Int) : Prop where
 inn : InC j c fun k => (f k : Rat)
 lo : ∀ t, t < i → f (j.s.cs.getD t 0) = 0
 hi : ∀ t, m ≤ t → t < j.s.cs.length → t ≠ i → f (j.s.cs.getD t 0) = 0
 piv : f (j.s.cs.getD i 0) ≠ 0
section
variable {j : JS} {c : Nat} (hcs : ∀ t, t < j.s.cs.length → j.s.cs.getD t 0 < c)
include hcs
theorem e8O {m i : Nat} {f : Nat → Int} (hi : i < j.s.cs.length) (h : RowP j c m i f) : Nz f c := ⟨_, hcs i hi, h.piv⟩
omit hcs in
theorem e2w {m : Nat} {f : Nat → Int} (hf : RowP j c (m + 1) m f) : RowP j c m m f :=
 ⟨hf.inn, hf.lo, fun t h1 h2 h3 => hf.hi t (by omega) h2 h3, hf.piv⟩
theorem d3q {m i : Nat} {f : Nat → Int} (hmi : m ≤ i) (hi : i < j.s.cs.length) (hf : RowP j c m i f) (hpr : ∀ k, k < c → b1i f c k = f k) : ∀ k, k < c → f k = b1i (outI (j.M i) c) c k := by
 intro k hk
 have hall : ∀ t, t < j.s.cs.length → t ≠ i → ((f (j.s.cs.getD t 0) : Int) : Rat) = 0 := fun t ht hne => by
  have : f (j.s.cs.getD t 0) = 0 := by
   rcases Nat.lt_or_ge t i with h | h
   ·exact hf.lo t h
   ·exact hf.hi t (by omega) ht hne
  rw [this]; rfl
 have hM : ∀ k, k < c → ((f k : Int) : Rat) = (f (j.s.cs.getD i 0) : Rat) * j.M i k := fun k hk => by
  have h1 := hf.inn k hk
  rw [b5Y hi fun t ht hne => by show ((f (j.s.cs.getD t 0) : Int) : Rat) * j.M t k = 0; rw [hall t ht hne]; grind] at h1
  exact h1
 rw [← hpr k hk]
 have hl := b1R (j.M i) c
 refine e5F (a := (a1B (j.M i) c : Int)) (b := f (j.s.cs.getD i 0)) (by omega) hf.piv (e8O hcs hi hf) (fun t ht => ?_) hk
 refine Rat.intCast_inj.1 ?_
 rw [Rat.intCast_mul, Rat.intCast_mul, hM t ht, ← d7h (j.M i) ht]
 have h3 : (((a1B (j.M i) c : Nat) : Int) : Rat) = ((a1B (j.M i) c : Nat) : Rat) := rfl
 rw [h3]
 generalize ((a1B (j.M i) c : Nat) : Rat) = l
 generalize (f (j.s.cs.getD i 0) : Rat) = p
 generalize j.M i t = y
 grind
end
end Go.Abs
namespace Go.Abs
def f2f (h c : Nat) (f g : Nat → Int) : Nat → Int := if f h = 0 then f else b1i (fun k => g h * f k - f h * g k) c
def Fs (cs : List Nat) (c : Nat) (F0 : Nat → Nat → Int) : Nat → Nat → Nat → Int
 | 0 => F0
 | k + 1 => fun i => if i < cs.length - (k + 1) then f2f (cs.getD (cs.length - (k + 1)) 0) c (Fs cs c F0 k i) (Fs cs c F0 k (cs.length - (k + 1))) else Fs cs c F0 k i
section
variable {n c e K : Nat} {B : Nat → Nat → Rat} (hB : Bd e B) (hn : n ≤ 64)
include hB hn
def F0s (n : Nat) (B : Nat → Nat → Rat) (c : Nat) : Nat → Nat → Int := fun i => b1i (ZgI n B c i) c
def Fk (n : Nat) (B : Nat → Nat → Rat) (c k : Nat) : Nat → Nat → Int := Fs (gproc n B c).cs c (F0s n B c) k
omit hB hn in
theorem e7Q : ∀ t, t < (a7Y n B c).s.cs.length → (a7Y n B c).s.cs.getD t 0 < c := by
 intro t ht
 rw [a9l] at ht ⊢
 exact e1A ht
structure Fok (n c K : Nat) (B : Nat → Nat → Rat) (k : Nat) : Prop where
 row : ∀ i, i < (gproc n B c).cs.length → RowP (a7Y n B c) c ((gproc n B c).cs.length - k) i (Fk n B c k i)
 idem : ∀ i, i < (gproc n B c).cs.length → ∀ t, t < c → b1i (Fk n B c k i) c t = Fk n B c k i t
 sz : ∀ i, i < (gproc n B c).cs.length → ∀ t, t < c → (Fk n B c k i t).natAbs < LB ^ (K + k * (K + 1))
omit hB hn in
theorem Fok.top {k i : Nat} (h : Fok n c K B k) (hi : i < (gproc n B c).cs.length) (hk : (gproc n B c).cs.length - k ≤ i + 1) : ∀ t, t < c → Fk n B c k i t = b1i (outI ((a7Y n B c).M i) c) c t := by
 have hrow : RowP (a7Y n B c) c ((gproc n B c).cs.length - k) i (Fk n B c k i) := h.row i hi
 have hlen : (a7Y n B c).s.cs.length = (gproc n B c).cs.length := by rw [a9l]
 by_cases e : (gproc n B c).cs.length - k ≤ i
 ·exact d3q (e7Q) e (by rw [hlen]; exact hi) hrow (h.idem i hi)
 ·have e2 : (gproc n B c).cs.length - k = i + 1 := by omega
  rw [e2] at hrow
  exact d3q (e7Q) (Nat.le_refl i) (by rw [hlen]; exact hi) (e2w hrow) (h.idem i hi)
end
end Go.Abs
namespace Go.Abs
theorem c3Y {b : List (List ZI)} {e n : Nat} (hm : Mok e b) (hn : n ≤ 64) : ((detI n (Bm b) : Int) : Rat) = det n (Bm b) := by
 obtain ⟨z, hz, _⟩ := f1O (f0G hm) n (.inl hn)
 have h := e7Y (n := n) (B := Bm b) fun i k => ⟨_, rfl⟩
 rw [← h]
 unfold detI
 rw [(a3e hz).1, hz]
end Go.Abs
namespace Go.Abs
def gcdF (d : Int) (q : Nat → Int) : Nat → Nat
 | 0 => d.natAbs
 | n + 1 => Int.gcd (gcdF d q n) (q n)
def sgD (d : Int) : Int := if d < 0 then -1 else 1
theorem b8g (d : Int) (q : Nat → Int) : ∀ n, (gcdF d q n : Int) ∣ d
 | 0 => by rw [gcdF]; exact Int.natAbs_dvd.2 (Int.dvd_refl d)
 | n + 1 => Int.dvd_trans (Int.gcd_dvd_left ..) (b8g d q n)
theorem d8Z (d : Int) (q : Nat → Int) : ∀ {n i : Nat}, i < n → (gcdF d q n : Int) ∣ q i
 | 0, _, h => absurd h (by omega)
 | n + 1, i, h => by
  rw [gcdF]
  by_cases e : i = n
  ·subst e; exact Int.gcd_dvd_right ..
  ·exact Int.dvd_trans (Int.gcd_dvd_left ..) (d8Z d q (by omega))
theorem e3N {d : Int} (hd : d ≠ 0) (q : Nat → Int) (n : Nat) : gcdF d q n ≠ 0 := fun h => by
 have := b8g d q n
 rw [h] at this
 exact hd (Int.zero_dvd.1 this)
theorem e9A {d : Int} (hd : d ≠ 0) (q : Nat → Int) (n : Nat) : gcdF d q n ≤ d.natAbs := Nat.le_of_dvd (by omega) (Int.ofNat_dvd_left.1 (b8g d q n))
theorem d5s (c d : Int) (q p : Nat → Int) : ∀ n, (∀ i, i < n → p i = c * q i) → gcdF (c * d) p n = c.natAbs * gcdF d q n
 | 0, _ => by rw [gcdF, gcdF, Int.natAbs_mul]
 | n + 1, h => by
  rw [gcdF, gcdF, d5s c d q p n fun i hi => h i (by omega), h n (by omega)]
  rw [Int.gcd, Int.gcd, Int.natAbs_mul, Int.natAbs_natCast, Int.natAbs_natCast, Nat.gcd_mul_left]
theorem e6z (x : Nat → Rat) (n : Nat) : gcdF (a1B x n) (outI x n) n = 1 := by
 have hL := b1R x n
 have hL0 : (a1B x n : Int) ≠ 0 := by omega
 have hg := e3N hL0 (outI x n) n
 obtain ⟨l, hl⟩ := b8g (a1B x n) (outI x n) n
 have hd := fun i (hi : i < n) => d8Z (a1B x n) (outI x n) hi
 generalize gcdF (a1B x n) (outI x n) n = g at *
 have hl0 : l ≠ 0 := fun e => hL0 (by rw [hl, e, Int.mul_zero])
 have hdv : a1B x n ∣ l.natAbs := c6D fun i hi => by
  obtain ⟨o, ho⟩ := hd i hi
  refine e8d (z := o) hl0 ?_
  have h1 := d7h x hi
  have h2 : ((a1B x n : Nat) : Rat) = (((a1B x n : Nat) : Int) : Rat) := rfl
  rw [ho, h2, hl, Rat.intCast_mul, Rat.intCast_mul] at h1
  have hgr : (((g : Nat) : Int) : Rat) ≠ 0 := fun e => hg (by have := Rat.intCast_inj.1 (show (((g : Nat) : Int) : Rat) = ((0 : Int) : Rat) from e); omega)
  have h3 : (((g : Nat) : Int) : Rat) * ((l : Rat) * x i - (o : Rat)) = 0 := by grind
  rcases Rat.mul_eq_zero.1 h3 with h | h
  ·exact absurd h hgr
  ·grind
 obtain ⟨k, hk⟩ := hdv
 have h1 : a1B x n = g * l.natAbs := by
  have := congrArg Int.natAbs hl
  rwa [Int.natAbs_natCast, Int.natAbs_mul, Int.natAbs_natCast] at this
 rw [hk] at h1
 have h2 : a1B x n * 1 = a1B x n * (g * k) := by rw [Nat.mul_one, Nat.mul_left_comm]; exact h1
 exact Nat.eq_one_of_mul_eq_one_right (Nat.eq_of_mul_eq_mul_left hL h2).symm
theorem e1Z {d : Int} (hd : d ≠ 0) {q : Nat → Int} {x : Nat → Rat} {n : Nat} (h : ∀ i, i < n → ((q i : Int) : Rat) = (d : Rat) * x i) :
  d = sgD d * (gcdF d q n : Int) * (a1B x n : Int) ∧ ∀ i, i < n → q i = sgD d * (gcdF d q n : Int) * outI x n i := by
 have hL := b1R x n
 have hdv : (a1B x n : Int) ∣ d := Int.ofNat_dvd_left.2 (c6D fun i hi => e8d hd (h i hi).symm)
 obtain ⟨c, hc⟩ := hdv
 have hq : ∀ i, i < n → q i = c * outI x n i := fun i hi => by
  refine Rat.intCast_inj.1 ?_
  rw [h i hi, hc, Rat.intCast_mul, Rat.intCast_mul, ← d7h x hi]
  have h3 : (((a1B x n : Nat) : Int) : Rat) = ((a1B x n : Nat) : Rat) := rfl
  rw [h3]
  grind
 have hg : gcdF d q n = c.natAbs := by
  rw [hc, Int.mul_comm, d5s c (a1B x n) (outI x n) q n hq, e6z, Nat.mul_one]
 have hs : sgD d * (c.natAbs : Int) = c := by
  unfold sgD
  by_cases hn : d < 0
  ·rw [if_pos hn]
   have : c < 0 := Classical.byContradiction fun hge => by
    have := Int.mul_nonneg (show (0 : Int) ≤ (a1B x n : Int) by omega) (show 0 ≤ c by omega)
    omega
   omega
  ·rw [if_neg hn]
   have : 0 ≤ c := Classical.byContradiction fun hlt => by
    have := Int.mul_neg_of_pos_of_neg (show (0 : Int) < (a1B x n : Int) by omega) (show c < 0 by omega)
    omega
   omega
 rw [hg, hs]
 exact ⟨by rw [Int.mul_comm]; exact hc, hq⟩
theorem d9K (q P : Nat → Int) (d D : Int) {n K : Nat} (hq : ∀ i, i < n → (q i).natAbs < LB ^ K) (hd : d.natAbs < LB ^ K) (hK : K < 17592186043000) (hn : n ≤ 2097152) (hd0 : d ≠ 0)
  (hD : d = sgD d * (gcdF d q n : Int) * D) (hP : ∀ i, i < n → q i = sgD d * (gcdF d q n : Int) * P i) : a0d Pr a6R [vecV (vec n q), Z d] (.tup [vecV (vec n P), Z D]) := by
 have hgl : ∀ i, gcdF d q i < LB ^ K := fun i => Nat.lt_of_le_of_lt (e9A hd0 q i) hd
 have hg0 := e3N hd0 q n
 have hvq : Vok K (vec n q) := b8U hn hq
 have hzq : ∀ i, (h : i < n) → Zok K (canZ (q i)) := fun i hi => a0q (hq i hi)
 refine a0d.intro d2n d2l (Nat.le_of_ble_eq_true rfl) (a2S (a0g _) (Z_cl _)) fun H hH => ?_
 refine Safe.rg rfl ?_
 simp only [b8s, E3, seval]
 refine Safe.rg rfl ?_
 simp only [b8r, E3, seval]
 refine (e1O (canZ d) ((a0q hd).mono (by omega))).acall ?_
 simp only [a0x, E3, seval]
 refine Safe.rg rfl ?_
 simp only [b8q, b4N, a0e, E3, seval]
 refine Safe.lp rfl ?_
 refine Safe.keep [0, 3, 4, 5, 6, 20, 21, 22] ?_
 try simp only [E3, seval]
 refine Safe.loopN (n) (fun i => [(0, vecV (vec n q)), (3, .loc (lid H 0) 0 0), (4, .nil), (5, .loc (lid H 1) 0 0), (6, .loc (lid H 2) 0 0), (20, vecV (vec n q)), (21, .int .i64 n), (22, .int .i64 i)]) (fun i => hap H [some ⟨2, [Z d]⟩, some ⟨2, [.agg [.bool false, .nil]]⟩, some ⟨2, [Z (gcdF d q i : Nat)]⟩]) rfl rfl (fun i hi ih => ?_) ?_
 ·have hlt : ((i : Int) < (n : Int)) = True := eq_true (by omega)
  have hiw : IntKind.wrap .i64 ((i : Int) + 1) = ((i + 1 : Nat) : Int) := by rw [a0c] <;> omega
  refine Safe.inLoop ?_
  refine Safe.rg rfl ?_
  simp only [a9C, hlt, E3, seval]
  refine Safe.cd rfl ?_
  simp only [E3, seval]
  refine Safe.rg rfl ?_
  simp only [b8p, a4a _ (vec n q) _ i (by rw [a0e]; exact hi), b4O, E3, seval]
  refine Safe.rg rfl ?_
  simp only [b8o, E3, seval]
  have hg := e1M (canZ (gcdF d q i : Nat)) (canZ (q i)) K (a0q (by exact hgl i)) (hzq i hi) (by omega)
  rw [a0x, a0x] at hg
  refine hg.acall ?_
  simp only [E3, seval]
  refine Safe.rg rfl ?_
  simp only [b8n, hiw, E3, seval]
  refine Safe.keep [0, 3, 4, 5, 6, 20, 21, 22] ?_
  simp only [E3, seval]
  refine Safe.drop3 hH rfl (by simp only [List.all_cons, List.all_nil, E3, seval]) (by repeat (first | exact RC.nil | refine RC.none ?_ | refine RC.mo ?_ | refine RC.io ?_ | refine RC.row ZI.cl ?_ | refine RC.cons (a0F _) ?_ | refine RC.row a0g ?_ | refine RC.emp ?_ | refine RC.zero ?_ | refine RC.one (Z_cl _) ?_ | refine RC.one (ZI.cl _) ?_ | refine RC.one (a0g _) ?_)) ?_
  exact ih
 ·refine Safe.inLoop ?_
  refine Safe.rg rfl ?_
  simp only [a9C, Int.lt_irrefl, E3, seval]
  refine Safe.cd rfl ?_
  simp only [E3, seval]
  refine Safe.rg rfl ?_
  simp only [b8m, E3, seval]
  refine (a3h (canZ d) ((a0q hd).mono (by omega))).acall ?_
  simp only [a0x, E3, seval]
  have main : ∀ Q : Int, Q = sgD d * (gcdF d q n : Int) → Safe ⟨Pr, fun _ _ => false, a6R, 62, [.tmp 4, .cell 5 (some 2)], H.length⟩
    [.code ((ACode.region a9B false).seq (((ACode.region a7v false).seq (.block 2 (.loop b8t))).seq ((ACode.region a7t false).seq ((ACode.region a7s true).seq .ret))))]
    [(0, vecV (vec n q)), (3, .loc (lid H 0) 0 0), (4, .nil), (5, .loc (lid H 1) 0 0), (6, .loc (lid H 2) 0 0)] (hap H [some ⟨2, [Z d]⟩, some ⟨2, [.agg [.bool false, .nil]]⟩, some ⟨2, [Z Q]⟩]) fun r' H' => r' = .tup [vecV (vec n P), Z D] ∧ ∃ L, H' = hap H L := by
   intro Q hQ
   have hs1 : sgD d = 1 ∨ sgD d = -1 := by unfold sgD; split <;> simp
   have hQ0 : Q ≠ 0 := by rw [hQ]; exact Int.mul_ne_zero (by rcases hs1 with h | h <;> omega) (by omega)
   have hQk : Q.natAbs < LB ^ K := by
    have : Q.natAbs = gcdF d q n := by
     rw [hQ, Int.natAbs_mul]
     rcases hs1 with h | h <;> rw [h] <;> simp
    rw [this]; exact hgl _
   refine Safe.rg rfl ?_
   simp only [a9B, E3, seval]
   refine Safe.nilrow 9 2 (by decide) (by simp only [E3, seval]) ?_
   refine Safe.rg rfl ?_
   simp only [a7v, b4N, a0e, E3, seval]
   refine Safe.lp rfl ?_
   refine Safe.keep [3, 4, 5, 6, 9, 35, 36, 37] ?_
   try simp only [E3, seval]
   refine Safe.loopN (n) (fun i => [(3, .loc (lid H 0) 0 0), (4, .nil), (5, .loc (lid H 1) 0 0), (6, .loc (lid H 2) 0 0), (9, .mu (lid H 3) 0 i none), (35, vecV (vec n q)), (36, .int .i64 n), (37, .int .i64 i)]) (fun i => hap H [some ⟨2, [Z d]⟩, some ⟨2, [.agg [.bool false, .nil]]⟩, some ⟨2, [Z Q]⟩, some ⟨2, (vec i P).map ZI.av⟩]) rfl rfl (fun i hi ih => ?_) ?_
   ·have hlt : ((i : Int) < (n : Int)) = True := eq_true (by omega)
    have hiw : IntKind.wrap .i64 ((i : Int) + 1) = ((i + 1 : Nat) : Int) := by rw [a0c] <;> omega
    refine Safe.inLoop ?_
    refine Safe.rg rfl ?_
    simp only [a7u, hlt, E3, seval]
    refine Safe.cd rfl ?_
    simp only [E3, seval]
    refine Safe.rg rfl ?_
    simp only [b4h, a4a _ (vec n q) _ i (by rw [a0e]; exact hi), b4O, E3, seval]
    refine Safe.rg rfl ?_
    simp only [b4g, E3, seval]
    have hfl := a6w (canZ (q i)) (canZ Q) K (hzq i hi) (a0q hQk) (by omega) (P i) (by rw [a0x]; exact hQ0) (by rw [a0x, a0x, hQ]; exact hP i hi)
    refine hfl.acall ?_
    simp only [E3, seval]
    refine Safe.rg rfl ?_
    simp only [b4f, E3, seval]
    rw [c7K hH 3 (a1M H 3) ZI.cl (vec i P) (canZ (P i)) (vec (i + 1) P) ?hlen ?hl ?hL ?hy ?hl2 ?hb ?hbb]
    case hlen => first | rfl | (simp only [a0e, a0f, List.length_map, List.length_take]; done) | (simp only [a0e, a0f, List.length_map, List.length_take]; omega)
    case hl => rfl
    case hL => repeat (first | exact RC.nil | refine RC.none ?_ | refine RC.mo ?_ | refine RC.io ?_ | refine RC.row ZI.cl ?_ | refine RC.cons (a0F _) ?_ | refine RC.row a0g ?_ | refine RC.emp ?_ | refine RC.zero ?_ | refine RC.one (Z_cl _) ?_ | refine RC.one (ZI.cl _) ?_ | refine RC.one (a0g _) ?_)
    case hy => rfl
    case hl2 => first | exact a4n _ _ | exact a4q _ _ | exact a5C _ (by omega) | exact a2e _ _ (by omega)
    case hb => omega
    case hbb => omega
    simp only [E3, seval]
    refine Safe.rg rfl ?_
    simp only [b4e, hiw, E3, seval]
    refine Safe.keep [3, 4, 5, 6, 9, 35, 36, 37] ?_
    simp only [E3, seval]
    refine Safe.dropC (L := [_, _, _, _, _, _]) hH rfl (by simp only [List.all_cons, List.all_nil, E3, seval]) (by repeat (first | exact RC.nil | refine RC.none ?_ | refine RC.mo ?_ | refine RC.io ?_ | refine RC.row ZI.cl ?_ | refine RC.cons (a0F _) ?_ | refine RC.row a0g ?_ | refine RC.emp ?_ | refine RC.zero ?_ | refine RC.one (Z_cl _) ?_ | refine RC.one (ZI.cl _) ?_ | refine RC.one (a0g _) ?_)) ?_
    refine Safe.dropC (L := [_, _, _, _, _]) hH rfl (by simp only [List.all_cons, List.all_nil, E3, seval]) (by repeat (first | exact RC.nil | refine RC.none ?_ | refine RC.mo ?_ | refine RC.io ?_ | refine RC.row ZI.cl ?_ | refine RC.cons (a0F _) ?_ | refine RC.row a0g ?_ | refine RC.emp ?_ | refine RC.zero ?_ | refine RC.one (Z_cl _) ?_ | refine RC.one (ZI.cl _) ?_ | refine RC.one (a0g _) ?_)) ?_
    refine Safe.drop4 hH rfl (by simp only [List.all_cons, List.all_nil, E3, seval]) (by repeat (first | exact RC.nil | refine RC.none ?_ | refine RC.mo ?_ | refine RC.io ?_ | refine RC.row ZI.cl ?_ | refine RC.cons (a0F _) ?_ | refine RC.row a0g ?_ | refine RC.emp ?_ | refine RC.zero ?_ | refine RC.one (Z_cl _) ?_ | refine RC.one (ZI.cl _) ?_ | refine RC.one (a0g _) ?_)) ?_
    exact ih
   ·refine Safe.inLoop ?_
    refine Safe.rg rfl ?_
    simp only [a7u, Int.lt_irrefl, E3, seval]
    refine Safe.cd rfl ?_
    simp only [E3, seval]
    refine Safe.freeze 3 hH rfl rfl (a1t 2 ZI.av _ ZI.cl) ?_
    refine Safe.keep [3, 4, 5, 6, 9] ?_
    simp only [b9W H 3 (vec n P) (n) (none) (by simp only [a0e, a0f]), a1m, a0G, a5Y, a5Z, E3, seval]
    refine Safe.rg rfl ?_
    simp only [a7t, E3, seval]
    have hfl := a6w (canZ d) (canZ Q) K (a0q hd) (a0q hQk) (by omega) D (by rw [a0x]; exact hQ0) (by rw [a0x, a0x, hQ]; exact hD)
    refine hfl.acall ?_
    simp only [E3, seval]
    refine Safe.rg rfl ?_
    simp only [a7s, E3, seval]
    refine Safe.rt rfl ?_
    simp only [E3, seval]
    first | exact ⟨rfl, _, rfl⟩ | exact ⟨_, rfl⟩ | exact ⟨trivial, _, rfl⟩
  by_cases hng : d < 0
  ·have hc : (d.sign < 0) = True := eq_true (Int.sign_neg_iff.2 hng)
   simp only [hc, E3, seval]
   refine Safe.cd rfl ?_
   simp only [E3, seval]
   refine Safe.rg rfl ?_
   simp only [b8l, E3, seval]
   have hn2 := b5F (canZ (gcdF d q n : Nat)) ((a0q (by exact hgl _)).mono (by omega))
   rw [a0x] at hn2
   refine hn2.acall ?_
   simp only [E3, seval]
   refine Safe.keep [0, 3, 4, 5, 6] ?_
   simp only [E3, seval]
   exact main _ (by rw [sgD, if_pos hng, Int.neg_mul, Int.one_mul])
  ·have hc : (d.sign < 0) = False := eq_false fun h => hng (Int.sign_neg_iff.1 h)
   simp only [hc, E3, seval]
   refine Safe.cd rfl ?_
   simp only [E3, seval]
   refine Safe.keep [0, 3, 4, 5, 6] ?_
   simp only [E3, seval]
   refine Safe.skip ?_
   exact main _ (by rw [sgD, if_neg hng, Int.one_mul])
end Go.Abs
namespace Go.Abs
def eg (v : List ZI) (i : Nat) : ZI := v.getD i ⟨false, []⟩
theorem d8j (l : List ZI) : ∀ a ∈ (Blk.mk 2 (l.map ZI.av)).flat, Cl a := a1t 2 ZI.av _ ZI.cl
end Go.Abs
namespace Go.Abs
theorem e7t {G : Heap} {n0 : Nat} {env : Env} {wd bytes id off len d : Nat} {y : AV} {ys : List AV} {r : Blk} (hr : hrow G id = some r) (hwd : r.wd = wd) (hle : off + len ≤ r.xs.length) (hnf : ¬ (off = 0 ∧ free G id = true))
  (hy : a0Q G wd false y = some ys) (hyl : 0 < ys.length) (hd : d < len + ys.length) (hb : (len + ys.length) * bytes ≤ 140737488355328) (h63 : len + ys.length ≤ 9223372036854775807) :
  appV n0 wd bytes false (.mu id off len (some d)) y env G = some (.mu G.length 0 (len + ys.length) none, env, G ++ [some ⟨wd, (r.xs.drop off).take len ++ ys⟩]) := by
 have ho : ((some d).any fun c => decide (len + ys.length ≤ c)) = false := by simp; omega
 have ho2 : ((some d).any fun c => decide (c < len + ys.length)) = true := by simp; omega
 simp only [appV, hy, hr, Option.bind_some]
 rw [if_neg (fun h => by rw [ho] at h; exact absurd h.2.2.2.2.2 (by decide)), if_neg (fun h => hnf ⟨h.2.1, h.2.2.2.2.1⟩), if_pos ⟨hwd, hle, hyl, ho2, hb, h63⟩]
theorem e5R {G : Heap} {id j : Nat} {r : Blk} {off len : Nat} {oc : Option Nat} (hj : j ≠ id) (h : G[j]? = some (some r)) (ha : AV.mu id off len oc ∈ r.flat) : free G id ≠ true := fun hf => by
 have := c3V.1 hf j r hj h _ ha
 cases this with
 | mu _ _ _ _ h => exact h rfl
section
variable (b : List (List ZI)) (v : List ZI)
theorem f0M (l r : List ZI) (k : Nat) : zg (l ++ r) k = if k < l.length then zg l k else zg r (k - l.length) := by
 unfold zg
 rw [List.getD_eq_getElem?_getD, List.getD_eq_getElem?_getD, List.getD_eq_getElem?_getD, List.getElem?_append]
 split <;> rfl
variable {e : Nat} (hm : Mok e b) (hv : Vok e v)
include hm hv
end
end Go.Abs
namespace Go.Abs
theorem d6u : ∀ a ∈ (Blk.mk 2 [AV.agg [.bool false, .nil]]).flat, Cl a := fun a ha => by
 simp [Blk.flat, AV.cells] at ha
 rcases ha with rfl | rfl
 ·exact .bool _
 ·exact .nil
end Go.Abs
namespace Go.Abs
theorem d9H (H : Heap) (v : List ZI) (k : IntKind) {n : Nat} (h : n ≤ v.length) : slcV H 2 (vecV v) (some (.int k n)) none none = some (vecV (v.drop n)) := by
 simp only [vecV, slcV, a3V, Option.bind_some]
 rw [if_pos ⟨trivial, by omega, by rw [List.length_map]; omega, Int.le_refl _⟩]
 rw [Int.toNat_natCast, Int.toNat_natCast, ← List.map_drop, List.take_of_length_le (by rw [List.length_map, List.length_map, List.length_drop]; exact Nat.le_refl _)]
theorem d5W (x : Int) : binV .rem (.int .i64 x) (.int .i64 2) = some (.int .i64 (x.tmod 2)) := rfl
def cutR (v : List ZI) (k : Nat) : List ZI := v.take k ++ v.drop (k + 1)
theorem d9h {v : List ZI} {k : Nat} (h : k < v.length) : (cutR v k).length = v.length - 1 := by
 unfold cutR; rw [List.length_append, List.length_take, List.length_drop]; omega
theorem f0L (v : List ZI) (k j : Nat) (h : k < v.length) : zg (cutR v k) j = zg v (skip k j) := by
 unfold cutR
 rw [f0M, List.length_take]
 have hm : min k v.length = k := by omega
 rw [hm]
 unfold zg skip
 by_cases e : j < k
 ·rw [if_pos e, if_pos e, List.getD_eq_getElem?_getD, List.getElem?_take, if_pos e, ← List.getD_eq_getElem?_getD]
 ·rw [if_neg e, if_neg e, List.getD_eq_getElem?_getD, List.getElem?_drop, ← List.getD_eq_getElem?_getD, show k + 1 + (j - k) = j + 1 by omega]
def cutM (b : List (List ZI)) (i k m : Nat) : List (List ZI) := mat m fun r => cutR (mg b (skip i r)) k
def cnt (i r : Nat) : Nat := if r ≤ i then r else r - 1
def cofI (b : List (List ZI)) (i k : Nat) : Int := if (i + k) % 2 = 1 then -detI (b.length - 1) (Bm (cutM b i k (b.length - 1))) else detI (b.length - 1) (Bm (cutM b i k (b.length - 1)))
theorem e3d {b : List (List ZI)} {e m i k : Nat} (h : Mok e b) (hm : m ≤ 2097152) (hk : ∀ r, k < (mg b r).length ∨ b.length ≤ r) (hl : ∀ r, r < m → skip i r < b.length) : Mok e (cutM b i k m) := b9C hm fun r hr => by
 have hv := h.row (skip i r)
 refine ⟨?_, fun x hx => ?_⟩
 ·rcases hk (skip i r) with h1 | h1
  ·rw [d9h h1]; have := hv.len; omega
  ·have := hl r hr; omega
 ·rcases List.mem_append.1 hx with h | h
  ·exact hv.el x (List.mem_of_mem_take h)
  ·exact hv.el x (List.mem_of_mem_drop h)
section
variable (b : List (List ZI)) {e : Nat} (hm : Mok e b) (hn : b.length ≤ 64) (hb : ∀ i, (h : i < b.length) → b[i].length = b.length) (hK : KB e + 1 < 1099511627776)
include hm hn hb hK
theorem d2x {p q : Nat} (hp : p < b.length) (hq : q < b.length) : a0d Pr a6l [matV b, .int .i64 p, .int .i64 q] (Z (cofI b p q)) := by
 have hrow : ∀ r, r < b.length → (mg b r).length = b.length := fun r hr => by rw [a1F hr]; exact hb r hr
 have hcut : ∀ r, r < b.length → (cutR (mg b r) q).length = b.length - 1 := fun r hr => by rw [d9h (by rw [hrow r hr]; exact hq), hrow r hr]
 have hc0 : cnt p 0 = 0 := by unfold cnt; rw [if_pos (Nat.zero_le _)]
 refine a0d.intro c3E c3C (Nat.le_of_ble_eq_true rfl) (Z_cl _) fun H hH => ?_
 refine Safe.rg rfl ?_
 simp only [b0h, E3, seval]
 refine Safe.rg rfl ?_
 simp only [b0g, E3, seval]
 refine Safe.nilrow 7 1 (by decide) (by simp only [E3, seval]) ?_
 refine Safe.rg rfl ?_
 simp only [b0f, E3, seval]
 refine Safe.lp rfl ?_
 refine Safe.keep [0, 1, 2, 6, 7, 11, 12] ?_
 simp only [E3, seval]
 refine Safe.loopN b.length (fun i => [(0, matV b), (1, .int .i64 p), (2, .int .i64 q), (6, .loc (lid H 0) 0 0), (7, .mu (lid H 1) 0 (cnt p i) none), (11, .int .i64 b.length), (12, .int .i64 i)]) (fun i => hap H [some ⟨2, [.agg [.bool false, .nil]]⟩, some ⟨1, (cutM b p q (cnt p i)).map vecV⟩]) (by rw [hc0]; rfl) (by rw [hc0]; rfl) (fun i hi ih => ?_) ?_
 ·have hlt : ((i : Int) < (b.length : Int)) = True := eq_true (by omega)
  have hiw : IntKind.wrap .i64 ((i : Int) + 1) = ((i + 1 : Nat) : Int) := by rw [a0c] <;> omega
  refine Safe.inLoop ?_
  refine Safe.rg rfl ?_
  simp only [a4L, hlt, E3, seval]
  refine Safe.cd rfl ?_
  simp only [E3, seval]
  refine Safe.rg rfl ?_
  simp only [b0e, E3, seval]
  by_cases hip : i = p
  ·have he : ((i : Int) = (p : Int)) = True := eq_true (by omega)
   have hcp : cnt p (i + 1) = cnt p i := by unfold cnt; rw [if_neg (by omega), if_pos (by omega)]; omega
   rw [hcp] at ih
   refine Safe.rg rfl ?_
   simp only [a4K, he, E3, seval]
   refine Safe.cd rfl ?_
   simp only [E3, seval]
   refine Safe.rg rfl ?_
   simp only [a4J, hiw, E3, seval]
   refine Safe.keep [0, 1, 2, 6, 7, 11, 12] ?_
   simp only [E3, seval]
   exact ih
  ·have he : ((i : Int) = (p : Int)) = False := eq_false (by omega)
   have hcp : cnt p (i + 1) = cnt p i + 1 := by
    unfold cnt
    by_cases h : i ≤ p
    ·rw [if_pos h, if_pos (by omega)]
    ·rw [if_neg h, if_neg (by omega)]; omega
   have hsk : skip p (cnt p i) = i := by
    unfold cnt skip
    by_cases h : i ≤ p
    ·rw [if_pos h, if_pos (by omega)]
    ·rw [if_neg h, if_neg (by omega)]; omega
   have hcl : cnt p i ≤ i := by unfold cnt; split <;> omega
   rw [hcp] at ih
   have hq1 : IntKind.wrap .i64 ((q : Int) + 1) = ((q + 1 : Nat) : Int) := by rw [a0c] <;> omega
   have hbi : b[i].length = b.length := hb i hi
   have hmg : mg b i = b[i] := a1F hi
   have s1 : ∀ H', slcV H' 2 (vecV b[i]) none (some (.int .i64 q)) none = some (vecV (b[i].take q)) := fun H' => e8o H' b[i] .i64 (by omega)
   have s2 : ∀ H', slcV H' 2 (vecV b[i]) (some (.int .i64 ((q + 1 : Nat) : Int))) none none = some (vecV (b[i].drop (q + 1))) := fun H' => d9H H' b[i] .i64 (by omega)
   have a1 : ∀ env, appV H.length 2 32 false .nil (vecV (b[i].take q)) env (hap H [some ⟨2, [.agg [.bool false, .nil]]⟩, some ⟨1, (cutM b p q (cnt p i)).map vecV⟩]) =
     some (.mu (lid H 2) 0 q none, env, hap H [some ⟨2, [.agg [.bool false, .nil]]⟩, some ⟨1, (cutM b p q (cnt p i)).map vecV⟩, some ⟨2, (b[i].take q).map ZI.av⟩]) := by
    intro env
    have hl : ((b[i].take q).map ZI.av).length = q := by rw [List.length_map, List.length_take]; omega
    have := a9I H.length env H [some ⟨2, [.agg [.bool false, .nil]]⟩, some ⟨1, (cutM b p q (cnt p i)).map vecV⟩] 2 32 false (vecV (b[i].take q)) ((b[i].take q).map ZI.av) (a1f _ 2 _) (by decide) (by rw [hl]; omega) (by rw [hl]; omega)
    rw [hl] at this
    exact this
   have a2 : ∀ env, appV H.length 2 32 false (.mu (lid H 2) 0 q none) (vecV (b[i].drop (q + 1))) env (hap H [some ⟨2, [.agg [.bool false, .nil]]⟩, some ⟨1, (cutM b p q (cnt p i)).map vecV⟩, some ⟨2, (b[i].take q).map ZI.av⟩]) =
     some (.mu (lid H 2) 0 (b.length - 1) none, scrub (lid H 2) env, hap H [some ⟨2, [.agg [.bool false, .nil]]⟩, some ⟨1, (cutM b p q (cnt p i)).map vecV⟩, some ⟨2, (cutR b[i] q).map ZI.av⟩]) := by
    intro env
    have hl : ((b[i].drop (q + 1)).map ZI.av).length = b.length - (q + 1) := by rw [List.length_map, List.length_drop]; omega
    have := c4f H.length env H [some ⟨2, [.agg [.bool false, .nil]]⟩, some ⟨1, (cutM b p q (cnt p i)).map vecV⟩, some ⟨2, (b[i].take q).map ZI.av⟩] 2 32 false 2 q none (vecV (b[i].drop (q + 1))) ((b[i].take q).map ZI.av) ((b[i].drop (q + 1)).map ZI.av) hH rfl (by rw [List.length_map, List.length_take]; omega) (a1M H 2)
     (a1f _ 2 _) (c4d (by repeat (first | exact RC.nil | refine RC.none ?_ | refine RC.mo ?_ | refine RC.io ?_ | refine RC.row ZI.cl ?_ | refine RC.cons (a0F _) ?_ | refine RC.row a0g ?_ | refine RC.emp ?_ | refine RC.zero ?_ | refine RC.one (Z_cl _) ?_ | refine RC.one (ZI.cl _) ?_ | refine RC.one (a0g _) ?_))) (fun a ha => (d8j (b[i].drop (q + 1)) a ha).ref) (by rw [hl]; omega) (by rw [hl]; omega) rfl
    rw [hl] at this
    simp only [a1c, Option.bind_none, List.set_cons_succ, List.set_cons_zero, ← List.map_append] at this
    rw [show q + (b.length - (q + 1)) = b.length - 1 by omega] at this
    exact this
   have a3 : ∀ env, appV H.length 1 24 false (.mu (lid H 1) 0 (cnt p i) none) (.mu (lid H 3) 0 1 (some 1)) env (hap H [some ⟨2, [.agg [.bool false, .nil]]⟩, some ⟨1, (cutM b p q (cnt p i)).map vecV⟩, some ⟨2, (cutR b[i] q).map ZI.av⟩, some ⟨1, [.mu (lid H 2) 0 (b.length - 1) none]⟩]) =
     some (.mu (lid H 1) 0 (cnt p i + 1) none, scrub (lid H 1) env, hap H [some ⟨2, [.agg [.bool false, .nil]]⟩, some ⟨1, (cutM b p q (cnt p i)).map vecV ++ [.mu (lid H 2) 0 (b.length - 1) none]⟩, some ⟨2, (cutR b[i] q).map ZI.av⟩, some ⟨1, [.mu (lid H 2) 0 (b.length - 1) none]⟩]) := by
    intro env
    have h01 : lid H 2 ≠ lid H 1 := by simp [lid]
    have := c4f H.length env H [some ⟨2, [.agg [.bool false, .nil]]⟩, some ⟨1, (cutM b p q (cnt p i)).map vecV⟩, some ⟨2, (cutR b[i] q).map ZI.av⟩, some ⟨1, [.mu (lid H 2) 0 (b.length - 1) none]⟩] 1 24 false 1 (cnt p i) none (.mu (lid H 3) 0 1 (some 1)) ((cutM b p q (cnt p i)).map vecV) [.mu (lid H 2) 0 (b.length - 1) none] hH rfl (by rw [List.length_map, cutM, a0f]) (a1M H 1)
     (e2e H _ 1 3 0 1 (some 1) [.mu (lid H 2) 0 (b.length - 1) none] rfl (Nat.le_refl _)) (by
      intro j r hj a ha
      match j with
      | 0 => cases hj; exact (d6u a ha).ref
      | 1 => cases hj; exact (a1t 1 vecV _ a0g a ha).ref
      | 2 => cases hj; exact (d8j _ a ha).ref
      | 3 =>
       cases hj
       simp [Blk.flat, AV.cells] at ha
       subst ha
       exact .mu _ _ _ _ h01
      | j + 4 => simp at hj) (by
      intro a ha
      simp [AV.cells] at ha
      subst ha
      exact .mu _ _ _ _ h01) (by simp; omega) (by simp; omega) rfl
    simp only [a1c, Option.bind_none, List.length_cons, List.length_nil, Nat.zero_add, List.set_cons_succ, List.set_cons_zero] at this
    exact this
   refine Safe.rg rfl ?_
   simp only [a4K, he, E3, seval]
   refine Safe.cd rfl ?_
   simp only [E3, seval]
   refine Safe.rx rfl ?_ ?_
   ·simp only [c4M, d1g, E3, seval]
    exact ⟨a2g _, .int _ _, .top, .top, .top, .int _ _, .top⟩
   simp only [b0d, a8c, a8b, a1r _ b _ i hi, s1, s2, hq1, a1, a2, a3, and_self, E3, seval]
   refine Safe.freeze 2 hH rfl rfl (d8j _) ?_
   have hfz : ((cutM b p q (cnt p i)).map vecV ++ [AV.mu (lid H 2) 0 (b.length - 1) none]).map (frz (lid H 2) ⟨2, (cutR b[i] q).map ZI.av⟩) = (cutM b p q (cnt p i + 1)).map vecV := by
    rw [List.map_append, a5Z, List.map_cons, List.map_nil, b9W H 2 (cutR b[i] q) _ none (by rw [← hmg]; exact (hcut i hi).symm)]
    unfold cutM
    rw [a4q, List.map_append, hsk, hmg]; rfl
   have hfy : [AV.mu (lid H 2) 0 (b.length - 1) none].map (frz (lid H 2) ⟨2, (cutR b[i] q).map ZI.av⟩) = [vecV (cutR b[i] q)] := by
    rw [List.map_cons, List.map_nil, b9W H 2 (cutR b[i] q) _ none (by rw [← hmg]; exact (hcut i hi).symm)]
   simp only [hfz, hfy, a1m, a0G, E3, seval]
   refine Safe.rg rfl ?_
   simp only [a4J, hiw, E3, seval]
   refine Safe.keep [0, 1, 2, 6, 7, 11, 12] ?_
   simp only [E3, seval]
   refine Safe.drop3 hH rfl (by simp only [List.all_cons, List.all_nil, E3, seval]) (by repeat (first | exact RC.nil | refine RC.none ?_ | refine RC.mo ?_ | refine RC.io ?_ | refine RC.row ZI.cl ?_ | refine RC.cons (a0F _) ?_ | refine RC.row a0g ?_ | refine RC.emp ?_ | refine RC.zero ?_ | refine RC.one (Z_cl _) ?_ | refine RC.one (ZI.cl _) ?_ | refine RC.one (a0g _) ?_)) ?_
   refine Safe.drop2 hH rfl (by simp only [List.all_cons, List.all_nil, E3, seval]) (by repeat (first | exact RC.nil | refine RC.none ?_ | refine RC.mo ?_ | refine RC.io ?_ | refine RC.row ZI.cl ?_ | refine RC.cons (a0F _) ?_ | refine RC.row a0g ?_ | refine RC.emp ?_ | refine RC.zero ?_ | refine RC.one (Z_cl _) ?_ | refine RC.one (ZI.cl _) ?_ | refine RC.one (a0g _) ?_)) ?_
   exact ih
 ·refine Safe.inLoop ?_
  refine Safe.rg rfl ?_
  simp only [a4L, Int.lt_irrefl, E3, seval]
  refine Safe.cd rfl ?_
  simp only [E3, seval]
  have hcn : cnt p b.length = b.length - 1 := by unfold cnt; rw [if_neg (by omega)]
  rw [hcn]
  refine Safe.freeze 1 hH rfl rfl (a1t 1 vecV _ a0g) ?_
  refine Safe.keep [1, 2, 6, 7] ?_
  simp only [d7S H 1 (cutM b p q (b.length - 1)) (b.length - 1) none (by rw [cutM, a0f]), a0G, E3, seval]
  refine Safe.drop1 hH rfl (by simp only [List.all_cons, List.all_nil, E3, seval]) (by repeat (first | exact RC.nil | refine RC.none ?_ | refine RC.mo ?_ | refine RC.io ?_ | refine RC.row ZI.cl ?_ | refine RC.cons (a0F _) ?_ | refine RC.row a0g ?_ | refine RC.emp ?_ | refine RC.zero ?_ | refine RC.one (Z_cl _) ?_ | refine RC.one (ZI.cl _) ?_ | refine RC.one (a0g _) ?_)) ?_
  have hw : Mok e (cutM b p q (b.length - 1)) := e3d hm (by omega) (fun r => by
   rcases Nat.lt_or_ge r b.length with h | h
   ·exact .inl (by rw [hrow r h]; exact hq)
   ·exact .inr h) (fun r hr => by unfold skip; split <;> omega)
  have hd := b8I (cutM b p q (b.length - 1)) hw (n := b.length - 1) (by rw [cutM, a0f]) (by omega) hK (fun r hr => by
   have hr' : r < b.length - 1 := by rw [cutM, a0f] at hr; exact hr
   have : (cutM b p q (b.length - 1))[r] = cutR (mg b (skip p r)) q := d1Q hr
   rw [this]
   exact hcut _ (by unfold skip; split <;> omega))
  refine Safe.rg rfl ?_
  simp only [b0c, E3, seval]
  refine hd.acall ?_
  simp only [E3, seval]
  have hs : IntKind.wrap .i64 ((p : Int) + (q : Int)) = ((p + q : Nat) : Int) := by rw [a0c] <;> omega
  have hmod : (((p + q : Nat) : Int).tmod 2) = (((p + q) % 2 : Nat) : Int) := by rfl
  have hdk : (detI (b.length - 1) (Bm (cutM b p q (b.length - 1)))).natAbs < LB ^ (KB e + 1) := d2t hw (by omega) hK
  unfold cofI
  by_cases hodd : (p + q) % 2 = 1
  ·have h1 : ((((p + q) % 2 : Nat) : Int) = 1) = True := eq_true (by omega)
   rw [if_pos hodd]
   refine Safe.rg rfl ?_
   simp only [a4I, hs, d5W, hmod, h1, E3, seval]
   refine Safe.cd rfl ?_
   simp only [E3, seval]
   refine Safe.rg rfl ?_
   simp only [a8e, E3, seval]
   have hng := b5F (canZ (detI (b.length - 1) (Bm (cutM b p q (b.length - 1))))) ((a0q hdk).mono (by omega))
   rw [a0x] at hng
   refine hng.acall ?_
   simp only [E3, seval]
   refine Safe.rt rfl ?_
   simp only [E3, seval]
   first | exact ⟨rfl, _, rfl⟩ | exact ⟨_, rfl⟩ | exact ⟨trivial, _, rfl⟩
  ·have h1 : ((((p + q) % 2 : Nat) : Int) = 1) = False := eq_false (by omega)
   rw [if_neg hodd]
   refine Safe.rg rfl ?_
   simp only [a4I, hs, d5W, hmod, h1, E3, seval]
   refine Safe.cd rfl ?_
   simp only [E3, seval]
   refine Safe.rg rfl ?_
   simp only [a8d, E3, seval]
   refine Safe.rt rfl ?_
   simp only [E3, seval]
   first | exact ⟨rfl, _, rfl⟩ | exact ⟨_, rfl⟩ | exact ⟨trivial, _, rfl⟩
end
end Go.Abs
namespace Go.Abs
theorem d6v (H : Heap) (v : List ZI) (k k' k2 : IntKind) {lo hi : Nat} (h1 : lo ≤ hi) (h2 : hi ≤ v.length) : slcV H 2 (vecV v) (some (.int k lo)) (some (.int k' hi)) (some (.int k2 hi)) = some (vecV ((v.drop lo).take (hi - lo))) := by
 simp only [vecV, slcV, a3V, Option.bind_some]
 rw [if_pos ⟨trivial, rfl, by omega, by omega, Int.le_refl _, by rw [List.length_map]; omega⟩]
 rw [Int.toNat_natCast, Int.toNat_natCast, ← List.map_drop, ← List.map_take]
theorem e8q {f : Nat → Int} {lo n m : Nat} (h : lo + n ≤ m) : ((vec m f).drop lo).take n = vec n fun k => f (lo + k) := by
 apply List.ext_getElem
 ·simp [a0e]; omega
 ·intro i h1 h2
  simp [vec]
theorem e7L : ∀ n, sg n = if n % 2 = 1 then -1 else 1
 | 0 => rfl
 | n + 1 => by
  rw [c4J, e7L n]
  by_cases h : n % 2 = 1
  ·rw [if_pos h, if_neg (by omega)]; grind
  ·rw [if_neg h, if_pos (by omega)]
def qF (b : List (List ZI)) (t : Nat) : Int := cofI b (t % b.length) (t / b.length)
def xF (b : List (List ZI)) (t : Nat) : Rat := (a7Y b.length (b8L b.length (Bm b)) (2 * b.length)).M (t / b.length) (b.length + t % b.length)
theorem f1d (b : List (List ZI)) {i k : Nat} (hk : k < b.length) : qF b (i * b.length + k) = cofI b k i := by
 unfold qF
 rw [Nat.add_comm, Nat.add_mul_mod_self_right, Nat.mod_eq_of_lt hk, Nat.add_mul_div_right _ _ (by omega), Nat.div_eq_of_lt hk, Nat.zero_add]
section
variable (b : List (List ZI)) {e : Nat} (hm : Mok e b) (hn : b.length ≤ 64) (hb : ∀ i, (h : i < b.length) → b[i].length = b.length)
include hm hn hb
theorem e8f {c i : Nat} (hi : i < b.length) : Mok e (cutM b c i (b.length - 1)) := e3d hm (by omega) (fun r => by
 rcases Nat.lt_or_ge r b.length with h | h
 ·exact .inl (by rw [a1F h, hb r h]; exact hi)
 ·exact .inr h) (fun r hr => by unfold skip; split <;> omega)
theorem e4n {c i : Nat} (hc : c < b.length) (hi : i < b.length) : ((cofI b c i : Int) : Rat) = det b.length (a0N (Bm b) i fun r => if r = c then 1 else 0) := by
 obtain ⟨n, hn'⟩ : ∃ n, b.length = n + 1 := ⟨b.length - 1, by omega⟩
 have hd := c3Y (e8f b hm hn hb (c := c) hi) (n := n) (by omega)
 have hdet := c7w (n := n) (t := i) (k := c) (Bm b) (by omega) (by omega)
 rw [hn', hdet]
 have e1 : det n (Bm (cutM b c i (b.length - 1))) = det n fun r k => Bm b (skip c r) (skip i k) := by
  refine a1z fun r k hr hk => ?_
  unfold Bm cutM
  rw [b3J (by omega), f0L]
  have hs : skip c r < b.length := by unfold skip; split <;> omega
  rw [a1F hs, hb _ hs]; exact hi
 rw [← e1, ← hd, e7L]
 unfold cofI
 rw [hn', Nat.add_sub_cancel, Nat.add_comm c i]
 by_cases h : (i + c) % 2 = 1
 ·rw [if_pos h, if_pos h, Rat.intCast_neg]; grind
 ·rw [if_neg h, if_neg h]; grind
theorem e8g {c i : Nat} (hi : i < b.length) (hK : KB e + 1 < 1099511627776) : (cofI b c i).natAbs < LB ^ (KB e + 1) := by
 have := d2t (e8f b hm hn hb (c := c) hi) (n := b.length - 1) (by omega) hK
 unfold cofI
 split
 ·rw [Int.natAbs_neg]; exact this
 ·exact this
theorem e9o (hd : detI b.length (Bm b) ≠ 0) {t : Nat} (ht : t < b.length * b.length) : ((qF b t : Int) : Rat) = ((detI b.length (Bm b) : Int) : Rat) * xF b t := by
 have hn0 : 0 < b.length := Nat.pos_of_ne_zero fun h => by rw [h] at ht; omega
 have h1 : t / b.length < b.length := Nat.div_lt_of_lt_mul ht
 have h2 : t % b.length < b.length := Nat.mod_lt _ hn0
 have hdd := c3Y hm hn
 have hd0 : det b.length (Bm b) ≠ 0 := fun h => hd (Rat.intCast_inj.1 (by rw [hdd, h]; rfl))
 have := d7H (B := Bm b) (fun i k => ⟨_, rfl⟩) hd0 h1 h2
 unfold qF xF
 rw [e4n b hm hn hb h2 h1, ← this, hdd]
 grind
theorem d4Z (hd : detI b.length (Bm b) ≠ 0) : detI b.length (Bm b) = sgD (detI b.length (Bm b)) * (gcdF (detI b.length (Bm b)) (qF b) (b.length * b.length) : Int) * (a1B (xF b) (b.length * b.length) : Int) ∧
  ∀ i, i < b.length * b.length → qF b i = sgD (detI b.length (Bm b)) * (gcdF (detI b.length (Bm b)) (qF b) (b.length * b.length) : Int) * outI (xF b) (b.length * b.length) i :=
 e1Z hd fun i hi => e9o b hm hn hb hd hi
end
def invM (b : List (List ZI)) : List (List ZI) := mat b.length fun i => vec b.length fun k => outI (xF b) (b.length * b.length) (i * b.length + k)
theorem cl3m (m : List (List ZI)) (z a : Int) : Cl (.tup [matV m, Z z, .int .i64 a]) := c7H (a2g _) (Z_cl _) (.int _ _)
theorem f2u (a : Int) : Le (.tup [.nil, .agg [.bool false, .nil], .int .i64 a]) (.tup [matV [], Z 0, .int .i64 a]) := Le.tup3 (Le.nil 1 (by decide)) le_zero (Le.refl _)
section
variable (b : List (List ZI)) {e : Nat} (hm : Mok e b) (hK : KB e + 1 < 1099511627776)
include hm hK
theorem e9a (h0 : sqE b = 0) (hd : detI b.length (Bm b) ≠ 0) : a0d Pr a7I [matV b] (.tup [matV (invM b), Z (a1B (xF b) (b.length * b.length) : Nat), .int .i64 0]) := by
 obtain ⟨hn, hrows⟩ := c4F h0
 have hsq := c4G b hm
 unfold sqT at hsq
 rw [if_pos (d1d h0).1, h0] at hsq
 have hdet := b8I b hm rfl hn hK hrows
 have hdk := d2t hm hn hK
 have hnn : b.length * b.length ≤ 64 * 64 := Nat.mul_le_mul hn hn
 have hcof := fun p q (hp : p < b.length) (hq : q < b.length) => d2x b hm hn hrows hK hp hq
 have hqk : ∀ t, t < b.length * b.length → (qF b t).natAbs < LB ^ (KB e + 1) := fun t ht => e8g b hm hn hrows (Nat.div_lt_of_lt_mul ht) hK
 have hterm := d4Z b hm hn hrows hd
 have hinv : ∀ i, i < b.length → (((vec (b.length * b.length) (outI (xF b) (b.length * b.length))).drop (i * b.length)).take b.length) = vec b.length fun k => outI (xF b) (b.length * b.length) (i * b.length + k) := fun i hi => e8q (by
  have := Nat.mul_le_mul_right b.length (show i + 1 ≤ b.length by omega)
  rw [Nat.succ_mul] at this; exact this)
 have hs : ((detI b.length (Bm b)).sign = 0) = False := eq_false fun h => hd (Int.sign_eq_zero_iff_zero.1 h)
 have hq := fun i k (hk : k < b.length) => f1d b (i := i) hk
 unfold invM
 generalize detI b.length (Bm b) = D at *
 generalize outI (xF b) (b.length * b.length) = P at *
 generalize a1B (xF b) (b.length * b.length) = E at *
 generalize qF b = q at *
 clear hrows h0
 generalize hnd : b.length = n at *
 refine a0d.intro c7o c7k (Nat.le_of_ble_eq_true rfl) (cl3m _ _ _) fun H hH => ?_
 refine Safe.rg rfl ?_
 simp only [b2m, E3, seval]
 refine Safe.rg rfl ?_
 simp only [b2l, E3, seval]
 first | refine (hsq).acall ?_ | refine (hsq).dcall ?_ | refine (hsq).dgcall ?_
 try simp only [E3, seval]
 refine Safe.rg rfl ?_
 simp only [b2k, E3, seval]
 refine Safe.cd rfl ?_
 simp only [E3, seval]
 refine Safe.rg rfl ?_
 simp only [b2j, E3, seval]
 first | refine (hdet).acall ?_ | refine (hdet).dcall ?_ | refine (hdet).dgcall ?_
 try simp only [E3, seval]
 refine Safe.rg rfl ?_
 simp only [b2i, E3, seval]
 refine (a3h (canZ D) ((a0q hdk).mono (by omega))).acall ?_
 simp only [a0x, hs, E3, seval]
 refine Safe.cd rfl ?_
 simp only [E3, seval]
 refine Safe.rg rfl ?_
 simp only [b2h, E3, seval]
 refine Safe.nilrow 8 2 (by decide) (by simp only [E3, seval]) ?_
 refine Safe.rg rfl ?_
 simp only [b2g, E3, seval]
 refine Safe.lp rfl ?_
 refine Safe.keep [0, 3, 5, 7, 8, 28, 29] ?_
 simp only [E3, seval]
 refine Safe.loopN n (fun i => [(0, matV b), (3, .loc (lid H 0) 0 0), (5, .int .i64 n), (7, .loc (lid H 1) 0 0), (8, .mu (lid H 2) 0 (i * n) none), (28, .int .i64 n), (29, .int .i64 i)]) (fun i => hap H [some ⟨2, [.agg [.bool false, .nil]]⟩, some ⟨2, [Z D]⟩, some ⟨2, (vec (i * n) q).map ZI.av⟩]) (by simp only [Nat.zero_mul]; rfl) (by simp only [Nat.zero_mul]; rfl) (fun i hi ih => ?_) ?_
 ·have hlt : ((i : Int) < (n : Int)) = True := eq_true (by omega)
  have hiw : IntKind.wrap .i64 ((i : Int) + 1) = ((i + 1 : Nat) : Int) := by rw [a0c] <;> omega
  have hle : (i + 1) * n ≤ n * n := Nat.mul_le_mul_right _ hi
  rw [Nat.succ_mul] at hle ih
  refine Safe.inLoop ?_
  refine Safe.rg rfl ?_
  simp only [a6h, hlt, E3, seval]
  refine Safe.cd rfl ?_
  simp only [E3, seval]
  refine Safe.rg rfl ?_
  simp only [b0B, E3, seval]
  refine Safe.rg rfl ?_
  simp only [b0A, E3, seval]
  refine Safe.lp rfl ?_
  refine Safe.keep [0, 3, 5, 7, 8, 9, 28, 29, 32, 33] ?_
  simp only [E3, seval]
  refine Safe.loopN n (fun k => [(0, matV b), (3, .loc (lid H 0) 0 0), (5, .int .i64 n), (7, .loc (lid H 1) 0 0), (8, .mu (lid H 2) 0 (i * n + k) none), (9, .int .i64 i), (28, .int .i64 n), (29, .int .i64 i), (32, .int .i64 n), (33, .int .i64 k)]) (fun k => hap H [some ⟨2, [.agg [.bool false, .nil]]⟩, some ⟨2, [Z D]⟩, some ⟨2, (vec (i * n + k) q).map ZI.av⟩]) rfl rfl (fun k hk ihk => ?_) ?_
  ·have hlt2 : ((k : Int) < (n : Int)) = True := eq_true (by omega)
   have hkw : IntKind.wrap .i64 ((k : Int) + 1) = ((k + 1 : Nat) : Int) := by rw [a0c] <;> omega
   have hcf := hcof k i hk hi
   rw [← hq i k hk] at hcf
   refine Safe.inLoop ?_
   refine Safe.rg rfl ?_
   simp only [a4V, hlt2, E3, seval]
   refine Safe.cd rfl ?_
   simp only [E3, seval]
   refine Safe.rg rfl ?_
   simp only [b0z, E3, seval]
   refine Safe.rg rfl ?_
   simp only [b0y, E3, seval]
   first | refine (hcf).acall ?_ | refine (hcf).dcall ?_ | refine (hcf).dgcall ?_
   try simp only [E3, seval]
   rw [c7K hH 2 (a1M H 2) ZI.cl (vec (i * n + k) q) (canZ (q (i * n + k))) (vec (i * n + k + 1) q) ?hlen ?hl ?hL ?hy ?hl2 ?hb ?hbb]
   case hlen => first | rfl | (simp only [a0e, a0f, List.length_map, List.length_take]; done) | (simp only [a0e, a0f, List.length_map, List.length_take]; omega)
   case hl => rfl
   case hL => repeat (first | exact RC.nil | refine RC.none ?_ | refine RC.mo ?_ | refine RC.io ?_ | refine RC.row ZI.cl ?_ | refine RC.cons (a0F _) ?_ | refine RC.row a0g ?_ | refine RC.emp ?_ | refine RC.zero ?_ | refine RC.one (Z_cl _) ?_ | refine RC.one (ZI.cl _) ?_ | refine RC.one (a0g _) ?_)
   case hy => rfl
   case hl2 => first | exact a4n _ _ | exact a4q _ _ | exact a5C _ (by omega) | exact a2e _ _ (by omega)
   case hb => omega
   case hbb => omega
   simp only [E3, seval]
   refine Safe.rg rfl ?_
   simp only [b0x, hkw, E3, seval]
   refine Safe.keep [0, 3, 5, 7, 8, 9, 28, 29, 32, 33] ?_
   simp only [E3, seval]
   exact ihk
  ·refine Safe.inLoop ?_
   refine Safe.rg rfl ?_
   simp only [a4V, Int.lt_irrefl, E3, seval]
   refine Safe.cd rfl ?_
   simp only [E3, seval]
   refine Safe.rg rfl ?_
   simp only [b0w, hiw, E3, seval]
   refine Safe.keep [0, 3, 5, 7, 8, 28, 29] ?_
   simp only [E3, seval]
   exact ih
 ·refine Safe.inLoop ?_
  refine Safe.rg rfl ?_
  simp only [a6h, Int.lt_irrefl, E3, seval]
  refine Safe.cd rfl ?_
  simp only [E3, seval]
  refine Safe.freeze 2 hH rfl rfl (a1t 2 ZI.av _ ZI.cl) ?_
  refine Safe.keep [3, 5, 7, 8] ?_
  simp only [b9W H 2 (vec (n * n) q) (n * n) (none) (by simp only [a0e, a0f]), a1m, a0G, a5Y, a5Z, E3, seval]
  refine Safe.drop2 hH rfl (by simp only [List.all_cons, List.all_nil, E3, seval]) (by repeat (first | exact RC.nil | refine RC.none ?_ | refine RC.mo ?_ | refine RC.io ?_ | refine RC.row ZI.cl ?_ | refine RC.cons (a0F _) ?_ | refine RC.row a0g ?_ | refine RC.emp ?_ | refine RC.zero ?_ | refine RC.one (Z_cl _) ?_ | refine RC.one (ZI.cl _) ?_ | refine RC.one (a0g _) ?_)) ?_
  have ht := d9K q P D (E : Nat) hqk hdk (by omega) (by omega) hd hterm.1 hterm.2
  refine Safe.rg rfl ?_
  simp only [b0v, E3, seval]
  refine ht.acall ?_
  simp only [E3, seval]
  refine Safe.rg rfl ?_
  simp only [b0u, E3, seval]
  refine Safe.nilrow 11 1 (by decide) (by simp only [E3, seval]) ?_
  refine Safe.rg rfl ?_
  simp only [b0t, E3, seval]
  refine Safe.lp rfl ?_
  refine Safe.keep [3, 5, 7, 8, 11, 51, 52] ?_
  try simp only [E3, seval]
  refine Safe.loopN (n) (fun i => [(3, .loc (lid H 0) 0 0), (5, .int .i64 n), (7, .loc (lid H 1) 0 0), (8, vecV (vec (n * n) P)), (11, .mu (lid H 2) 0 i none), (51, .int .i64 n), (52, .int .i64 i)]) (fun i => hap H [some ⟨2, [.agg [.bool false, .nil]]⟩, some ⟨2, [Z (E : Nat)]⟩, some ⟨1, (mat i fun i => vec n fun k => P (i * n + k)).map vecV⟩]) rfl rfl (fun i hi ih => ?_) ?_
  ·have hlt : ((i : Int) < (n : Int)) = True := eq_true (by omega)
   have hiw : IntKind.wrap .i64 ((i : Int) + 1) = ((i + 1 : Nat) : Int) := by rw [a0c] <;> omega
   have hle : (i + 1) * n ≤ n * n := Nat.mul_le_mul_right _ hi
   rw [Nat.succ_mul] at hle
   have hm0 : IntKind.wrap .i64 ((i : Int) * (n : Int)) = ((i * n : Nat) : Int) := by rw [← Int.natCast_mul, a0c] <;> omega
   have hm1 : IntKind.wrap .i64 (((i + 1 : Nat) : Int) * (n : Int)) = ((i * n + n : Nat) : Int) := by rw [← Int.natCast_mul, Nat.succ_mul, a0c] <;> omega
   have hsl := d6v (hap H [some ⟨2, [.agg [.bool false, .nil]]⟩, some ⟨2, [Z (E : Nat)]⟩, some ⟨1, (mat i fun i => vec n fun k => P (i * n + k)).map vecV⟩]) (vec (n * n) P) .i64 .i64 .i64 (lo := i * n) (hi := i * n + n) (by omega) (by rw [a0e]; omega)
   rw [show i * n + n - i * n = n by omega, hinv i hi] at hsl
   refine Safe.inLoop ?_
   refine Safe.rg rfl ?_
   simp only [a4U, hlt, E3, seval]
   refine Safe.cd rfl ?_
   simp only [E3, seval]
   refine Safe.rg rfl ?_
   simp only [b0s, E3, seval]
   refine Safe.rg rfl ?_
   simp only [b0r, hm0, hiw, hm1, hsl, E3, seval]
   rw [c7K hH 2 (a1M H 2) a0g (mat i fun i => vec n fun k => P (i * n + k)) (vec n fun k => P (i * n + k)) (mat (i + 1) fun i => vec n fun k => P (i * n + k)) ?hlen ?hl ?hL ?hy ?hl2 ?hb ?hbb]
   case hlen => first | rfl | (simp only [a0e, a0f, List.length_map, List.length_take]; done) | (simp only [a0e, a0f, List.length_map, List.length_take]; omega)
   case hl => rfl
   case hL => repeat (first | exact RC.nil | refine RC.none ?_ | refine RC.mo ?_ | refine RC.io ?_ | refine RC.row ZI.cl ?_ | refine RC.cons (a0F _) ?_ | refine RC.row a0g ?_ | refine RC.emp ?_ | refine RC.zero ?_ | refine RC.one (Z_cl _) ?_ | refine RC.one (ZI.cl _) ?_ | refine RC.one (a0g _) ?_)
   case hy => rfl
   case hl2 => first | exact a4n _ _ | exact a4q _ _ | exact a5C _ (by omega) | exact a2e _ _ (by omega)
   case hb => omega
   case hbb => omega
   simp only [E3, seval]
   refine Safe.rg rfl ?_
   simp only [b0q, hiw, E3, seval]
   refine Safe.keep [3, 5, 7, 8, 11, 51, 52] ?_
   simp only [E3, seval]
   exact ih
  ·refine Safe.inLoop ?_
   refine Safe.rg rfl ?_
   simp only [a4U, Int.lt_irrefl, E3, seval]
   refine Safe.cd rfl ?_
   simp only [E3, seval]
   refine Safe.freeze 2 hH rfl rfl (a1t 1 vecV _ a0g) ?_
   refine Safe.keep [3, 7, 11] ?_
   simp only [d7S H 2 (mat n fun i => vec n fun k => P (i * n + k)) (n) (none) (by simp only [a0e, a0f]), a1m, a0G, a5Y, a5Z, E3, seval]
   refine Safe.rg rfl ?_
   simp only [b0p, E3, seval]
   refine Safe.rt rfl ?_
   simp only [E3, seval]
   first | exact ⟨rfl, _, rfl⟩ | exact ⟨_, rfl⟩ | exact ⟨trivial, _, rfl⟩
end
end Go.Abs
namespace Go.Abs
theorem c8P {f : Nat → Int} {n : Nat} : ∀ {m : Nat}, n ≤ m → (∀ i, n ≤ i → i < m → f i = 0) → a0T f m = a0T f n
 | 0, h, _ => by
  have : n = 0 := by omega
  subst this; rfl
 | m + 1, h, hz => by
  by_cases hm : n = m + 1
  ·subst hm; rfl
  ·show a0T f m + f m = a0T f n
   rw [c8P (by omega) fun i h1 h2 => hz i h1 (by omega), hz m (by omega) (by omega), Int.add_zero]
theorem f2c {v : List ZI} {i : Nat} (h : v.length ≤ i) : zg v i = 0 := by
 unfold zg
 rw [List.getD_eq_getElem?_getD, List.getElem?_eq_none h]; rfl
theorem f2p {b : List (List ZI)} {i : Nat} (h : b.length ≤ i) : mg b i = [] := by
 unfold mg
 rw [List.getD_eq_getElem?_getD, List.getElem?_eq_none h]; rfl
theorem d5J (u v : List ZI) {m : Nat} (h : u.length ≤ m) : dotZ u v = a0T (fun i => zg u i * zg v i) m :=
 (c8P h fun i h1 _ => by rw [f2c h1, Int.zero_mul]).symm
theorem e3Z (u v : List ZI) : dotZ u v = dotZ v u := by
 rw [d5J u v (Nat.le_max_left u.length v.length), d5J v u (Nat.le_max_right u.length v.length)]
 exact a1i fun i _ => Int.mul_comm _ _
def Gr (b : List (List ZI)) (i j : Nat) : Rat := ((dotZ (mg b i) (mg b j) : Int) : Rat)
theorem e8m (b : List (List ZI)) (i j : Nat) : Gr b i j = Gr b j i := by unfold Gr; rw [e3Z]
theorem f2a (b : List (List ZI)) (i j : Nat) : ∃ z : Int, Gr b i j = z := ⟨_, rfl⟩
def uI (b : List (List ZI)) (k i j : Nat) : Int := (ug (Gr b) k i j).num
def dI (b : List (List ZI)) (k : Nat) : Int := (Dg (Gr b) k).num
def GB (e : Nat) : Nat := 65 * (e + e + 3) + 1
section
variable {b : List (List ZI)}
theorem e4j : dI b 0 = 1 := by unfold dI; rw [d8q]; rfl
theorem e8w (i j : Nat) : uI b 0 i j = dotZ (mg b i) (mg b j) := by unfold uI; rw [e8t]; rfl
theorem e8y {k : Nat} (hp : Pv (Gr b) k) : uI b k k k = dI b (k + 1) := by unfold uI dI; rw [e8v hp]
end
section
variable {b : List (List ZI)} {e : Nat} (hm : Mok e b)
include hm
theorem f2b : Bd (e + e + 2) (Gr b) := fun i k => ⟨_, rfl, Nat.le_of_lt (a7E (hm.row i) (hm.row k) (Nat.le_refl _))⟩
theorem c7U {k : Nat} (hp : Pv (Gr b) k) (hk : k < 64) {i : Nat} (j : Nat) (hi : k ≤ i) : ((uI b k i j : Int) : Rat) = ug (Gr b) k i j ∧ (uI b k i j).natAbs < LB ^ GB e := by
 obtain ⟨z, hz, hb⟩ := e5h hp (f2b hm) (by unfold LB; omega) j hi
 obtain ⟨h1, h2⟩ := a3e hz
 refine ⟨h2, ?_⟩
 unfold uI
 rw [h1]
 refine Nat.lt_of_le_of_lt hb (Nat.pow_lt_pow_right (by decide) ?_)
 unfold GB
 have : (k + 1) * (e + e + 2 + 1) ≤ 65 * (e + e + 2 + 1) := Nat.mul_le_mul_right _ (by omega)
 omega
theorem d2w {k : Nat} (hk : k ≤ 64) : ((dI b k : Int) : Rat) = Dg (Gr b) k ∧ (dI b k).natAbs < LB ^ GB e := by
 obtain ⟨z, hz, hb⟩ := e7G (f2b hm) (k := k) (by unfold LB; omega)
 obtain ⟨h1, h2⟩ := a3e hz
 refine ⟨h2, ?_⟩
 unfold dI
 rw [h1]
 refine Nat.lt_of_le_of_lt hb (Nat.pow_lt_pow_right (by decide) ?_)
 unfold GB
 have : k * (e + e + 2 + 1) ≤ 65 * (e + e + 2 + 1) := Nat.mul_le_mul_right _ (by omega)
 omega
theorem e8x {n k i j : Nat} (hn : n ≤ 64) (hg : gd (Gr b) n = n) (hk : k < n) (hi : k < i) (hj : k < j) : dI b (k + 1) * uI b k i j - uI b k i k * uI b k j k = dI b k * uI b (k + 1) i j := by
 obtain ⟨p1, _⟩ := a2Q hg k (by omega)
 obtain ⟨p2, q2⟩ := a2Q hg (k + 1) (by omega)
 have hs : Sg (Gr b) k k k ≠ 0 := fun e0 => by
  rw [a9W p1, e0, Rat.mul_zero] at q2
  exact absurd q2 (by decide)
 have h := e8u p1 hs j hi
 rw [f0R (e8m b) (Nat.le_refl k) (Nat.le_of_lt hj)] at h
 have a1 := (d2w hm (k := k + 1) (by omega)).1
 have a2 := (c7U hm p1 (by omega) j (Nat.le_of_lt hi)).1
 have a3 := (c7U hm p1 (by omega) k (Nat.le_of_lt hi)).1
 have a4 := (c7U hm p1 (by omega) k (Nat.le_of_lt hj)).1
 have a5 := (d2w hm (k := k) (by omega)).1
 by_cases hk64 : k + 1 < 64
 ·have a6 := (c7U hm p2 hk64 j hi).1
  rw [← a1, ← a2, ← a3, ← a4, ← a5, ← a6] at h
  have : ((dI b k * uI b (k + 1) i j : Int) : Rat) = ((dI b (k + 1) * uI b k i j - uI b k i k * uI b k j k : Int) : Rat) := by
   simp only [Rat.intCast_mul, Rat.intCast_sub]; exact h
  exact (Rat.intCast_inj.1 this).symm
 ·obtain ⟨z, hz⟩ := f0S p2 (f2a b) j hi
  have a6 := (a3e hz).2
  rw [← a1, ← a2, ← a3, ← a4, ← a5, ← a6] at h
  have : ((dI b k * uI b (k + 1) i j : Int) : Rat) = ((dI b (k + 1) * uI b k i j - uI b k i k * uI b k j k : Int) : Rat) := by
   simp only [Rat.intCast_mul, Rat.intCast_sub]; exact h
  exact (Rat.intCast_inj.1 this).symm
theorem e9x {n : Nat} (hn : n < 64) (hg : gd (Gr b) n = n) : gd (Gr b) (n + 1) = n + 1 ↔ 0 < dI b (n + 1) := by
 have hd := (d2w hm (k := n + 1) (by omega)).1
 rw [b9U]
 constructor
 ·intro h
  split at h
  ·rename_i hc
   have := hc.2
   rw [← hd] at this
   exact Rat.intCast_pos.1 this
  ·omega
 ·intro h
  rw [if_pos ⟨hg, by rw [← hd]; exact Rat.intCast_pos.2 h⟩]
theorem e6Q {n k : Nat} (hn : n ≤ 64) (hg : gd (Gr b) n = n) (hk : k ≤ n) : 0 < dI b k := by
 have h := (a2Q hg k hk).2
 rw [← (d2w hm (k := k) (by omega)).1] at h
 exact Rat.intCast_pos.1 h
end
end Go.Abs
namespace Go.Abs
theorem c8M {y q : Int} {k : Nat} (h1 : (y * q).natAbs < LB ^ k) (h2 : y.natAbs < LB ^ k) (hk : k < 17592186044000) (h0 : y ≠ 0) : a0d Pr a1Z [Z (y * q), Z y] (.tup [Z q, Z 0, .int .i64 0]) :=
 a6w (canZ (y * q)) (canZ y) k (a0q h1) (a0q h2) hk q (by rw [a0x]; exact h0) (by rw [a0x, a0x])
theorem a2T {id b : Nat} (k off : Nat) (h : b ≠ id) : nref id (.loc b k off) = true := a0j.2 (.loc _ _ _ h)
theorem d8L {id b : Nat} (off len : Nat) (oc : Option Nat) (h : b ≠ id) : nref id (.mu b off len oc) = true := a0j.2 (.mu _ _ _ _ h)
theorem d0T (H : Heap) {n : Nat} {f : Nat → Int} {k : Nat} (h : k < n) : idxV H 2 (vecV (vec n f)) (.int .i64 (k : Nat)) = some (.ro (Z (f k)) 0) := by
 rw [a4a H _ .i64 k (by rw [a0e]; exact h), b4O]; rfl
section
variable {b : List (List ZI)} {e i : Nat} {G : Heap} {n0 : Nat} {mu : Nat → Nat → Bool} {f : FuncId} {nt : Nat} {rs : List ResV} {dr lr : AV} {b0 b1 dd ll : Nat} {R : AV → Heap → Prop} {rest : List AItem}
structure GsoAt (b : List (List ZI)) (i : Nat) (G : Heap) (dr lr : AV) (b1 dd ll : Nat) : Prop where
 bs : ∀ L, (hrow (hap G L) b1).isSome = true
 bx : ∀ L off, atV (hap G L) (.loc b1 0 off) = some (List.drop off [dr, lr])
 di : ∀ L k, k ≤ i → idxV (hap G L) 2 dr (.int .i64 (k : Nat)) = some (.loc dd k 0)
 da : ∀ L k, k ≤ i → atV (hap G L) (.loc dd k 0) = some (Z (dI b k)).cells
 li : ∀ L j, j < i → idxV (hap G L) 1 lr (.int .i64 (j : Nat)) = some (.loc ll j 0)
 la : ∀ L j, j < i → atV (hap G L) (.loc ll j 0) = some (vecV (vec j fun t => uI b t j t)).cells
variable (hm : Mok e b) (he : GB e + GB e + 8 < 17592186044000) (hn : i < b.length) (h64 : b.length ≤ 64) (hg : gd (Gr b) i = i) (hd : GsoAt b i G dr lr b1 dd ll) (hG : n0 ≤ G.length)
include hm he hn h64 hg hd hG
omit hG in
theorem f0m {j : Nat} (hj : j ≤ i) (k : Safe ⟨Pr, mu, f, 114, rs, n0⟩ rest [(0, matV b), (2, .loc b0 0 0), (4, .loc b1 0 0), (5, .int .i64 i), (6, .mu (lid G 0) 0 j (some (i + 1))), (7, .int .i64 j), (8, .loc (lid G 1) 0 0), (10, .int .i64 j), (16, .int .i64 b.length), (17, .int .i64 i)]
   (hap G [some ⟨2, (vec j fun t => uI b t i t).map ZI.av⟩, some ⟨2, [Z (uI b j i j)]⟩]) R) :
  Safe ⟨Pr, mu, f, 114, rs, n0⟩ (.inLoop c3n :: .inBlock 4 :: rest) [(0, matV b), (2, .loc b0 0 0), (4, .loc b1 0 0), (5, .int .i64 i), (6, .mu (lid G 0) 0 j (some (i + 1))), (7, .int .i64 j), (8, .loc (lid G 1) 0 0), (10, .int .i64 0), (16, .int .i64 b.length), (17, .int .i64 i)]
   (hap G [some ⟨2, (vec j fun t => uI b t i t).map ZI.av⟩, some ⟨2, [Z (uI b 0 i j)]⟩]) R := by
 refine Safe.loopN j (fun k => [(0, matV b), (2, .loc b0 0 0), (4, .loc b1 0 0), (5, .int .i64 i), (6, .mu (lid G 0) 0 j (some (i + 1))), (7, .int .i64 j), (8, .loc (lid G 1) 0 0), (10, .int .i64 k), (16, .int .i64 b.length), (17, .int .i64 i)])
  (fun k => hap G [some ⟨2, (vec j fun t => uI b t i t).map ZI.av⟩, some ⟨2, [Z (uI b k i j)]⟩]) rfl rfl (fun k hk ih => ?_) ?_
 ·have hlt : ((k : Int) < (j : Int)) = True := eq_true (by omega)
  have hiw : IntKind.wrap .i64 ((k : Int) + 1) = ((k + 1 : Nat) : Int) := by rw [a0c] <;> omega
  refine Safe.inLoop ?_
  refine Safe.rg rfl ?_
  simp only [a9x, hlt, E3, seval]
  refine Safe.cd rfl ?_
  simp only [E3, seval]
  refine Safe.rg rfl ?_
  simp only [b8d, E3, seval]
  have p0 := (a2Q hg k (by omega)).1
  have hdk := d2w hm (k := k) (by omega)
  have hdk1 := d2w hm (k := k + 1) (by omega)
  have hij := (c7U hm p0 (by omega) (i := i) j (by omega)).2
  have hik := (c7U hm p0 (by omega) (i := i) k (by omega)).2
  have hjk := (c7U hm p0 (by omega) (i := j) k (by omega)).2
  have hstep := e8x hm (by omega) hg (k := k) (i := i) (j := j) (by omega) (by omega) hk
  have di1 : ∀ L, idxV (hap G L) 2 dr (.int .i64 ((k + 1 : Nat) : Int)) = some (.loc dd (k + 1) 0) := fun L => hd.di L (k + 1) (by omega)
  have da1 : ∀ L, atV (hap G L) (.loc dd (k + 1) 0) = some (Z (dI b (k + 1))).cells := fun L => hd.da L (k + 1) (by omega)
  have di0 : ∀ L, idxV (hap G L) 2 dr (.int .i64 (k : Nat)) = some (.loc dd k 0) := fun L => hd.di L k (by omega)
  have da0 : ∀ L, atV (hap G L) (.loc dd k 0) = some (Z (dI b k)).cells := fun L => hd.da L k (by omega)
  have bs0 := hd.bs
  have bx0 : ∀ L, atV (hap G L) (.loc b1 0 0) = some [dr, lr] := fun L => hd.bx L 0
  have bx1 : ∀ L, atV (hap G L) (.loc b1 0 1) = some [lr] := fun L => hd.bx L 1
  have hli : ∀ L X, idxV (hap G (some ⟨2, X⟩ :: L)) 2 (.mu (lid G 0) 0 j (some (i + 1))) (.int .i64 (k : Nat)) = some (.loc (lid G 0) k 0) := fun L X => d8W hk
  have hla : ∀ L, atV (hap G (some ⟨2, (vec j fun t => uI b t i t).map ZI.av⟩ :: L)) (.loc (lid G 0) k 0) = some (Z (uI b k i k)).cells := fun L => f0t (f := fun t => uI b t i t) hk
  have c1 := d8s hdk1.2 hij (show GB e + GB e ≤ 17592186044416 by omega)
  have c2 := d8s hik hjk (show GB e + GB e ≤ 17592186044416 by omega)
  have c3 := d8r (a1R hdk1.2 hij) (a1R hik hjk) (show GB e + GB e < 17592186044416 by omega)
  rw [hstep] at c3
  have hb1 : (dI b k * uI b (k + 1) i j).natAbs < LB ^ (GB e + GB e + 1) := by rw [← hstep]; exact e2b (a1R hdk1.2 hij) (a1R hik hjk)
  have c4 := c8M hb1 (Nat.lt_of_lt_of_le hdk.2 (a4H (by omega))) (show GB e + GB e + 1 < 17592186044000 by omega) (show dI b k ≠ 0 by have := e6Q hm (by omega) hg (k := k) (by omega); omega)
  by_cases hji : j < i
  ·have hlt2 : ((j : Int) < (i : Int)) = True := eq_true (by omega)
   have li0 : ∀ L, idxV (hap G L) 1 lr (.int .i64 (j : Nat)) = some (.loc ll j 0) := fun L => hd.li L j hji
   have la0 : ∀ L, atV (hap G L) (.loc ll j 0) = some (vecV (vec j fun t => uI b t j t)).cells := fun L => hd.la L j hji
   have hrw : ∀ L, idxV (hap G L) 2 (vecV (vec j fun t => uI b t j t)) (.int .i64 (k : Nat)) = some (.ro (Z (uI b k j k)) 0) := fun L => d0T _ (f := fun t => uI b t j t) hk
   refine Safe.rg rfl ?_
   simp only [a9w, hlt2, E3, seval]
   refine Safe.cd rfl ?_
   simp only [E3, seval]
   refine Safe.rg rfl ?_
   simp only [b8c, bs0, bx1, li0, la0, E3, seval]
   refine Safe.rg rfl ?_
   simp only [a9v, bs0, bx0, hiw, di1, da1, hli, hla, hrw, E3, seval]
   first | refine (c1).acall ?_ | refine (c1).dcall ?_ | refine (c1).dgcall ?_
   try simp only [E3, seval]
   simp only [hli, hla, hrw, E3, seval]
   first | refine (c2).acall ?_ | refine (c2).dcall ?_ | refine (c2).dgcall ?_
   try simp only [E3, seval]
   try simp only [E3, seval]
   first | refine (c3).acall ?_ | refine (c3).dcall ?_ | refine (c3).dgcall ?_
   try simp only [E3, seval]
   try simp only [E3, seval]
   refine Safe.rg rfl ?_
   simp only [a9u, bs0, bx0, di0, da0, E3, seval]
   first | refine (c4).acall ?_ | refine (c4).dcall ?_ | refine (c4).dgcall ?_
   try simp only [E3, seval]
   try simp only [E3, seval]
   refine Safe.rg rfl ?_
   simp only [a9t, hiw, E3, seval]
   refine Safe.keep [0, 2, 4, 5, 6, 7, 8, 10, 16, 17] ?_
   simp only [E3, seval]
   exact ih
  ·obtain rfl : j = i := by omega
   have hlt2 : ((j : Int) < (j : Int)) = False := eq_false (by omega)
   refine Safe.rg rfl ?_
   simp only [a9w, hlt2, E3, seval]
   refine Safe.cd rfl ?_
   simp only [E3, seval]
   refine Safe.rg rfl ?_
   simp only [a9v, bs0, bx0, hiw, di1, da1, hli, hla, E3, seval]
   first | refine (c1).acall ?_ | refine (c1).dcall ?_ | refine (c1).dgcall ?_
   try simp only [E3, seval]
   simp only [hli, hla, E3, seval]
   first | refine (c2).acall ?_ | refine (c2).dcall ?_ | refine (c2).dgcall ?_
   try simp only [E3, seval]
   try simp only [E3, seval]
   first | refine (c3).acall ?_ | refine (c3).dcall ?_ | refine (c3).dgcall ?_
   try simp only [E3, seval]
   try simp only [E3, seval]
   refine Safe.rg rfl ?_
   simp only [a9u, bs0, bx0, di0, da0, E3, seval]
   first | refine (c4).acall ?_ | refine (c4).dcall ?_ | refine (c4).dgcall ?_
   try simp only [E3, seval]
   try simp only [E3, seval]
   refine Safe.rg rfl ?_
   simp only [a9t, hiw, E3, seval]
   refine Safe.keep [0, 2, 4, 5, 6, 7, 8, 10, 16, 17] ?_
   simp only [E3, seval]
   exact ih
 ·refine Safe.inLoop ?_
  refine Safe.rg rfl ?_
  simp only [a9x, Int.lt_irrefl, E3, seval]
  refine Safe.cd rfl ?_
  simp only [E3, seval]
  refine Safe.keep [0, 2, 4, 5, 6, 7, 8, 10, 16, 17] ?_
  simp only [E3, seval]
  refine Safe.stl 1 _ ?_
  exact k
theorem f0n (hGr : a0C G) (hr : Rect b) (hlt0 : b0 < lid G 1) (hlt1 : b1 < lid G 1) (k : Safe ⟨Pr, mu, f, 114, rs, n0⟩ rest [(0, matV b), (2, .loc b0 0 0), (4, .loc b1 0 0), (5, .int .i64 i), (6, .mu (lid G 0) 0 (i + 1) (some (i + 1))), (16, .int .i64 b.length), (17, .int .i64 i)]
   (hap G [some ⟨2, (vec (i + 1) fun t => uI b t i t).map ZI.av⟩]) R) :
  Safe ⟨Pr, mu, f, 114, rs, n0⟩ (.inLoop c3o :: .inBlock 2 :: rest) [(0, matV b), (2, .loc b0 0 0), (4, .loc b1 0 0), (5, .int .i64 i), (6, .mu (lid G 0) 0 0 (some (i + 1))), (7, .int .i64 0), (16, .int .i64 b.length), (17, .int .i64 i)]
   (hap G [some ⟨2, []⟩]) R := by
 refine Safe.loopN (i + 1) (fun j => [(0, matV b), (2, .loc b0 0 0), (4, .loc b1 0 0), (5, .int .i64 i), (6, .mu (lid G 0) 0 j (some (i + 1))), (7, .int .i64 j), (16, .int .i64 b.length), (17, .int .i64 i)])
  (fun j => hap G [some ⟨2, (vec j fun t => uI b t i t).map ZI.av⟩]) rfl rfl (fun j hj ih => ?_) ?_
 ·have hle : ((j : Int) ≤ (i : Int)) = True := eq_true (by omega)
  have hiw : IntKind.wrap .i64 ((j : Int) + 1) = ((j + 1 : Nat) : Int) := by rw [a0c] <;> omega
  have ri : ∀ L, idxV (hap G L) 1 (matV b) (.int .i64 (i : Nat)) = some (.ro (vecV (mg b i)) 0) := fun L => by rw [a1F hn]; exact a1r _ b .i64 i hn
  have rj : ∀ L, idxV (hap G L) 1 (matV b) (.int .i64 (j : Nat)) = some (.ro (vecV (mg b j)) 0) := fun L => by rw [a1F (show j < b.length by omega)]; exact a1r _ b .i64 j (by omega)
  have hdot := e7Z (mg b i) (mg b j) e (hm.row i) (hm.row j) (by unfold GB at he; omega) (by rw [hr i hn, hr j (by omega)])
  rw [← e8w] at hdot
  refine Safe.inLoop ?_
  refine Safe.rg rfl ?_
  simp only [b1U, hle, E3, seval]
  refine Safe.cd rfl ?_
  simp only [E3, seval]
  refine Safe.rg rfl ?_
  simp only [c3g, ri, rj, E3, seval]
  first | refine (hdot).acall ?_ | refine (hdot).dcall ?_ | refine (hdot).dgcall ?_
  try simp only [E3, seval]
  try simp only [E3, seval]
  refine Safe.rg rfl ?_
  simp only [c3f, E3, seval]
  refine Safe.lp rfl ?_
  refine Safe.keep [0, 2, 4, 5, 6, 7, 8, 10, 16, 17] ?_
  simp only [E3, seval]
  refine f0m hm he hn h64 hg hd (Nat.le_of_lt_succ hj) ?_
  have happ := fun env => b8M (env := env) (H := G) (L := [some ⟨2, (vec j fun t => uI b t i t).map ZI.av⟩, some ⟨2, [Z (uI b j i j)]⟩]) 0 (n0 := n0) (Nat.le_trans hG (a1M G 0)) (wd := 2) (bytes := 32) (f := ZI.av) (vec j fun t => uI b t i t) (canZ (uI b j i j)) (vec (j + 1) fun t => uI b t i t) (y := .agg [.bool (decide (uI b j i j < 0)), natV (limbs (uI b j i j).natAbs)]) (len := j) (c := i + 1) (a0e _ _).symm rfl rfl (a4n _ _) (by omega)
  simp only [List.set_cons_zero] at happ
  refine Safe.rg rfl ?_
  simp only [b8b, happ, E3, seval]
  refine Safe.rg rfl ?_
  simp only [b8a, hiw, E3, seval]
  refine Safe.keep [0, 2, 4, 5, 6, 7, 16, 17] ?_
  simp only [E3, seval]
  refine Safe.dropG (L := [some ⟨2, (vec (j + 1) fun t => uI b t i t).map ZI.av⟩]) hGr hG ?_ (fun c hc a ha => a0y (RC.row (f := ZI.av) ZI.cl RC.nil c hc a ha)) ih
  simp only [List.length_cons, List.length_nil, Nat.zero_add, List.all_cons, List.all_nil, a7W, a2T (id := lid G 1) (b := b0) _ _ (Nat.ne_of_lt hlt0), a2T (id := lid G 1) (b := b1) _ _ (Nat.ne_of_lt hlt1), d8L (id := lid G 1) (b := lid G 0) _ _ _ (by unfold lid; omega), a3M, Bool.and_true, Bool.true_and]
 ·refine Safe.inLoop ?_
  have hle : (((i + 1 : Nat) : Int) ≤ (i : Int)) = False := eq_false (by omega)
  refine Safe.rg rfl ?_
  simp only [b1U, hle, E3, seval]
  refine Safe.cd rfl ?_
  simp only [E3, seval]
  refine Safe.keep [0, 2, 4, 5, 6, 16, 17] ?_
  simp only [E3, seval]
  refine Safe.stl 1 _ ?_
  exact k
end
end Go.Abs

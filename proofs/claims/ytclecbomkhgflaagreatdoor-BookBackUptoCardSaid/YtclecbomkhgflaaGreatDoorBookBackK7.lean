/- Part 7 of the proof of BookBack: W10, W11, W15, L1, L2, L3, L4, L5, W18, L7, W19, W20, L16, G1, G2, W24, W26, L8, W28, L9, W30, W31, L10, W38, G3, G4, D7, T1, Shelf, T2, C4, C1, C5, C6, C7. -/
import Derived.Test.YtclecbomkhgflaaGreatDoorBookBackK6
import Derived.Lib.Join
import Derived.Shelf.Strings.OnBuilder
import Derived.Shelf.Strings.BuilderF
import Derived.Shelf.Strings.Search1
import Derived.Shelf.Strings.Count
import Derived.Shelf.Sort.Plain
import Derived.Test.YtclecbomkhgflaaGreatDoorProg
import Derived.WalkKit
import Derived.RowKit
set_option linter.unusedVariables false
set_option linter.unusedSimpArgs false
namespace Go.Abs
theorem b8U (H L M : Heap) : hap (hap H L) M = hap H (L ++ M) := by simp [hap]
theorem d8v (H L : Heap) (i : Nat) : lid (hap H L) i = lid H (L.length + i) := by simp [hap, lid, Nat.add_assoc]
theorem c7f (n : Nat) : limbs (val (limbs n)) = limbs n := by rw [a0q]
theorem e2m {M k n : Nat} (hk : k = (limbs M).length) (hn : k ≤ n) : (fl n (dig M)).take k = limbs M := by
 rw [d2E _ hn, hk]
 have := b8K (a0H M) rfl
 rw [a0q] at this
 exact this.symm
theorem d3X {H : Heap} {i len : Nat} {X : List Nat} (oc : Option Nat) (h : len ≤ X.length) : frz (lid H i) ⟨1, u32s X⟩ (.mu (lid H i) 0 len oc) = natV (X.take len) := by
 simp only [frz, if_true, Nat.zero_add, a0G, h, List.drop_zero, b6t]; rfl
theorem e3c {H : Heap} (hH : a0z H) {n0 : Nat} {env : Env} {L : Heap} {len c : Nat} {X l : List Nat} {o : Option Blk} (hn : n0 ≤ lid H 0) (hlen : len ≤ X.length) (hc : c < len + l.length) (hb : X.length + l.length ≤ 35184372088832) :
  appV n0 1 4 false (.mu (lid H 0) 0 len (some c)) (.sl 1 (u32s l)) env (hap H [some ⟨1, u32s X⟩]) = some (.mu (lid H 0) 0 (len + l.length) none, scrub (lid H 0) env, hap H [some ⟨1, u32s (X.take len ++ l)⟩]) := by
 have hf : free (hap H [some ⟨1, u32s X⟩]) (lid H 0) = true := d4a hH (b4k fun b hb a ha => by
  simp at hb; subst hb; exact a1I X a ha)
 simp only [appV, a2b, Option.bind_some, a0Q, List.getElem?_cons_zero, Option.join_some, a2Q, List.set_cons_zero]
 rw [if_neg (by simp [a0G]; omega), if_pos]
 ·simp only [a0G, b6t, c2B, a1f]
  rw [Option.bind_some, if_neg (by omega)]
 ·simp only [a0G, true_and]
  refine ⟨hlen, hn, hf, ?_, ?_, by omega, by omega⟩
  ·exact List.all_eq_true.2 fun a ha => a0J (b6u ha)
  ·exact List.all_eq_true.2 fun a ha => a0J (b6u ha)
theorem e0N {H L : Heap} {i lo hi len m : Nat} {b : Blk} (hl : L[i]? = some (some b)) {wd : Nat} (hw : b.wd = wd) (oc : Option Nat) (k k' : IntKind) (h1 : hi = lo + m) (h2 : hi ≤ len) :
  slcV (hap H L) wd (.mu (lid H i) 0 len oc) (some (.int k lo)) (some (.int k' hi)) none = some (.mu (lid H i) lo m (oc.map (· - lo))) := by
 subst h1
 simp only [slcV, a0Q, hl, Option.join_some, Option.bind_some, a3T]
 rw [if_pos ⟨hw, by omega, by omega, by omega⟩]
 simp
 omega
theorem d7I {U V i nv : Nat} (hV : V < LB ^ nv) (hV0 : 0 < V) : (∀ j, xr (dig (U % (V * LB ^ (i + 1)))) i (fl (nv + 1) (dig (U % (V * LB ^ (i + 1)) / LB ^ i % V))) j = dig (U % (V * LB ^ i)) j) ∧
  U % (V * LB ^ (i + 1)) / LB ^ i / V = dig (U / V) i ∧ val (fl (nv + 1) fun t => dig (U % (V * LB ^ (i + 1))) (i + t)) = U % (V * LB ^ (i + 1)) / LB ^ i ∧ U % (V * LB ^ (i + 1)) / LB ^ i < LB * V := by
 have hp := a7I i
 have e1 : V * LB ^ (i + 1) = V * LB ^ i * LB := by rw [Nat.pow_succ, Nat.mul_assoc]
 have hR1 : U % (V * LB ^ (i + 1)) < V * LB ^ (i + 1) := Nat.mod_lt _ (Nat.mul_pos hV0 (a7I _))
 have hS : U % (V * LB ^ (i + 1)) / LB ^ i < LB * V := by
  rw [Nat.div_lt_iff_lt_mul hp]
  have : LB * V * LB ^ i = V * LB ^ (i + 1) := by rw [e1]; rw [Nat.mul_comm LB, Nat.mul_right_comm]
  rw [this]; exact hR1
 have hSl : U % (V * LB ^ (i + 1)) / LB ^ i < LB ^ (nv + 1) := by
  have : LB * V ≤ LB ^ (nv + 1) := by rw [Nat.pow_succ']; exact Nat.mul_le_mul_left _ (Nat.le_of_lt hV)
  omega
 have hR : U % (V * LB ^ i) = U % (V * LB ^ (i + 1)) % (V * LB ^ i) := by
  rw [e1, Nat.mod_mul_right_mod]
 have hq : U % (V * LB ^ (i + 1)) / LB ^ i % V = U % (V * LB ^ i) / LB ^ i := by
  rw [hR, Nat.mul_comm V (LB ^ i), Nat.mod_mul_right_div_self]
 refine ⟨fun j => ?_, ?_, ?_, hS⟩
 ·unfold xr
  rw [a1H]
  by_cases h : i ≤ j ∧ j < i + (nv + 1)
  ·rw [if_pos h, c4L (by omega), hq, d9z]
   congr 1; omega
  ·rw [if_neg h]
   rcases Nat.lt_or_ge j i with h1 | h1
   ·have h2 := Nat.mod_add_div (U % (V * LB ^ (i + 1))) (V * LB ^ i)
    rw [← hR] at h2
    have h3 : V * LB ^ i * (U % (V * LB ^ (i + 1)) / (V * LB ^ i)) = LB ^ i * (V * (U % (V * LB ^ (i + 1)) / (V * LB ^ i))) := by rw [Nat.mul_comm V, Nat.mul_assoc]
    rw [h3] at h2
    conv => lhs; rw [← h2]
    exact c4O _ h1
   ·have hj : i + (nv + 1) ≤ j := by omega
    have hpj : LB ^ (nv + (i + 1)) ≤ LB ^ j := Nat.pow_le_pow_right (by decide) (by omega)
    have h3 : V * LB ^ (i + 1) ≤ LB ^ (nv + (i + 1)) := by rw [Nat.pow_add LB nv (i + 1)]; exact Nat.mul_le_mul_right _ (Nat.le_of_lt hV)
    have h4 : U % (V * LB ^ i) ≤ U % (V * LB ^ (i + 1)) := by rw [hR]; exact Nat.mod_le _ _
    rw [b4i (by omega), b4i (by omega)]
 ·rw [Nat.div_div_eq_div_mul, Nat.mul_comm (LB ^ i), e1, Nat.mod_mul_right_div_self]
  unfold dig
  rw [Nat.div_div_eq_div_mul]
 ·have : (fl (nv + 1) fun t => dig (U % (V * LB ^ (i + 1))) (i + t)) = fl (nv + 1) (dig (U % (V * LB ^ (i + 1)) / LB ^ i)) := a4m fun t _ => (d9z _ _ _).symm
  rw [this, a8e hSl]
theorem c8j {l : List Nat} (h : (l.getLast?).getD 1 ≠ 0) (hl : 0 < l.length) : 0 < l.getD (l.length - 1) 0 := by
 rw [List.getLast?_eq_getElem?, List.getElem?_eq_getElem (by omega)] at h
 rw [List.getD_eq_getElem?_getD, List.getElem?_eq_getElem (by omega)]
 simp at h ⊢; omega
theorem d9Y {n : Nat} (h : n < LB) : blen n ≤ 32 := by
 rcases Nat.lt_or_ge 32 (blen n) with hc | hc
 ·exfalso
  have h0 : n ≠ 0 := by rintro rfl; simp [d0S] at hc
  have := c5c h0
  have h2 : 2 ^ 32 ≤ 2 ^ (blen n - 1) := Nat.pow_le_pow_right (by decide) (by omega)
  have : (2 : Nat) ^ 32 = LB := by decide
  omega
 ·exact hc
theorem d3L {l : List Nat} (hl : Lim l) (h0 : 0 < l.length) (ht : 0 < l.getD (l.length - 1) 0) : val l * 2 ^ (32 - blen (l.getD (l.length - 1) 0)) < LB ^ l.length ∧ LB ^ (l.length - 1) ≤ val l := by
 have hd := a2p hl (l.length - 1)
 have hb := d9Y hd
 have hs := b0b l (l.length - 1)
 have hdr : val (l.drop (l.length - 1)) = l.getD (l.length - 1) 0 := by
  rw [a3Z, show l.length - 1 + 1 = l.length by omega, List.drop_length]; simp [val]
 rw [hdr] at hs
 have htk := a5w hl (l.length - 1)
 generalize l.getD (l.length - 1) 0 = d at *
 have hlt := d3c d
 constructor
 ·have h1 : val l < LB ^ (l.length - 1) * 2 ^ blen d := by
   have : LB ^ (l.length - 1) * (d + 1) ≤ LB ^ (l.length - 1) * 2 ^ blen d := Nat.mul_le_mul_left _ hlt
   rw [Nat.mul_add] at this
   omega
  have h2 : LB ^ (l.length - 1) * 2 ^ blen d * 2 ^ (32 - blen d) = LB ^ l.length := by
   rw [Nat.mul_assoc, ← Nat.pow_add, show blen d + (32 - blen d) = 32 by omega, show (2 : Nat) ^ 32 = LB by decide, ← Nat.pow_succ]
   congr 1; omega
  rw [← h2]
  exact Nat.mul_lt_mul_of_pos_right h1 (Nat.pow_pos (by decide))
 ·have : LB ^ (l.length - 1) * 1 ≤ LB ^ (l.length - 1) * d := Nat.mul_le_mul_left _ ht
  omega
theorem e1H (r : Nat) : AV.sl 1 [.int .u32 (r : Int)] = natV [r] := rfl
theorem d8u {r : Nat} : val [r] = r := by simp [val]
theorem b5l (a b : List Nat) (ha : Nt a) (hb : Nt b) (hal : a.length < 17592186044000) (hbl : b.length < 17592186044000) (hb0 : val b ≠ 0) : a0f Pr c5k [natV a, natV b] (.tup [natV (limbs (val a / val b)), natV (limbs (val a % val b)), .int .i64 0]) := by
 have hLB : LB = 4294967296 := rfl
 have hna := ha.limbs
 have hnb := hb.limbs
 have hlal : (limbs (val a)).length < 17592186044000 := Nat.lt_of_le_of_lt (a3g ha.lim) hal
 have hlbl : (limbs (val b)).length < 17592186044000 := Nat.lt_of_le_of_lt (a3g hb.lim) hbl
 have hva := a0q (val a)
 have hvb := a0q (val b)
 have hlasta := b4f (val a)
 have hlastb := b4f (val b)
 have hia := c7f (val a)
 have hib := c7f (val b)
 refine a0f.introL d5O d5M (Nat.le_of_ble_eq_true rfl) (b5Q (a2R _) (a2R _) (.int _ _)) fun H hH => ?_
 refine Safe.rg rfl ?_
 simp only [c6B, E3, seval]
 refine Safe.rg rfl ?_
 simp only [c6A, E3, seval]
 first | refine (a0o a ha.lim ha.len).acall ?_ | refine (a0o a ha.lim ha.len).dcall ?_ | refine (a0o a ha.lim ha.len).dgcall ?_
 try simp only [E3, seval]
 first | refine (a0o b hb.lim hb.len).acall ?_ | refine (a0o b hb.lim hb.len).dcall ?_ | refine (a0o b hb.lim hb.len).dgcall ?_
 try simp only [E3, seval]
 generalize limbs (val a) = la at *
 generalize limbs (val b) = lb at *
 generalize val a = A at *
 generalize val b = B at *
 subst hva
 subst hvb
 have hb1 : 0 < lb.length := by
  rcases Nat.eq_zero_or_pos lb.length with h | h
  ·exfalso; have := List.length_eq_zero_iff.1 h; subst this; exact hb0 rfl
  ·exact h
 have hB : 0 < val lb := Nat.pos_of_ne_zero hb0
 refine Safe.rg rfl ?_
 simp only [c6z, show (((lb.length : Nat) : Int) = 0) = False from eq_false (by omega), E3, seval]
 refine Safe.cd rfl ?_
 simp only [E3, seval]
 refine Safe.rg rfl ?_
 simp only [c6y, E3, seval]
 refine (b5m la lb hna hnb).acall ?_
 by_cases hab : val la < val lb
 ·have hcm : (cmpI (val la) (val lb) < 0) = True := by rw [d2T]; exact eq_true hab
  simp only [hcm, E3, seval]
  refine Safe.cd rfl ?_
  simp only [E3, seval]
  refine Safe.rg rfl ?_
  simp only [c6x, E3, seval]
  first | refine (b6O la hna).acall ?_ | refine (b6O la hna).dcall ?_ | refine (b6O la hna).dgcall ?_
  try simp only [E3, seval]
  refine Safe.rt rfl ?_
  simp only [E3, seval]
  rw [Nat.div_eq_of_lt hab, Nat.mod_eq_of_lt hab, a0R]
  exact ⟨Le.tup3 (Le.nil 1 (by decide)) (Le.refl _) (Le.refl _), _, rfl⟩
 have hcm : (cmpI (val la) (val lb) < 0) = False := by rw [d2T]; exact eq_false hab
 simp only [hcm, E3, seval]
 refine Safe.cd rfl ?_
 simp only [E3, seval]
 have htb := c8j hlastb hb1
 have hdl := a2p hnb.lim (lb.length - 1)
 by_cases hone : lb.length = 1
 ·have h1 : (((lb.length : Nat) : Int) = 1) = True := eq_true (by omega)
  refine Safe.rg rfl ?_
  simp only [b8v, h1, E3, seval]
  refine Safe.cd rfl ?_
  simp only [E3, seval]
  have hvb1 : val lb = lb.getD 0 0 := by
   have := a3Z lb 0
   rw [List.drop_zero, List.drop_eq_nil_of_le (by omega)] at this
   simpa [val] using this
  have i0 := a0T (hap H []) lb .i64 0 hb1
  rw [Int.natCast_zero] at i0
  have hd0 : 0 < lb.getD 0 0 := by rw [← hvb1]; exact hB
  have hd1 : lb.getD 0 0 < LB := a2p hnb.lim 0
  refine Safe.rg rfl ?_
  simp only [c6w, i0, E3, seval]
  first | refine (b5f la (lb.getD 0 0) hna hd0 hd1).acall ?_ | refine (b5f la (lb.getD 0 0) hna hd0 hd1).dcall ?_ | refine (b5f la (lb.getD 0 0) hna hd0 hd1).dgcall ?_
  try simp only [E3, seval]
  have hrl : val la % lb.getD 0 0 < LB := Nat.lt_trans (Nat.mod_lt _ hd0) hd1
  refine Safe.rg rfl ?_
  simp only [c6v, e1H, E3, seval]
  first | refine (a0o [val la % lb.getD 0 0] (by intro d hd; simp at hd; subst hd; exact hrl) (by simp)).acall ?_ | refine (a0o [val la % lb.getD 0 0] (by intro d hd; simp at hd; subst hd; exact hrl) (by simp)).dcall ?_ | refine (a0o [val la % lb.getD 0 0] (by intro d hd; simp at hd; subst hd; exact hrl) (by simp)).dgcall ?_
  try simp only [E3, seval]
  refine Safe.rt rfl ?_
  simp only [E3, seval]
  rw [hvb1, d8u]
  exact ⟨Le.refl _, _, rfl⟩
 have h1 : (((lb.length : Nat) : Int) = 1) = False := eq_false (by omega)
 refine Safe.rg rfl ?_
 simp only [b8v, h1, E3, seval]
 refine Safe.cd rfl ?_
 simp only [E3, seval]
 have w0 : IntKind.wrap .i64 (((lb.length : Nat) : Int) - 1) = ((lb.length - 1 : Nat) : Int) := by rw [a0e] <;> omega
 refine Safe.rg rfl ?_
 simp only [c6u, w0, a0T _ lb _ (lb.length - 1) (by omega), E3, seval]
 first | refine (c8D _ hdl).acall ?_ | refine (c8D _ hdl).dcall ?_ | refine (c8D _ hdl).dgcall ?_
 try simp only [E3, seval]
 obtain ⟨hVl, hBl⟩ := d3L hnb.lim hb1 htb
 have hn32 : 32 - blen (lb.getD (lb.length - 1) 0) < 32 := by
  have : 0 < blen (lb.getD (lb.length - 1) 0) := by unfold blen; rw [if_neg (by omega)]; omega
  omega
 generalize hn : 32 - blen (lb.getD (lb.length - 1) 0) = n at *
 have hp2 : 0 < 2 ^ n := Nat.pow_pos (by decide)
 -- the divisor
 refine Safe.rg rfl ?_
 simp only [c3J, E3, seval]
 refine a0h.mono (c9r lb n hnb (by omega) hb0 hn32 (hap H [])) ?_
 rintro r' H' ⟨rfl, rfl⟩
 simp only [b8U, d8v, List.nil_append, List.length_nil, hib, E3, seval]
 have hVp : 0 < val lb * 2 ^ n := Nat.mul_pos hB hp2
 have hnv1 : (limbs (val lb * 2 ^ n)).length ≤ lb.length := a0M hVl
 have hnv2 : lb.length ≤ (limbs (val lb * 2 ^ n)).length := by
  rcases Nat.lt_or_ge (limbs (val lb * 2 ^ n)).length lb.length with h | h
  ·exfalso
   have h2 := a1Z (a0H (val lb * 2 ^ n))
   rw [a0q] at h2
   have h3 : LB ^ (limbs (val lb * 2 ^ n)).length ≤ LB ^ (lb.length - 1) := Nat.pow_le_pow_right (by decide) (by omega)
   have h4 : val lb * 1 ≤ val lb * 2 ^ n := Nat.mul_le_mul_left _ hp2
   omega
  ·exact h
 have hnv : (limbs (val lb * 2 ^ n)).length = lb.length := by omega
 refine Safe.freeze 0 hH rfl rfl (a1I _) ?_
 refine Safe.keep [0, 1, 9, 10] ?_
 simp only [d3X (H := H) (i := 0) _ (show (limbs (val lb * 2 ^ n)).length ≤ (fl (lb.length + 1) (dig (val lb * 2 ^ n))).length by rw [a1H]; omega), e2m (M := val lb * 2 ^ n) rfl (show (limbs (val lb * 2 ^ n)).length ≤ lb.length + 1 by omega), E3, seval]
 refine Safe.drop0 hH rfl (by simp only [List.all_cons, List.all_nil, E3, seval]) (by repeat (first | exact RC.nil | refine RC.none ?_ | refine RC.mo ?_ | refine RC.io ?_ | refine RC.row ZI.cl ?_ | refine RC.cons (a1I _) ?_ | refine RC.row a0x ?_ | refine RC.emp ?_ | refine RC.zero ?_ | refine RC.one (Z_cl _) ?_ | refine RC.one (ZI.cl _) ?_ | refine RC.one (a0x _) ?_)) ?_
 -- the dividend
 have hA0 : val la ≠ 0 := by omega
 have hla1 : 0 < la.length := by
  rcases Nat.eq_zero_or_pos la.length with h | h
  ·exfalso; have := List.length_eq_zero_iff.1 h; subst this; exact hA0 rfl
  ·exact h
 have hU1 : la.length ≤ (limbs (val la * 2 ^ n)).length := by
  rcases Nat.lt_or_ge (limbs (val la * 2 ^ n)).length la.length with h | h
  ·exfalso
   have h2 := a1Z (a0H (val la * 2 ^ n))
   rw [a0q] at h2
   have h3 : LB ^ (limbs (val la * 2 ^ n)).length ≤ LB ^ (la.length - 1) := Nat.pow_le_pow_right (by decide) (by omega)
   have h4 : val la * 1 ≤ val la * 2 ^ n := Nat.mul_le_mul_left _ hp2
   have h5 := (d3L hna.lim hla1 (c8j hlasta hla1)).2
   omega
  ·exact h
 have hU2 : val la * 2 ^ n < LB ^ (la.length + 1) := by
  rw [Nat.pow_succ]
  have h2n : 2 ^ n ≤ LB := by
   have : LB = 2 ^ (32 - n) * 2 ^ n := by rw [← Nat.pow_add, show 32 - n + n = 32 by omega]
   rw [this]; exact Nat.le_mul_of_pos_left _ (Nat.pow_pos (by decide))
  exact Nat.lt_of_lt_of_le (Nat.mul_lt_mul_of_pos_right (a1Z hna.lim) hp2) (Nat.mul_le_mul_left _ h2n)
 have hU3 : (limbs (val la * 2 ^ n)).length ≤ la.length + 1 := a0M hU2
 refine Safe.rg rfl ?_
 simp only [c3I, E3, seval]
 refine a0h.mono (c9r la n hna (by omega) hA0 hn32 (hap H [])) ?_
 rintro r' H' ⟨rfl, rfl⟩
 generalize hK : (limbs (val la * 2 ^ n)).length = K at *
 have hrow : (fl (la.length + 1) (dig (val la * 2 ^ n))).take K ++ [0, 0] = fl (K + 2) (dig (val la * 2 ^ n)) := by
  have hh : val la * 2 ^ n < LB ^ K := by have := a1Z (a0H (val la * 2 ^ n)); rwa [a0q, hK] at this
  have hh2 : val la * 2 ^ n < LB ^ (K + 1) := Nat.lt_of_lt_of_le hh (Nat.pow_le_pow_right (by decide) (by omega))
  rw [d2E _ hU3, d2F, d2F, b4i hh, b4i hh2, List.append_assoc]; rfl
 have happ := fun (env : Env) => e3c (H := H) hH (n0 := H.length) (env := env) (L := []) (len := K) (c := la.length + 1) (X := fl (la.length + 1) (dig (val la * 2 ^ n))) (l := [0, 0]) (o := none) (a5g H 0) (by rw [a1H]; exact hU3) (by simp; omega) (by rw [a1H]; simp; omega)
 have w2 : IntKind.wrap .i64 ((la.length : Int) + 1) = ((la.length + 1 : Nat) : Int) := by rw [a0e] <;> omega
 have hslc : slcV (hap H [some ⟨1, u32s (fl (K + 2) (dig (val la * 2 ^ n)))⟩]) 1 (.mu (lid H 0) 0 (K + 2) none) none (some (.int .i64 ((la.length + 1 : Nat) : Int))) none = some (.mu (lid H 0) 0 (la.length + 1) none) := by
  simp only [slcV, a0Q, List.getElem?_cons_zero, Option.join_some, Option.bind_some, a3T]
  rw [if_pos ⟨trivial, by omega, by omega, by omega⟩]
  simp
 simp only [c9k, e0F, Int.natCast_zero, List.length_cons, List.length_nil, hrow] at happ
 simp only [b8U, d8v, List.nil_append, List.length_nil, hia, E3, seval]
 simp only [happ, w2, hslc, E3, seval]
 have hle : lb.length ≤ la.length := by
  rcases Nat.lt_or_ge la.length lb.length with h | h
  ·exfalso
   have h2 := a1Z hna.lim
   have h3 : LB ^ la.length ≤ LB ^ (lb.length - 1) := Nat.pow_le_pow_right (by decide) (by omega)
   omega
  ·exact h
 have w3 : IntKind.wrap .i64 ((la.length : Int) - (lb.length : Int)) = ((la.length - lb.length : Nat) : Int) := by rw [a0e] <;> omega
 generalize hm : la.length - lb.length = m at *
 have w4 : IntKind.wrap .i64 ((m : Int) + 1) = ((m + 1 : Nat) : Int) := by rw [a0e] <;> omega
 refine Safe.rg rfl ?_
 simp only [c3H, w3, w4, c7Y (H := H) (L := [some ⟨1, u32s (fl (K + 2) (dig (val la * 2 ^ n)))⟩]) (n := m + 1) (by omega), E3, seval]
 refine Safe.rg rfl ?_
 simp only [c3G, w3, E3, seval]
 have hUV : val la * 2 ^ n < val lb * 2 ^ n * LB ^ (m + 1) := by
  rw [Nat.mul_right_comm]
  refine Nat.mul_lt_mul_of_pos_right ?_ hp2
  have h1 := a1Z hna.lim
  have h2 : LB ^ (lb.length - 1) * LB ^ (m + 1) ≤ val lb * LB ^ (m + 1) := Nat.mul_le_mul_right _ hBl
  rw [← Nat.pow_add, show lb.length - 1 + (m + 1) = la.length by omega] at h2
  omega
 generalize hU : val la * 2 ^ n = U at *
 generalize hV : val lb * 2 ^ n = V at *
 have hvt : 0 < (limbs V).getD (lb.length - 1) 0 := by
  have := c8j (b4f V) (by omega)
  rwa [hnv] at this
 refine Safe.lp rfl ?_
 refine Safe.keep [0, 1, 9, 10, 11, 12, 13] ?_
 simp only [E3, seval]
 refine Safe.loopD (m + 1) (fun i => [(0, natV la), (1, natV lb), (9, .int .i64 n), (10, natV (limbs V)), (11, .mu (lid H 0) 0 (la.length + 1) none), (12, .mu (lid H 1) 0 (m + 1) (some (m + 1))), (13, .int .i64 ((i : Int) - 1))])
  (fun i => hap H [some ⟨1, u32s (fl (K + 2) (dig (U % (V * LB ^ i))))⟩, some ⟨1, u32s (fl (m + 1) fun j => if i ≤ j then dig (U / V) j else 0)⟩]) ?_ ?_ (fun i hi ih => ?_) ?_
 ·have : (((m + 1 : Nat) : Int) - 1) = (m : Int) := by omega
  rw [this]
 ·rw [d0I, Nat.mod_eq_of_lt hUV]
 ·have e1 : ((i + 1 : Nat) : Int) - 1 = (i : Int) := by omega
  rw [e1]
  obtain ⟨s1, s2, s3, s4⟩ := d7I (U := U) (V := V) (i := i) (nv := lb.length) hVl hVp
  refine Safe.inLoop ?_
  refine Safe.rg rfl ?_
  simp only [b5B, Int.natCast_nonneg i, E3, seval]
  refine Safe.cd rfl ?_
  simp only [E3, seval]
  have w5 : IntKind.wrap .i64 ((i : Int) + (lb.length : Int)) = ((i + lb.length : Nat) : Int) := by rw [a0e] <;> omega
  have w6 : IntKind.wrap .i64 (((i + lb.length : Nat) : Int) + 1) = ((i + lb.length + 1 : Nat) : Int) := by rw [a0e] <;> omega
  refine Safe.rg rfl ?_
  simp only [c3F, hnv, w5, w6, e0N (H := H) (i := 0) (L := [some ⟨1, u32s (fl (K + 2) (dig (U % (V * LB ^ (i + 1)))))⟩, some ⟨1, u32s (fl (m + 1) fun j => if i + 1 ≤ j then dig (U / V) j else 0)⟩]) rfl rfl none .i64 .i64 (show i + lb.length + 1 = i + (lb.length + 1) by omega) (show i + lb.length + 1 ≤ la.length + 1 by omega), E3, seval]
  have hcall := d2L (H := hap H [some ⟨1, u32s (fl (K + 2) (dig (U % (V * LB ^ (i + 1)))))⟩, some ⟨1, u32s (fl (m + 1) fun j => if i + 1 ≤ j then dig (U / V) j else 0)⟩]) (id := lid H 0) (off := i) (N := K + 2) (n := lb.length) (oc := none) (v := limbs V) (f := dig (U % (V * LB ^ (i + 1))))
   (d8S rfl) (a0H V) hnv hb1 hvt (by omega) (by omega) (fun j _ => d4f _ _) s3 (by rw [a0q]; exact s4)
  refine a0h.mono hcall ?_
  rintro r' H' ⟨rfl, rfl⟩
  rw [a0q, s2, a4m fun j _ => s1 j]
  simp only [a2Q, List.set_cons_zero, e8s (show i < m + 1 by omega), fst1 (show i < m + 1 by omega), d0J, E3, seval]
  refine Safe.inBlock ?_
  refine Safe.rg rfl ?_
  simp only [c3E, a0e (n := (i : Int) - 1) (by omega) (by omega), E3, seval]
  refine Safe.keep [0, 1, 9, 10, 11, 12, 13] ?_
  simp only [E3, seval]
  exact ih
 ·refine Safe.inLoop ?_
  refine Safe.rg rfl ?_
  simp only [b5B, show (0 ≤ ((0 : Nat) : Int) - 1) = False by simp, E3, seval]
  refine Safe.cd rfl ?_
  simp only [E3, seval]
  have hR0 : U % (V * LB ^ 0) = U % V := by rw [Nat.pow_zero, Nat.mul_one]
  rw [hR0]
  refine Safe.freeze 0 hH rfl rfl (a1I _) ?_
  refine Safe.keep [9, 11, 12] ?_
  simp only [d3X (H := H) (i := 0) none (show la.length + 1 ≤ (fl (K + 2) (dig (U % V))).length by rw [a1H]; omega), d0y, E3, seval]
  refine Safe.freeze 1 hH rfl rfl (a1I _) ?_
  refine Safe.keep [9, 11, 12] ?_
  simp only [d9g, E3, seval]
  rw [d4e, d2E _ (show la.length + 1 ≤ K + 2 by omega)]
  have hUm : U % V < LB ^ (la.length + 1) := Nat.lt_of_le_of_lt (Nat.mod_le _ _) hU2
  have hUd : U / V < LB ^ (m + 1) := by rw [Nat.div_lt_iff_lt_mul hVp, Nat.mul_comm]; exact hUV
  refine Safe.rg rfl ?_
  simp only [c3D, E3, seval]
  first | refine (a0o _ (a5P (U / V) (m + 1)) (by rw [a1H]; omega)).acall ?_ | refine (a0o _ (a5P (U / V) (m + 1)) (by rw [a1H]; omega)).dcall ?_ | refine (a0o _ (a5P (U / V) (m + 1)) (by rw [a1H]; omega)).dgcall ?_
  try simp only [E3, seval]
  first | refine (a0o _ (a5P (U % V) (la.length + 1)) (by rw [a1H]; omega)).acall ?_ | refine (a0o _ (a5P (U % V) (la.length + 1)) (by rw [a1H]; omega)).dcall ?_ | refine (a0o _ (a5P (U % V) (la.length + 1)) (by rw [a1H]; omega)).dgcall ?_
  try simp only [E3, seval]
  rw [a8e hUm, a8e hUd]
  first | refine (c7K (limbs (U % V)) n ⟨a0H _, Nat.le_trans (a0M hUm) (by omega)⟩ hn32).acall ?_ | refine (c7K (limbs (U % V)) n ⟨a0H _, Nat.le_trans (a0M hUm) (by omega)⟩ hn32).dcall ?_ | refine (c7K (limbs (U % V)) n ⟨a0H _, Nat.le_trans (a0M hUm) (by omega)⟩ hn32).dgcall ?_
  try simp only [E3, seval]
  refine Safe.rt rfl ?_
  simp only [E3, seval]
  rw [a0q, ← hU, ← hV, Nat.mul_mod_mul_right, Nat.mul_div_cancel _ hp2, Nat.mul_div_mul_right _ _ hp2]
  exact ⟨Le.refl _, _, rfl⟩
end Go.Abs
namespace Go.Abs
theorem e4m {n m : Bool} {A B : Nat} {q : Int} (hB : B ≠ 0) (h : sgn n A = sgn m B * q) : A % B = 0 ∧ sgn (!(n == m)) (A / B) = q := by
 have hA : A = B * q.natAbs := by
  have := congrArg Int.natAbs h
  rwa [b5g, Int.natAbs_mul, b5g] at this
 refine ⟨by rw [hA]; exact Nat.mul_mod_right _ _, ?_⟩
 have hne : sgn m B ≠ 0 := by cases m <;> simp [sgn] <;> omega
 refine Int.eq_of_mul_eq_mul_left hne ?_
 rw [← h, d7y]
 have hC : B * (A / B) = A := by rw [hA, Nat.mul_div_cancel_left _ (Nat.pos_of_ne_zero hB)]
 rw [hC]
 cases n <;> cases m <;> rfl
theorem c9d (x y : ZI) (k : Nat) (hx : Zok k x) (hy : Zok k y) (hk : k < 17592186044000) (q : Int) (hy0 : y.z ≠ 0) (hq : x.z = y.z * q) : a0f Pr a9Q [x.av, y.av] (.tup [Z q, Z 0, .int .i64 0]) := by
 obtain ⟨n, a⟩ := x
 obtain ⟨m, b⟩ := y
 have hal := hx.len
 have hbl := hy.len
 simp only at hal hbl
 have ha : Nt a := ⟨hx.lim, by omega⟩
 have hb : Nt b := ⟨hy.lim, by omega⟩
 simp only [ZI.av, ZI.z] at *
 have hb0 : val b ≠ 0 := by
  intro h; rw [h, c1E] at hy0; exact hy0 rfl
 obtain ⟨hr, hqq⟩ := e4m hb0 hq
 have hnt : ∀ v, v ≤ val a → Nt (limbs v) := fun v hv => ⟨a0H _, Nat.le_trans (a0M (Nat.lt_of_le_of_lt hv (a1Z ha.lim))) ha.len⟩
 refine a0f.intro c7x c7w (Nat.le_of_ble_eq_true rfl) (b5Q (Z_cl _) (Z_cl _) (.int _ _)) fun H hH => ?_
 refine Safe.rg rfl ?_
 simp only [b6m, E3, seval]
 refine Safe.rg rfl ?_
 simp only [b6l, E3, seval]
 first | refine (b5l a b ha hb (by omega) (by omega) hb0).acall ?_ | refine (b5l a b ha hb (by omega) (by omega) hb0).dcall ?_ | refine (b5l a b ha hb (by omega) (by omega) hb0).dgcall ?_
 try simp only [E3, seval]
 refine Safe.rg rfl ?_
 simp only [b6k, E3, seval]
 refine Safe.cd rfl ?_
 simp only [E3, seval]
 refine Safe.rx rfl (by simp only [c9v, d3D, d0d, E3, seval]) ?_
 simp only [b6j, b4D, b4C, E3, seval]
 refine (a3C (!(n == m)) _ (hnt _ (Nat.div_le_self _ _))).dcall ?_
 rw [a0q, hqq]
 simp only [E3, seval]
 refine (a3C n _ (hnt _ (Nat.mod_le _ _))).dcall ?_
 rw [a0q, hr, c1E]
 simp only [E3, seval]
 refine ⟨?_, ?_⟩
 all_goals
  refine Safe.rg rfl ?_
  simp only [b6i, E3, seval]
  refine (b7S (canZ 0) (a3m (k := 1) (by decide) |>.mono (by omega))).dcall ?_
  rw [a5h]
  simp only [Int.sign_zero, E3, seval]
  refine Safe.cd rfl ?_
  simp only [E3, seval]
  refine Safe.rx rfl (by simp only [c9v, d3D, d0d, E3, seval]) ?_
  simp only [b6h, b4B, b4A, E3, seval]
  refine Safe.rt rfl ?_
  simp only [E3, seval]
  exact ⟨rfl, _, rfl⟩
end Go.Abs
namespace Go.Abs
structure Rok (k : Nat) (q : Rat) : Prop where
 num : q.num.natAbs < LB ^ k
 den : q.den < LB ^ k
theorem Rok.mono {k l : Nat} {q : Rat} (h : Rok k q) (hl : k ≤ l) : Rok l q := ⟨Nat.lt_of_lt_of_le h.num (b1u hl), Nat.lt_of_lt_of_le h.den (b1u hl)⟩
end Go.Abs
namespace Go.Abs
def sumR (f : Nat → Rat) : Nat → Rat
 | 0 => 0
 | n + 1 => sumR f n + f n
theorem b7Z {f g : Nat → Rat} : ∀ {n : Nat}, (∀ i, i < n → f i = g i) → sumR f n = sumR g n
 | 0, _ => rfl
 | n + 1, h => by rw [sumR, sumR, b7Z fun i hi => h i (by omega), h n (by omega)]
theorem d3u (x y : Rat) (f g : Nat → Rat) : ∀ n, sumR (fun i => x * f i + y * g i) n = x * sumR f n + y * sumR g n
 | 0 => by simp only [sumR]; grind
 | n + 1 => by simp only [sumR, d3u x y f g n]; grind
theorem c9m {f : Nat → Rat} : ∀ {n : Nat}, (∀ i, i < n → f i = 0) → sumR f n = 0
 | 0, _ => rfl
 | n + 1, h => by rw [sumR, c9m fun i hi => h i (by omega), h n (by omega)]; grind
theorem c1B {f : Nat → Rat} {t : Nat} : ∀ {n : Nat}, t < n → (∀ i, i < n → i ≠ t → f i = 0) → sumR f n = f t
 | 0, h, _ => absurd h (by omega)
 | n + 1, h, h0 => by
  rw [sumR]
  by_cases e : t = n
  ·subst e
   rw [c9m fun i hi => h0 i (by omega) (by omega)]; grind
  ·rw [c1B (by omega) fun i hi he => h0 i (by omega) he, h0 n (by omega) (by omega)]; grind
theorem d3t {f : Nat → Rat} {t : Nat} : ∀ {n : Nat}, t + 1 < n → (∀ i, i < n → i ≠ t → i ≠ t + 1 → f i = 0) → sumR f n = f t + f (t + 1)
 | 0, h, _ => absurd h (by omega)
 | n + 1, h, h0 => by
  rw [sumR]
  by_cases e : t + 1 = n
  ·subst e
   rw [c1B (t := t) (by omega) fun i hi he => h0 i (by omega) he (by omega)]
  ·rw [d3t (t := t) (by omega) fun i hi h1 h2 => h0 i (by omega) h1 h2, h0 n (by omega) (by omega) (by omega)]; grind
def sg : Nat → Rat
 | 0 => 1
 | n + 1 => -sg n
def skip (i k : Nat) : Nat := if k < i then k else k + 1
def det : Nat → (Nat → Nat → Rat) → Rat
 | 0, _ => 1
 | n + 1, M => sumR (fun i => sg i * M i 0 * det n fun r c => M (skip i r) (c + 1)) (n + 1)
theorem e4h (i k : Nat) : skip i k ≠ i := by unfold skip; split <;> omega
theorem d7r {i k n : Nat} (hk : k < n) : skip i k < n + 1 := by unfold skip; split <;> omega
theorem b3M : ∀ {n : Nat} {M N : Nat → Nat → Rat}, (∀ r c, r < n → c < n → M r c = N r c) → det n M = det n N
 | 0, _, _, _ => rfl
 | n + 1, M, N, h => by
  unfold det
  refine b7Z fun i hi => ?_
  rw [h i 0 hi (by omega), b3M (n := n) fun r c hr hc => h (skip i r) (c + 1) (d7r hr) (by omega)]
def a0y (M : Nat → Nat → Rat) (t : Nat) (u : Nat → Rat) : Nat → Nat → Rat := fun r c => if r = t then u c else M r c
theorem a5J (M : Nat → Nat → Rat) (t : Nat) : a0y M t (M t) = M := by
 funext r c; unfold a0y; split
 ·rename_i h; rw [h]
 ·rfl
def e0C (i t : Nat) : Nat := if t < i then t else t - 1
theorem d5d {i t r : Nat} (h : i ≠ t) : (skip i r = t) = (r = e0C i t) := by
 rw [eq_iff_iff]; unfold skip e0C
 split <;> split <;> omega
theorem b2L {M : Nat → Nat → Rat} {t i : Nat} {u : Nat → Rat} (h : i ≠ t) : (fun r c => a0y M t u (skip i r) (c + 1)) = a0y (fun r c => M (skip i r) (c + 1)) (e0C i t) fun c => u (c + 1) := by
 funext r c
 unfold a0y
 simp only [d5d h]
theorem a5K {M : Nat → Nat → Rat} {t : Nat} {u : Nat → Rat} : (fun r c => a0y M t u (skip t r) (c + 1)) = fun r c => M (skip t r) (c + 1) := by
 funext r c
 unfold a0y
 rw [if_neg (e4h t r)]
theorem d2O : ∀ {n : Nat} {M : Nat → Nat → Rat} {t : Nat} (x y : Rat) (u w : Nat → Rat), t < n → det n (a0y M t fun c => x * u c + y * w c) = x * det n (a0y M t u) + y * det n (a0y M t w)
 | 0, _, _, _, _, _, _, h => absurd h (by omega)
 | n + 1, M, t, x, y, u, w, h => by
  unfold det
  rw [← d3u]
  refine b7Z fun i hi => ?_
  by_cases e : i = t
  ·subst e
   rw [a5K, a5K, a5K]
   simp only [a0y, if_true]
   grind
  ·rw [b2L e, b2L e, b2L e, d2O x y _ _ (by unfold e0C; split <;> omega)]
   simp only [a0y, if_neg e]
   grind
theorem d2P : ∀ {n : Nat} {M : Nat → Nat → Rat} {t : Nat}, t + 1 < n → (∀ c, M t c = M (t + 1) c) → det n M = 0
 | 0, _, _, h, _ => absurd h (by omega)
 | n + 1, M, t, h, he => by
  unfold det
  have hm : (fun r c => M (skip t r) (c + 1)) = fun r c => M (skip (t + 1) r) (c + 1) := by
   funext r c
   unfold skip
   by_cases h1 : r < t
   ·rw [if_pos h1, if_pos (by omega)]
   ·rw [if_neg h1]
    by_cases h2 : r = t
    ·rw [if_pos (by omega), h2, he]
    ·rw [if_neg (by omega)]
  rw [d3t (t := t) h fun i hi h1 h2 => by
   have hz : det n (fun r c => M (skip i r) (c + 1)) = 0 := by
    refine d2P (t := if i < t then t - 1 else t) (by split <;> omega) fun c => ?_
    unfold skip
    by_cases h3 : i < t
    ·rw [if_pos h3, if_neg (by omega), if_neg (by omega)]
     rw [show t - 1 + 1 = t by omega]
     exact he _
    ·rw [if_neg h3, if_pos (by omega), if_pos (by omega)]
     exact he _
   rw [hz]; grind]
  rw [hm, he 0]
  simp only [sg]
  grind
def b7Y (s t : Nat) (M : Nat → Nat → Rat) : Nat → Nat → Rat := fun r c => if r = s then M t c else if r = t then M s c else M r c
theorem a1u {M : Nat → Nat → Rat} {s t : Nat} {u w : Nat → Rat} (h : s ≠ t) : a0y (a0y M s u) t w = a0y (a0y M t w) s u := by
 funext r c; unfold a0y
 by_cases h1 : r = t
 ·by_cases h2 : r = s
  ·omega
  ·simp [h1]; intro e; omega
 ·by_cases h2 : r = s
  ·simp [h2]; intro e; omega
  ·simp [h1, h2]
theorem d2Q {n : Nat} {M : Nat → Nat → Rat} {t : Nat} (u w : Nat → Rat) (h : t < n) : det n (a0y M t fun c => u c + w c) = det n (a0y M t u) + det n (a0y M t w) := by
 have := d2O (M := M) 1 1 u w h
 have e : (fun c => (1 : Rat) * u c + 1 * w c) = fun c => u c + w c := by funext c; grind
 rw [e] at this
 grind
theorem d2M {n : Nat} {M : Nat → Nat → Rat} {s t : Nat} (hst : s ≠ t) (hs : s < n) (ht : t < n) (heq : ∀ N : Nat → Nat → Rat, (∀ c, N s c = N t c) → det n N = 0) : det n (b7Y s t M) = -det n M := by
 let u := M s
 let w := M t
 have A : ∀ p q : Nat → Rat, (∀ c, p c = q c) → det n (a0y (a0y M s p) t q) = 0 := fun p q h => heq _ fun c => by
  unfold a0y
  simp [hst, h c]
 have h0 := A (fun c => u c + w c) (fun c => u c + w c) fun _ => rfl
 rw [d2Q _ _ ht, a1u hst, a1u hst, d2Q _ _ hs, d2Q _ _ hs, ← a1u hst, ← a1u hst, ← a1u hst, ← a1u hst, A u u fun _ => rfl, A w w fun _ => rfl] at h0
 have e1 : a0y (a0y M s u) t w = M := by
  show a0y (a0y M s (M s)) t (M t) = M
  rw [a5J]; exact a5J M t
 have e2 : a0y (a0y M s w) t u = b7Y s t M := by
  funext r c; unfold a0y b7Y
  by_cases h1 : r = s
  ·subst h1; simp [hst]; rfl
  ·by_cases h2 : r = t
   ·subst h2; simp [h1]; rfl
   ·simp [h1, h2]
 rw [e1, e2] at h0
 grind
theorem d0K {n : Nat} {M : Nat → Nat → Rat} {t : Nat} (h : t + 1 < n) : det n (b7Y t (t + 1) M) = -det n M :=
 d2M (by omega) (by omega) h fun N he => d2P h he
theorem d9D : ∀ (d : Nat) {n : Nat} {M : Nat → Nat → Rat} {s : Nat}, s + d + 1 < n → (∀ c, M s c = M (s + d + 1) c) → det n M = 0
 | 0, n, M, s, h, he => d2P (t := s) h he
 | d + 1, n, M, s, h, he => by
  have hsw := d0K (M := M) (t := s + d + 1) (n := n) (by omega)
  have : det n (b7Y (s + d + 1) (s + d + 1 + 1) M) = 0 := d9D d (s := s) (by omega) fun c => by
   unfold b7Y
   rw [if_neg (by omega), if_neg (by omega), if_pos rfl, he c]
   rfl
  rw [this] at hsw
  grind
theorem d9C {n : Nat} {M : Nat → Nat → Rat} {s t : Nat} (hst : s ≠ t) (hs : s < n) (ht : t < n) (he : ∀ c, M s c = M t c) : det n M = 0 := by
 rcases Nat.lt_or_gt_of_ne hst with h | h
 ·exact d9D (t - s - 1) (s := s) (by omega) fun c => by rw [he c]; congr 1; omega
 ·exact d9D (s - t - 1) (s := t) (by omega) fun c => by rw [← he c]; congr 1; omega
theorem d6v {n : Nat} {M : Nat → Nat → Rat} {s t : Nat} (x : Rat) (hst : s ≠ t) (hs : s < n) (ht : t < n) : det n (a0y M t fun c => M t c + x * M s c) = det n M := by
 have h := d2O (M := M) 1 x (M t) (M s) ht
 have e : (fun c => (1 : Rat) * M t c + x * M s c) = fun c => M t c + x * M s c := by funext c; grind
 rw [e, a5J] at h
 have h0 : det n (a0y M t (M s)) = 0 := d9C hst hs ht fun c => by unfold a0y; simp [hst]
 rw [h, h0]
 grind
def a9T (M : Nat → Nat → Rat) : Nat → Nat → Rat := fun i k => M (i + 1) (k + 1) - M (i + 1) 0 / M 0 0 * M 0 (k + 1)
def a9z (M : Nat → Nat → Rat) (k : Nat) : Nat → Nat → Rat := fun r c => if 0 < r ∧ r ≤ k then M r c + -(M r 0 / M 0 0) * M 0 c else M r c
theorem d4g {n : Nat} (M : Nat → Nat → Rat) : ∀ k, k < n → det n (a9z M k) = det n M
 | 0, _ => by congr 1; funext r c; unfold a9z; rw [if_neg (by omega)]
 | k + 1, h => by
  rw [← d4g M k (by omega), ← d6v (M := a9z M k) (s := 0) (t := k + 1) (-(M (k + 1) 0 / M 0 0)) (by omega) (by omega) h]
  congr 1
  funext r c
  unfold a0y a9z
  by_cases e : r = k + 1
  ·subst e
   rw [if_pos ⟨by omega, Nat.le_refl _⟩, if_pos rfl]
   show _ = (if 0 < k + 1 ∧ k + 1 ≤ k then _ else _) + _ * (if 0 < 0 ∧ 0 ≤ k then _ else _)
   rw [if_neg (by omega), if_neg (by omega)]
  ·by_cases h2 : 0 < r ∧ r ≤ k
   ·rw [if_pos ⟨h2.1, by omega⟩, if_neg e, if_pos h2]
   ·rw [if_neg (by omega), if_neg e, if_neg h2]
theorem d0L {n : Nat} {M : Nat → Nat → Rat} (h : M 0 0 ≠ 0) : det (n + 1) M = M 0 0 * det n (a9T M) := by
 rw [← d4g M n (by omega)]
 rw [det, c1B (t := 0) (by omega) fun i hi h0 => by
  have : a9z M n i 0 = 0 := by
   unfold a9z
   rw [if_pos ⟨by omega, by omega⟩]
   grind
  rw [this]; grind]
 have e0 : a9z M n 0 0 = M 0 0 := by unfold a9z; rw [if_neg (by omega)]
 rw [e0]
 have : det n (fun r c => a9z M n (skip 0 r) (c + 1)) = det n (a9T M) := by
  refine b3M fun r c hr hc => ?_
  have hs : skip 0 r = r + 1 := by unfold skip; rw [if_neg (by omega)]
  rw [hs]
  unfold a9z a9T
  rw [if_pos ⟨by omega, by omega⟩]
  generalize M (r + 1) 0 / M 0 0 = x
  grind
 rw [this]
 simp only [sg]
 grind
theorem d9B : ∀ {n : Nat} {M : Nat → Nat → Rat}, (∀ r c, ∃ z : Int, M r c = z) → ∃ z : Int, det n M = z
 | 0, _, _ => ⟨1, rfl⟩
 | n + 1, M, h => by
  unfold det
  have hs : ∀ i, ∃ z : Int, sg i = z := by
   intro i
   induction i with
   | zero => exact ⟨1, rfl⟩
   | succ i ih => obtain ⟨z, hz⟩ := ih; exact ⟨-z, by rw [sg, hz, Rat.intCast_neg]⟩
  have ht : ∀ i, ∃ z : Int, sg i * M i 0 * det n (fun r c => M (skip i r) (c + 1)) = z := fun i => by
   obtain ⟨a, ha⟩ := hs i
   obtain ⟨b, hb⟩ := h i 0
   obtain ⟨c, hc⟩ := d9B (n := n) (M := fun r c => M (skip i r) (c + 1)) fun r c => h _ _
   exact ⟨a * b * c, by rw [ha, hb, hc, Rat.intCast_mul, Rat.intCast_mul]⟩
  have : ∀ k, ∃ z : Int, sumR (fun i => sg i * M i 0 * det n fun r c => M (skip i r) (c + 1)) k = z := by
   intro k
   induction k with
   | zero => exact ⟨0, rfl⟩
   | succ k ih =>
    obtain ⟨z, hz⟩ := ih
    obtain ⟨y, hy⟩ := ht k
    exact ⟨z + y, by rw [sumR, hz, hy, Rat.intCast_add]⟩
  exact this (n + 1)
end Go.Abs
namespace Go.Abs
def SS : Nat → (Nat → Nat → Rat) → Nat → Nat → Rat
 | 0, M => M
 | r + 1, M => SS r (a9T M)
def piv : Nat → (Nat → Nat → Rat) → Prop
 | 0, _ => True
 | r + 1, M => M 0 0 ≠ 0 ∧ piv r (a9T M)
theorem e0o : ∀ (r : Nat) (M : Nat → Nat → Rat), SS (r + 1) M = a9T (SS r M)
 | 0, _ => rfl
 | r + 1, M => e0o r (a9T M)
theorem c7U : ∀ (r : Nat) (M : Nat → Nat → Rat), piv (r + 1) M ↔ piv r M ∧ SS r M 0 0 ≠ 0
 | 0, M => by simp [piv, SS]
 | r + 1, M => by
  have h := c7U r (a9T M)
  show M 0 0 ≠ 0 ∧ piv (r + 1) (a9T M) ↔ (M 0 0 ≠ 0 ∧ piv r (a9T M)) ∧ SS r (a9T M) 0 0 ≠ 0
  rw [h, and_assoc]
theorem e3D : ∀ (r n : Nat) {M : Nat → Nat → Rat}, piv r M → det (r + n) M = det r M * det n (SS r M)
 | 0, n, M, _ => by simp only [Nat.zero_add, det, SS]; grind
 | r + 1, n, M, h => by
  rw [show r + 1 + n = (r + n) + 1 by omega, d0L h.1, d0L h.1, e3D r n h.2]
  show _ = M 0 0 * det r (a9T M) * det n (SS r (a9T M))
  grind
theorem e5R (M : Nat → Nat → Rat) : det 1 M = M 0 0 := by
 simp only [det, sumR, sg]; grind
theorem d2N (r : Nat) {M : Nat → Nat → Rat} (h : piv r M) : det (r + 1) M = det r M * SS r M 0 0 := by
 rw [e3D r 1 h, e5R]
theorem c7q : ∀ (r : Nat) {M N : Nat → Nat → Rat} {i j k l : Nat}, (∀ a b, a < r → b < r → M a b = N a b) → (∀ b, b < r → M (r + i) b = N (r + j) b) → (∀ a, a < r → M a (r + k) = N a (r + l)) → M (r + i) (r + k) = N (r + j) (r + l) → SS r M i k = SS r N j l
 | 0, M, N, i, j, k, l, _, _, _, h => by simpa [SS] using h
 | r + 1, M, N, i, j, k, l, h1, h2, h3, h4 => by
  show SS r (a9T M) i k = SS r (a9T N) j l
  have e : ∀ x : Nat, r + 1 + x = r + x + 1 := fun x => by omega
  have h2' : ∀ b, b < r + 1 → M (r + i + 1) b = N (r + j + 1) b := fun b hb => by rw [← e, ← e]; exact h2 b hb
  have h3' : ∀ a, a < r + 1 → M a (r + k + 1) = N a (r + l + 1) := fun a ha => by rw [← e, ← e]; exact h3 a ha
  have h4' : M (r + i + 1) (r + k + 1) = N (r + j + 1) (r + l + 1) := by rw [← e, ← e, ← e, ← e]; exact h4
  refine c7q r (fun a b ha hb => ?_) (fun b hb => ?_) (fun a ha => ?_) ?_
  ·simp only [a9T]; rw [h1 (a + 1) (b + 1) (by omega) (by omega), h1 (a + 1) 0 (by omega) (by omega), h1 0 0 (by omega) (by omega), h1 0 (b + 1) (by omega) (by omega)]
  ·simp only [a9T]; rw [h2' (b + 1) (by omega), h2' 0 (by omega), h1 0 0 (by omega) (by omega), h1 0 (b + 1) (by omega) (by omega)]
  ·simp only [a9T]; rw [h3' (a + 1) (by omega), h1 (a + 1) 0 (by omega) (by omega), h1 0 0 (by omega) (by omega), h3' 0 (by omega)]
  ·simp only [a9T]; rw [h4', h2' 0 (by omega), h1 0 0 (by omega) (by omega), h3' 0 (by omega)]
theorem c2Q : ∀ (r : Nat) {M N : Nat → Nat → Rat}, (∀ a b, a < r → b < r → M a b = N a b) → piv r M → piv r N
 | 0, _, _, _, _ => trivial
 | r + 1, M, N, h, hp => by
  rw [c7U] at hp ⊢
  refine ⟨c2Q r (fun a b ha hb => h a b (by omega) (by omega)) hp.1, ?_⟩
  rw [← c7q r (M := M) (N := N) (i := 0) (j := 0) (k := 0) (l := 0) (fun a b ha hb => h a b (by omega) (by omega)) (fun b hb => h _ _ (by omega) (by omega)) (fun a ha => h _ _ (by omega) (by omega)) (h _ _ (by omega) (by omega))]
  exact hp.2
def colm (cs : List Nat) (b : Nat) : Nat := if b < cs.length then cs.getD b 0 else b - cs.length
def a3h (B : Nat → Nat → Rat) (cs : List Nat) : Nat → Nat → Rat := fun a b => B a (colm cs b)
def a8V (B : Nat → Nat → Rat) (cs : List Nat) (i k : Nat) : Rat := SS cs.length (a3h B cs) (i - cs.length) k
def c4x (B : Nat → Nat → Rat) (cs : List Nat) : Rat := det cs.length (a3h B cs)
def Piv (B : Nat → Nat → Rat) (cs : List Nat) : Prop := piv cs.length (a3h B cs)
theorem d9c (B : Nat → Nat → Rat) (i k : Nat) : a8V B [] i k = B i k := by simp [a8V, SS, a3h, colm]
theorem a4p {cs : List Nat} {c b : Nat} (h : b < cs.length) : colm (cs ++ [c]) b = colm cs b := by
 simp only [colm, List.length_append, List.length_cons, List.length_nil]
 rw [if_pos (by omega), if_pos h]
 simp [List.getD_eq_getElem?_getD, List.getElem?_append_left h]
theorem b4j {cs : List Nat} {c : Nat} : colm (cs ++ [c]) cs.length = c := by
 simp only [colm, List.length_append, List.length_cons, List.length_nil]
 rw [if_pos (by omega)]
 simp
theorem a4o (cs : List Nat) (k : Nat) : colm cs (cs.length + k) = k := by
 simp only [colm]; rw [if_neg (by omega)]; omega
theorem d4y {B : Nat → Nat → Rat} {cs : List Nat} {c : Nat} (i : Nat) : SS cs.length (a3h B (cs ++ [c])) i 0 = a8V B cs (cs.length + i) c := by
 unfold a8V
 rw [Nat.add_sub_cancel_left]
 refine c7q _ (fun a b _ hb => ?_) (fun b hb => ?_) (fun a _ => ?_) ?_
 ·simp only [a3h]; rw [a4p hb]
 ·simp only [a3h]; rw [a4p hb]
 ·simp only [a3h]; rw [Nat.add_zero, b4j, a4o]
 ·simp only [a3h]; rw [Nat.add_zero, b4j, a4o]
theorem e3K {B : Nat → Nat → Rat} {cs : List Nat} {c : Nat} (i k : Nat) : SS cs.length (a3h B (cs ++ [c])) i (k + 1) = a8V B cs (cs.length + i) k := by
 unfold a8V
 rw [Nat.add_sub_cancel_left]
 have e : colm (cs ++ [c]) (cs.length + (k + 1)) = k := by
  have := a4o (cs ++ [c]) k
  simp only [List.length_append, List.length_cons, List.length_nil] at this
  rw [show cs.length + (k + 1) = cs.length + (0 + 1) + k by omega]; exact this
 refine c7q _ (fun a b _ hb => ?_) (fun b hb => ?_) (fun a _ => ?_) ?_
 ·simp only [a3h]; rw [a4p hb]
 ·simp only [a3h]; rw [a4p hb]
 ·simp only [a3h]; rw [e, a4o]
 ·simp only [a3h]; rw [e, a4o]
theorem c8f (cs : List Nat) (c : Nat) : (cs ++ [c]).length = cs.length + 1 := by simp
theorem d6p (B : Nat → Nat → Rat) (cs : List Nat) (c : Nat) {i k : Nat} (hi : cs.length < i) : a8V B (cs ++ [c]) i k = a8V B cs i k - a8V B cs i c / a8V B cs cs.length c * a8V B cs cs.length k := by
 have h := e0o cs.length (a3h B (cs ++ [c]))
 have e : a8V B (cs ++ [c]) i k = a9T (SS cs.length (a3h B (cs ++ [c]))) (i - (cs.length + 1)) k := by
  unfold a8V
  rw [c8f, h]
 rw [e]
 simp only [a9T]
 rw [e3K, d4y, d4y, e3K, Nat.add_zero]
 rw [show cs.length + (i - (cs.length + 1) + 1) = i by omega]
 rfl
theorem d6l {B : Nat → Nat → Rat} {cs : List Nat} (hp : Piv B cs) (c : Nat) : c4x B (cs ++ [c]) = c4x B cs * a8V B cs cs.length c := by
 unfold c4x
 have hp' : piv cs.length (a3h B (cs ++ [c])) := c2Q _ (fun a b _ hb => by simp only [a3h]; rw [a4p hb]) hp
 rw [c8f, d2N _ hp', d4y, Nat.add_zero]
 congr 1
 exact b3M fun a b _ hb => by simp only [a3h]; rw [a4p hb]
theorem e1r {B : Nat → Nat → Rat} {cs : List Nat} (hp : Piv B cs) {c : Nat} (h : a8V B cs cs.length c ≠ 0) : Piv B (cs ++ [c]) := by
 unfold Piv
 rw [c8f, c7U]
 refine ⟨c2Q _ (fun a b _ hb => by simp only [a3h]; rw [a4p hb]) hp, ?_⟩
 rw [d4y, Nat.add_zero]; exact h
theorem d9d {B : Nat → Nat → Rat} {cs : List Nat} (hp : Piv B cs) (hB : ∀ i k, ∃ z : Int, B i k = z) {i : Nat} (k : Nat) (hi : cs.length ≤ i) : ∃ z : Int, c4x B cs * a8V B cs i k = z := by
 let N : Nat → Nat → Rat := fun a b => B (if a = cs.length then i else a) (colm (cs ++ [k]) b)
 obtain ⟨z, hz⟩ := d9B (n := cs.length + 1) (M := N) fun r c => hB _ _
 refine ⟨z, ?_⟩
 have hN : ∀ a b, a < cs.length → b < cs.length → a3h B cs a b = N a b := fun a b ha hb => by
  simp only [N, a3h]
  rw [if_neg (by omega), a4p hb]
 rw [← hz, d2N _ (c2Q _ hN hp)]
 unfold c4x a8V
 rw [b3M hN]
 congr 1
 refine c7q _ hN (fun b hb => ?_) (fun a ha => ?_) ?_
 ·simp only [N, a3h]; rw [Nat.add_zero, if_pos rfl, a4p hb]
  rw [show cs.length + (i - cs.length) = i by omega]
 ·simp only [N, a3h]; rw [if_neg (by omega), Nat.add_zero, b4j, a4o]
 ·simp only [N, a3h]; rw [Nat.add_zero, if_pos rfl, b4j, a4o, show cs.length + (i - cs.length) = i by omega]
end Go.Abs
namespace Go.Abs
def b8W (f : Nat → Rat) (r n : Nat) : Option Nat := (List.range n).find? fun p => decide (r ≤ p) && decide (f p ≠ 0)
structure GS where
 B : Nat → Nat → Rat
 cs : List Nat
 odd : Bool
def GS.g (s : GS) (i k : Nat) : Rat := a8V s.B s.cs i k
def GS.last (s : GS) : Rat := c4x s.B s.cs
def c8t (n : Nat) (s : GS) (c : Nat) : GS := match b8W (fun p => s.g p c) s.cs.length n with
 | none => s
 | some p => ⟨b7Y p s.cs.length s.B, s.cs ++ [c], if p = s.cs.length then s.odd else !s.odd⟩
def gproc (n : Nat) (B : Nat → Nat → Rat) : Nat → GS
 | 0 => ⟨B, [], false⟩
 | c + 1 => c8t n (gproc n B c) c
structure GOk (n : Nat) (s : GS) : Prop where
 piv : Piv s.B s.cs
 len : s.cs.length ≤ n
theorem d6n {n c : Nat} {s : GS} (h : b8W (fun p => s.g p c) s.cs.length n = none) : c8t n s c = s := by unfold c8t; rw [h]
end Go.Abs
namespace Go.Abs
theorem c4P : ∀ {n e : Nat} {M : Nat → Nat → Rat}, n ≤ LB → (∀ r c, r < n → c < n → ∃ z : Int, M r c = z ∧ z.natAbs ≤ LB ^ e) → ∃ z : Int, det n M = z ∧ z.natAbs ≤ LB ^ (n * (e + 1))
 | 0, e, _, _, _ => ⟨1, rfl, by simp⟩
 | n + 1, e, M, hn, h => by
  unfold det
  have hs : ∀ i, ∃ z : Int, sg i = z ∧ z.natAbs = 1 := by
   intro i
   induction i with
   | zero => exact ⟨1, rfl, rfl⟩
   | succ i ih => obtain ⟨z, hz, ha⟩ := ih; exact ⟨-z, by rw [sg, hz, Rat.intCast_neg], by rw [Int.natAbs_neg]; exact ha⟩
  have ht : ∀ i, i < n + 1 → ∃ z : Int, sg i * M i 0 * det n (fun r c => M (skip i r) (c + 1)) = z ∧ z.natAbs ≤ LB ^ e * LB ^ (n * (e + 1)) := fun i hi => by
   obtain ⟨a, ha, ha1⟩ := hs i
   obtain ⟨b, hb, hb1⟩ := h i 0 hi (by omega)
   obtain ⟨c, hc, hc1⟩ := c4P (n := n) (e := e) (M := fun r c => M (skip i r) (c + 1)) (by omega) fun r c hr hc => h _ _ (d7r hr) (by omega)
   refine ⟨a * b * c, by rw [ha, hb, hc, Rat.intCast_mul, Rat.intCast_mul], ?_⟩
   rw [Int.natAbs_mul, Int.natAbs_mul, ha1, Nat.one_mul]
   exact Nat.mul_le_mul hb1 hc1
  have : ∀ k, k ≤ n + 1 → ∃ z : Int, sumR (fun i => sg i * M i 0 * det n fun r c => M (skip i r) (c + 1)) k = z ∧ z.natAbs ≤ k * (LB ^ e * LB ^ (n * (e + 1))) := by
   intro k
   induction k with
   | zero => exact fun _ => ⟨0, rfl, by simp⟩
   | succ k ih =>
    intro hk
    obtain ⟨z, hz, hz1⟩ := ih (by omega)
    obtain ⟨y, hy, hy1⟩ := ht k (by omega)
    refine ⟨z + y, by rw [sumR, hz, hy, Rat.intCast_add], ?_⟩
    have := Int.natAbs_add_le z y
    rw [Nat.add_mul, Nat.one_mul]
    omega
  obtain ⟨z, hz, hz1⟩ := this (n + 1) (Nat.le_refl _)
  refine ⟨z, hz, Nat.le_trans hz1 ?_⟩
  rw [show (n + 1) * (e + 1) = 1 + (e + n * (e + 1)) by rw [Nat.add_mul]; omega, Nat.pow_add, Nat.pow_add, Nat.pow_one]
  exact Nat.mul_le_mul_right _ hn
end Go.Abs
namespace Go.Abs
structure JS where
 s : GS
 M : Nat → Nat → Rat
def JS.r (j : JS) : Nat := j.s.cs.length
def jel (r c : Nat) (M : Nat → Nat → Rat) : Nat → Nat → Rat := fun i k => if i = r then M r k / M r c else M i k - M i c * (M r k / M r c)
def e5d (n : Nat) (j : JS) (c : Nat) : JS := match b8W (fun p => j.s.g p c) j.s.cs.length n with
 | none => j
 | some p => ⟨c8t n j.s c, jel j.s.cs.length c (b7Y p j.s.cs.length j.M)⟩
def c8k (n : Nat) (B : Nat → Nat → Rat) : Nat → JS
 | 0 => ⟨⟨B, [], false⟩, B⟩
 | c + 1 => e5d n (c8k n B c) c
theorem e5c (n : Nat) (j : JS) (c : Nat) : (e5d n j c).s = c8t n j.s c := by
 unfold e5d
 cases h : b8W (fun p => j.s.g p c) j.s.cs.length n with
 | none => rw [d6n h]
 | some p => rfl
theorem d2t (n : Nat) (B : Nat → Nat → Rat) : ∀ c, (c8k n B c).s = gproc n B c
 | 0 => rfl
 | c + 1 => by rw [c8k, e5c, d2t n B c]; rfl
structure JOk (n : Nat) (j : JS) : Prop where
 g : GOk n j.s
 low : ∀ i k, j.s.cs.length ≤ i → j.M i k = j.s.g i k
 up : ∀ a k, j.s.B a k = sumR (fun i => j.s.B a (j.s.cs.getD i 0) * j.M i k) j.s.cs.length + if j.s.cs.length ≤ a then j.M a k else 0
def Bd (e : Nat) (B : Nat → Nat → Rat) : Prop := ∀ i k, ∃ z : Int, B i k = z ∧ z.natAbs ≤ LB ^ e
theorem Bd.swap {e : Nat} {B : Nat → Nat → Rat} (h : Bd e B) (s t : Nat) : Bd e (b7Y s t B) := by
 intro i k; unfold b7Y
 split
 ·exact h _ _
 ·split <;> exact h _ _
theorem Bd.gproc {e n : Nat} {B : Nat → Nat → Rat} (h : Bd e B) : ∀ c, Bd e (gproc n B c).B
 | 0 => h
 | c + 1 => by
  have ih := Bd.gproc (n := n) h c
  show Bd e (c8t n (Abs.gproc n B c) c).B
  unfold c8t
  cases b8W (fun p => (Abs.gproc n B c).g p c) (Abs.gproc n B c).cs.length n with
  | none => exact ih
  | some p => exact ih.swap _ _
theorem d2s {e : Nat} {B : Nat → Nat → Rat} (hB : Bd e B) (cs : List Nat) (hn : cs.length ≤ LB) : ∃ z : Int, c4x B cs = z ∧ z.natAbs ≤ LB ^ (cs.length * (e + 1)) :=
 c4P hn fun _ _ _ _ => hB _ _
theorem d2C {e : Nat} {B : Nat → Nat → Rat} {cs : List Nat} (hp : Piv B cs) (hB : Bd e B) (hn : cs.length + 1 ≤ LB) {i : Nat} (k : Nat) (hi : cs.length ≤ i) : ∃ z : Int, c4x B cs * a8V B cs i k = z ∧ z.natAbs ≤ LB ^ ((cs.length + 1) * (e + 1)) := by
 let N : Nat → Nat → Rat := fun a b => B (if a = cs.length then i else a) (colm (cs ++ [k]) b)
 obtain ⟨z, hz, hz1⟩ := c4P (n := cs.length + 1) (e := e) (M := N) hn fun r c _ _ => hB _ _
 refine ⟨z, ?_, hz1⟩
 have hN : ∀ a b, a < cs.length → b < cs.length → a3h B cs a b = N a b := fun a b ha hb => by
  simp only [N, a3h]
  rw [if_neg (by omega), a4p hb]
 rw [← hz, d2N _ (c2Q _ hN hp)]
 unfold c4x a8V
 rw [b3M hN]
 congr 1
 refine c7q _ hN (fun b hb => ?_) (fun a ha => ?_) ?_
 ·simp only [N, a3h]; rw [Nat.add_zero, if_pos rfl, a4p hb]
  rw [show cs.length + (i - cs.length) = i by omega]
 ·simp only [N, a3h]; rw [if_neg (by omega), Nat.add_zero, b4j, a4o]
 ·simp only [N, a3h]; rw [Nat.add_zero, if_pos rfl, b4j, a4o, show cs.length + (i - cs.length) = i by omega]
end Go.Abs
namespace Go.Abs
structure Lk (n c : Nat) (π : Nat → Nat) (S : Nat → Nat → AV) (F : Nat → Nat → AV) : Prop where
 lt : ∀ a, a < n → π a < n
 inj : ∀ a b, a < n → b < n → π a = π b → a = b
 at_ : ∀ a b, a < n → b < c → S (π a) b = F a b
 cl : ∀ a b, Cl (S a b)
theorem Lk.swap {n c : Nat} {π : Nat → Nat} {S : Nat → Nat → AV} {α : Type} {M : Nat → Nat → α} {f : α → AV} (h : Lk n c π S fun a b => f (M a b)) {p r : Nat} (hp : p < n) (hr : r < n) : Lk n c (swp π p r) S fun a b => f (if a = p then M r b else if a = r then M p b else M a b) := by
 refine ⟨fun a ha => ?_, fun a b ha hb he => ?_, fun a b ha hb => ?_, h.cl⟩
 ·unfold swp; split
  ·exact h.lt r hr
  ·split
   ·exact h.lt p hp
   ·exact h.lt a ha
 ·unfold swp at he
  split at he
  ·split at he
   ·omega
   ·split at he
    ·have := h.inj _ _ hr hp he; omega
    ·have := h.inj _ _ hr hb he; omega
  ·split at he
   ·split at he
    ·have := h.inj _ _ hp hr he; omega
    ·split at he
     ·omega
     ·have := h.inj _ _ hp hb he; omega
   ·split at he
    ·have := h.inj _ _ ha hr he; omega
    ·split at he
     ·have := h.inj _ _ ha hp he; omega
     ·exact h.inj _ _ ha hb he
 ·unfold swp
  split
  ·exact h.at_ r b hr hb
  ·split
   ·exact h.at_ p b hp hb
   ·exact h.at_ a b ha hb
end Go.Abs
namespace Go.Abs
def Zg (s : GS) (a b : Nat) : Rat := c4x s.B (s.cs.take a) * a8V s.B (s.cs.take a) a b
end Go.Abs
namespace Go.Abs
section
variable {G L : Heap} {id w : Nat} {X : List AV}
theorem lst (h : G[id]? = some (some ⟨w, X⟩)) {j : Nat} (hj : j < X.length) {v : AV} (hf : v.fit = true) (hn : v.cells.length = w) (env : Env) : a5f w (.loc id j 0) v env (hap G L) = some (.top, env, hap (G.set id (some ⟨w, X.set j v⟩)) L) := by
 have hid := a0k h
 have hr : hrow (hap G L) id = some ⟨w, X⟩ := by rw [c8s _ _ _ hid]; simp [hrow, h]
 simp only [a5f, hr, Option.bind_some]
 rw [if_pos ⟨hj, hf, hn, by omega⟩, a4a, d1D _ _ _ _ hid]
end
end Go.Abs
namespace Go.Abs
structure Lz (n c K : Nat) (π : Nat → Nat) (S : Nat → Nat → AV) (f : Nat → Nat → Int) : Prop where
 lt : ∀ a, a < n → π a < n
 inj : ∀ a b, a < n → b < n → π a = π b → a = b
 at_ : ∀ a b, a < n → b < c → ∃ x : ZI, S (π a) b = x.av ∧ x.z = f a b ∧ Zok K x
 cl : ∀ a b, Cl (S a b)
theorem Lz.swap {n c K : Nat} {π : Nat → Nat} {S : Nat → Nat → AV} {f : Nat → Nat → Int} (h : Lz n c K π S f) {p r : Nat} (hp : p < n) (hr : r < n) : Lz n c K (swp π p r) S fun a b => if a = p then f r b else if a = r then f p b else f a b := by
 have h0 : Lk n c π S fun a b => S (π a) b := ⟨h.lt, h.inj, fun _ _ _ _ => rfl, h.cl⟩
 have hs := Lk.swap (f := fun x : AV => x) h0 hp hr
 refine ⟨hs.lt, hs.inj, fun a b ha hb => ?_, h.cl⟩
 unfold swp
 split
 ·exact h.at_ r b hr hb
 ·split
  ·exact h.at_ p b hp hb
  ·exact h.at_ a b ha hb
theorem b5k {q : Rat} {z : Int} (h : q = z) : q.num = z ∧ (q.num : Rat) = q := by subst h; exact ⟨rfl, rfl⟩
section
variable {n c e K : Nat} (b : List (List ZI)) (B : Nat → Nat → Rat)
def ZgI (n : Nat) (B : Nat → Nat → Rat) (t a k : Nat) : Int := (Zg (gproc n B t) a k).num
end
end Go.Abs
namespace Go.Abs
def Sg (G : Nat → Nat → Rat) (k i j : Nat) : Rat := a8V G (List.range k) i j
def Dg (G : Nat → Nat → Rat) (k : Nat) : Rat := c4x G (List.range k)
def Pv (G : Nat → Nat → Rat) (k : Nat) : Prop := Piv G (List.range k)
theorem b5T (G : Nat → Nat → Rat) (i j : Nat) : Sg G 0 i j = G i j := d9c G i j
theorem c8R (G : Nat → Nat → Rat) : Dg G 0 = 1 := rfl
theorem e0p (G : Nat → Nat → Rat) : Pv G 0 := trivial
section
variable {G : Nat → Nat → Rat} {k : Nat}
theorem c8P {i : Nat} (j : Nat) (hi : k < i) : Sg G (k + 1) i j = Sg G k i j - Sg G k i k / Sg G k k k * Sg G k k j := by
 have := d6p G (List.range k) k (i := i) (k := j) (by simpa using hi)
 simp only [List.length_range] at this
 unfold Sg
 rw [List.range_succ, this]
theorem b9q (h : Pv G k) : Dg G (k + 1) = Dg G k * Sg G k k k := by
 have := d6l h k
 simp only [List.length_range] at this
 unfold Dg Sg
 rw [List.range_succ, this]
theorem e0q (h : Pv G k) (h1 : Sg G k k k ≠ 0) : Pv G (k + 1) := by
 unfold Pv
 rw [List.range_succ]
 exact e1r h (by rw [List.length_range]; exact h1)
theorem d4x (hs : ∀ i j, G i j = G j i) : ∀ k i j, k ≤ i → k ≤ j → Sg G k i j = Sg G k j i
 | 0, i, j, _, _ => by rw [b5T, b5T, hs]
 | k + 1, i, j, hi, hj => by
  rw [c8P j hi, c8P i hj, d4x hs k i j (by omega) (by omega), d4x hs k k j (by omega) (by omega), d4x hs k k i (by omega) (by omega)]
  rw [Rat.div_def, Rat.div_def]
  grind
def ug (G : Nat → Nat → Rat) (k i j : Nat) : Rat := Dg G k * Sg G k i j
theorem e3S (i j : Nat) : ug G 0 i j = G i j := by unfold ug; rw [c8R, b5T, Rat.one_mul]
theorem e3U (h : Pv G k) : ug G k k k = Dg G (k + 1) := (b9q h).symm
theorem e6I (hs : ∀ i j, G i j = G j i) {i j : Nat} (hi : k ≤ i) (hj : k ≤ j) : ug G k i j = ug G k j i := by unfold ug; rw [d4x hs k i j hi hj]
theorem e6J (h : Pv G k) (hB : ∀ i k, ∃ z : Int, G i k = z) {i : Nat} (j : Nat) (hi : k ≤ i) : ∃ z : Int, ug G k i j = z := d9d h hB j (by simpa using hi)
theorem e0D {e : Nat} (h : Pv G k) (hB : Bd e G) (hk : k + 1 ≤ LB) {i : Nat} (j : Nat) (hi : k ≤ i) : ∃ z : Int, ug G k i j = z ∧ z.natAbs ≤ LB ^ ((k + 1) * (e + 1)) := by
 have := d2C h hB (by simpa using hk) j (i := i) (by simpa using hi)
 rw [List.length_range] at this
 exact this
theorem e3f {e : Nat} (hB : Bd e G) (hk : k ≤ LB) : ∃ z : Int, Dg G k = z ∧ z.natAbs ≤ LB ^ (k * (e + 1)) := by
 have := d2s hB (List.range k) (by simpa using hk)
 rw [List.length_range] at this
 exact this
theorem e3T (h : Pv G k) (h1 : Sg G k k k ≠ 0) {i : Nat} (j : Nat) (hi : k < i) : Dg G k * ug G (k + 1) i j = Dg G (k + 1) * ug G k i j - ug G k i k * ug G k k j := by
 unfold ug
 rw [b9q h, c8P j hi]
 generalize Sg G k k k = p at *
 rw [Rat.div_def]
 have : p⁻¹ * p = 1 := Rat.inv_mul_cancel p h1
 grind
def gd (G : Nat → Nat → Rat) : Nat → Nat
 | 0 => 0
 | n + 1 => if gd G n = n ∧ 0 < Dg G (n + 1) then n + 1 else gd G n
theorem b5L (G : Nat → Nat → Rat) (n : Nat) : gd G (n + 1) = if gd G n = n ∧ 0 < Dg G (n + 1) then n + 1 else gd G n := rfl
theorem e5o (G : Nat → Nat → Rat) : ∀ n, gd G n ≤ n
 | 0 => Nat.le_refl _
 | n + 1 => by
  rw [b5L]
  split
  ·exact Nat.le_refl _
  ·have := e5o G n; omega
theorem b5M : ∀ {n : Nat}, gd G n = n → ∀ i, i ≤ n → Pv G i ∧ 0 < Dg G i
 | 0, _, i, hi => by
  have : i = 0 := by omega
  subst this
  exact ⟨e0p G, by rw [c8R]; decide⟩
 | n + 1, h, i, hi => by
  have hg := e5o G n
  rw [b5L] at h
  split at h
  ·rename_i hc
   obtain ⟨h1, h2⟩ := hc
   by_cases hin : i ≤ n
   ·exact b5M h1 i hin
   ·have : i = n + 1 := by omega
    subst this
    obtain ⟨p1, p2⟩ := b5M h1 n (Nat.le_refl _)
    refine ⟨e0q p1 fun e => ?_, h2⟩
    rw [b9q p1, e, Rat.mul_zero] at h2
    exact absurd h2 (by decide)
  ·omega
theorem e5m {n : Nat} (h : gd G (n + 1) ≠ n + 1) (m : Nat) : gd G (n + 1 + m) = gd G n := by
 induction m with
 | zero =>
  show gd G (n + 1) = gd G n
  rw [b5L] at h ⊢
  split at h
  ·exact absurd rfl h
  ·rename_i hc; rw [if_neg hc]
 | succ m ih =>
  show gd G (n + 1 + m + 1) = gd G n
  have := e5o G n
  rw [b5L, if_neg (fun hc => by have := hc.1; omega), ih]
end
end Go.Abs
namespace Go.Abs
theorem c5J {f : Nat → Int} {n : Nat} : ∀ {m : Nat}, n ≤ m → (∀ i, n ≤ i → i < m → f i = 0) → b0X f m = b0X f n
 | 0, h, _ => by
  have : n = 0 := by omega
  subst this; rfl
 | m + 1, h, hz => by
  by_cases hm : n = m + 1
  ·subst hm; rfl
  ·show b0X f m + f m = b0X f n
   rw [c5J (by omega) fun i h1 h2 => hz i h1 (by omega), hz m (by omega) (by omega), Int.add_zero]
theorem e3N {v : List ZI} {i : Nat} (h : v.length ≤ i) : zg v i = 0 := by
 unfold zg
 rw [List.getD_eq_getElem?_getD, List.getElem?_eq_none h]; rfl
theorem e7t {b : List (List ZI)} {i : Nat} (h : b.length ≤ i) : mg b i = [] := by
 unfold mg
 rw [List.getD_eq_getElem?_getD, List.getElem?_eq_none h]; rfl
theorem d0H (u v : List ZI) {m : Nat} (h : u.length ≤ m) : dotZ u v = b0X (fun i => zg u i * zg v i) m :=
 (c5J h fun i h1 _ => by rw [e3N h1, Int.zero_mul]).symm
theorem d9t (u v : List ZI) : dotZ u v = dotZ v u := by
 rw [d0H u v (Nat.le_max_left u.length v.length), d0H v u (Nat.le_max_right u.length v.length)]
 exact c2D fun i _ => Int.mul_comm _ _
def Gr (b : List (List ZI)) (i j : Nat) : Rat := ((dotZ (mg b i) (mg b j) : Int) : Rat)
theorem e8b (b : List (List ZI)) (i j : Nat) : Gr b i j = Gr b j i := by unfold Gr; rw [d9t]
theorem e8c (b : List (List ZI)) (i j : Nat) : ∃ z : Int, Gr b i j = z := ⟨_, rfl⟩
def uI (b : List (List ZI)) (k i j : Nat) : Int := (ug (Gr b) k i j).num
def dI (b : List (List ZI)) (k : Nat) : Int := (Dg (Gr b) k).num
def GB (e : Nat) : Nat := 65 * (e + e + 3) + 1
section
variable {b : List (List ZI)}
theorem d9J : dI b 0 = 1 := by unfold dI; rw [c8R]; rfl
theorem e3V (i j : Nat) : uI b 0 i j = dotZ (mg b i) (mg b j) := by unfold uI; rw [e3S]; rfl
theorem e3X {k : Nat} (hp : Pv (Gr b) k) : uI b k k k = dI b (k + 1) := by unfold uI dI; rw [e3U hp]
end
section
variable {b : List (List ZI)} {e : Nat} (hm : Mok e b)
include hm
theorem e8d : Bd (e + e + 2) (Gr b) := fun i k => ⟨_, rfl, Nat.le_of_lt (c8A (hm.row i) (hm.row k) (Nat.le_refl _))⟩
theorem c9j {k : Nat} (hp : Pv (Gr b) k) (hk : k < 64) {i : Nat} (j : Nat) (hi : k ≤ i) : ((uI b k i j : Int) : Rat) = ug (Gr b) k i j ∧ (uI b k i j).natAbs < LB ^ GB e := by
 obtain ⟨z, hz, hb⟩ := e0D hp (e8d hm) (by unfold LB; omega) j hi
 obtain ⟨h1, h2⟩ := b5k hz
 refine ⟨h2, ?_⟩
 unfold uI
 rw [h1]
 refine Nat.lt_of_le_of_lt hb (Nat.pow_lt_pow_right (by decide) ?_)
 unfold GB
 have : (k + 1) * (e + e + 2 + 1) ≤ 65 * (e + e + 2 + 1) := Nat.mul_le_mul_right _ (by omega)
 omega
theorem d6w {k : Nat} (hk : k ≤ 64) : ((dI b k : Int) : Rat) = Dg (Gr b) k ∧ (dI b k).natAbs < LB ^ GB e := by
 obtain ⟨z, hz, hb⟩ := e3f (e8d hm) (k := k) (by unfold LB; omega)
 obtain ⟨h1, h2⟩ := b5k hz
 refine ⟨h2, ?_⟩
 unfold dI
 rw [h1]
 refine Nat.lt_of_le_of_lt hb (Nat.pow_lt_pow_right (by decide) ?_)
 unfold GB
 have : k * (e + e + 2 + 1) ≤ 65 * (e + e + 2 + 1) := Nat.mul_le_mul_right _ (by omega)
 omega
theorem e3W {n k i j : Nat} (hn : n ≤ 64) (hg : gd (Gr b) n = n) (hk : k < n) (hi : k < i) (hj : k < j) : dI b (k + 1) * uI b k i j - uI b k i k * uI b k j k = dI b k * uI b (k + 1) i j := by
 obtain ⟨p1, _⟩ := b5M hg k (by omega)
 obtain ⟨p2, q2⟩ := b5M hg (k + 1) (by omega)
 have hs : Sg (Gr b) k k k ≠ 0 := fun e0 => by
  rw [b9q p1, e0, Rat.mul_zero] at q2
  exact absurd q2 (by decide)
 have h := e3T p1 hs j hi
 rw [e6I (e8b b) (Nat.le_refl k) (Nat.le_of_lt hj)] at h
 have a1 := (d6w hm (k := k + 1) (by omega)).1
 have a2 := (c9j hm p1 (by omega) j (Nat.le_of_lt hi)).1
 have a3 := (c9j hm p1 (by omega) k (Nat.le_of_lt hi)).1
 have a4 := (c9j hm p1 (by omega) k (Nat.le_of_lt hj)).1
 have a5 := (d6w hm (k := k) (by omega)).1
 by_cases hk64 : k + 1 < 64
 ·have a6 := (c9j hm p2 hk64 j hi).1
  rw [← a1, ← a2, ← a3, ← a4, ← a5, ← a6] at h
  have : ((dI b k * uI b (k + 1) i j : Int) : Rat) = ((dI b (k + 1) * uI b k i j - uI b k i k * uI b k j k : Int) : Rat) := by
   simp only [Rat.intCast_mul, Rat.intCast_sub]; exact h
  exact (Rat.intCast_inj.1 this).symm
 ·obtain ⟨z, hz⟩ := e6J p2 (e8c b) j hi
  have a6 := (b5k hz).2
  rw [← a1, ← a2, ← a3, ← a4, ← a5, ← a6] at h
  have : ((dI b k * uI b (k + 1) i j : Int) : Rat) = ((dI b (k + 1) * uI b k i j - uI b k i k * uI b k j k : Int) : Rat) := by
   simp only [Rat.intCast_mul, Rat.intCast_sub]; exact h
  exact (Rat.intCast_inj.1 this).symm
theorem e5n {n : Nat} (hn : n < 64) (hg : gd (Gr b) n = n) : gd (Gr b) (n + 1) = n + 1 ↔ 0 < dI b (n + 1) := by
 have hd := (d6w hm (k := n + 1) (by omega)).1
 rw [b5L]
 constructor
 ·intro h
  split at h
  ·rename_i hc
   have := hc.2
   rw [← hd] at this
   exact Rat.intCast_pos.1 this
  ·omega
 ·intro h
  rw [if_pos ⟨hg, by rw [← hd]; exact Rat.intCast_pos.2 h⟩]
theorem e8t {n k : Nat} (hn : n ≤ 64) (hg : gd (Gr b) n = n) (hk : k ≤ n) : 0 < dI b k := by
 have h := (b5M hg k hk).2
 rw [← (d6w hm (k := k) (by omega)).1] at h
 exact Rat.intCast_pos.1 h
end
end Go.Abs
namespace Go.Abs
theorem d4J {y q : Int} {k : Nat} (h1 : (y * q).natAbs < LB ^ k) (h2 : y.natAbs < LB ^ k) (hk : k < 17592186044000) (h0 : y ≠ 0) : a0f Pr a9Q [Z (y * q), Z y] (.tup [Z q, Z 0, .int .i64 0]) :=
 c9d (canZ (y * q)) (canZ y) k (a3m h1) (a3m h2) hk q (by rw [a5h]; exact h0) (by rw [a5h, a5h])
theorem b6M {id b : Nat} (k off : Nat) (h : b ≠ id) : nref id (.loc b k off) = true := a0l.2 (.loc _ _ _ h)
theorem e1C {id b : Nat} (off len : Nat) (oc : Option Nat) (h : b ≠ id) : nref id (.mu b off len oc) = true := a0l.2 (.mu _ _ _ _ h)
theorem d3p (H : Heap) {n : Nat} {f : Nat → Int} {k : Nat} (h : k < n) : idxV H 2 (vecV (vec n f)) (.int .i64 (k : Nat)) = some (.ro (Z (f k)) 0) := by
 rw [b2D H _ .i64 k (by rw [a0v]; exact h), d1s]; rfl
section
variable {b : List (List ZI)} {e i : Nat} {G : Heap} {n0 : Nat} {mu : Nat → Nat → Bool} {f : FuncId} {nt : Nat} {rs : List ResV} {dr lr : AV} {b0 b1 dd ll : Nat} {R : AV → Heap → Prop} {rest : List AItem}
structure GsoAt (b : List (List ZI)) (i : Nat) (G : Heap) (dr lr : AV) (b1 dd ll : Nat) : Prop where
 bs : ∀ L, (hrow (hap G L) b1).isSome = true
 bx : ∀ L off, atV (hap G L) (.loc b1 0 off) = some (List.drop off [dr, lr])
 di : ∀ L k, k ≤ i → idxV (hap G L) 2 dr (.int .i64 (k : Nat)) = some (.loc dd k 0)
 da : ∀ L k, k ≤ i → atV (hap G L) (.loc dd k 0) = some (Z (dI b k)).cells
 li : ∀ L j, j < i → idxV (hap G L) 1 lr (.int .i64 (j : Nat)) = some (.loc ll j 0)
 la : ∀ L j, j < i → atV (hap G L) (.loc ll j 0) = some (vecV (vec j fun t => uI b t j t)).cells
variable (hm : Mok e b) (he : GB e + GB e + 8 < 17592186044000) (hn : i < b.length) (h64 : b.length ≤ 64) (hg : gd (Gr b) i = i) (hd : GsoAt b i G dr lr b1 dd ll) (hG : n0 ≤ G.length)
include hm he hn h64 hg hd hG
omit hG in
theorem e6g {j : Nat} (hj : j ≤ i) (k : Safe ⟨Pr, mu, f, 114, rs, n0⟩ rest [(0, matV b), (2, .loc b0 0 0), (4, .loc b1 0 0), (5, .int .i64 i), (6, .mu (lid G 0) 0 j (some (i + 1))), (7, .int .i64 j), (8, .loc (lid G 1) 0 0), (10, .int .i64 j), (16, .int .i64 b.length), (17, .int .i64 i)]
   (hap G [some ⟨2, (vec j fun t => uI b t i t).map ZI.av⟩, some ⟨2, [Z (uI b j i j)]⟩]) R) :
  Safe ⟨Pr, mu, f, 114, rs, n0⟩ (.inLoop c0M :: .inBlock 4 :: rest) [(0, matV b), (2, .loc b0 0 0), (4, .loc b1 0 0), (5, .int .i64 i), (6, .mu (lid G 0) 0 j (some (i + 1))), (7, .int .i64 j), (8, .loc (lid G 1) 0 0), (10, .int .i64 0), (16, .int .i64 b.length), (17, .int .i64 i)]
   (hap G [some ⟨2, (vec j fun t => uI b t i t).map ZI.av⟩, some ⟨2, [Z (uI b 0 i j)]⟩]) R := by
 refine Safe.loopN j (fun k => [(0, matV b), (2, .loc b0 0 0), (4, .loc b1 0 0), (5, .int .i64 i), (6, .mu (lid G 0) 0 j (some (i + 1))), (7, .int .i64 j), (8, .loc (lid G 1) 0 0), (10, .int .i64 k), (16, .int .i64 b.length), (17, .int .i64 i)])
  (fun k => hap G [some ⟨2, (vec j fun t => uI b t i t).map ZI.av⟩, some ⟨2, [Z (uI b k i j)]⟩]) rfl rfl (fun k hk ih => ?_) ?_
 ·have hlt : ((k : Int) < (j : Int)) = True := eq_true (by omega)
  have hiw : IntKind.wrap .i64 ((k : Int) + 1) = ((k + 1 : Nat) : Int) := by rw [a0e] <;> omega
  refine Safe.inLoop ?_
  refine Safe.rg rfl ?_
  simp only [b1F, hlt, E3, seval]
  refine Safe.cd rfl ?_
  simp only [E3, seval]
  refine Safe.rg rfl ?_
  simp only [b7w, E3, seval]
  have p0 := (b5M hg k (by omega)).1
  have hdk := d6w hm (k := k) (by omega)
  have hdk1 := d6w hm (k := k + 1) (by omega)
  have hij := (c9j hm p0 (by omega) (i := i) j (by omega)).2
  have hik := (c9j hm p0 (by omega) (i := i) k (by omega)).2
  have hjk := (c9j hm p0 (by omega) (i := j) k (by omega)).2
  have hstep := e3W hm (by omega) hg (k := k) (i := i) (j := j) (by omega) (by omega) hk
  have di1 : ∀ L, idxV (hap G L) 2 dr (.int .i64 ((k + 1 : Nat) : Int)) = some (.loc dd (k + 1) 0) := fun L => hd.di L (k + 1) (by omega)
  have da1 : ∀ L, atV (hap G L) (.loc dd (k + 1) 0) = some (Z (dI b (k + 1))).cells := fun L => hd.da L (k + 1) (by omega)
  have di0 : ∀ L, idxV (hap G L) 2 dr (.int .i64 (k : Nat)) = some (.loc dd k 0) := fun L => hd.di L k (by omega)
  have da0 : ∀ L, atV (hap G L) (.loc dd k 0) = some (Z (dI b k)).cells := fun L => hd.da L k (by omega)
  have bs0 := hd.bs
  have bx0 : ∀ L, atV (hap G L) (.loc b1 0 0) = some [dr, lr] := fun L => hd.bx L 0
  have bx1 : ∀ L, atV (hap G L) (.loc b1 0 1) = some [lr] := fun L => hd.bx L 1
  have hli : ∀ L X, idxV (hap G (some ⟨2, X⟩ :: L)) 2 (.mu (lid G 0) 0 j (some (i + 1))) (.int .i64 (k : Nat)) = some (.loc (lid G 0) k 0) := fun L X => d0i hk
  have hla : ∀ L, atV (hap G (some ⟨2, (vec j fun t => uI b t i t).map ZI.av⟩ :: L)) (.loc (lid G 0) k 0) = some (Z (uI b k i k)).cells := fun L => e7U (f := fun t => uI b t i t) hk
  have c1 := d3l hdk1.2 hij (show GB e + GB e ≤ 17592186044416 by omega)
  have c2 := d3l hik hjk (show GB e + GB e ≤ 17592186044416 by omega)
  have c3 := e0s (b3h hdk1.2 hij) (b3h hik hjk) (show GB e + GB e < 17592186044416 by omega)
  rw [hstep] at c3
  have hb1 : (dI b k * uI b (k + 1) i j).natAbs < LB ^ (GB e + GB e + 1) := by rw [← hstep]; exact e4c (b3h hdk1.2 hij) (b3h hik hjk)
  have c4 := d4J hb1 (Nat.lt_of_lt_of_le hdk.2 (b1u (by omega))) (show GB e + GB e + 1 < 17592186044000 by omega) (show dI b k ≠ 0 by have := e8t hm (by omega) hg (k := k) (by omega); omega)
  by_cases hji : j < i
  ·have hlt2 : ((j : Int) < (i : Int)) = True := eq_true (by omega)
   have li0 : ∀ L, idxV (hap G L) 1 lr (.int .i64 (j : Nat)) = some (.loc ll j 0) := fun L => hd.li L j hji
   have la0 : ∀ L, atV (hap G L) (.loc ll j 0) = some (vecV (vec j fun t => uI b t j t)).cells := fun L => hd.la L j hji
   have hrw : ∀ L, idxV (hap G L) 2 (vecV (vec j fun t => uI b t j t)) (.int .i64 (k : Nat)) = some (.ro (Z (uI b k j k)) 0) := fun L => d3p _ (f := fun t => uI b t j t) hk
   refine Safe.rg rfl ?_
   simp only [b1E, hlt2, E3, seval]
   refine Safe.cd rfl ?_
   simp only [E3, seval]
   refine Safe.rg rfl ?_
   simp only [b7v, bs0, bx1, li0, la0, E3, seval]
   refine Safe.rg rfl ?_
   simp only [b1D, bs0, bx0, hiw, di1, da1, hli, hla, hrw, E3, seval]
   first | refine (c1).acall ?_ | refine (c1).dcall ?_ | refine (c1).dgcall ?_
   try simp only [E3, seval]
   simp only [hli, hla, hrw, E3, seval]
   first | refine (c2).acall ?_ | refine (c2).dcall ?_ | refine (c2).dgcall ?_
   try simp only [E3, seval]
   try simp only [E3, seval]
   first | refine (c3).acall ?_ | refine (c3).dcall ?_ | refine (c3).dgcall ?_
   try simp only [E3, seval]
   try simp only [E3, seval]
   refine Safe.rg rfl ?_
   simp only [b1C, bs0, bx0, di0, da0, E3, seval]
   first | refine (c4).acall ?_ | refine (c4).dcall ?_ | refine (c4).dgcall ?_
   try simp only [E3, seval]
   try simp only [E3, seval]
   refine Safe.rg rfl ?_
   simp only [b1B, hiw, E3, seval]
   refine Safe.keep [0, 2, 4, 5, 6, 7, 8, 10, 16, 17] ?_
   simp only [E3, seval]
   exact ih
  ·obtain rfl : j = i := by omega
   have hlt2 : ((j : Int) < (j : Int)) = False := eq_false (by omega)
   refine Safe.rg rfl ?_
   simp only [b1E, hlt2, E3, seval]
   refine Safe.cd rfl ?_
   simp only [E3, seval]
   refine Safe.rg rfl ?_
   simp only [b1D, bs0, bx0, hiw, di1, da1, hli, hla, E3, seval]
   first | refine (c1).acall ?_ | refine (c1).dcall ?_ | refine (c1).dgcall ?_
   try simp only [E3, seval]
   simp only [hli, hla, E3, seval]
   first | refine (c2).acall ?_ | refine (c2).dcall ?_ | refine (c2).dgcall ?_
   try simp only [E3, seval]
   try simp only [E3, seval]
   first | refine (c3).acall ?_ | refine (c3).dcall ?_ | refine (c3).dgcall ?_
   try simp only [E3, seval]
   try simp only [E3, seval]
   refine Safe.rg rfl ?_
   simp only [b1C, bs0, bx0, di0, da0, E3, seval]
   first | refine (c4).acall ?_ | refine (c4).dcall ?_ | refine (c4).dgcall ?_
   try simp only [E3, seval]
   try simp only [E3, seval]
   refine Safe.rg rfl ?_
   simp only [b1B, hiw, E3, seval]
   refine Safe.keep [0, 2, 4, 5, 6, 7, 8, 10, 16, 17] ?_
   simp only [E3, seval]
   exact ih
 ·refine Safe.inLoop ?_
  refine Safe.rg rfl ?_
  simp only [b1F, Int.lt_irrefl, E3, seval]
  refine Safe.cd rfl ?_
  simp only [E3, seval]
  refine Safe.keep [0, 2, 4, 5, 6, 7, 8, 10, 16, 17] ?_
  simp only [E3, seval]
  refine Safe.stl 1 _ ?_
  exact k
theorem e6h (hGr : a0z G) (hr : Rect b) (hlt0 : b0 < lid G 1) (hlt1 : b1 < lid G 1) (k : Safe ⟨Pr, mu, f, 114, rs, n0⟩ rest [(0, matV b), (2, .loc b0 0 0), (4, .loc b1 0 0), (5, .int .i64 i), (6, .mu (lid G 0) 0 (i + 1) (some (i + 1))), (16, .int .i64 b.length), (17, .int .i64 i)]
   (hap G [some ⟨2, (vec (i + 1) fun t => uI b t i t).map ZI.av⟩]) R) :
  Safe ⟨Pr, mu, f, 114, rs, n0⟩ (.inLoop c0N :: .inBlock 2 :: rest) [(0, matV b), (2, .loc b0 0 0), (4, .loc b1 0 0), (5, .int .i64 i), (6, .mu (lid G 0) 0 0 (some (i + 1))), (7, .int .i64 0), (16, .int .i64 b.length), (17, .int .i64 i)]
   (hap G [some ⟨2, []⟩]) R := by
 refine Safe.loopN (i + 1) (fun j => [(0, matV b), (2, .loc b0 0 0), (4, .loc b1 0 0), (5, .int .i64 i), (6, .mu (lid G 0) 0 j (some (i + 1))), (7, .int .i64 j), (16, .int .i64 b.length), (17, .int .i64 i)])
  (fun j => hap G [some ⟨2, (vec j fun t => uI b t i t).map ZI.av⟩]) rfl rfl (fun j hj ih => ?_) ?_
 ·have hle : ((j : Int) ≤ (i : Int)) = True := eq_true (by omega)
  have hiw : IntKind.wrap .i64 ((j : Int) + 1) = ((j + 1 : Nat) : Int) := by rw [a0e] <;> omega
  have ri : ∀ L, idxV (hap G L) 1 (matV b) (.int .i64 (i : Nat)) = some (.ro (vecV (mg b i)) 0) := fun L => by rw [a5N hn]; exact a9U _ b .i64 i hn
  have rj : ∀ L, idxV (hap G L) 1 (matV b) (.int .i64 (j : Nat)) = some (.ro (vecV (mg b j)) 0) := fun L => by rw [a5N (show j < b.length by omega)]; exact a9U _ b .i64 j (by omega)
  have hdot := e7N (mg b i) (mg b j) e (hm.row i) (hm.row j) (by unfold GB at he; omega) (by rw [hr i hn, hr j (by omega)])
  rw [← e3V] at hdot
  refine Safe.inLoop ?_
  refine Safe.rg rfl ?_
  simp only [b3F, hle, E3, seval]
  refine Safe.cd rfl ?_
  simp only [E3, seval]
  refine Safe.rg rfl ?_
  simp only [c0F, ri, rj, E3, seval]
  first | refine (hdot).acall ?_ | refine (hdot).dcall ?_ | refine (hdot).dgcall ?_
  try simp only [E3, seval]
  try simp only [E3, seval]
  refine Safe.rg rfl ?_
  simp only [c0E, E3, seval]
  refine Safe.lp rfl ?_
  refine Safe.keep [0, 2, 4, 5, 6, 7, 8, 10, 16, 17] ?_
  simp only [E3, seval]
  refine e6g hm he hn h64 hg hd (Nat.le_of_lt_succ hj) ?_
  have happ := fun env => c2d (env := env) (H := G) (L := [some ⟨2, (vec j fun t => uI b t i t).map ZI.av⟩, some ⟨2, [Z (uI b j i j)]⟩]) 0 (n0 := n0) (Nat.le_trans hG (a5g G 0)) (wd := 2) (bytes := 32) (f := ZI.av) (vec j fun t => uI b t i t) (canZ (uI b j i j)) (vec (j + 1) fun t => uI b t i t) (y := .agg [.bool (decide (uI b j i j < 0)), natV (limbs (uI b j i j).natAbs)]) (len := j) (c := i + 1) (a0v _ _).symm rfl rfl (b6r _ _) (by omega)
  simp only [List.set_cons_zero] at happ
  refine Safe.rg rfl ?_
  simp only [b7u, happ, E3, seval]
  refine Safe.rg rfl ?_
  simp only [b7t, hiw, E3, seval]
  refine Safe.keep [0, 2, 4, 5, 6, 7, 16, 17] ?_
  simp only [E3, seval]
  refine Safe.dropG (L := [some ⟨2, (vec (j + 1) fun t => uI b t i t).map ZI.av⟩]) hGr hG ?_ (fun c hc a ha => a0J (RC.row (f := ZI.av) ZI.cl RC.nil c hc a ha)) ih
  simp only [List.length_cons, List.length_nil, Nat.zero_add, List.all_cons, List.all_nil, b3B, b6M (id := lid G 1) (b := b0) _ _ (Nat.ne_of_lt hlt0), b6M (id := lid G 1) (b := b1) _ _ (Nat.ne_of_lt hlt1), e1C (id := lid G 1) (b := lid G 0) _ _ _ (by unfold lid; omega), c7W, Bool.and_true, Bool.true_and]
 ·refine Safe.inLoop ?_
  have hle : (((i + 1 : Nat) : Int) ≤ (i : Int)) = False := eq_false (by omega)
  refine Safe.rg rfl ?_
  simp only [b3F, hle, E3, seval]
  refine Safe.cd rfl ?_
  simp only [E3, seval]
  refine Safe.keep [0, 2, 4, 5, 6, 16, 17] ?_
  simp only [E3, seval]
  refine Safe.stl 1 _ ?_
  exact k
end
end Go.Abs
namespace Go.Abs
theorem Vok.take {k : Nat} {v : List ZI} (h : Vok k v) (n : Nat) : Vok k (v.take n) := ⟨by rw [List.length_take]; have := h.len; omega, fun x hx => h.el x (List.mem_of_mem_take hx)⟩
def sub (b : List (List ZI)) (k : Nat) : List (List ZI) := mat k fun i => (mg b i).take k
end Go.Abs
namespace Go.Abs
structure Rz (n c K : Nat) (rows : List (List ZI)) (f : Nat → Nat → Int) : Prop where
 len : rows.length = n
 wid : ∀ i, i < n → (mg rows i).length = c
 at_ : ∀ i k, i < n → k < c → zg (mg rows i) k = f i k
 ok : ∀ i, i < n → Vok K (mg rows i)
end Go.Abs
namespace Go.Abs
def a8U (w : Nat → Int) : Nat → Nat
 | 0 => 0
 | n + 1 => Int.gcd (a8U w n) (w n)
def sgF (w : Nat → Int) : Nat → Int
 | 0 => 1
 | n + 1 => if (∀ i, i < n → w i = 0) ∧ w n < 0 then -1 else sgF w n
def b2P (w : Nat → Int) (c : Nat) (i : Nat) : Int := w i / (sgF w c * (a8U w c : Int))
theorem c4I {w v : Nat → Int} : ∀ {n : Nat}, (∀ i, i < n → w i = v i) → a8U w n = a8U v n
 | 0, _ => rfl
 | n + 1, h => by rw [a8U, a8U, c4I fun i hi => h i (by omega), h n (by omega)]
theorem c9s {w v : Nat → Int} : ∀ {n : Nat}, (∀ i, i < n → w i = v i) → sgF w n = sgF v n
 | 0, _ => rfl
 | n + 1, h => by
  have e : (∀ i, i < n → w i = 0) = (∀ i, i < n → v i = 0) := by
   rw [eq_iff_iff]
   exact ⟨fun q i hi => by rw [← h i (by omega)]; exact q i hi, fun q i hi => by rw [h i (by omega)]; exact q i hi⟩
  unfold sgF
  rw [c9s fun i hi => h i (by omega), h n (by omega)]
  simp only [e]
theorem d7A (w : Nat → Int) : ∀ n, sgF w n = 1 ∨ sgF w n = -1
 | 0 => .inl rfl
 | n + 1 => by
  unfold sgF; split
  ·exact .inr rfl
  ·exact d7A w n
theorem d0x (w : Nat → Int) : ∀ {n i : Nat}, i < n → (a8U w n : Int) ∣ w i
 | 0, _, h => absurd h (by omega)
 | n + 1, i, h => by
  rw [a8U]
  by_cases e : i = n
  ·subst e; exact Int.gcd_dvd_right ..
  ·exact Int.dvd_trans (Int.gcd_dvd_left ..) (d0x w (by omega))
theorem b8V {w : Nat → Int} : ∀ {n : Nat}, a8U w n = 0 ↔ ∀ i, i < n → w i = 0
 | 0 => ⟨fun _ i h => absurd h (by omega), fun _ => rfl⟩
 | n + 1 => by
  rw [a8U, Int.gcd_eq_zero_iff]
  constructor
  ·rintro ⟨h1, h2⟩ i hi
   by_cases e : i = n
   ·subst e; exact h2
   ·exact (b8V (n := n)).1 (by omega) i (by omega)
  ·intro h
   exact ⟨by rw [(b8V (n := n)).2 fun i hi => h i (by omega)]; rfl, h n (by omega)⟩
theorem c7k (a : Int) (w : Nat → Int) : ∀ n, a8U (fun i => a * w i) n = a.natAbs * a8U w n
 | 0 => rfl
 | n + 1 => by
  rw [a8U, a8U, c7k a w n]
  rw [Int.gcd, Int.gcd, Int.natAbs_mul, Int.natAbs_natCast, Int.natAbs_natCast, Nat.gcd_mul_left]
theorem d3z {a : Int} (ha : a ≠ 0) {w : Nat → Int} : ∀ {n : Nat}, (∃ i, i < n ∧ w i ≠ 0) → sgF (fun i => a * w i) n = a.sign * sgF w n
 | 0, h => by obtain ⟨i, hi, _⟩ := h; omega
 | n + 1, h => by
  have e : (∀ i, i < n → a * w i = 0) = (∀ i, i < n → w i = 0) := by
   rw [eq_iff_iff]
   exact ⟨fun q i hi => by rcases Int.mul_eq_zero.1 (q i hi) with h | h; exact absurd h ha; exact h, fun q i hi => by rw [q i hi, Int.mul_zero]⟩
  by_cases h0 : ∀ i, i < n → w i = 0
  ·have hn : w n ≠ 0 := by
    obtain ⟨i, hi, hw⟩ := h
    by_cases e : i = n
    ·subst e; exact hw
    ·exact absurd (h0 i (by omega)) hw
   have hs0 : ∀ (v : Nat → Int) (m : Nat), (∀ i, i < m → v i = 0) → sgF v m = 1 := by
    intro v m
    induction m with
    | zero => intro _; rfl
    | succ m ih => intro hv; unfold sgF; rw [if_neg (by intro h; have := h.2; rw [hv m (by omega)] at this; omega)]; exact ih fun i hi => hv i (by omega)
   unfold sgF
   rw [hs0 w n h0, hs0 (fun i => a * w i) n fun i hi => by rw [h0 i hi, Int.mul_zero]]
   simp only [e]
   rcases Int.lt_or_gt_of_ne ha with ha' | ha'
   ·rw [Int.sign_eq_neg_one_of_neg ha']
    rcases Int.lt_or_gt_of_ne hn with hn' | hn'
    ·rw [if_neg (by intro h; have := h.2; have := Int.mul_pos_of_neg_of_neg ha' hn'; omega), if_pos ⟨h0, hn'⟩]; rfl
    ·rw [if_pos ⟨h0, Int.mul_neg_of_neg_of_pos ha' hn'⟩, if_neg (by intro h; have := h.2; omega)]; rfl
   ·rw [Int.sign_eq_one_of_pos ha', Int.one_mul]
    rcases Int.lt_or_gt_of_ne hn with hn' | hn'
    ·rw [if_pos ⟨h0, Int.mul_neg_of_pos_of_neg ha' hn'⟩, if_pos ⟨h0, hn'⟩]
    ·rw [if_neg (by intro h; have := h.2; have := Int.mul_pos ha' hn'; omega), if_neg (by intro h; have := h.2; omega)]
  ·have hex : ∃ i, i < n ∧ w i ≠ 0 := Classical.byContradiction fun hc => h0 fun i hi => Classical.byContradiction fun h1 => hc ⟨i, hi, h1⟩
   unfold sgF
   simp only [e]
   rw [if_neg (fun h => h0 h.1), if_neg (fun h => h0 h.1), d3z ha hex]
def Nz (w : Nat → Int) (c : Nat) : Prop := ∃ i, i < c ∧ w i ≠ 0
theorem e2e {w : Nat → Int} {c : Nat} (h : Nz w c) : a8U w c ≠ 0 := fun h0 => by
 obtain ⟨i, hi, hw⟩ := h
 exact hw (b8V.1 h0 i hi)
theorem e8k {w : Nat → Int} {c : Nat} (h : Nz w c) : sgF w c * (a8U w c : Int) ≠ 0 := by
 have := e2e h
 exact Int.mul_ne_zero (by rcases d7A w c with h | h <;> omega) (by omega)
theorem e1q {w : Nat → Int} {c i : Nat} (hi : i < c) : w i = (sgF w c * (a8U w c : Int)) * b2P w c i := by
 obtain ⟨q, hq⟩ := d0x w hi
 unfold b2P
 rcases Nat.eq_zero_or_pos (a8U w c) with h0 | h0
 ·rw [h0] at hq; rw [h0]; simp at hq ⊢; exact hq
 ·have hd : (sgF w c * (a8U w c : Int)) ∣ w i := by
   rcases d7A w c with h | h
   ·rw [h, Int.one_mul]; exact ⟨q, hq⟩
   ·rw [h]; exact ⟨-q, by rw [hq, Int.neg_mul, Int.one_mul, Int.neg_mul_neg]⟩
  rw [Int.mul_ediv_cancel' hd]
theorem c9H {a : Int} (ha : a ≠ 0) {w : Nat → Int} {c : Nat} (h : Nz w c) {i : Nat} (hi : i < c) : b2P (fun i => a * w i) c i = b2P w c i := by
 have h1 := e1q (w := w) hi
 have hne := e8k h
 unfold b2P
 rw [d3z ha h, c7k]
 have e : a.sign * sgF w c * ((a.natAbs * a8U w c : Nat) : Int) = a * (sgF w c * (a8U w c : Int)) := by
  rw [Int.natCast_mul]
  have key : ∀ t s m g : Int, t * s * (m * g) = t * m * (s * g) := by
   intro t s m g; rw [Int.mul_assoc, Int.mul_assoc, Int.mul_left_comm s m g]
  rw [key, Int.sign_mul_natAbs a]
 rw [e]
 show a * w i / _ = w i / _
 generalize b2P w c i = p at *
 generalize sgF w c * (a8U w c : Int) = x at *
 rw [h1, ← Int.mul_assoc, Int.mul_ediv_cancel_left _ (Int.mul_ne_zero ha hne), Int.mul_ediv_cancel_left _ hne]
theorem d5p {w v : Nat → Int} {c : Nat} (h : ∀ i, i < c → w i = v i) {i : Nat} (hi : i < c) : b2P w c i = b2P v c i := by
 unfold b2P; rw [c4I h, c9s h, h i hi]
theorem e1p {a b : Int} (ha : a ≠ 0) (hb : b ≠ 0) {w v : Nat → Int} {c : Nat} (hw : Nz w c) (h : ∀ i, i < c → a * w i = b * v i) {i : Nat} (hi : i < c) : b2P w c i = b2P v c i := by
 have hv : Nz v c := by
  obtain ⟨j, hj, hw⟩ := hw
  refine ⟨j, hj, fun h0 => ?_⟩
  have := h j hj
  rw [h0, Int.mul_zero] at this
  rcases Int.mul_eq_zero.1 this with h | h
  ·exact ha h
  ·exact hw h
 rw [← c9H ha hw hi, ← c9H hb hv hi]
 exact d5p h hi
end Go.Abs
namespace Go.Abs
def b8N (x : Nat → Rat) : Nat → Nat
 | 0 => 1
 | n + 1 => b8N x n * ((x n).den / Nat.gcd (b8N x n) (x n).den)
def outI (x : Nat → Rat) (c i : Nat) : Int := (x i).num * ((b8N x c / (x i).den : Nat) : Int)
theorem c7g (x : Nat → Rat) (n : Nat) : b8N x (n + 1) = Nat.lcm (b8N x n) (x n).den := by
 rw [b8N, Nat.lcm, Nat.mul_div_assoc _ (Nat.gcd_dvd_right _ _)]
theorem d0g (x : Nat → Rat) : ∀ n, 0 < b8N x n
 | 0 => Nat.one_pos
 | n + 1 => by rw [c7g]; exact Nat.lcm_pos (d0g x n) (x n).den_pos
theorem c4Q (x : Nat → Rat) : ∀ {n i : Nat}, i < n → (x i).den ∣ b8N x n
 | 0, _, h => absurd h (by omega)
 | n + 1, i, h => by
  rw [c7g]
  by_cases e : i = n
  ·subst e; exact Nat.dvd_lcm_right _ _
  ·exact Nat.dvd_trans (c4Q x (by omega)) (Nat.dvd_lcm_left _ _)
structure Sz (x : Nat → Rat) (c K : Nat) : Prop where
 ex : ∃ D : Int, D ≠ 0 ∧ D.natAbs < LB ^ K ∧ ∀ i, i < c → ∃ z : Int, (D : Rat) * x i = z ∧ z.natAbs < LB ^ K
theorem e4L (x : Nat → Rat) {c i : Nat} (hi : i < c) : ((b8N x c : Nat) : Rat) * x i = ((outI x c i : Int) : Rat) := by
 obtain ⟨m, hm⟩ := c4Q x hi
 unfold outI
 have hd := (x i).den_pos
 rw [hm, Nat.mul_div_cancel_left _ hd]
 have h1 : x i = ((x i).num : Rat) / ((x i).den : Rat) := by rw [← Rat.mkRat_eq_div, Rat.mkRat_self]
 have h2 : ((x i).den : Rat) ≠ 0 := by
  intro h
  have : ((x i).den : Nat) = 0 := by exact_mod_cast h
  omega
 rw [Rat.intCast_mul, Rat.natCast_mul]
 have h3 : (((m : Nat) : Int) : Rat) = ((m : Nat) : Rat) := rfl
 rw [h3]
 have h4 := Rat.div_mul_cancel (a := ((x i).num : Rat)) h2
 rw [← h1] at h4
 clear h1 hm
 generalize ((x i).den : Rat) = d at *
 generalize ((x i).num : Rat) = a at *
 generalize ((m : Nat) : Rat) = k
 generalize x i = y at *
 grind
end Go.Abs
namespace Go.Abs
theorem e5U {n : Nat} {B : Nat → Nat → Rat} : ∀ t c, c ∈ (gproc n B t).cs → c < t
 | 0, _, h => by simp [gproc] at h
 | t + 1, c, h => by
  have h' : c ∈ (c8t n (gproc n B t) t).cs := h
  unfold c8t at h'
  cases hf : b8W (fun p => (gproc n B t).g p t) (gproc n B t).cs.length n with
  | none => rw [hf] at h'; exact Nat.lt_succ_of_lt (e5U t c h')
  | some p =>
   rw [hf] at h'
   rcases List.mem_append.1 h' with h | h
   ·exact Nat.lt_succ_of_lt (e5U t c h)
   ·simp at h; omega
theorem d6x {n : Nat} {B : Nat → Nat → Rat} {t i : Nat} (h : i < (gproc n B t).cs.length) : (gproc n B t).cs.getD i 0 < t := by
 refine e5U (n := n) (B := B) t _ ?_
 rw [List.getD_eq_getElem?_getD, List.getElem?_eq_getElem h]
 exact List.getElem_mem h
end Go.Abs
namespace Go.Abs
def InC (j : JS) (c : Nat) (v : Nat → Rat) : Prop := ∀ k, k < c → v k = sumR (fun i => v (j.s.cs.getD i 0) * j.M i k) j.s.cs.length
structure RowP (j : JS) (c m i : Nat) (f : Nat → Int) : Prop where
 inn : InC j c fun k => (f k : Rat)
 lo : ∀ t, t < i → f (j.s.cs.getD t 0) = 0
 hi : ∀ t, m ≤ t → t < j.s.cs.length → t ≠ i → f (j.s.cs.getD t 0) = 0
 piv : f (j.s.cs.getD i 0) ≠ 0
section
variable {j : JS} {c : Nat} (hcs : ∀ t, t < j.s.cs.length → j.s.cs.getD t 0 < c)
include hcs
theorem e4r {m i : Nat} {f : Nat → Int} (hi : i < j.s.cs.length) (h : RowP j c m i f) : Nz f c := ⟨_, hcs i hi, h.piv⟩
omit hcs in
theorem d7G {m : Nat} {f : Nat → Int} (hf : RowP j c (m + 1) m f) : RowP j c m m f :=
 ⟨hf.inn, hf.lo, fun t h1 h2 h3 => hf.hi t (by omega) h2 h3, hf.piv⟩
theorem c9z {m i : Nat} {f : Nat → Int} (hmi : m ≤ i) (hi : i < j.s.cs.length) (hf : RowP j c m i f) (hpr : ∀ k, k < c → b2P f c k = f k) : ∀ k, k < c → f k = b2P (outI (j.M i) c) c k := by
 intro k hk
 have hall : ∀ t, t < j.s.cs.length → t ≠ i → ((f (j.s.cs.getD t 0) : Int) : Rat) = 0 := fun t ht hne => by
  have : f (j.s.cs.getD t 0) = 0 := by
   rcases Nat.lt_or_ge t i with h | h
   ·exact hf.lo t h
   ·exact hf.hi t (by omega) ht hne
  rw [this]; rfl
 have hM : ∀ k, k < c → ((f k : Int) : Rat) = (f (j.s.cs.getD i 0) : Rat) * j.M i k := fun k hk => by
  have h1 := hf.inn k hk
  rw [c1B hi fun t ht hne => by show ((f (j.s.cs.getD t 0) : Int) : Rat) * j.M t k = 0; rw [hall t ht hne]; grind] at h1
  exact h1
 rw [← hpr k hk]
 have hl := d0g (j.M i) c
 refine e1p (a := (b8N (j.M i) c : Int)) (b := f (j.s.cs.getD i 0)) (by omega) hf.piv (e4r hcs hi hf) (fun t ht => ?_) hk
 refine Rat.intCast_inj.1 ?_
 rw [Rat.intCast_mul, Rat.intCast_mul, hM t ht, ← e4L (j.M i) ht]
 have h3 : (((b8N (j.M i) c : Nat) : Int) : Rat) = ((b8N (j.M i) c : Nat) : Rat) := rfl
 rw [h3]
 generalize ((b8N (j.M i) c : Nat) : Rat) = l
 generalize (f (j.s.cs.getD i 0) : Rat) = p
 generalize j.M i t = y
 grind
end
end Go.Abs
namespace Go.Abs
def e8h (h c : Nat) (f g : Nat → Int) : Nat → Int := if f h = 0 then f else b2P (fun k => g h * f k - f h * g k) c
def Fs (cs : List Nat) (c : Nat) (F0 : Nat → Nat → Int) : Nat → Nat → Nat → Int
 | 0 => F0
 | k + 1 => fun i => if i < cs.length - (k + 1) then e8h (cs.getD (cs.length - (k + 1)) 0) c (Fs cs c F0 k i) (Fs cs c F0 k (cs.length - (k + 1))) else Fs cs c F0 k i
section
variable {n c e K : Nat} {B : Nat → Nat → Rat} (hB : Bd e B) (hn : n ≤ 64)
include hB hn
def F0s (n : Nat) (B : Nat → Nat → Rat) (c : Nat) : Nat → Nat → Int := fun i => b2P (ZgI n B c i) c
def Fk (n : Nat) (B : Nat → Nat → Rat) (c k : Nat) : Nat → Nat → Int := Fs (gproc n B c).cs c (F0s n B c) k
omit hB hn in
theorem e3y : ∀ t, t < (c8k n B c).s.cs.length → (c8k n B c).s.cs.getD t 0 < c := by
 intro t ht
 rw [d2t] at ht ⊢
 exact d6x ht
structure Fok (n c K : Nat) (B : Nat → Nat → Rat) (k : Nat) : Prop where
 row : ∀ i, i < (gproc n B c).cs.length → RowP (c8k n B c) c ((gproc n B c).cs.length - k) i (Fk n B c k i)
 idem : ∀ i, i < (gproc n B c).cs.length → ∀ t, t < c → b2P (Fk n B c k i) c t = Fk n B c k i t
 sz : ∀ i, i < (gproc n B c).cs.length → ∀ t, t < c → (Fk n B c k i t).natAbs < LB ^ (K + k * (K + 1))
omit hB hn in
theorem Fok.top {k i : Nat} (h : Fok n c K B k) (hi : i < (gproc n B c).cs.length) (hk : (gproc n B c).cs.length - k ≤ i + 1) : ∀ t, t < c → Fk n B c k i t = b2P (outI ((c8k n B c).M i) c) c t := by
 have hrow : RowP (c8k n B c) c ((gproc n B c).cs.length - k) i (Fk n B c k i) := h.row i hi
 have hlen : (c8k n B c).s.cs.length = (gproc n B c).cs.length := by rw [d2t]
 by_cases e : (gproc n B c).cs.length - k ≤ i
 ·exact c9z (e3y) e (by rw [hlen]; exact hi) hrow (h.idem i hi)
 ·have e2 : (gproc n B c).cs.length - k = i + 1 := by omega
  rw [e2] at hrow
  exact c9z (e3y) (Nat.le_refl i) (by rw [hlen]; exact hi) (d7G hrow) (h.idem i hi)
end
end Go.Abs
namespace Go.Abs
structure Alt (n : Nat) (F : (Nat → Nat → Rat) → Rat) : Prop where
 congr : ∀ M N, (∀ r c, r < n → c < n → M r c = N r c) → F M = F N
 eq0 : ∀ M s t, s ≠ t → s < n → t < n → (∀ c, M s c = M t c) → F M = 0
 lin : ∀ M t (x y : Rat) (u w : Nat → Rat), t < n → F (a0y M t fun c => x * u c + y * w c) = x * F (a0y M t u) + y * F (a0y M t w)
section
variable {n : Nat} {F : (Nat → Nat → Rat) → Rat} (h : Alt n F)
include h
theorem Alt.add {M : Nat → Nat → Rat} {t : Nat} (u w : Nat → Rat) (ht : t < n) : F (a0y M t fun c => u c + w c) = F (a0y M t u) + F (a0y M t w) := by
 have := h.lin M t 1 1 u w ht
 have e : (fun c => (1 : Rat) * u c + 1 * w c) = fun c => u c + w c := by funext c; grind
 rw [e] at this
 grind
theorem Alt.swap {M : Nat → Nat → Rat} {s t : Nat} (hst : s ≠ t) (hs : s < n) (ht : t < n) : F (b7Y s t M) = -F M := by
 let u := M s
 let w := M t
 have A : ∀ p q : Nat → Rat, (∀ c, p c = q c) → F (a0y (a0y M s p) t q) = 0 := fun p q hpq => h.eq0 _ s t hst hs ht fun c => by
  unfold a0y
  simp [hst, hpq c]
 have h0 := A (fun c => u c + w c) (fun c => u c + w c) fun _ => rfl
 rw [h.add _ _ ht, a1u hst, a1u hst, h.add _ _ hs, h.add _ _ hs, ← a1u hst, ← a1u hst, ← a1u hst, ← a1u hst, A u u fun _ => rfl, A w w fun _ => rfl] at h0
 have e1 : a0y (a0y M s u) t w = M := by
  show a0y (a0y M s (M s)) t (M t) = M
  rw [a5J]; exact a5J M t
 have e2 : a0y (a0y M s w) t u = b7Y s t M := by
  funext r c; unfold a0y b7Y
  by_cases h1 : r = s
  ·subst h1; simp [hst]; rfl
  ·by_cases h2 : r = t
   ·subst h2; simp [h1]; rfl
   ·simp [h1, h2]
 rw [e1, e2] at h0
 grind
theorem Alt.addrow {M : Nat → Nat → Rat} {s t : Nat} (x : Rat) (hst : s ≠ t) (hs : s < n) (ht : t < n) : F (a0y M t fun c => M t c + x * M s c) = F M := by
 have h1 := h.lin M t 1 x (M t) (M s) ht
 have e : (fun c => (1 : Rat) * M t c + x * M s c) = fun c => M t c + x * M s c := by funext c; grind
 rw [e, a5J] at h1
 have h0 : F (a0y M t (M s)) = 0 := h.eq0 _ s t hst hs ht fun c => by unfold a0y; simp [hst]
 rw [h1, h0]
 grind
theorem Alt.elim (M : Nat → Nat → Rat) : ∀ k, k < n → F (a9z M k) = F M
 | 0, _ => by congr 1; funext r c; unfold a9z; rw [if_neg (by omega)]
 | k + 1, hk => by
  rw [← Alt.elim M k (by omega), ← h.addrow (M := a9z M k) (s := 0) (t := k + 1) (-(M (k + 1) 0 / M 0 0)) (by omega) (by omega) hk]
  congr 1
  funext r c
  unfold a0y a9z
  by_cases e : r = k + 1
  ·subst e
   rw [if_pos ⟨by omega, Nat.le_refl _⟩, if_pos rfl]
   show _ = (if 0 < k + 1 ∧ k + 1 ≤ k then _ else _) + _ * (if 0 < 0 ∧ 0 ≤ k then _ else _)
   rw [if_neg (by omega), if_neg (by omega)]
  ·by_cases h2 : 0 < r ∧ r ≤ k
   ·rw [if_pos ⟨h2.1, by omega⟩, if_neg e, if_pos h2]
   ·rw [if_neg (by omega), if_neg e, if_neg h2]
end
end Go.Abs
namespace Go.Abs
theorem e3d {G : Heap} {n0 : Nat} {env : Env} {wd bytes id off len d : Nat} {y : AV} {ys : List AV} {r : Blk} (hr : hrow G id = some r) (hwd : r.wd = wd) (hle : off + len ≤ r.xs.length) (hnf : ¬ (off = 0 ∧ free G id = true))
  (hy : a0Z G wd false y = some ys) (hyl : 0 < ys.length) (hd : d < len + ys.length) (hb : (len + ys.length) * bytes ≤ 140737488355328) (h63 : len + ys.length ≤ 9223372036854775807) :
  appV n0 wd bytes false (.mu id off len (some d)) y env G = some (.mu G.length 0 (len + ys.length) none, env, G ++ [some ⟨wd, (r.xs.drop off).take len ++ ys⟩]) := by
 have ho : ((some d).any fun c => decide (len + ys.length ≤ c)) = false := by simp; omega
 have ho2 : ((some d).any fun c => decide (c < len + ys.length)) = true := by simp; omega
 simp only [appV, hy, hr, Option.bind_some]
 rw [if_neg (fun h => by rw [ho] at h; exact absurd h.2.2.2.2.2 (by decide)), if_neg (fun h => hnf ⟨h.2.1, h.2.2.2.2.1⟩), if_pos ⟨hwd, hle, hyl, ho2, hb, h63⟩]
theorem e1E {G : Heap} {id j : Nat} {r : Blk} {off len : Nat} {oc : Option Nat} (hj : j ≠ id) (h : G[j]? = some (some r)) (ha : AV.mu id off len oc ∈ r.flat) : free G id ≠ true := fun hf => by
 have := c1U.1 hf j r hj h _ ha
 cases this with
 | mu _ _ _ _ h => exact h rfl
end Go.Abs
namespace Go.Abs
theorem e3r {H L : Heap} {i k off : Nat} {b : Blk} (h : L[i]? = some (some b)) (hk : k < b.xs.length) : atV (hap H L) (.loc (lid H i) k off) = some ((b.xs.getD k .top).cells.drop off) := by
 rw [b3U, a0Q, h]; simp [hk]
def gsoD (b : List (List ZI)) (n : Nat) : List ZI := vec (n + 1) (dI b)
def gsoL (b : List (List ZI)) (n : Nat) : List (List ZI) := mat n fun i => vec i fun t => uI b t i t
def zz : AV := .agg [.nil, .nil]
def gh (H : Heap) (b : List (List ZI)) (i : Nat) : Heap := if i = 0 then hap H [some ⟨2, [zz]⟩, some ⟨2, [Z 1]⟩, some ⟨2, [.agg [.mu (lid H 1) 0 1 (some 1), .nil]]⟩]
 else hap H [some ⟨2, [zz]⟩, some ⟨2, [Z 1]⟩, some ⟨2, [.agg [.mu (lid H 3) 0 (i + 1) none, .mu (lid H 4) 0 i none]]⟩, some ⟨2, (gsoD b i).map ZI.av⟩, some ⟨1, (gsoL b i).map vecV⟩]
theorem c8S : Cl zz := .agg _ fun c hc => by
 simp only [List.mem_cons, List.not_mem_nil, or_false] at hc
 rcases hc with rfl | rfl <;> exact .nil
section
variable {H : Heap} (hH : a0z H) {b : List (List ZI)} {i : Nat}
theorem c7j {H L : Heap} (hH : a0z H) (h : ∀ b, some b ∈ L → ∀ a ∈ b.flat, Ref (fun j => j < H.length + L.length) a) : a0z (hap H L) := by
 intro id bl hb a ha
 have hlen : (hap H L).length = H.length + L.length := by simp [hap]
 unfold hap at hb
 rcases Nat.lt_or_ge id H.length with hi | hi
 ·rw [List.getElem?_append_left hi] at hb
  exact (hH id bl hb a ha).mono fun j hj => by rw [hlen]; omega
 ·rw [List.getElem?_append_right hi] at hb
  exact (h bl (List.mem_of_getElem? hb) a ha).mono fun j hj => by rw [hlen]; exact hj
theorem e3n {α : Type} {wd : Nat} {f : α → AV} (hf : ∀ x, Cl (f x)) {l : List α} {S : Nat → Prop} : ∀ a ∈ (Blk.mk wd (l.map f)).flat, Ref S a := fun a ha => (a4E wd f l hf a ha).ref
include hH
theorem e5l : a0z (gh H b i) := by
 unfold gh
 split
 ·refine c7j hH fun bl hb a ha => ?_
  simp only [List.mem_cons, List.not_mem_nil, or_false] at hb
  rcases hb with hb | hb | hb
  ·cases hb; exact (c8K c8S a ha).ref
  ·cases hb; exact (c8K (Z_cl 1) a ha).ref
  ·cases hb
   simp only [Blk.flat, List.flatMap_cons, List.flatMap_nil, List.append_nil, AV.cells, List.mem_cons, List.not_mem_nil, or_false] at ha
   rcases ha with rfl | rfl
   ·exact .mu _ _ _ _ (by simp [lid])
   ·exact .nil
 ·refine c7j hH fun bl hb a ha => ?_
  simp only [List.mem_cons, List.not_mem_nil, or_false] at hb
  rcases hb with hb | hb | hb | hb | hb
  ·cases hb; exact (c8K c8S a ha).ref
  ·cases hb; exact (c8K (Z_cl 1) a ha).ref
  ·cases hb
   simp only [Blk.flat, List.flatMap_cons, List.flatMap_nil, List.append_nil, AV.cells, List.mem_cons, List.not_mem_nil, or_false] at ha
   rcases ha with rfl | rfl
   ·exact .mu _ _ _ _ (by simp [lid])
   ·exact .mu _ _ _ _ (by simp [lid])
  ·cases hb; exact e3n ZI.cl a ha
  ·cases hb; exact e3n a0x a ha
omit hH in
theorem e7z : lid H 2 < (gh H b i).length ∧ H.length ≤ (gh H b i).length ∧ lid H 0 < (gh H b i).length := by
 unfold gh
 split <;> simp [hap, lid]
omit hH in
theorem e8r (b) (i : Nat) : ∃ dr lr dd ll, GsoAt b i (gh H b i) dr lr (lid H 2) dd ll := by
 unfold gh
 by_cases h0 : i = 0
 ·subst h0
  rw [if_pos rfl]
  refine ⟨.mu (lid H 1) 0 1 (some 1), .nil, lid H 1, 0, fun L => by rw [a4k, a0Q]; rfl, fun L off => by rw [a4k, e3r (i := 2) (k := 0) rfl (by simp)]; rfl, fun L k hk => ?_, fun L k hk => ?_, fun L j hj => by omega, fun L j hj => by omega⟩
  ·obtain rfl : k = 0 := by omega
   rw [a4k, c3T H _ 2 1 0 1 (some 1) .i64 0 rfl rfl (by omega)]
  ·obtain rfl : k = 0 := by omega
   rw [a4k, b1t H _ 1 0 rfl (by simp), d9J]; rfl
 ·rw [if_neg h0]
  refine ⟨.mu (lid H 3) 0 (i + 1) none, .mu (lid H 4) 0 i none, lid H 3, lid H 4, fun L => by rw [a4k, a0Q]; rfl, fun L off => by rw [a4k, e3r (i := 2) (k := 0) rfl (by simp)]; rfl, fun L k hk => ?_, fun L k hk => ?_, fun L j hj => ?_, fun L j hj => ?_⟩
  ·rw [a4k, c3T H _ 2 3 0 (i + 1) none .i64 k rfl rfl (by omega), Nat.zero_add]
  ·rw [a4k, b1t H _ 3 k rfl (by simp [gsoD, a0v]; omega)]
   unfold gsoD
   rw [d3q (by omega)]
  ·rw [a4k, c3T H _ 1 4 0 i none .i64 j rfl rfl hj, Nat.zero_add]
  ·rw [a4k, b1t H _ 4 j rfl (by simp [gsoL, a1r]; omega)]
   rw [List.getD_eq_getElem?_getD, List.getElem?_map, List.getElem?_eq_getElem (by simp [gsoL, a1r]; omega)]
   unfold gsoL
   rw [d8m]; rfl
end
theorem d6R (a c : AV) (id off len : Nat) (oc : Option Nat) : upd (.agg [a, c]) 2 0 1 (.mu id off len oc) = .agg [.mu id off len oc, c] := by simp [upd, a2w, AV.cells]
theorem d6Q (a c : AV) (id off len : Nat) (oc : Option Nat) : upd (.agg [a, c]) 2 1 1 (.mu id off len oc) = .agg [a, .mu id off len oc] := by simp [upd, a2w, AV.cells]
theorem d7q (H : Heap) {n i : Nat} {f : Nat → Int} (h : i ≤ n) : slcV H 2 (.sl 2 ((vec n f).map ZI.av)) none (some (.int .i64 (i : Nat))) (some (.int .i64 (i : Nat))) = some (vecV (vec i f)) := by
 simp only [slcV, a3T, Option.bind_some]
 rw [if_pos ⟨trivial, rfl, by omega, by omega, Int.le_refl _, by rw [List.length_map, a0v]; omega⟩]
 simp only [Int.toNat_natCast, Int.toNat_zero, List.drop_zero, Nat.sub_zero, vecV]
 rw [← List.map_take]
 congr 3
 unfold vec
 rw [← List.map_take, List.take_range, Nat.min_eq_left h]
theorem c7P {α : Type} (id : Nat) {f : α → AV} (hf : ∀ x, Cl (f x)) (l : List α) : (l.map f).map (a3B id) = l.map f := by
 rw [List.map_map]
 exact List.map_congr_left fun x _ => b0Z (a0J (hf x))
theorem e1a (H : Heap) (i j o l o2 l2 : Nat) (oc oc2 : Option Nat) (h : j ≠ i) : a3B (lid H i) (.agg [.mu (lid H i) o l oc, .mu (lid H j) o2 l2 oc2]) = .agg [.top, .mu (lid H j) o2 l2 oc2] := by
 have h1 : nref (lid H i) (.mu (lid H i) o l oc) = false := by rw [c2S]; simp
 have h2 : nref (lid H i) (.mu (lid H j) o2 l2 oc2) = true := by rw [c2S]; simp [h]
 have h3 : nref (lid H i) (.agg [.mu (lid H i) o l oc, .mu (lid H j) o2 l2 oc2]) = false := by rw [b6N]; simp [h1]
 unfold a3B
 rw [h3]
 simp [topd, h1, h2]
theorem e0Z (H : Heap) (i j o l o2 l2 : Nat) (oc oc2 : Option Nat) (h : j ≠ i) : a3B (lid H i) (.agg [.mu (lid H j) o2 l2 oc2, .mu (lid H i) o l oc]) = .agg [.mu (lid H j) o2 l2 oc2, .top] := by
 have h1 : nref (lid H i) (.mu (lid H i) o l oc) = false := by rw [c2S]; simp
 have h2 : nref (lid H i) (.mu (lid H j) o2 l2 oc2) = true := by rw [c2S]; simp [h]
 have h3 : nref (lid H i) (.agg [.mu (lid H j) o2 l2 oc2, .mu (lid H i) o l oc]) = false := by rw [b6N]; simp [h1]
 unfold a3B
 rw [h3]
 simp [topd, h1, h2]
theorem c1T (H : Heap) {i j : Nat} (bl : Blk) (k off : Nat) (h : j ≠ i) : frz (lid H i) bl (.loc (lid H j) k off) = .loc (lid H j) k off := a4l (.loc _ _ _ (by unfold lid; omega))
theorem e5v (H : Heap) {i j : Nat} (bl : Blk) (off len : Nat) (oc : Option Nat) (h : j ≠ i) : frz (lid H i) bl (.mu (lid H j) off len oc) = .mu (lid H j) off len oc := a4l (.mu _ _ _ _ (by unfold lid; omega))
theorem d3Y (id : Nat) (bl : Blk) (a c : AV) : frz id bl (.agg [a, c]) = .agg [frz id bl a, frz id bl c] := by simp [frz]
theorem d3W {α : Type} (H : Heap) (i wd : Nat) (f : α → AV) (l : List α) (len : Nat) (oc : Option Nat) (h : len = l.length) : frz (lid H i) ⟨wd, l.map f⟩ (.mu (lid H i) 0 len oc) = .sl wd (l.map f) := a8F i wd f l len oc h
noncomputable def c7p (b : List (List ZI)) : AV := if gd (Gr b) b.length = b.length then .tup [.agg [vecV (gsoD b b.length), matV (gsoL b b.length)], .bool true] else .tup [zz, .bool false]
theorem d9W (b : List (List ZI)) : Cl (c7p b) := by
 unfold c7p
 split
 ·exact b5R (.agg _ fun c hc => by
   simp only [List.mem_cons, List.not_mem_nil, or_false] at hc
   rcases hc with rfl | rfl
   ·exact a0x _
   ·exact a9V _) (.bool _)
 ·exact b5R c8S (.bool _)
theorem d6B (b : List (List ZI)) (e : Nat) (hm : Mok e b) (he : GB e + GB e + 8 < 17592186044000) (hr : Rect b) (h0 : 0 < b.length) (h64 : b.length ≤ 64) : a0f Pr b5Y [matV b] (c7p b) := by
 refine a0f.intro d0s d0q (Nat.le_of_ble_eq_true rfl) (d9W b) fun H hH => ?_
 refine Safe.rg rfl ?_
 simp only [c0L, E3, Nat.reduceLeDiff, Nat.reduceSub, Nat.reduceAdd, Nat.reduceEqDiff, reduceCtorEq, ↓reduceIte]
 refine Safe.rg rfl ?_
 simp only [c0K, E3, Nat.reduceLeDiff, Nat.reduceSub, Nat.reduceAdd, Nat.reduceEqDiff, reduceCtorEq, ↓reduceIte]
 first | refine (c7t 1 (by decide) (by decide)).acall ?_ | refine (c7t 1 (by decide) (by decide)).dcall ?_ | refine (c7t 1 (by decide) (by decide)).dgcall ?_
 try simp only [E3, Nat.reduceLeDiff, Nat.reduceSub, Nat.reduceAdd, Nat.reduceEqDiff, reduceCtorEq, ↓reduceIte]
 try simp only [E3, Nat.reduceLeDiff, Nat.reduceSub, Nat.reduceAdd, Nat.reduceEqDiff, reduceCtorEq, ↓reduceIte]
 refine Safe.rg rfl ?_
 simp only [c0J, E3, Nat.reduceLeDiff, Nat.reduceSub, Nat.reduceAdd, Nat.reduceEqDiff, reduceCtorEq, ↓reduceIte]
 refine Safe.lp rfl ?_
 refine Safe.keep [0, 2, 4, 16, 17] ?_
 simp only [E3, Nat.reduceLeDiff, Nat.reduceSub, Nat.reduceAdd, Nat.reduceEqDiff, reduceCtorEq, ↓reduceIte]
 refine Safe.loopW (fun i : Nat => b.length - i) (fun i => [(0, matV b), (2, .loc (lid H 0) 0 0), (4, .loc (lid H 2) 0 0), (16, .int .i64 b.length), (17, .int .i64 i)]) (fun i => gh H b i)
  (fun i => i ≤ b.length ∧ gd (Gr b) i = i) 0 rfl rfl ⟨Nat.zero_le _, rfl⟩ ?_
 rintro i ⟨hi, hg⟩ ih
 refine Safe.inLoop ?_
 by_cases hlt' : i < b.length
 ·have hlt : ((i : Int) < (b.length : Int)) = True := eq_true (by omega)
  have hiw : IntKind.wrap .i64 ((i : Int) + 1) = ((i + 1 : Nat) : Int) := by rw [a0e] <;> omega
  obtain ⟨dr, lr, dd, ll, hd⟩ := e8r (H := H) b i
  have hGr := e5l hH (b := b) (i := i)
  obtain ⟨hl1, hlH, hl0⟩ := e7z (H := H) (b := b) (i := i)
  rw [← a1Y (gh H b i)]
  have hmk := fun env => c1M (H := gh H b i) env [] 2 32 (.agg [.bool false, .nil]) .i64 .i64 (i + 1) (by decide) (by omega) (by omega)
  simp only [List.nil_append, List.length_nil] at hmk
  refine Safe.rg rfl ?_
  simp only [b3G, hlt, E3, Nat.reduceLeDiff, Nat.reduceSub, Nat.reduceAdd, Nat.reduceEqDiff, reduceCtorEq, ↓reduceIte]
  refine Safe.cd rfl ?_
  simp only [E3, Nat.reduceLeDiff, Nat.reduceSub, Nat.reduceAdd, Nat.reduceEqDiff, reduceCtorEq, ↓reduceIte]
  refine Safe.rg rfl ?_
  simp only [c0I, E3, Nat.reduceLeDiff, Nat.reduceSub, Nat.reduceAdd, Nat.reduceEqDiff, reduceCtorEq, ↓reduceIte]
  refine Safe.rg rfl ?_
  simp only [c0H, hiw, hmk, E3, Nat.reduceLeDiff, Nat.reduceSub, Nat.reduceAdd, Nat.reduceEqDiff, reduceCtorEq, ↓reduceIte]
  refine Safe.rg rfl ?_
  simp only [c0G, E3, Nat.reduceLeDiff, Nat.reduceSub, Nat.reduceAdd, Nat.reduceEqDiff, reduceCtorEq, ↓reduceIte]
  refine Safe.lp rfl ?_
  refine Safe.keep [0, 2, 4, 5, 6, 7, 16, 17] ?_
  simp only [E3, Nat.reduceLeDiff, Nat.reduceSub, Nat.reduceAdd, Nat.reduceEqDiff, reduceCtorEq, ↓reduceIte]
  refine e6h hm he hlt' h64 hg hd hlH hGr hr (by unfold lid at *; omega) (by unfold lid at *; omega) ?_
  have hli : idxV (hap (gh H b i) [some ⟨2, (vec (i + 1) fun t => uI b t i t).map ZI.av⟩]) 2 (.mu (lid (gh H b i) 0) 0 (i + 1) (some (i + 1))) (.int .i64 (i : Nat)) = some (.loc (lid (gh H b i) 0) i 0) := d0i (by omega)
  have hla : atV (hap (gh H b i) [some ⟨2, (vec (i + 1) fun t => uI b t i t).map ZI.av⟩]) (.loc (lid (gh H b i) 0) i 0) = some (Z (uI b i i i)).cells := e7U (f := fun t => uI b t i t) (by omega)
  have p0 := (b5M hg i (Nat.le_refl _)).1
  have huz := e3X (b := b) p0
  have hub := (c9j hm p0 (by omega) (i := i) i (Nat.le_refl _)).2
  have hsg := b7S (canZ (uI b i i i)) (e0w hub (by omega))
  rw [a5h] at hsg
  refine Safe.rg rfl ?_
  simp only [b7s, hli, hla, E3, Nat.reduceLeDiff, Nat.reduceSub, Nat.reduceAdd, Nat.reduceEqDiff, reduceCtorEq, ↓reduceIte]
  first | refine (hsg).acall ?_ | refine (hsg).dcall ?_ | refine (hsg).dgcall ?_
  try simp only [E3, Nat.reduceLeDiff, Nat.reduceSub, Nat.reduceAdd, Nat.reduceEqDiff, reduceCtorEq, ↓reduceIte]
  have hgs := e5n hm (show i < 64 by omega) hg
  by_cases hpos : 0 < dI b (i + 1)
  ·have hng : ((uI b i i i).sign ≤ 0) = False := eq_false (by rw [huz]; have := Int.sign_eq_one_of_pos hpos; omega)
   simp only [hng, E3, Nat.reduceLeDiff, Nat.reduceSub, Nat.reduceAdd, Nat.reduceEqDiff, reduceCtorEq, ↓reduceIte]
   refine Safe.cd rfl ?_
   simp only [E3, Nat.reduceLeDiff, Nat.reduceSub, Nat.reduceAdd, Nat.reduceEqDiff, reduceCtorEq, ↓reduceIte]
   have hg1 := hgs.2 hpos
   refine Safe.freezeB 0 hGr hlH rfl (a4E 2 ZI.av _ ZI.cl) ?_
   have hf0 : ∀ bl, frz (lid (gh H b i) 0) bl (.loc (lid H 0) 0 0) = .loc (lid H 0) 0 0 := fun bl => a4l (.loc _ _ _ (by unfold lid at *; omega))
   have hf2 : ∀ bl, frz (lid (gh H b i) 0) bl (.loc (lid H 2) 0 0) = .loc (lid H 2) 0 0 := fun bl => a4l (.loc _ _ _ (by unfold lid at *; omega))
   refine Safe.keep [0, 2, 4, 5, 6, 16, 17] ?_
   simp only [a8F 0 2 ZI.av (vec (i + 1) fun t => uI b t i t) (i + 1) (some (i + 1)) (a0v _ _).symm, hf0, hf2, E3, Nat.reduceLeDiff, Nat.reduceSub, Nat.reduceAdd, Nat.reduceEqDiff, reduceCtorEq, ↓reduceIte]
   refine Safe.dropG (L := []) hGr hlH ?_ (fun c hc => by cases hc) ?_
   ·simp only [List.length_nil, List.all_cons, List.all_nil, b3B, b6M (id := lid (gh H b i) 0) (b := lid H 0) _ _ (by unfold lid at *; omega), b6M (id := lid (gh H b i) 0) (b := lid H 2) _ _ (by unfold lid at *; omega), d7V, c7W, Bool.and_true, Bool.true_and]
   rw [a1Y]
   have hlv : ∀ L, idxV L 2 (.sl 2 ((vec (i + 1) fun t => uI b t i t).map ZI.av)) (.int .i64 (i : Nat)) = some (.ro (Z (uI b i i i)) 0) := fun L => d3p L (f := fun t => uI b t i t) (by omega)
   unfold gh
   by_cases hi0 : i = 0
   ·subst hi0
    rw [if_pos rfl]
    have happ := fun env => e3d (env := env) (n0 := H.length) (wd := 2) (bytes := 32) (id := lid H 1) (off := 0) (len := 1) (d := 1) (y := .sl 2 [.agg [.bool (decide (uI b 0 0 0 < 0)), natV (limbs (uI b 0 0 0).natAbs)]]) (ys := [Z (uI b 0 0 0)]) (G := hap H [some ⟨2, [zz]⟩, some ⟨2, [Z 1]⟩, some ⟨2, [.agg [.mu (lid H 1) 0 1 (some 1), .nil]]⟩]) (r := ⟨2, [Z 1]⟩) (by rw [a0Q]; rfl) rfl (by simp)
     (fun h => absurd h.2 (e1E (j := lid H 2) (r := ⟨2, [.agg [.mu (lid H 1) 0 1 (some 1), .nil]]⟩) (off := 0) (len := 1) (oc := some 1) (by simp [lid]) (by unfold hap lid; rw [List.getElem?_append_right (by omega), Nat.add_sub_cancel_left]; rfl) (by simp [Blk.flat, AV.cells])))
     (a2b _ 2 _) (by simp) (by simp) (by simp) (by simp)
    simp only [b8M, b9k, List.cons_append, List.nil_append, List.length_cons, List.length_nil, Nat.reduceAdd, List.drop_zero, List.take_succ_cons, List.take_zero, List.take_nil] at happ
    refine Safe.rg rfl ?_
    simp only [b1A, hlv, happ, d6R, E3, Nat.reduceLeDiff, Nat.reduceSub, Nat.reduceAdd, Nat.reduceEqDiff, reduceCtorEq, ↓reduceIte]
    have hsl := fun L => d7q L (n := 0 + 1) (i := 0) (f := fun t => uI b t 0 t) (by omega)
    have hcb : clb (vecV (vec 0 fun t => uI b t 0 t)) = true := c4U.2 (a0x _)
    have happ2 := fun env L => c8N (H := H) (L := L) H.length env 1 24 false (.sl 1 [vecV (vec 0 fun t => uI b t 0 t)]) [vecV (vec 0 fun t => uI b t 0 t)] (a2b _ 1 _) (by decide) (by simp) (by simp)
    refine Safe.rg rfl ?_
    simp only [b1z, hsl, hcb, happ2, d6Q, E3, Nat.reduceLeDiff, Nat.reduceSub, Nat.reduceAdd, Nat.reduceEqDiff, reduceCtorEq, ↓reduceIte]
    refine Safe.rg rfl ?_
    simp only [b1y, hiw, E3, Nat.reduceLeDiff, Nat.reduceSub, Nat.reduceAdd, Nat.reduceEqDiff, reduceCtorEq, ↓reduceIte]
    refine Safe.keep [0, 2, 4, 16, 17] ?_
    simp only [E3, Nat.reduceLeDiff, Nat.reduceSub, Nat.reduceAdd, Nat.reduceEqDiff, reduceCtorEq, ↓reduceIte]
    have := ih 1 ⟨hlt', hg1⟩ (by omega)
    unfold gh at this
    rw [if_neg (by decide)] at this
    have eD : (gsoD b 1).map ZI.av = [Z 1, Z (uI b 0 0 0)] := by
     unfold gsoD
     simp only [vec, List.range_succ, List.range_zero, List.nil_append, List.map_cons, List.map_nil, List.cons_append, d9J]
     rw [huz]; rfl
    have eL : (gsoL b 1).map vecV = [vecV (vec 0 fun t => uI b t 0 t)] := rfl
    rw [eD, eL] at this
    exact this
   ·rw [if_neg hi0]
    have happ := fun env => d3e (L := [some ⟨2, [zz]⟩, some ⟨2, [Z 1]⟩, some ⟨2, [.agg [.mu (lid H 3) 0 (i + 1) none, .mu (lid H 4) 0 i none]]⟩, some ⟨2, (gsoD b i).map ZI.av⟩, some ⟨1, (gsoL b i).map vecV⟩]) hH (i := 3) (n0 := H.length) (wd := 2) (bytes := 32) (len := i + 1) (env := env)
     (y := .sl 2 [.agg [.bool (decide (uI b i i i < 0)), natV (limbs (uI b i i i).natAbs)]]) (xs := (gsoD b i).map ZI.av) (ys := [Z (uI b i i i)]) rfl (by simp [gsoD, a0v]) (a5g H 3) (a2b _ 2 _)
     (fun a ha => by
      simp only [List.flatMap_cons, List.flatMap_nil, List.append_nil] at ha
      exact a0J (a5T (Z_cl _) a ha)) (fun a ha => by obtain ⟨y, _, rfl⟩ := List.mem_map.1 ha; exact a0J (ZI.cl y)) (by simp; omega) (by simp; omega)
    simp only [b5h, b8g, c2L, List.map_cons, List.map_nil, c7P _ ZI.cl, c7P _ a0x, b0Z (a0J c8S), b0Z (a0J (Z_cl _)), e1a H 3 4 _ _ _ _ _ _ (by decide), List.length_cons, List.length_nil, Nat.zero_add, List.set_cons_succ, List.set_cons_zero] at happ
    refine Safe.rg rfl ?_
    simp only [b1A, hlv, happ, d6R, E3, Nat.reduceLeDiff, Nat.reduceSub, Nat.reduceAdd, Nat.reduceEqDiff, reduceCtorEq, ↓reduceIte]
    have hsl := fun L => d7q L (n := i + 1) (i := i) (f := fun t => uI b t i t) (by omega)
    have hcb : clb (vecV (vec i fun t => uI b t i t)) = true := c4U.2 (a0x _)
    have happ2 := fun env => d3e (L := [some ⟨2, [zz]⟩, some ⟨2, [Z 1]⟩, some ⟨2, [.agg [.mu (lid H 3) 0 (i + 1 + 1) none, .mu (lid H 4) 0 i none]]⟩, some ⟨2, (gsoD b i).map ZI.av ++ [Z (uI b i i i)]⟩, some ⟨1, (gsoL b i).map vecV⟩]) hH (i := 4) (n0 := H.length) (wd := 1) (bytes := 24) (len := i) (env := env)
     (y := .sl 1 [vecV (vec i fun t => uI b t i t)]) (xs := (gsoL b i).map vecV) (ys := [vecV (vec i fun t => uI b t i t)]) rfl (by simp [gsoL, a1r]) (a5g H 4) (a2b _ 1 _)
     (fun a ha => by
      simp only [List.flatMap_cons, List.flatMap_nil, List.append_nil] at ha
      exact a0J (a5T (a0x _) a ha)) (fun a ha => by obtain ⟨y, _, rfl⟩ := List.mem_map.1 ha; exact a0J (a0x y)) (by simp; omega) (by simp; omega)
    simp only [b5h, b8g, c2L, List.map_append, List.map_cons, List.map_nil, c7P _ ZI.cl, c7P _ a0x, b0Z (a0J c8S), b0Z (a0J (Z_cl _)), e0Z H 4 3 _ _ _ _ _ _ (by decide), List.length_cons, List.length_nil, Nat.zero_add, List.set_cons_succ, List.set_cons_zero] at happ2
    refine Safe.rg rfl ?_
    simp only [b1z, hsl, hcb, happ2, d6Q, E3, Nat.reduceLeDiff, Nat.reduceSub, Nat.reduceAdd, Nat.reduceEqDiff, reduceCtorEq, ↓reduceIte]
    refine Safe.rg rfl ?_
    simp only [b1y, hiw, E3, Nat.reduceLeDiff, Nat.reduceSub, Nat.reduceAdd, Nat.reduceEqDiff, reduceCtorEq, ↓reduceIte]
    refine Safe.keep [0, 2, 4, 16, 17] ?_
    simp only [E3, Nat.reduceLeDiff, Nat.reduceSub, Nat.reduceAdd, Nat.reduceEqDiff, reduceCtorEq, ↓reduceIte]
    have := ih (i + 1) ⟨hlt', hg1⟩ (by omega)
    unfold gh at this
    rw [if_neg (by omega)] at this
    have eD : (gsoD b (i + 1)).map ZI.av = (gsoD b i).map ZI.av ++ [Z (uI b i i i)] := by
     unfold gsoD
     rw [b6r, List.map_append, huz]; rfl
    have eL : (gsoL b (i + 1)).map vecV = (gsoL b i).map vecV ++ [vecV (vec i fun t => uI b t i t)] := by
     unfold gsoL
     rw [c1N, List.map_append]; rfl
    rw [eD, eL] at this
    exact this
  ·have hng : ((uI b i i i).sign ≤ 0) = True := eq_true (by rw [huz]; have := Int.sign_nonpos_iff (x := dI b (i + 1)); omega)
   simp only [hng, E3, Nat.reduceLeDiff, Nat.reduceSub, Nat.reduceAdd, Nat.reduceEqDiff, reduceCtorEq, ↓reduceIte]
   refine Safe.cd rfl ?_
   simp only [E3, Nat.reduceLeDiff, Nat.reduceSub, Nat.reduceAdd, Nat.reduceEqDiff, reduceCtorEq, ↓reduceIte]
   obtain ⟨X, hX⟩ : ∃ X, gh H b i = hap H (some ⟨2, [zz]⟩ :: X) := by
    unfold gh
    split <;> exact ⟨_, rfl⟩
   rw [hX, a4k]
   simp only [List.cons_append]
   refine Safe.rg rfl ?_
   simp only [b7r, E3, Nat.reduceLeDiff, Nat.reduceSub, Nat.reduceAdd, Nat.reduceEqDiff, reduceCtorEq, ↓reduceIte]
   refine Safe.rt rfl ?_
   simp only [E3, Nat.reduceLeDiff, Nat.reduceSub, Nat.reduceAdd, Nat.reduceEqDiff, reduceCtorEq, ↓reduceIte]
   unfold c7p
   have hng1 : gd (Gr b) (i + 1) ≠ i + 1 := fun h => hpos (hgs.1 h)
   have := e5m hng1 (b.length - (i + 1))
   rw [show i + 1 + (b.length - (i + 1)) = b.length by omega] at this
   rw [if_neg (by omega)]
   exact ⟨rfl, _, rfl⟩
 ·have hin : i = b.length := by omega
  subst hin
  unfold gh
  rw [if_neg (by omega)]
  refine Safe.rg rfl ?_
  simp only [b3G, Int.lt_irrefl, E3, Nat.reduceLeDiff, Nat.reduceSub, Nat.reduceAdd, Nat.reduceEqDiff, reduceCtorEq, ↓reduceIte]
  refine Safe.cd rfl ?_
  simp only [E3, Nat.reduceLeDiff, Nat.reduceSub, Nat.reduceAdd, Nat.reduceEqDiff, reduceCtorEq, ↓reduceIte]
  refine Safe.freeze 3 hH rfl rfl (a4E 2 ZI.av _ ZI.cl) ?_
  simp only [b4P c8S, c1T H _ 0 0 (show 0 ≠ 3 by decide), c1T H _ 0 0 (show 2 ≠ 3 by decide), d3Y, e5v H _ _ _ _ (show 4 ≠ 3 by decide), d3W H 3 2 ZI.av (gsoD b b.length) (b.length + 1) none (by simp [gsoD, a0v]), d9f _ _ vecV _ a0x, E3, Nat.reduceLeDiff, Nat.reduceSub, Nat.reduceAdd, Nat.reduceEqDiff, reduceCtorEq, ↓reduceIte]
  refine Safe.freeze 4 hH rfl rfl (a4E 1 vecV _ a0x) ?_
  simp only [b4P c8S, c1T H _ 0 0 (show 0 ≠ 4 by decide), c1T H _ 0 0 (show 2 ≠ 4 by decide), d3Y, d3W H 4 1 vecV (gsoL b b.length) b.length none (by simp [gsoL, a1r]), E3, Nat.reduceLeDiff, Nat.reduceSub, Nat.reduceAdd, Nat.reduceEqDiff, reduceCtorEq, ↓reduceIte]
  refine Safe.rg rfl ?_
  simp only [b7q, E3, Nat.reduceLeDiff, Nat.reduceSub, Nat.reduceAdd, Nat.reduceEqDiff, reduceCtorEq, ↓reduceIte]
  refine Safe.rt rfl ?_
  simp only [E3, Nat.reduceLeDiff, Nat.reduceSub, Nat.reduceAdd, Nat.reduceEqDiff, reduceCtorEq, ↓reduceIte]
  unfold c7p
  rw [if_pos hg]
  exact ⟨rfl, _, rfl⟩
end Go.Abs
namespace Go.Abs
def bigB (bits : Bool) (b : List (List ZI)) (i : Nat) : Bool := (decide (12 < b.length) || (bits && decide (256 < b4z b b.length))) || (b.take i).any fun r => decide (12 < r.length)
theorem e0b (bits : Bool) (b : List (List ZI)) {i : Nat} (h : i < b.length) : bigB bits b (i + 1) = (bigB bits b i || decide (12 < b[i].length)) := by
 unfold bigB
 rw [List.take_succ_eq_append_getElem h, List.any_append]
 simp [Bool.or_assoc]
open Classical in
noncomputable def shE (bits : Bool) (b : List (List ZI)) : Int := if bigB bits b b.length = true then 40 else if b.length = 0 then 41 else if Rect b then 0 else 8
open Classical in
noncomputable def valE (bits : Bool) (b : List (List ZI)) : Int := if shE bits b ≠ 0 then shE bits b else if gd (Gr b) b.length = b.length then 0 else 50
theorem d1B (bits : Bool) (b : List (List ZI)) (e : Nat) (hm : Mok e b) (he : e ≤ 17592186044416) : a0f Pr a9S [matV b, .bool bits] (.int .i64 (shE bits b)) := by
 have hbl := hm.len
 have hbits := d5Y b (hm.mono he)
 have hb0 : bigB bits b 0 = (decide (12 < b.length) || (bits && decide (256 < b4z b b.length))) := by unfold bigB; simp
 refine a0f.intro c8v c8u (Nat.le_of_ble_eq_true rfl) (.int _ _) fun H hH => ?_
 refine Safe.rg rfl ?_
 simp only [b7o, E3, seval]
 have start : Safe ⟨Pr, fun _ _ => false, a9S, 46, [.tmp 4], H.length⟩ [.code (.seq (.seq (.region b1x false) (.block 0 (.loop b7p))) (.seq (.seq (.region a7P false) (.cond (.t 35) (.seq (.region b1v false) (.ret)) (.skip))) (.seq (.seq (.region a7O false) (.cond (.t 38) (.seq (.region a9X false) (.ret)) (.skip))) (.seq (.region a6d false) (.seq (.region a6c false) (.ret))))))] [(0, matV b), (5, .bool (bigB bits b 0))] (hap H []) fun r' H' => r' = .int .i64 (shE bits b) ∧ ∃ L, H' = hap H L := by
  refine Safe.rg rfl ?_
  simp only [b1x, E3, seval]
  refine Safe.lp rfl ?_
  refine Safe.keep [0, 5, 22, 23, 24] ?_
  try simp only [E3, seval]
  refine Safe.loopN (b.length) (fun i => [(0, matV b), (5, .bool (bigB bits b i)), (22, matV b), (23, .int .i64 b.length), (24, .int .i64 i)]) (fun i => hap H []) rfl rfl (fun i hi ih => ?_) ?_
  ·have hlt : ((i : Int) < (b.length : Int)) = True := eq_true (by omega)
   have hiw : IntKind.wrap .i64 ((i : Int) + 1) = ((i + 1 : Nat) : Int) := by rw [a0e] <;> omega
   have hix : ∀ L, idxV L 1 (matV b) (.int .i64 (i : Nat)) = some (.ro (vecV b[i]) 0) := fun L => a9U L b .i64 i hi
   rw [e0b bits b hi] at ih
   refine Safe.inLoop ?_
   refine Safe.rg rfl ?_
   simp only [b1w, hlt, E3, seval]
   refine Safe.cd rfl ?_
   simp only [E3, seval]
   refine Safe.rg rfl ?_
   simp only [b7n, hix, E3, seval]
   cases hbb : bigB bits b i with
   | true =>
    rw [hbb] at ih
    simp only [Bool.true_or] at ih
    refine Safe.rg rfl ?_
    simp only [a7R, E3, seval]
    refine Safe.rg rfl ?_
    simp only [a7Q, hiw, E3, seval]
    refine Safe.keep [0, 5, 22, 23, 24] ?_
    simp only [E3, seval]
    exact ih
   | false =>
    rw [hbb] at ih
    simp only [Bool.false_or] at ih
    by_cases hrl : 12 < b[i].length
    ·have hrl2 : ((b[i].length : Int) > 12) = True := eq_true (by omega)
     simp only [hrl, decide_true] at ih
     refine Safe.rg rfl ?_
     simp only [a7R, hrl2, E3, seval]
     refine Safe.rg rfl ?_
     simp only [a7Q, hiw, E3, seval]
     refine Safe.keep [0, 5, 22, 23, 24] ?_
     simp only [E3, seval]
     exact ih
    ·have hrl2 : ((b[i].length : Int) > 12) = False := eq_false (by omega)
     simp only [hrl, decide_false] at ih
     refine Safe.rg rfl ?_
     simp only [a7R, hrl2, E3, seval]
     refine Safe.rg rfl ?_
     simp only [a7Q, hiw, E3, seval]
     refine Safe.keep [0, 5, 22, 23, 24] ?_
     simp only [E3, seval]
     exact ih
  ·refine Safe.inLoop ?_
   refine Safe.rg rfl ?_
   simp only [b1w, Int.lt_irrefl, E3, seval]
   refine Safe.cd rfl ?_
   simp only [E3, seval]
   unfold shE
   cases hbb : bigB bits b b.length with
   | true =>
    refine Safe.rg rfl ?_
    simp only [a7P, E3, seval]
    refine Safe.cd rfl ?_
    simp only [E3, seval]
    refine Safe.rg rfl ?_
    simp only [b1v, E3, seval]
    refine Safe.rt rfl ?_
    simp only [E3, seval]
    first | exact ⟨rfl, _, rfl⟩ | exact ⟨_, rfl⟩ | exact ⟨trivial, _, rfl⟩
   | false =>
    refine Safe.rg rfl ?_
    simp only [a7P, E3, seval]
    refine Safe.cd rfl ?_
    simp only [E3, seval]
    by_cases h0 : b.length = 0
    ·have h0' : ((b.length : Int) = 0) = True := eq_true (by omega)
     refine Safe.rg rfl ?_
     simp only [a7O, h0', E3, seval]
     refine Safe.cd rfl ?_
     simp only [E3, seval]
     refine Safe.rg rfl ?_
     simp only [a9X, E3, seval]
     rw [if_pos h0]
     refine Safe.rt rfl ?_
     simp only [E3, seval]
     first | exact ⟨rfl, _, rfl⟩ | exact ⟨_, rfl⟩ | exact ⟨trivial, _, rfl⟩
    ·have h0' : ((b.length : Int) = 0) = False := eq_false (by omega)
     refine Safe.rg rfl ?_
     simp only [a7O, h0', E3, seval]
     refine Safe.cd rfl ?_
     simp only [E3, seval]
     rw [if_neg h0]
     by_cases hr : Rect b
     ·rw [if_pos hr]
      refine Safe.rg rfl ?_
      simp only [a6d, E3, seval]
      first | refine (c3U b e hm hr).acall ?_ | refine (c3U b e hm hr).dcall ?_ | refine (c3U b e hm hr).dgcall ?_
      try simp only [E3, seval]
      refine Safe.rg rfl ?_
      simp only [a6c, E3, seval]
      refine Safe.rt rfl ?_
      simp only [E3, seval]
      first | exact ⟨rfl, _, rfl⟩ | exact ⟨_, rfl⟩ | exact ⟨trivial, _, rfl⟩
     ·rw [if_neg hr]
      refine Safe.rg rfl ?_
      simp only [a6d, E3, seval]
      first | refine (b8B b e hm hr).acall ?_ | refine (b8B b e hm hr).dcall ?_ | refine (b8B b e hm hr).dgcall ?_
      try simp only [E3, seval]
      refine Safe.rg rfl ?_
      simp only [a6c, E3, seval]
      refine Safe.rt rfl ?_
      simp only [E3, seval]
      first | exact ⟨rfl, _, rfl⟩ | exact ⟨_, rfl⟩ | exact ⟨trivial, _, rfl⟩
 by_cases h12 : 12 < b.length
 ·have hbig : ((b.length : Int) > 12) = True := eq_true (by omega)
  rw [hb0] at start
  simp only [h12, decide_true, Bool.true_or] at start
  refine Safe.rg rfl ?_
  simp only [a7S, hbig, E3, seval]
  refine Safe.keep [0, 5] ?_
  simp only [E3, seval]
  exact start
 ·have hbig : ((b.length : Int) > 12) = False := eq_false (by omega)
  rw [hb0] at start
  simp only [h12, decide_false, Bool.false_or] at start
  cases bits with
  | false =>
   simp only [Bool.false_and] at start
   refine Safe.rg rfl ?_
   simp only [a7S, hbig, E3, seval]
   refine Safe.keep [0, 5] ?_
   simp only [E3, seval]
   exact start
  | true =>
   refine Safe.rg rfl ?_
   simp only [a7S, hbig, E3, seval]
   first | refine (hbits).acall ?_ | refine (hbits).dcall ?_ | refine (hbits).dgcall ?_
   try simp only [E3, seval]
   try simp only [E3, seval]
   by_cases hbt : 256 < b4z b b.length
   ·have hb1 : ((b4z b b.length : Int) > 256) = True := eq_true (by omega)
    simp only [hbt, decide_true, Bool.true_and] at start
    simp only [hb1, E3, seval]
    refine Safe.keep [0, 5] ?_
    simp only [E3, seval]
    exact start
   ·have hb1 : ((b4z b b.length : Int) > 256) = False := eq_false (by omega)
    simp only [hbt, decide_false, Bool.true_and] at start
    simp only [hb1, E3, seval]
    refine Safe.keep [0, 5] ?_
    simp only [E3, seval]
    exact start
noncomputable def ofA (bits : Bool) (b : List (List ZI)) : AV := if valE bits b = 0 then .tup [.agg [vecV (gsoD b b.length), matV (gsoL b b.length)], .int .i64 0] else .tup [zz, .int .i64 (valE bits b)]
theorem e7n (bits : Bool) (b : List (List ZI)) : Cl (ofA bits b) := by
 unfold ofA
 split
 ·exact b5R (.agg _ fun c hc => by
   simp only [List.mem_cons, List.not_mem_nil, or_false] at hc
   rcases hc with rfl | rfl
   ·exact a0x _
   ·exact a9V _) (.int _ _)
 ·exact b5R c8S (.int _ _)
theorem e2Z {bits : Bool} {b : List (List ZI)} (h : bigB bits b b.length = false) : b.length ≤ 12 ∧ ∀ v ∈ b, v.length ≤ 12 := by
 unfold bigB at h
 rw [List.take_length, Bool.or_eq_false_iff, Bool.or_eq_false_iff] at h
 obtain ⟨⟨h1, _⟩, h2⟩ := h
 refine ⟨by simpa using h1, fun v hv => ?_⟩
 rw [List.any_eq_false] at h2
 simpa using h2 v hv
theorem e6V {bits : Bool} {b : List (List ZI)} (h : shE bits b = 0) : bigB bits b b.length = false ∧ 0 < b.length ∧ Rect b := by
 unfold shE at h
 split at h
 ·exact absurd h (by decide)
 ·split at h
  ·exact absurd h (by decide)
  ·split at h
   ·rename_i h1 h2 h3
    exact ⟨by simpa using h1, by omega, h3⟩
   ·exact absurd h (by decide)
theorem e4R (bits : Bool) (b : List (List ZI)) (e : Nat) (hm : Mok e b) (he : GB e + GB e + 8 < 17592186044000) : a0f Pr c8Q [matV b, .bool bits] (ofA bits b) := by
 have hsh := d1B bits b e hm (by unfold GB at he; omega)
 refine a0f.intro d8U d8T (Nat.le_of_ble_eq_true rfl) (e7n bits b) fun H hH => ?_
 refine Safe.rg rfl ?_
 simp only [d0p, E3, seval]
 refine Safe.rg rfl ?_
 simp only [d0o, E3, seval]
 first | refine (hsh).acall ?_ | refine (hsh).dcall ?_ | refine (hsh).dgcall ?_
 try simp only [E3, seval]
 by_cases h0 : shE bits b = 0
 ·obtain ⟨hb, hpos, hr⟩ := e6V h0
  have hbu := d6B b e hm he hr hpos (by have := (e2Z hb).1; omega)
  have hv : valE bits b = if gd (Gr b) b.length = b.length then 0 else 50 := by unfold valE; rw [if_neg (fun h => h h0)]
  unfold c7p at hbu
  unfold ofA
  rw [hv]
  rw [h0]
  refine Safe.rg rfl ?_
  simp only [c4G, E3, seval]
  refine Safe.cd rfl ?_
  simp only [E3, seval]
  refine Safe.rg rfl ?_
  simp only [d0m, E3, seval]
  first | refine (hbu).acall ?_ | refine (hbu).dcall ?_ | refine (hbu).dgcall ?_
  try simp only [E3, seval]
  by_cases hg : gd (Gr b) b.length = b.length
  ·simp only [if_pos hg, if_true]
   simp only [E3, seval]
   refine Safe.rg rfl ?_
   simp only [c4F, E3, seval]
   refine Safe.cd rfl ?_
   simp only [E3, seval]
   refine Safe.rg rfl ?_
   simp only [d0k, E3, seval]
   refine Safe.rt rfl ?_
   simp only [E3, seval]
   exact ⟨_, rfl⟩
  ·simp only [if_neg hg]
   rw [if_neg (show ¬(50 : Int) = 0 by decide)]
   simp only [zz, E3, seval]
   refine Safe.rg rfl ?_
   simp only [c4F, E3, seval]
   refine Safe.cd rfl ?_
   simp only [E3, seval]
   refine Safe.rg rfl ?_
   simp only [d0l, E3, seval]
   refine Safe.rt rfl ?_
   simp only [E3, seval]
   exact ⟨_, rfl⟩
 ·have hv : valE bits b = shE bits b := by unfold valE; rw [if_pos h0]
  unfold ofA
  rw [hv, if_neg h0]
  have hne : (shE bits b = 0) = False := eq_false h0
  refine Safe.rg rfl ?_
  simp only [c4G, hne, E3, seval]
  refine Safe.cd rfl ?_
  simp only [E3, seval]
  refine Safe.rg rfl ?_
  simp only [d0n, E3, seval]
  refine Safe.rt rfl ?_
  simp only [E3, seval]
  exact ⟨rfl, _, rfl⟩
theorem d4P (b : List (List ZI)) (e : Nat) (hm : Mok e b) (he : GB e + GB e + 8 < 17592186044000) : a0f Pr b5Z [matV b] (.int .i64 (valE true b)) := by
 have hof := e4R true b e hm he
 unfold ofA at hof
 refine a0f.intro d0u d0t (Nat.le_of_ble_eq_true rfl) (.int _ _) fun H hH => ?_
 refine Safe.rg rfl ?_
 simp only [c0P, E3, seval]
 refine Safe.rg rfl ?_
 simp only [c0O, E3, seval]
 first | refine (hof).acall ?_ | refine (hof).dcall ?_ | refine (hof).dgcall ?_
 try simp only [E3, seval]
 by_cases h0 : valE true b = 0
 ·simp only [if_pos h0]
  rw [h0]
  simp only [E3, seval]
  refine Safe.rg rfl ?_
  simp only [b3H, E3, seval]
  refine Safe.rt rfl ?_
  simp only [E3, seval]
  first | exact ⟨rfl, _, rfl⟩ | exact ⟨_, rfl⟩ | exact ⟨trivial, _, rfl⟩
 ·simp only [if_neg h0]
  simp only [zz, E3, seval]
  refine Safe.rg rfl ?_
  simp only [b3H, E3, seval]
  refine Safe.rt rfl ?_
  simp only [E3, seval]
  first | exact ⟨rfl, _, rfl⟩ | exact ⟨_, rfl⟩ | exact ⟨trivial, _, rfl⟩
end Go.Abs
set_option linter.defProp false
namespace Go.Abs
def strU (l : List UInt8) : AV := .str ⟨l.toArray⟩
def byts (l : List UInt8) : List AV := l.map fun b => .int .u8 (b.toNat : Int)
theorem a1l (l : List UInt8) : Cl (strU l) := .str _
theorem a9A (l : List UInt8) : (byts l).length = l.length := by simp [byts]
theorem d2Y (a b : List UInt8) : byts (a ++ b) = byts a ++ byts b := by simp [byts]
theorem b0u (l : List UInt8) : (byts l).flatMap AV.cells = byts l := by
 induction l with
 | nil => rfl
 | cons d l ih =>
  rw [show byts (d :: l) = .int .u8 (d.toNat : Int) :: byts l from rfl, List.flatMap_cons, ih]
  rfl
theorem e6f {l : List UInt8} : ∀ a ∈ (Blk.mk 1 (byts l)).flat, Cl a := by
 intro a ha
 rw [show (Blk.mk 1 (byts l)).flat = byts l from b0u l] at ha
 obtain ⟨b, _, rfl⟩ := List.mem_map.1 ha
 exact .int _ _
theorem a8r (l : List UInt8) : (ByteArray.mk l.toArray).size = l.length := by simp [ByteArray.size]
theorem d1y (a b : List UInt8) : (ByteArray.mk a.toArray) ++ (ByteArray.mk b.toArray) = ⟨(a ++ b).toArray⟩ := by
 apply ByteArray.ext
 simp
theorem d1O (l : List UInt8) : b4H (byts l) = some (l.map fun b => (b.toNat : Int)) := by
 induction l with
 | nil => rfl
 | cons b l ih =>
  rw [show byts (b :: l) = .int .u8 (b.toNat : Int) :: byts l from rfl]
  simp only [b4H, ih, Option.map_some, List.map_cons]
theorem d4X (l : List UInt8) : strOfNums (l.map fun b => (b.toNat : Int)) = ⟨l.toArray⟩ := by
 unfold strOfNums
 congr 2
 rw [List.map_map]
 conv => rhs; rw [← List.map_id l]
 apply List.map_congr_left
 intro b _
 simp
theorem d7h (l : List UInt8) : strB (byts l) = some (strU l) := by
 simp only [strB, d1O, Option.map_some, d4X, strU]
theorem b2K (a b : List UInt8) (h : a.length + b.length ≤ 9223372036854775807) : binV .add (strU a) (strU b) = some (strU (a ++ b)) := by
 unfold strU
 rw [e0a _ _ (by rw [a8r, a8r]; exact h), d1y]
theorem a2h (a b : List UInt8) : binV .eql (strU a) (strU b) = some (.bool (a == b)) := by
 unfold strU
 rw [d0Y]
 simp
theorem a3e (l : List UInt8) : (strU l).cells = [strU l] := rfl
theorem c1C (l : List UInt8) : (strU l).fit = true := rfl
theorem d7g (id : Nat) (l : List UInt8) : nref id (strU l) = true := a0J (a1l l)
theorem e0J (l : List UInt8) : clb (strU l) = true := b4S (a1l l)
theorem c7F (id : Nat) (b : Blk) (l : List UInt8) : frz id b (strU l) = strU l := b4P (a1l l)
theorem RC.byts {l : List UInt8} {L : Heap} (h : RC L) : RC (some ⟨1, byts l⟩ :: L) := .cons e6f h
def ES := And.intro @a3e (And.intro @c1C (And.intro @d7g (And.intro @e0J @c7F)))
def cdig (d : Nat) : UInt8 := UInt8.ofNat (48 + d)
theorem e5Q {d : Nat} (h : d < 10) : (cdig d).toNat = 48 + d := by
 unfold cdig
 rw [UInt8.toNat_ofNat']
 omega
def digs (n : Nat) : List UInt8 := if h : n = 0 then [] else cdig (n % 10) :: digs (n / 10)
theorem b7A : digs 0 = [] := by rw [digs]; simp
theorem c1W {n : Nat} (h : n ≠ 0) : digs n = cdig (n % 10) :: digs (n / 10) := by rw [digs]; simp [h]
def dec (n : Nat) : List UInt8 := if n = 0 then [48] else (digs n).reverse
def decI (z : Int) : List UInt8 := if z < 0 then 45 :: dec z.natAbs else dec z.natAbs
theorem c8B : ∀ (k n : Nat), n < 10 ^ k → (digs n).length ≤ k
 | 0, n, h => by
  have : n = 0 := by simpa using h
  rw [this, b7A]; simp
 | k + 1, n, h => by
  by_cases h0 : n = 0
  ·rw [h0, b7A]; simp
  ·rw [c1W h0, List.length_cons]
   have := c8B k (n / 10) (by rw [Nat.pow_succ] at h; omega)
   omega
theorem e3s (k : Nat) : LB ^ k ≤ 10 ^ (10 * k) := by
 rw [Nat.pow_mul]
 exact Nat.pow_le_pow_left (by decide) k
theorem d9E {k n : Nat} (h : n < LB ^ k) : (dec n).length ≤ 10 * k + 1 := by
 unfold dec
 split
 ·simp
 ·rw [List.length_reverse]
  have := c8B (10 * k) n (Nat.lt_of_lt_of_le h (e3s k))
  omega
theorem e2x {k : Nat} {z : Int} (h : z.natAbs < LB ^ k) : (decI z).length ≤ 10 * k + 2 := by
 unfold decI
 have := d9E h
 split
 ·rw [List.length_cons]; omega
 ·omega
def sdiv (d : Nat) : List Nat → List Nat × Nat
 | [] => ([], 0)
 | x :: xs => (((sdiv d xs).2 * LB + x) / d :: (sdiv d xs).1, ((sdiv d xs).2 * LB + x) % d)
theorem b2J (d x : Nat) (xs : List Nat) : sdiv d (x :: xs) = (((sdiv d xs).2 * LB + x) / d :: (sdiv d xs).1, ((sdiv d xs).2 * LB + x) % d) := rfl
theorem c7O (d : Nat) : ∀ xs, (sdiv d xs).1.length = xs.length
 | [] => rfl
 | x :: xs => by rw [b2J]; simp [c7O d xs]
theorem c1F {d : Nat} (hd : 0 < d) : ∀ xs, (sdiv d xs).2 < d
 | [] => hd
 | x :: xs => by rw [b2J]; exact Nat.mod_lt _ hd
theorem c7N {d : Nat} (hd : 0 < d) : ∀ xs, val (sdiv d xs).1 * d + (sdiv d xs).2 = val xs
 | [] => by simp [sdiv, val]
 | x :: xs => by
  have ih := c7N hd xs
  rw [b2J]
  simp only [val]
  have h := Nat.div_add_mod ((sdiv d xs).2 * LB + x) d
  rw [← ih]
  generalize ((sdiv d xs).2 * LB + x) / d = q at *
  generalize ((sdiv d xs).2 * LB + x) % d = r at *
  generalize val (sdiv d xs).1 = v at *
  generalize (sdiv d xs).2 = s at *
  have e1 : (q + LB * v) * d = d * q + LB * (v * d) := by rw [Nat.add_mul, Nat.mul_comm q d, Nat.mul_assoc]
  have e2 : LB * (v * d + s) = LB * (v * d) + s * LB := by rw [Nat.mul_add, Nat.mul_comm LB s]
  omega
theorem d3C {d : Nat} (hd : 0 < d) : ∀ {xs : List Nat}, Lim xs → Lim (sdiv d xs).1
 | [], _ => c4v
 | x :: xs, h => by
  obtain ⟨h1, h2⟩ := c1Q.1 h
  rw [b2J]
  refine c1Q.2 ⟨?_, d3C hd h2⟩
  have := c1F hd xs
  rw [Nat.div_lt_iff_lt_mul hd]
  have e : LB * d = (d - 1) * LB + LB := by
   rw [← Nat.succ_mul, Nat.mul_comm]
   congr 1; omega
  have : (sdiv d xs).2 * LB ≤ (d - 1) * LB := Nat.mul_le_mul_right _ (by omega)
  omega
theorem e0X {d : Nat} (hd : 0 < d) (xs : List Nat) : val (sdiv d xs).1 = val xs / d := by
 have h1 := c7N hd xs
 have h2 := c1F hd xs
 rw [← h1, Nat.add_comm, Nat.add_mul_div_right _ _ hd, Nat.div_eq_of_lt h2, Nat.zero_add]
theorem e0W {d : Nat} (hd : 0 < d) (xs : List Nat) : (sdiv d xs).2 = val xs % d := by
 have h1 := c7N hd xs
 have h2 := c1F hd xs
 rw [← h1, Nat.add_comm, Nat.add_mul_mod_self_right, Nat.mod_eq_of_lt h2]
def tx (n : Nat) (g : Nat → List UInt8) : List (List UInt8) := (List.range n).map g
theorem b6v (n : Nat) (g : Nat → List UInt8) : (tx n g).length = n := by simp [tx]
theorem d1u (n : Nat) (g : Nat → List UInt8) : tx (n + 1) g = tx n g ++ [g n] := by simp [tx, List.range_succ]
def txV (v : List ZI) : List UInt8 := Lib.join (tx v.length fun i => decI (zg v i)) [32]
theorem d8D (g : Nat → List UInt8) (sep : List UInt8) : Lib.join (tx 0 g) sep = [] := rfl
theorem join_one (g : Nat → List UInt8) (sep : List UInt8) : Lib.join (tx 1 g) sep = g 0 := Lib.join_one _ _
theorem d8E (g : Nat → List UInt8) (sep : List UInt8) (i : Nat) : Lib.join (tx (i + 2) g) sep = Lib.join (tx (i + 1) g) sep ++ sep ++ g (i + 1) := by
 have e : ∀ n, tx (n + 1) g = g 0 :: tx n fun i => g (i + 1) := fun n => by
  simp only [tx, List.range_succ_eq_map, List.map_cons, List.map_map]; rfl
 rw [e (i + 1), e i, Lib.join_cons, Lib.join_cons, d1u]
 simp [Lib.joinTail, List.append_assoc]
theorem d3T (g : Nat → List UInt8) (sep : List UInt8) : ∀ n, (Lib.join (tx n g) sep).length ≤ ((tx n g).map fun x => x.length + sep.length).sum
 | 0 => by rw [d8D]; exact Nat.zero_le _
 | 1 => by rw [join_one]; simp [tx]
 | n + 2 => by
  have ih := d3T g sep (n + 1)
  rw [d8E, d1u (n + 1)]
  simp only [List.length_append, List.map_append, List.sum_append, List.map_cons, List.map_nil, List.sum_cons, List.sum_nil]
  omega
end Go.Abs
namespace Go.Abs
section
variable {H L : Heap} {env : Env} {n0 : Nat}
theorem e4s (i q : Nat) (qs : List Nat) : (List.replicate (i + 1) 0 ++ qs).set i q = List.replicate i 0 ++ q :: qs := by
 rw [List.replicate_succ', List.append_assoc]
 simp
theorem c2x {n : Nat} (h : n < 18446744073709551616) : IntKind.wrap .u64 (n : Int) = (n : Int) := a1B (Int.natCast_nonneg _) (by omega)
theorem c9g {n : Nat} (h : n < 4294967296) : IntKind.wrap .u32 (n : Int) = (n : Int) := a9d (Int.natCast_nonneg _) (by omega)
theorem d8x {r x : Nat} (hr : r < 4294967296) (hx : x < 4294967296) : r * LB + x < 18446744073709551616 := by
 have : r * LB ≤ 4294967295 * 4294967296 := Nat.mul_le_mul (by omega) (Nat.le_refl _)
 omega
theorem d3S {r : Nat} (hr : r < 4294967296) : r * LB < 18446744073709551616 := Nat.lt_of_le_of_lt (Nat.le_add_right _ _) (d8x hr (show 0 < 4294967296 by decide))
theorem e4i (r : Nat) (h : r < 4294967296) : b2n .shl .u64 (r : Int) 32 = some (.int .u64 ((r * LB : Nat) : Int)) := by
 have hLB : LB = 4294967296 := rfl
 simp only [b2n]
 rw [if_neg (by decide), show min (Int.toNat 32) (IntKind.bits .u64) = 32 by decide, show (r : Int) * 2 ^ 32 = ((r * LB : Nat) : Int) by rw [Int.natCast_mul]; rfl, c2x (d3S h)]
theorem e7h (r x : Nat) (hr : r < 4294967296) (hx : x < 4294967296) : IntKind.wrap .u64 ((BitVec.ofInt (IntKind.bits .u64) ((r * LB : Nat) : Int) ||| BitVec.ofInt (IntKind.bits .u64) (x : Int)).toNat : Int) = ((r * LB + x : Nat) : Int) := by
 have hLB : LB = 4294967296 := rfl
 have e : (BitVec.ofInt (IntKind.bits .u64) ((r * LB : Nat) : Int) ||| BitVec.ofInt (IntKind.bits .u64) (x : Int)).toNat = r * LB + x := by
  show (BitVec.ofInt 64 ((r * LB : Nat) : Int) ||| BitVec.ofInt 64 (x : Int)).toNat = r * LB + x
  rw [BitVec.toNat_or, BitVec.ofInt_natCast, BitVec.ofInt_natCast, BitVec.toNat_ofNat, BitVec.toNat_ofNat, Nat.mod_eq_of_lt (d3S hr), Nat.mod_eq_of_lt (by omega)]
  have := Nat.shiftLeft_add_eq_or_of_lt (b := x) (i := 32) (by simpa using hx) r
  rw [Nat.shiftLeft_eq] at this
  exact this.symm
 rw [e, c2x (d8x hr hx)]
theorem e4y (t d : Nat) (hd : 0 < d) (ht : t < 18446744073709551616) : binV .quo (.int .u64 (t : Int)) (.int .u64 (d : Int)) = some (.int .u64 ((t / d : Nat) : Int)) := by
 rw [c2a _ _ _ (by omega), Int.tdiv_eq_ediv_of_nonneg (by omega)]
 have : (t : Int) / (d : Int) = ((t / d : Nat) : Int) := rfl
 have h2 : t / d ≤ t := Nat.div_le_self _ _
 rw [this, c2x (by omega)]
theorem e4t (t d : Nat) (hd : 0 < d) : binV .rem (.int .u64 (t : Int)) (.int .u64 (d : Int)) = some (.int .u64 ((t % d : Nat) : Int)) := by
 rw [c1Z _ _ _ (by omega), Int.tmod_eq_emod_of_nonneg (by omega)]; rfl
theorem e4z (k : IntKind) (hk : ∀ n : Nat, n < 4294967296 → k.wrap (n : Int) = n) (t : Nat) (ht : t < 4294967296) : binV .quo (.int k (t : Int)) (.int k 10) = some (.int k ((t / 10 : Nat) : Int)) := by
 rw [c2a _ _ _ (by decide), Int.tdiv_eq_ediv_of_nonneg (by omega)]
 have : (t : Int) / 10 = ((t / 10 : Nat) : Int) := rfl
 rw [this, hk _ (by omega)]
theorem e4u (k : IntKind) (t : Nat) : binV .rem (.int k (t : Int)) (.int k 10) = some (.int k ((t % 10 : Nat) : Int)) := by
 rw [c1Z _ _ _ (by decide), Int.tmod_eq_emod_of_nonneg (by omega)]; rfl
end
theorem d5e (a : List Nat) (d : Nat) (ha : Nt a) (hd : 0 < d) (hd2 : d < 4294967296) : a0f Pr a8M [natV a, .int .u32 d] (.tup [natV (limbs (val a / d)), .int .u32 ((val a % d : Nat) : Int)]) := by
 have hLB : LB = 4294967296 := rfl
 have hal := ha.len
 have hla := ha.lim
 have hw0 : IntKind.wrap .i64 ((a.length : Int) - 1) = (a.length : Int) - 1 := by rw [a0e] <;> omega
 have hwd : IntKind.wrap .u64 (d : Int) = (d : Int) := a1B (by omega) (by omega)
 refine a0f.intro b9Z b9Y (Nat.le_of_ble_eq_true rfl) (.tup _ (by intro c hc; simp only [List.mem_cons, List.not_mem_nil, or_false] at hc; rcases hc with rfl | rfl; exact a2R _; exact .int _ _)) fun H hH => ?_
 refine Safe.rg rfl ?_
 simp only [b2Z, E2, Nat.reduceLeDiff, Nat.reduceSub, Nat.reduceAdd, Nat.reduceEqDiff, reduceCtorEq, ↓reduceIte]
 refine Safe.rg rfl ?_
 simp only [b2Y, b4d _ H [] .i64 .i64 a.length (by omega), E2, Nat.reduceLeDiff, Nat.reduceSub, Nat.reduceAdd, Nat.reduceEqDiff, reduceCtorEq, ↓reduceIte]
 refine Safe.rg rfl ?_
 simp only [b2X, E2, Nat.reduceLeDiff, Nat.reduceSub, Nat.reduceAdd, Nat.reduceEqDiff, reduceCtorEq, ↓reduceIte]
 refine Safe.rg rfl ?_
 simp only [b2W, hw0, E2, Nat.reduceLeDiff, Nat.reduceSub, Nat.reduceAdd, Nat.reduceEqDiff, reduceCtorEq, ↓reduceIte]
 refine Safe.lp rfl ?_
 refine Safe.keep [0, 1, 6, 7, 8] ?_
 simp only [E2, Nat.reduceLeDiff, Nat.reduceSub, Nat.reduceAdd, Nat.reduceEqDiff, reduceCtorEq, ↓reduceIte]
 refine Safe.loopD a.length (fun i => [(0, natV a), (1, .int .u32 d), (6, .mu (lid H 0) 0 a.length (some a.length)), (7, .int .u64 ((sdiv d (a.drop i)).2 : Nat)), (8, .int .i64 ((i : Int) - 1))]) (fun i => hap H [some ⟨1, u32s (List.replicate i 0 ++ (sdiv d (a.drop i)).1)⟩]) (by simp [sdiv]) (by simp [sdiv]) (fun i hi ih => ?_) ?_
 ·have hidx : ((i + 1 : Nat) : Int) - 1 = (i : Int) := by omega
  have hr := c1F hd (a.drop (i + 1))
  have hx : a.getD i 0 < 4294967296 := by
   rw [List.getD_eq_getElem?_getD, List.getElem?_eq_getElem hi]; exact hla _ (List.getElem_mem hi)
  have hdrop : a.drop i = a.getD i 0 :: a.drop (i + 1) := by
   rw [List.drop_eq_getElem_cons hi, List.getD_eq_getElem?_getD, List.getElem?_eq_getElem hi]; rfl
  rw [hdrop, b2J] at ih
  generalize hs : sdiv d (a.drop (i + 1)) = s at *
  obtain ⟨qs, r⟩ := s
  simp only at hr ih
  have hql : qs.length = a.length - (i + 1) := by have := c7O d (a.drop (i + 1)); rw [hs, List.length_drop] at this; exact this
  generalize hx2 : a.getD i 0 = x0 at *
  have ht : r * LB + x0 < 18446744073709551616 := by
   have : r * LB ≤ 4294967294 * LB := Nat.mul_le_mul_right _ (by omega)
   omega
  have hq : (r * LB + x0) / d < 4294967296 := by
   rw [Nat.div_lt_iff_lt_mul hd]
   have : r * LB ≤ (d - 1) * LB := Nat.mul_le_mul_right _ (by omega)
   have e : (d - 1) * LB + LB = 4294967296 * d := by rw [← Nat.succ_mul, Nat.mul_comm]; congr 1; omega
   omega
  have hwx : IntKind.wrap .u64 (x0 : Int) = (x0 : Int) := a1B (by omega) (by omega)
  have hwq : IntKind.wrap .u32 (((r * LB + x0) / d : Nat) : Int) = (((r * LB + x0) / d : Nat) : Int) := c9g hq
  have hw1 : IntKind.wrap .i64 ((i : Int) - 1) = (i : Int) - 1 := by rw [a0e] <;> omega
  refine Safe.inLoop ?_
  refine Safe.rg rfl ?_
  simp only [a6j, hidx, ge_iff_le, Int.natCast_nonneg, E2, Nat.reduceLeDiff, Nat.reduceSub, Nat.reduceAdd, Nat.reduceEqDiff, reduceCtorEq, ↓reduceIte]
  refine Safe.cd rfl ?_
  simp only [E2, Nat.reduceLeDiff, Nat.reduceSub, Nat.reduceAdd, Nat.reduceEqDiff, reduceCtorEq, ↓reduceIte]
  refine Safe.rg rfl ?_
  simp only [b2V, hidx, e4i r (by omega), a0T _ a _ i hi, hx2, hwx, e7h r x0 (by omega) hx, E2, Nat.reduceLeDiff, Nat.reduceSub, Nat.reduceAdd, Nat.reduceEqDiff, reduceCtorEq, ↓reduceIte]
  refine Safe.rg rfl ?_
  simp only [b2U, hidx, hwd, e4y _ d hd ht, hwq, d0i hi, c5P H _ (List.replicate (i + 1) 0 ++ qs) i ((r * LB + x0) / d) (by simp; omega), e4s, E2, Nat.reduceLeDiff, Nat.reduceSub, Nat.reduceAdd, Nat.reduceEqDiff, reduceCtorEq, ↓reduceIte]
  refine Safe.rg rfl ?_
  simp only [b2T, hwd, e4t _ d hd, E2, Nat.reduceLeDiff, Nat.reduceSub, Nat.reduceAdd, Nat.reduceEqDiff, reduceCtorEq, ↓reduceIte]
  refine Safe.rg rfl ?_
  simp only [b2S, hidx, hw1, E2, Nat.reduceLeDiff, Nat.reduceSub, Nat.reduceAdd, Nat.reduceEqDiff, reduceCtorEq, ↓reduceIte]
  refine Safe.keep [0, 1, 6, 7, 8] ?_
  simp only [E2, Nat.reduceLeDiff, Nat.reduceSub, Nat.reduceAdd, Nat.reduceEqDiff, reduceCtorEq, ↓reduceIte]
  exact ih
 ·refine Safe.inLoop ?_
  refine Safe.rg rfl ?_
  simp only [a6j, Int.natCast_zero, Int.zero_sub, show ¬ (-1 : Int) ≥ 0 by decide, show ¬ (0 : Int) ≤ -1 by decide, E2, Nat.reduceLeDiff, Nat.reduceSub, Nat.reduceAdd, Nat.reduceEqDiff, reduceCtorEq, ↓reduceIte]
  refine Safe.cd rfl ?_
  simp only [E2, Nat.reduceLeDiff, Nat.reduceSub, Nat.reduceAdd, Nat.reduceEqDiff, reduceCtorEq, ↓reduceIte]
  have hl : ((sdiv d a).1).length = a.length := c7O d a
  have hfm : frz (lid H 0) ⟨1, u32s (sdiv d a).1⟩ (.mu (lid H 0) 0 a.length (some a.length)) = natV (sdiv d a).1 := by
   have := b4h H 0 (sdiv d a).1 (some a.length)
   rwa [hl] at this
  simp only [List.replicate_zero, List.nil_append, List.drop_zero]
  refine Safe.freeze 0 hH rfl rfl (a1I _) ?_
  refine Safe.keep [6, 7] ?_
  simp only [hfm, E2, Nat.reduceLeDiff, Nat.reduceSub, Nat.reduceAdd, Nat.reduceEqDiff, reduceCtorEq, ↓reduceIte]
  have htr := a0o (sdiv d a).1 (d3C hd hla) (by rw [hl]; exact hal)
  rw [e0X hd] at htr
  have hm : val a % d < 4294967296 := Nat.lt_trans (Nat.mod_lt _ hd) hd2
  have hwm : IntKind.wrap .u32 ((val a % d : Nat) : Int) = ((val a % d : Nat) : Int) := a9d (by omega) (by omega)
  rw [e0W hd]
  refine Safe.rg rfl ?_
  simp only [b2R, E2, Nat.reduceLeDiff, Nat.reduceSub, Nat.reduceAdd, Nat.reduceEqDiff, reduceCtorEq, ↓reduceIte]
  first | refine (htr).acall ?_ | refine (htr).dcall ?_ | refine (htr).dgcall ?_
  try simp only [E2, Nat.reduceLeDiff, Nat.reduceSub, Nat.reduceAdd, Nat.reduceEqDiff, reduceCtorEq, ↓reduceIte]
  simp only [hwm, E2, Nat.reduceLeDiff, Nat.reduceSub, Nat.reduceAdd, Nat.reduceEqDiff, reduceCtorEq, ↓reduceIte]
  refine Safe.rt rfl ?_
  simp only [E2, Nat.reduceLeDiff, Nat.reduceSub, Nat.reduceAdd, Nat.reduceEqDiff, reduceCtorEq, ↓reduceIte]
  first | exact ⟨rfl, _, rfl⟩ | exact ⟨_, rfl⟩ | exact ⟨trivial, _, rfl⟩
section
variable {H L : Heap} {env : Env} {n0 : Nat}
theorem e6u (hH : a0z H) (hn : n0 ≤ lid H 0) (hL : RC L) (l m : List UInt8) (len : Nat) (y : AV) (str : Bool) (hy : a0Z (hap H (some ⟨1, byts l⟩ :: L)) 1 str y = some (byts m)) (hlen : len = l.length) (hb : l.length + m.length ≤ 140737488355328) :
  appV n0 1 1 str (.mu (lid H 0) 0 len none) y env (hap H (some ⟨1, byts l⟩ :: L)) = some (.mu (lid H 0) 0 (len + m.length) none, scrub (lid H 0) env, hap H (some ⟨1, byts (l ++ m)⟩ :: L)) := by
 have := b7P n0 env H (some ⟨1, byts l⟩ :: L) 1 1 str 0 len none y (byts l) (byts m) hH rfl (by rw [a9A]; exact hlen) hn hy (b4k (RC.byts hL)) (by
  intro a ha
  rw [b0u] at ha
  obtain ⟨b, _, rfl⟩ := List.mem_map.1 ha
  exact .int _ _) (by rw [a9A]; omega) (by rw [a9A]; omega) rfl
 rw [a9A] at this
 simpa only [a1f, Option.bind_none, List.set_cons_zero, ← d2Y] using this
theorem e3G {l : List UInt8} {j : Nat} (h : j < l.length) : atV (hap H (some ⟨1, byts l⟩ :: L)) (.loc (lid H 0) j 0) = some [.int .u8 ((l.getD j 0).toNat : Int)] := by
 rw [b1t H _ 0 j rfl (by rw [a9A]; exact h)]
 have : (byts l).getD j .top = .int .u8 ((l.getD j 0).toNat : Int) := by simp [byts, h]
 rw [this]; rfl
theorem e3l {l : List UInt8} {j : Nat} {b : UInt8} (h : j < l.length) : a5f 1 (.loc (lid H 0) j 0) (.int .u8 (b.toNat : Int)) env (hap H (some ⟨1, byts l⟩ :: L)) = some (.top, env, hap H (some ⟨1, byts (l.set j b)⟩ :: L)) := by
 rw [a5x env H _ 1 0 j 0 _ rfl (by rw [a9A]; exact h) rfl rfl (Nat.le_refl 1)]
 have : (byts l).set j (.int .u8 (b.toNat : Int)) = byts (l.set j b) := by simp [byts, List.map_set]
 simp only [a4a, this, List.set_cons_zero]
theorem e7T (l : List UInt8) (len : Nat) (h : len = l.length) : b2sV (hap H (some ⟨1, byts l⟩ :: L)) (.mu (lid H 0) 0 len none) = some (strU l) := by
 subst h
 rw [e6n, a0Q]
 simp only [List.getElem?_cons_zero, Option.join_some, Option.bind_some]
 rw [if_pos ⟨trivial, by rw [a9A]; omega⟩, List.drop_zero, ← a9A, List.take_length, d7h]
end
theorem e2v (k : Nat) (h : k < 10) : IntKind.wrap .u8 ((48 : Int) + (k : Int)) = ((cdig k).toNat : Int) := by
 rw [e5Q h]
 simp [IntKind.wrap, IntKind.bits, IntKind.signed]; omega
def rvl (i : Nat) (l : List UInt8) : List UInt8 := (List.range l.length).map fun j => if j < i ∨ l.length - i ≤ j then l.getD (l.length - 1 - j) 0 else l.getD j 0
theorem d1E (i : Nat) (l : List UInt8) : (rvl i l).length = l.length := by simp [rvl]
theorem e1b (l : List UInt8) : rvl 0 l = l := by
 apply List.ext_getElem
 ·simp [rvl]
 ·intro j h1 h2
  simp only [rvl, List.getElem_map, List.getElem_range]
  rw [if_neg (by omega), List.getD_eq_getElem?_getD, List.getElem?_eq_getElem h2]; rfl
theorem d3F (i j : Nat) (l : List UInt8) (h : j < l.length) : (rvl i l).getD j 0 = if j < i ∨ l.length - i ≤ j then l.getD (l.length - 1 - j) 0 else l.getD j 0 := by
 rw [List.getD_eq_getElem?_getD, List.getElem?_eq_getElem (by rw [d1E]; exact h)]
 simp [rvl]
theorem e1d (l : List UInt8) : rvl (l.length / 2) l = l.reverse := by
 apply List.ext_getElem
 ·simp [rvl]
 ·intro j h1 h2
  have hj : j < l.length := by simpa [rvl] using h1
  simp only [rvl, List.getElem_map, List.getElem_range, List.getElem_reverse]
  split
  ·rw [List.getD_eq_getElem?_getD, List.getElem?_eq_getElem (by omega)]; rfl
  ·rename_i h
   have e : l.length - 1 - j = j := by omega
   simp only [e]
   rw [List.getD_eq_getElem?_getD, List.getElem?_eq_getElem hj]; rfl
theorem e1c (i : Nat) (l : List UInt8) (h : i < l.length / 2) : ((rvl i l).set i (l.getD (l.length - 1 - i) 0)).set (l.length - 1 - i) (l.getD i 0) = rvl (i + 1) l := by
 apply List.ext_getElem
 ·simp [rvl]
 ·intro j h1 h2
  have hj : j < l.length := by simpa [rvl] using h2
  rw [List.getElem_set, List.getElem_set]
  simp only [rvl, List.getElem_map, List.getElem_range]
  by_cases e1 : l.length - 1 - i = j
  ·rw [if_pos e1, if_pos (by omega)]
   congr 1; omega
  ·rw [if_neg e1]
   by_cases e2 : i = j
   ·subst e2
    rw [if_pos rfl, if_pos (by omega)]
   ·rw [if_neg e2]
    by_cases e3 : j < i ∨ l.length - i ≤ j
    ·rw [if_pos e3, if_pos (by omega)]
    ·rw [if_neg e3, if_neg (by omega)]
theorem e5i {q r k : Nat} (hk : k < 9) : (q * 10 ^ (9 - k) + r) % 10 = r % 10 := by
 rw [show 9 - k = (8 - k) + 1 by omega, Nat.pow_succ, ← Nat.mul_assoc]; omega
theorem e5j {q r k : Nat} (hk : k < 9) : (q * 10 ^ (9 - k) + r) / 10 = q * 10 ^ (9 - (k + 1)) + r / 10 := by
 rw [show 9 - k = (9 - (k + 1)) + 1 by omega, Nat.pow_succ, ← Nat.mul_assoc]; omega
theorem e7y {r k : Nat} (hk : k < 9) (h : r < 10 ^ (9 - k)) : r / 10 < 10 ^ (9 - (k + 1)) := by
 rw [show 9 - k = (9 - (k + 1)) + 1 by omega, Nat.pow_succ] at h; omega
theorem e2b {q k : Nat} (h : q * 10 ^ (9 - k) + 0 = 0) : q = 0 := by
 rcases Nat.eq_zero_or_pos q with h0 | h0
 ·exact h0
 ·have : 0 < q * 10 ^ (9 - k) := Nat.mul_pos h0 (Nat.pow_pos (by decide))
  omega
theorem c4t {m : Nat} (h : m ≠ 0) : ((limbs m).length : Int) > 0 := by
 rw [a6l h, List.length_cons]; omega
theorem c8e : ¬ ((limbs 0).length : Int) > 0 := by rw [a0R]; decide
theorem c9J (a : List Nat) (ha : Nt a) (hs : a.length ≤ 8796093022208) : a0f Pr a8h [natV a] (strU (dec (val a))) := by
 have hal := ha.len
 have hla := ha.lim
 generalize hn : val a = n
 have hlm : ∀ m, m ≤ n → Nt (limbs m) := fun m hm => ⟨a0H m, Nat.le_trans (a0M (Nat.lt_of_le_of_lt hm (by rw [← hn]; exact a1Z hla))) hal⟩
 have hdl : (digs n).length ≤ 87960930222080 := Nat.le_trans (c8B (10 * a.length) n (Nat.lt_of_lt_of_le (by rw [← hn]; exact a1Z hla) (e3s _))) (by omega)
 have hnorm := b6O a ha
 rw [hn] at hnorm
 refine a0f.intro d1W d1V (Nat.le_of_ble_eq_true rfl) (a1l _) fun H hH => ?_
 refine Safe.rg rfl ?_
 simp only [c3t, E2, seval]
 refine Safe.rg rfl ?_
 simp only [c3s, E2, seval]
 first | refine (hnorm).acall ?_ | refine (hnorm).dcall ?_ | refine (hnorm).dgcall ?_
 try simp only [E2, seval]
 refine Safe.rg rfl ?_
 simp only [c3r, E2, seval]
 refine Safe.cd rfl ?_
 simp only [E2, seval]
 by_cases h0 : n = 0
 ·subst h0
  have hz : ((limbs 0).length : Int) = 0 := by rw [a0R]; rfl
  simp only [hz, E2, seval]
  refine Safe.rg rfl ?_
  simp only [c3q, E2, seval]
  refine Safe.rt rfl ?_
  simp only [E2, seval]
  exact ⟨rfl, _, rfl⟩
 ·have hz : ¬ ((limbs n).length : Int) = 0 := by have := c4t h0; omega
  have hdec : dec n = (digs n).reverse := by simp [dec, h0]
  simp only [hz, E2, seval]
  refine Safe.rg rfl ?_
  simp only [c3p, E2, seval]
  refine Safe.nilrow 3 1 (by decide) (by simp only [E2, seval]) ?_
  refine Safe.lp rfl ?_
  refine Safe.keep [0, 3] ?_
  simp only [E2, seval]
  refine Safe.loopW (α := Nat × List UInt8) (fun p => p.1) (fun p => [(0, natV (limbs p.1)), (3, .mu (lid H 0) 0 p.2.length none)]) (fun p => hap H [some ⟨1, byts p.2⟩]) (fun p => p.1 ≤ n ∧ p.2 ++ digs p.1 = digs n) (n, []) rfl rfl ⟨Nat.le_refl _, rfl⟩ ?_
  rintro ⟨m, bs⟩ ⟨hm, hinv⟩ ih
  simp only at hm hinv ih ⊢
  refine Safe.inLoop ?_
  by_cases hm0 : m = 0
  ·subst hm0
   rw [b7A, List.append_nil] at hinv
   subst hinv
   generalize hbs : digs n = bs at *
   have hb1 : 0 < bs.length := by
    rcases Nat.eq_zero_or_pos bs.length with h | h
    ·rw [c1W h0] at hbs
     rw [← hbs] at h; simp at h
    ·exact h
   refine Safe.rg rfl ?_
   simp only [b5x, c8e, E2, seval]
   refine Safe.cd rfl ?_
   simp only [E2, seval]
   have hw1 : IntKind.wrap .i64 ((bs.length : Int) - 1) = (bs.length : Int) - 1 := by rw [a0e] <;> omega
   refine Safe.rg rfl ?_
   simp only [a9j, hw1, E2, seval]
   refine Safe.lp rfl ?_
   refine Safe.keep [3, 7, 8] ?_
   simp only [E2, seval]
   refine Safe.loopN (bs.length / 2) (fun i => [(3, .mu (lid H 0) 0 bs.length none), (7, .int .i64 i), (8, .int .i64 ((bs.length : Int) - 1 - (i : Int)))]) (fun i => hap H [some ⟨1, byts (rvl i bs)⟩]) (by simp) (by rw [e1b]) (fun i hi ih3 => ?_) ?_
   ·have hlt : (i : Int) < (bs.length : Int) - 1 - (i : Int) := by omega
    have hk : (bs.length : Int) - 1 - (i : Int) = ((bs.length - 1 - i : Nat) : Int) := by omega
    have hk2 : IntKind.wrap .i64 (((bs.length - 1 - i : Nat) : Int) - 1) = (bs.length : Int) - 1 - ((i + 1 : Nat) : Int) := by rw [a0e] <;> omega
    have l1 : i < (rvl i bs).length := by rw [d1E]; omega
    have l2 : bs.length - 1 - i < (rvl i bs).length := by rw [d1E]; omega
    have g1 := d3F i i bs (by omega)
    rw [if_neg (by omega)] at g1
    have g2 := d3F i (bs.length - 1 - i) bs (by omega)
    rw [if_neg (by omega)] at g2
    have hlt' : (i : Int) < ((bs.length - 1 - i : Nat) : Int) := by omega
    have hiw : IntKind.wrap .i64 ((i : Int) + 1) = ((i + 1 : Nat) : Int) := by rw [a0e] <;> omega
    refine Safe.inLoop ?_
    refine Safe.rg rfl ?_
    simp only [b3e, hk, hlt', E2, seval]
    refine Safe.cd rfl ?_
    simp only [E2, seval]
    refine Safe.rg rfl ?_
    simp only [c0k, hk, d0i (show bs.length - 1 - i < bs.length by omega), d0i (show i < bs.length by omega), e3G l1, e3G l2, g1, g2, e3l l1, e3l (show bs.length - 1 - i < ((rvl i bs).set i (bs.getD (bs.length - 1 - i) 0)).length by rw [List.length_set]; exact l2), e1c i bs hi, E2, seval]
    refine Safe.rg rfl ?_
    simp only [c0j, hk, hk2, hiw, E2, seval]
    refine Safe.keep [3, 7, 8] ?_
    simp only [E2, seval]
    exact ih3
   ·have hlt : ¬ ((bs.length / 2 : Nat) : Int) < (bs.length : Int) - 1 - ((bs.length / 2 : Nat) : Int) := by omega
    refine Safe.inLoop ?_
    refine Safe.rg rfl ?_
    simp only [b3e, hlt, E2, seval]
    refine Safe.cd rfl ?_
    simp only [E2, seval]
    rw [e1d]
    refine Safe.rg rfl ?_
    simp only [a9i, e7T bs.reverse bs.length (List.length_reverse).symm, E2, seval]
    refine Safe.rt rfl ?_
    simp only [E2, seval]
    rw [hdec]
    exact ⟨rfl, _, rfl⟩
  ·have hsh := d5e (limbs m) 1000000000 (hlm m hm) (by decide) (by decide)
   rw [a0q] at hsh
   refine Safe.rg rfl ?_
   simp only [b5x, c4t hm0, E2, seval]
   refine Safe.cd rfl ?_
   simp only [E2, seval]
   refine Safe.rg rfl ?_
   simp only [c3o, E2, seval]
   first | refine (hsh).acall ?_ | refine (hsh).dcall ?_ | refine (hsh).dgcall ?_
   try simp only [E2, seval]
   refine Safe.rg rfl ?_
   simp only [c3n, E2, seval]
   refine Safe.lp rfl ?_
   refine Safe.keep [3, 4, 5, 6] ?_
   simp only [E2, seval]
   refine Safe.loopW (α := Nat × Nat × List UInt8) (fun p => 9 - p.1) (fun p => [(3, .mu (lid H 0) 0 p.2.2.length none), (4, natV (limbs (m / 1000000000))), (5, .int .u32 p.2.1), (6, .int .i64 p.1)]) (fun p => hap H [some ⟨1, byts p.2.2⟩])
    (fun p => p.1 ≤ 9 ∧ p.2.1 < 10 ^ (9 - p.1) ∧ p.2.2 ++ digs (m / 1000000000 * 10 ^ (9 - p.1) + p.2.1) = digs n) (0, m % 1000000000, bs) rfl rfl ⟨Nat.zero_le _, by show m % 1000000000 < 10 ^ 9; omega, by
     show bs ++ digs (m / 1000000000 * 10 ^ 9 + m % 1000000000) = digs n
     rw [show m / 1000000000 * 10 ^ 9 + m % 1000000000 = m by omega]; exact hinv⟩ ?_
   rintro ⟨k, r, cs⟩ ⟨hk9, hr, hinv2⟩ ih2
   simp only at hk9 hr hinv2 ih2 ⊢
   have hfin : m / 1000000000 * 10 ^ (9 - k) + r = m / 1000000000 → Safe ⟨Pr, fun _ _ => false, a8h, 71, [.tmp 2], H.length⟩ [.code (.region a9k false), .inBlock 1, .inLoop b5z, .inBlock 0, .code (.seq (.seq (.region a9j false) (.block 4 (.loop b5y))) (.seq (.region a9i false) (.ret)))]
     [(3, .mu (lid H 0) 0 cs.length none), (4, natV (limbs (m / 1000000000))), (5, .int .u32 r), (6, .int .i64 k)] (hap H [some ⟨1, byts cs⟩]) fun r' H' => r' = strU (dec n) ∧ ∃ L, H' = hap H L := by
    intro e
    rw [e] at hinv2
    refine Safe.rg rfl ?_
    simp only [a9k, E2, seval]
    repeat (first | refine Safe.seq ?_ | refine Safe.skip ?_ | refine Safe.inBlock ?_ | refine Safe.block ?_ | refine Safe.exit rfl ?_)
    refine Safe.keep [0, 3] ?_
    simp only [E2, seval]
    exact ih (m / 1000000000, cs) ⟨by omega, hinv2⟩ (by show m / 1000000000 < m; omega)
   refine Safe.inLoop ?_
   by_cases hk : k < 9
   ·have hki : (k : Int) < 9 := by omega
    by_cases hv : m / 1000000000 * 10 ^ (9 - k) + r = 0
    ·have hr0 : r = 0 := by omega
     subst hr0
     have hq0 := e2b hv
     have hri : ¬ ((0 : Nat) : Int) > 0 := by decide
     rw [hq0] at hfin ⊢
     refine Safe.rg rfl ?_
     simp only [a8w, hki, c8e, hri, E2, seval]
     refine Safe.cd rfl ?_
     simp only [E2, seval]
     repeat (first | refine Safe.seq ?_ | refine Safe.skip ?_ | refine Safe.inBlock ?_ | refine Safe.block ?_ | refine Safe.exit rfl ?_)
     refine Safe.keep [3, 4, 5, 6] ?_
     simp only [E2, seval]
     exact hfin (by simp)
    ·have hbody : Safe ⟨Pr, fun _ _ => false, a8h, 71, [.tmp 2], H.length⟩ [.code (.block 3 (.seq (.region b5w false) (.region b3g false))), .code (.region b3f false), .inLoop c3u, .inBlock 2, .code (.region a9k false), .inBlock 1, .inLoop b5z, .inBlock 0, .code (.seq (.seq (.region a9j false) (.block 4 (.loop b5y))) (.seq (.region a9i false) (.ret)))]
       [(3, .mu (lid H 0) 0 cs.length none), (4, natV (limbs (m / 1000000000))), (5, .int .u32 r), (6, .int .i64 k)] (hap H [some ⟨1, byts cs⟩]) fun r' H' => r' = strU (dec n) ∧ ∃ L, H' = hap H L := by
      have hr9 : r < 4294967296 := Nat.lt_of_lt_of_le hr (Nat.le_trans (Nat.pow_le_pow_right (by decide) (show 9 - k ≤ 9 by omega)) (by decide))
      have hm10 : r % 10 < 10 := Nat.mod_lt _ (by decide)
      have hw48 : IntKind.wrap .u32 ((48 : Int) + ((r % 10 : Nat) : Int)) = (48 : Int) + ((r % 10 : Nat) : Int) := a9d (by omega) (by omega)
      rw [c1W hv, e5i hk, e5j hk] at hinv2
      have hcl : cs.length < (digs n).length := by rw [← hinv2]; simp
      have happ := fun env => e6u (H := H) (L := []) (env := env) (n0 := H.length) hH (a5g H 0) RC.nil cs [cdig (r % 10)] cs.length (.sl 1 [.int .u8 ((cdig (r % 10)).toNat : Int)]) false (a2b _ 1 _) rfl (by simp only [List.length_cons, List.length_nil]; omega)
      have hkw : IntKind.wrap .i64 ((k : Int) + 1) = ((k + 1 : Nat) : Int) := by rw [a0e] <;> omega
      refine Safe.rg rfl ?_
      simp only [b5w, e4u, hw48, e2v _ hm10, happ, E2, seval]
      refine Safe.rg rfl ?_
      simp only [b3g, e4z .u32 (fun n h => c9g h) r hr9, E2, seval]
      refine Safe.rg rfl ?_
      simp only [b3f, hkw, E2, seval]
      refine Safe.keep [3, 4, 5, 6] ?_
      simp only [E2, seval]
      have := ih2 (k + 1, r / 10, cs ++ [cdig (r % 10)]) ⟨by show k + 1 ≤ 9; omega, e7y hk hr, by rw [← hinv2]; simp⟩ (by show 9 - (k + 1) < 9 - k; omega)
      simpa only [List.length_append, List.length_cons, List.length_nil, Nat.zero_add] using this
     by_cases hq : m / 1000000000 = 0
     ·have hri : (r : Int) > 0 := by rw [hq] at hv; omega
      rw [hq] at hbody ⊢
      refine Safe.rg rfl ?_
      simp only [a8w, hki, c8e, hri, E2, seval]
      refine Safe.cd rfl ?_
      simp only [E2, seval]
      refine Safe.skip (Safe.seq ?_)
      refine Safe.keep [3, 4, 5, 6] ?_
      simp only [E2, seval]
      exact hbody
     ·refine Safe.rg rfl ?_
      simp only [a8w, hki, c4t hq, E2, seval]
      refine Safe.cd rfl ?_
      simp only [E2, seval]
      refine Safe.skip (Safe.seq ?_)
      refine Safe.keep [3, 4, 5, 6] ?_
      simp only [E2, seval]
      exact hbody
   ·have hki : ¬ (k : Int) < 9 := by omega
    have hk' : k = 9 := by omega
    subst hk'
    have hr0 : r = 0 := by simpa using hr
    subst hr0
    refine Safe.rg rfl ?_
    simp only [a8w, hki, E2, seval]
    refine Safe.cd rfl ?_
    simp only [E2, seval]
    repeat (first | refine Safe.seq ?_ | refine Safe.skip ?_ | refine Safe.inBlock ?_ | refine Safe.block ?_ | refine Safe.exit rfl ?_)
    refine Safe.keep [3, 4, 5, 6] ?_
    simp only [E2, seval]
    exact hfin (by simp)
end Go.Abs
namespace Go.Proofs
open Go.Shelf
def Tryz.lays156_ren : Go.Shelf.Ren := ⟨fun | 156 => 57 | 165 => 104 | 166 => 31 | 169 => 33 | 240 => 56 | 241 => 136 | 276 => 103 | 277 => 159 | n => n, fun | 31 => 31 | 9 => 9 | 3 => 3 | 4 => 4 | 0 => 0 | 20 => 20 | 72 => 83 | 76 => 86 | 70 => 80 | 37 => 81 | 75 => 85 | 127 => 110 | 164 => 148 | 5 => 5 | 80 => 33 | n => n, fun | n => n⟩
theorem Tryz.lays156 : Go.Proofs.Lays.n156 Tryz.prog Tryz.lays156_ren := {
 mixed := by kernel_rfl
 f156 := Tryz.func57.trans (congrArg some (by kernel_rfl))
 f165 := Tryz.func104.trans (congrArg some (by kernel_rfl))
 f166 := Tryz.func31.trans (congrArg some (by kernel_rfl))
 f169 := Tryz.func33.trans (congrArg some (by kernel_rfl))
 f240 := Tryz.func56.trans (congrArg some (by kernel_rfl))
 f241 := Tryz.func136.trans (congrArg some (by kernel_rfl))
 f276 := Tryz.func103.trans (congrArg some (by kernel_rfl))
 f277 := Tryz.func159.trans (congrArg some (by kernel_rfl))
 t0 := Tryz.underlying0
 a0 := Tryz.isAgg0
 z0 := Tryz.sizeOf0
 v0 := Tryz.zeroValue0
 t3 := Tryz.underlying3
 a3 := Tryz.isAgg3
 z3 := Tryz.sizeOf3
 v3 := Tryz.zeroValue3
 t4 := Tryz.underlying4
 a4 := Tryz.isAgg4
 z4 := Tryz.sizeOf4
 v4 := Tryz.zeroValue4
 t9 := Tryz.underlying9
 a9 := Tryz.isAgg9
 z9 := Tryz.sizeOf9
 v9 := Tryz.zeroValue9
 t20 := Tryz.underlying20
 a20 := Tryz.isAgg20
 z20 := Tryz.sizeOf20
 v20 := Tryz.zeroValue20
 t31 := Tryz.underlying31
 a31 := Tryz.isAgg31
 z31 := Tryz.sizeOf31
 v31 := Tryz.zeroValue31
 t37 := Tryz.underlying81
 a37 := Tryz.isAgg81
 z37 := Tryz.sizeOf81
 v37 := Tryz.zeroValue81
 t70 := Tryz.underlying80
 a70 := Tryz.isAgg80
 z70 := Tryz.sizeOf80
 v70 := Tryz.zeroValue80
 t72 := Tryz.underlying83
 a72 := Tryz.isAgg83
 z72 := Tryz.sizeOf83
 v72 := Tryz.zeroValue83
 t75 := Tryz.underlying85
 a75 := Tryz.isAgg85
 z75 := Tryz.sizeOf85
 v75 := Tryz.zeroValue85
 t76 := Tryz.underlying86
 a76 := Tryz.isAgg86
 z76 := Tryz.sizeOf86
 v76 := Tryz.zeroValue86
 t127 := Tryz.underlying110
 a127 := Tryz.isAgg110
 z127 := Tryz.sizeOf110
 v127 := Tryz.zeroValue110
 t164 := Tryz.underlying148
 a164 := Tryz.isAgg148
 z164 := Tryz.sizeOf148
 v164 := Tryz.zeroValue148 }
theorem Tryz.Builder_Extra_156 : Builder.Extra Tryz.prog Tryz.lays156_ren := {
 sizeBuilder := by kernel_rfl
 liesBuilder := by kernel_rfl
 t5 := Tryz.underlying5
 a5 := Tryz.isAgg5
 z5 := Tryz.sizeOf5
 v5 := Tryz.zeroValue5
 infoByte := by kernel_rfl
 cellsByte := by kernel_rfl
 sizeByte := by kernel_rfl
 neB5 := by decide }
open Go.RowKit in
theorem Tryz.strings_Join_none (a : Option Addr) (c : Nat) (sep : ByteArray) (w : World) :
  Calls Tryz.prog 57 #[.slice a 0 c, .string sep] w fun e w' => e = .returned (.string ⟨#[]⟩) ∧ w' = w := Any.strings_Join_none Tryz.lays156 Tryz.Builder_Extra_156 a c sep w
open Go.RowKit in
theorem Tryz.strings_Join (bk o c : Nat) (xs : List ByteArray) (sep : ByteArray) (w : World) (hcells : ∀ (j : Nat) x, xs[j]? = some x → w.cell? ⟨bk, o + j, none⟩ = some (.string x)) (hbk : bk < w.heap.size) (hN : xs.length ≤ 140737488355328) (hcap : xs.length ≤ c) (hlen : (Lib.join (xs.map (·.data.toList)) sep.data.toList).length ≤ 140737488355328) :
  Calls Tryz.prog 57 #[.slice (some ⟨bk, o, none⟩) xs.length c, .string sep] w fun e w' => e = .returned (.string ⟨(Lib.join (xs.map (·.data.toList)) sep.data.toList).toArray⟩) ∧ Below w.heap.size w w' := Any.strings_Join Tryz.lays156 Tryz.Builder_Extra_156 bk o c xs sep w hcells hbk hN hcap hlen
def Tryz.lays217_ren : Go.Shelf.Ren := ⟨fun | 217 => 124 | 266 => 154 | n => n, fun | 9 => 9 | 5 => 5 | 3 => 3 | n => n, fun | n => n⟩
theorem Tryz.lays217 : Go.Proofs.Lays.n217 Tryz.prog Tryz.lays217_ren := {
 mixed := by kernel_rfl
 f217 := Tryz.func124.trans (congrArg some (by kernel_rfl))
 f266 := Tryz.func154.trans (congrArg some (by kernel_rfl))
 t3 := Tryz.underlying3
 a3 := Tryz.isAgg3
 z3 := Tryz.sizeOf3
 v3 := Tryz.zeroValue3
 t5 := Tryz.underlying5
 a5 := Tryz.isAgg5
 z5 := Tryz.sizeOf5
 v5 := Tryz.zeroValue5
 t9 := Tryz.underlying9
 a9 := Tryz.isAgg9
 z9 := Tryz.sizeOf9
 v9 := Tryz.zeroValue9 }
open Go.RowKit Go.Lib in
theorem Tryz.stringslite_IndexByte (s : ByteArray) (c : Int) (w : World) :
  Calls Tryz.prog 124 #[.string s, .int .u8 c] w fun e w' => e = .returned (.int .i64 (Lib.indexByte s.data.toList c.toNat.toUInt8)) ∧ w' = w := Any.stringslite_IndexByte Tryz.lays217 s c w
def Tryz.lays138_ren : Go.Shelf.Ren := ⟨fun | 138 => 152 | 195 => 169 | 218 => 171 | 143 => 153 | 219 => 87 | 217 => 124 | 225 => 125 | 224 => 126 | 267 => 127 | 266 => 154 | 314 => 155 | n => n, fun | 9 => 9 | 3 => 3 | 4 => 4 | 5 => 5 | 0 => 0 | 46 => 107 | 146 => 193 | 51 => 125 | n => n, fun | 1 => 0 | n => n⟩
theorem Tryz.lays138 : Go.Proofs.Lays.n138 Tryz.prog Tryz.lays138_ren := {
 mixed := by kernel_rfl
 f138 := Tryz.func152.trans (congrArg some (by kernel_rfl))
 f143 := Tryz.func153.trans (congrArg some (by kernel_rfl))
 f195 := Tryz.func169.trans (congrArg some (by kernel_rfl))
 f217 := Tryz.func124.trans (congrArg some (by kernel_rfl))
 f218 := Tryz.func171.trans (congrArg some (by kernel_rfl))
 f219 := Tryz.func87.trans (congrArg some (by kernel_rfl))
 f224 := Tryz.func126.trans (congrArg some (by kernel_rfl))
 f225 := Tryz.func125.trans (congrArg some (by kernel_rfl))
 f266 := Tryz.func154.trans (congrArg some (by kernel_rfl))
 f267 := Tryz.func127.trans (congrArg some (by kernel_rfl))
 f314 := Tryz.func155.trans (congrArg some (by kernel_rfl))
 t0 := Tryz.underlying0
 a0 := Tryz.isAgg0
 z0 := Tryz.sizeOf0
 v0 := Tryz.zeroValue0
 t3 := Tryz.underlying3
 a3 := Tryz.isAgg3
 z3 := Tryz.sizeOf3
 v3 := Tryz.zeroValue3
 t4 := Tryz.underlying4
 a4 := Tryz.isAgg4
 z4 := Tryz.sizeOf4
 v4 := Tryz.zeroValue4
 t5 := Tryz.underlying5
 a5 := Tryz.isAgg5
 z5 := Tryz.sizeOf5
 v5 := Tryz.zeroValue5
 t9 := Tryz.underlying9
 a9 := Tryz.isAgg9
 z9 := Tryz.sizeOf9
 v9 := Tryz.zeroValue9
 t46 := Tryz.underlying107
 a46 := Tryz.isAgg107
 z46 := Tryz.sizeOf107
 v46 := Tryz.zeroValue107
 t51 := Tryz.underlying125
 a51 := Tryz.isAgg125
 z51 := Tryz.sizeOf125
 v51 := Tryz.zeroValue125
 t146 := Tryz.underlying193
 a146 := Tryz.isAgg193
 z146 := Tryz.sizeOf193
 v146 := Tryz.zeroValue193
 g1 := by kernel_rfl }
open Go.RowKit Go.Lib in
theorem Tryz.strings_Count_one (s : ByteArray) (c : UInt8) (w : World) :
  Calls Tryz.prog 152 #[.string s, .string ⟨#[c]⟩] w fun e w' => e = .returned (.int .i64 (Lib.countByte s.data.toList c)) ∧ w' = w := Any.strings_Count_one Tryz.lays138 s c w
def Tryz.lays190_ren : Go.Shelf.Ren := ⟨fun | 190 => 30 | 125 => 55 | 258 => 54 | 128 => 101 | 129 => 102 | 302 => 92 | 303 => 93 | 304 => 94 | 305 => 95 | 306 => 96 | 307 => 97 | 308 => 98 | 309 => 99 | 310 => 100 | 333 => 130 | 329 => 131 | 330 => 132 | 334 => 133 | 335 => 134 | 336 => 135 | 344 => 158 | n => n, fun | 31 => 31 | 9 => 9 | 3 => 3 | 46 => 107 | 0 => 0 | 51 => 125 | 53 => 147 | 4 => 4 | 183 => 138 | 182 => 137 | 131 => 143 | 5 => 5 | 218 => 175 | 222 => 179 | 228 => 198 | 229 => 199 | n => n, fun | n => n⟩
theorem Tryz.lays190 : Go.Proofs.Lays.n190 Tryz.prog Tryz.lays190_ren := {
 mixed := by kernel_rfl
 f125 := Tryz.func55.trans (congrArg some (by kernel_rfl))
 f128 := Tryz.func101.trans (congrArg some (by kernel_rfl))
 f129 := Tryz.func102.trans (congrArg some (by kernel_rfl))
 f190 := Tryz.func30.trans (congrArg some (by kernel_rfl))
 f258 := Tryz.func54.trans (congrArg some (by kernel_rfl))
 f302 := Tryz.func92.trans (congrArg some (by kernel_rfl))
 f303 := Tryz.func93.trans (congrArg some (by kernel_rfl))
 f304 := Tryz.func94.trans (congrArg some (by kernel_rfl))
 f305 := Tryz.func95.trans (congrArg some (by kernel_rfl))
 f306 := Tryz.func96.trans (congrArg some (by kernel_rfl))
 f307 := Tryz.func97.trans (congrArg some (by kernel_rfl))
 f308 := Tryz.func98.trans (congrArg some (by kernel_rfl))
 f309 := Tryz.func99.trans (congrArg some (by kernel_rfl))
 f310 := Tryz.func100.trans (congrArg some (by kernel_rfl))
 f329 := Tryz.func131.trans (congrArg some (by kernel_rfl))
 f330 := Tryz.func132.trans (congrArg some (by kernel_rfl))
 f333 := Tryz.func130.trans (congrArg some (by kernel_rfl))
 f334 := Tryz.func133.trans (congrArg some (by kernel_rfl))
 f335 := Tryz.func134.trans (congrArg some (by kernel_rfl))
 f336 := Tryz.func135.trans (congrArg some (by kernel_rfl))
 f344 := Tryz.func158.trans (congrArg some (by kernel_rfl))
 t0 := Tryz.underlying0
 a0 := Tryz.isAgg0
 z0 := Tryz.sizeOf0
 v0 := Tryz.zeroValue0
 t3 := Tryz.underlying3
 a3 := Tryz.isAgg3
 z3 := Tryz.sizeOf3
 v3 := Tryz.zeroValue3
 t4 := Tryz.underlying4
 a4 := Tryz.isAgg4
 z4 := Tryz.sizeOf4
 v4 := Tryz.zeroValue4
 t5 := Tryz.underlying5
 a5 := Tryz.isAgg5
 z5 := Tryz.sizeOf5
 v5 := Tryz.zeroValue5
 t9 := Tryz.underlying9
 a9 := Tryz.isAgg9
 z9 := Tryz.sizeOf9
 v9 := Tryz.zeroValue9
 t31 := Tryz.underlying31
 a31 := Tryz.isAgg31
 z31 := Tryz.sizeOf31
 v31 := Tryz.zeroValue31
 t46 := Tryz.underlying107
 a46 := Tryz.isAgg107
 z46 := Tryz.sizeOf107
 v46 := Tryz.zeroValue107
 t51 := Tryz.underlying125
 a51 := Tryz.isAgg125
 z51 := Tryz.sizeOf125
 v51 := Tryz.zeroValue125
 t53 := Tryz.underlying147
 a53 := Tryz.isAgg147
 z53 := Tryz.sizeOf147
 v53 := Tryz.zeroValue147
 t131 := Tryz.underlying143
 a131 := Tryz.isAgg143
 z131 := Tryz.sizeOf143
 v131 := Tryz.zeroValue143
 t182 := Tryz.underlying137
 a182 := Tryz.isAgg137
 z182 := Tryz.sizeOf137
 v182 := Tryz.zeroValue137
 t183 := Tryz.underlying138
 a183 := Tryz.isAgg138
 z183 := Tryz.sizeOf138
 v183 := Tryz.zeroValue138
 t218 := Tryz.underlying175
 a218 := Tryz.isAgg175
 z218 := Tryz.sizeOf175
 v218 := Tryz.zeroValue175
 t222 := Tryz.underlying179
 a222 := Tryz.isAgg179
 z222 := Tryz.sizeOf179
 v222 := Tryz.zeroValue179
 t228 := Tryz.underlying198
 a228 := Tryz.isAgg198
 z228 := Tryz.sizeOf198
 v228 := Tryz.zeroValue198
 t229 := Tryz.underlying199
 a229 := Tryz.isAgg199
 z229 := Tryz.sizeOf199
 v229 := Tryz.zeroValue199 }
open Go.Sort Go.RowKit in
theorem Tryz.slices_Sort_string (blk off cap : Nat) (ss : List (List UInt8)) (w : World) (hH : Holds encStr w blk off ss.toArray) (hblk : blk < w.heap.size) (hsz : ss.length < 4611686018427387904) :
  Calls Tryz.prog 30 #[.slice (some ⟨blk, off, none⟩) ss.length cap] w fun e w' =>
   e = .returned (.tuple #[]) ∧ ∃ n os, w' = grow (putRow encStr (Sort.ahead w n) blk off (ss.mergeSort fun x y => decide (x ≤ y)).toArray) os := Any.slices_Sort_string Tryz.lays190 blk off cap ss w hH hblk hsz
end Go.Proofs
namespace Go.Abs
theorem d9k (xs : List (List UInt8)) : (xs.map strU).flatMap AV.cells = xs.map strU := by
 induction xs with
 | nil => rfl
 | cons x xs ih => rw [List.map_cons, List.flatMap_cons, ih]; rfl
theorem e6c {w : World} {b o : Nat} {v : Value} (h : w.cell? ⟨b, o, none⟩ = some v) : b < w.heap.size := by
 simp only [World.cell?] at h
 cases hb : w.heap[b]? with
 | none => simp [hb] at h
 | some o => exact (Array.getElem?_eq_some_iff.1 hb).1
theorem d8F (xs : List (List UInt8)) (sep : List UInt8) (hN : xs.length ≤ 140737488355328) (hlen : (Lib.join xs sep).length ≤ 140737488355328) : a0f Pr a6f [.sl 1 (xs.map strU), strU sep] (strU (Lib.join xs sep)) := by
 refine a0f.ofBelow (fn := Go.Proofs.Tryz.f57) Go.Proofs.Tryz.func57 (by kernel_rfl) (by kernel_rfl) ?_
 intro E vs hok hl hrep
 match vs, hl with
 | [v0, v1], _ =>
 have h0 := hrep 0 v0 _ rfl rfl
 have h1 := a0O (hrep 1 v1 _ rfl rfl)
 subst h1
 have key : ∀ (base : Option Addr) (cap : Nat), xs.length ≤ cap → (xs = [] ∨ ∃ b o, base = some ⟨b, o, none⟩ ∧ ∀ (j : Nat) l, xs[j]? = some l → E.w.cell? ⟨b, o + j, none⟩ = some (.string ⟨l.toArray⟩)) →
   Calls Pr a6f [.slice base xs.length cap, .string ⟨sep.toArray⟩].toArray E.w fun e w' => (∃ v, e = .returned v ∧ ∀ E', Rep E' v (strU (Lib.join xs sep))) ∧ Go.RowKit.Below E.w.heap.size E.w w' := by
  intro base cap hcap hb
  rcases hb with rfl | ⟨b, o, rfl, hc⟩
  ·refine (Go.Proofs.Tryz.strings_Join_none base cap ⟨sep.toArray⟩ E.w).mono ?_
   rintro e w' ⟨rfl, rfl⟩
   exact ⟨⟨_, rfl, fun _ => .str _⟩, Go.RowKit.Below.refl _ _⟩
  ·by_cases hx : xs = []
   ·subst hx
    refine (Go.Proofs.Tryz.strings_Join_none (some ⟨b, o, none⟩) cap ⟨sep.toArray⟩ E.w).mono ?_
    rintro e w' ⟨rfl, rfl⟩
    exact ⟨⟨_, rfl, fun _ => .str _⟩, Go.RowKit.Below.refl _ _⟩
   have hpos : 0 < xs.length := List.length_pos_iff.2 hx
   have hmm : (xs.map fun l => ByteArray.mk l.toArray).map (·.data.toList) = xs := by
    rw [List.map_map]
    conv => rhs; rw [← List.map_id xs]
    exact List.map_congr_left fun l _ => rfl
   have := Go.Proofs.Tryz.strings_Join b o cap (xs.map fun l => ByteArray.mk l.toArray) ⟨sep.toArray⟩ E.w (by
    intro j x hj
    rw [List.getElem?_map, Option.map_eq_some_iff] at hj
    obtain ⟨l, hl, rfl⟩ := hj
    exact hc j l hl) (e6c (hc 0 _ (List.getElem?_eq_getElem hpos))) (by rw [List.length_map]; exact hN) (by rw [List.length_map]; exact hcap) (by rw [hmm]; exact hlen)
   rw [List.length_map, hmm] at this
   refine this.mono ?_
   rintro e w' ⟨rfl, hbl⟩
   exact ⟨⟨_, rfl, fun _ => .str _⟩, hbl⟩
 generalize hx : xs.map strU = ys at h0
 cases h0 with
 | sl base cap wd _ vs' b o hcap hpos hw hcl hbase hlen2 hcell hrep2 =>
  subst hx
  rw [List.length_map] at hcap ⊢
  refine key base cap hcap ?_
  rcases hbase with h | ⟨h, _⟩
  ·exact .inl (List.map_eq_nil_iff.1 h)
  ·refine .inr ⟨b, o, h, fun j l hj => ?_⟩
   rw [d9k] at hlen2 hrep2
   have hjl := (List.getElem?_eq_some_iff.1 hj).1
   have hv : vs'[j]? = some (vs'[j]'(by rw [hlen2, List.length_map]; exact hjl)) := List.getElem?_eq_getElem _
   have hr := hrep2 j _ (strU l) hv (by rw [List.getElem?_map, hj]; rfl)
   have := (hcell j _ hv).1
   rw [a0O hr] at this
   exact this
 | dead _ _ i hr hd h1 => simp [AV.ref] at hr
theorem d4A (x : ZI) (hx : Zok 8796093022208 x) : a0f Pr b1M [x.av] (strU (decI x.z)) := by
 have hx' := hx.mono (show 8796093022208 ≤ 17592186044416 by omega)
 have hs := b7S x hx'
 have ht := c9J x.mag ⟨hx'.lim, hx'.len⟩ hx.len
 have hab : x.z.natAbs = val x.mag := by unfold ZI.z; rw [b5g]
 have hdl : (dec (val x.mag)).length ≤ 10 * x.mag.length + 1 := d9E (a1Z hx.lim)
 have hxl := hx.len
 have hadd : binV .add (.str ⟨#[45]⟩) (strU (dec (val x.mag))) = some (strU (45 :: dec (val x.mag))) := b2K [45] _ (by simp only [List.length_cons, List.length_nil]; omega)
 by_cases hn : x.z < 0
 ·have hd : decI x.z = 45 :: dec (val x.mag) := by rw [decI, if_pos hn, hab]
  rw [hd]
  obtain ⟨n, m⟩ := x
  simp only [ZI.av] at hs ht hadd ⊢
  refine a0f.intro b9y b9x (Nat.le_of_ble_eq_true rfl) (a1l _) fun H hH => ?_
  refine Safe.rg rfl ?_
  simp only [b2w, E3, seval]
  refine Safe.rg rfl ?_
  simp only [b2v, E3, seval]
  first | refine (hs).acall ?_ | refine (hs).dcall ?_ | refine (hs).dgcall ?_
  try simp only [E3, seval]
  refine Safe.cd rfl ?_
  simp only [d7s, hn, E3, seval]
  refine Safe.rg rfl ?_
  simp only [b9w, E3, seval]
  first | refine (ht).acall ?_ | refine (ht).dcall ?_ | refine (ht).dgcall ?_
  try simp only [E3, seval]
  simp only [hadd, E3, seval]
  refine Safe.rt rfl ?_
  simp only [E3, seval]
  first | exact ⟨rfl, _, rfl⟩ | exact ⟨_, rfl⟩ | exact ⟨trivial, _, rfl⟩
 ·have hd : decI x.z = dec (val x.mag) := by rw [decI, if_neg hn, hab]
  rw [hd]
  obtain ⟨n, m⟩ := x
  simp only [ZI.av] at hs ht hadd ⊢
  refine a0f.intro b9y b9x (Nat.le_of_ble_eq_true rfl) (a1l _) fun H hH => ?_
  refine Safe.rg rfl ?_
  simp only [b2w, E3, seval]
  refine Safe.rg rfl ?_
  simp only [b2v, E3, seval]
  first | refine (hs).acall ?_ | refine (hs).dcall ?_ | refine (hs).dgcall ?_
  try simp only [E3, seval]
  refine Safe.cd rfl ?_
  simp only [d7s, hn, E3, seval]
  refine Safe.rg rfl ?_
  simp only [b9v, E3, seval]
  first | refine (ht).acall ?_ | refine (ht).dcall ?_ | refine (ht).dgcall ?_
  try simp only [E3, seval]
  refine Safe.rt rfl ?_
  simp only [E3, seval]
  first | exact ⟨rfl, _, rfl⟩ | exact ⟨_, rfl⟩ | exact ⟨trivial, _, rfl⟩
theorem e5L (g : FuncId) (caps : List AV) (v : List ZI) (f : Nat → List UInt8) (hv : v.length ≤ 2097152) (hc : ∀ c ∈ caps, Cl c) (hf : ∀ (i : Nat) (h : i < v.length), a0f Pr g (v[i].av :: caps) (strU (f i))) : a0f Pr a3M [vecV v, .fn g caps] (.sl 1 ((tx v.length f).map strU)) := by
 have hcl : ∀ id, caps.all (nref id) = true := fun id => List.all_eq_true.2 fun c h => a0J (hc c h)
 refine a0f.intro b4x b4v (Nat.le_of_ble_eq_true rfl) (e6a 1 strU _ a1l) fun H hH => ?_
 refine Safe.rg rfl ?_
 simp only [a7y, E3, seval]
 refine Safe.rg rfl ?_
 simp only [a7x, c1M _ _ 1 16 _ _ _ v.length (by decide) (by omega) (by omega), E3, seval]
 refine Safe.rg rfl ?_
 simp only [a7w, E3, seval]
 refine Safe.lp rfl ?_
 refine Safe.keep [1, 5, 11, 12, 13] ?_
 try simp only [E3, seval]
 refine Safe.loopN (v.length) (fun i => [(1, .fn g caps), (5, .mu (lid H 0) 0 i (some v.length)), (11, vecV v), (12, .int .i64 v.length), (13, .int .i64 i)]) (fun i => hap H [some ⟨1, (tx i f).map strU⟩]) rfl rfl (fun i hi ih => ?_) ?_
 ·have hlt : (i : Int) < (v.length : Int) := by omega
  have hiw : IntKind.wrap .i64 ((i : Int) + 1) = ((i + 1 : Nat) : Int) := by rw [a0e] <;> omega
  refine Safe.inLoop ?_
  refine Safe.rg rfl ?_
  simp only [a3x, hlt, E3, seval]
  refine Safe.cd rfl ?_
  simp only [E3, seval]
  refine Safe.rg rfl ?_
  simp only [a7v, b2D _ v _ i (by omega), E3, seval]
  refine Safe.rg rfl ?_
  simp only [a7u, E3, seval]
  first | refine (hf i hi).acall ?_ | refine (hf i hi).dcall ?_ | refine (hf i hi).dgcall ?_
  try simp only [E3, seval]
  simp only [ES, E3, seval]
  rw [c2d (H := H) 0 (a5g H 0) (f := strU) (tx i f) (f i) (tx (i + 1) f) (b6v _ _).symm rfl rfl (d1u _ _) (by omega)]
  simp only [hcl, E3, seval]
  refine Safe.rg rfl ?_
  simp only [a7t, hiw, E3, seval]
  refine Safe.keep [1, 5, 11, 12, 13] ?_
  simp only [E3, seval]
  refine Safe.drop1 hH rfl (by simp only [List.all_cons, List.all_nil, hcl, E3, seval]) (RC.row a1l RC.nil) ?_
  exact ih
 ·refine Safe.inLoop ?_
  refine Safe.rg rfl ?_
  simp only [a3x, Int.lt_irrefl, E3, seval]
  refine Safe.cd rfl ?_
  simp only [E3, seval]
  refine Safe.freeze 0 hH rfl rfl (a4E 1 strU _ a1l) ?_
  refine Safe.keep [5] ?_
  simp only [a8F 0 1 strU (tx v.length f) v.length (some v.length) (b6v _ _).symm, E3, seval]
  refine Safe.rg rfl ?_
  simp only [a7s, E3, seval]
  refine Safe.rt rfl ?_
  simp only [E3, seval]
  first | exact ⟨rfl, _, rfl⟩ | exact ⟨_, rfl⟩ | exact ⟨trivial, _, rfl⟩
theorem d6X (v : List ZI) (hv : Vok 8796093022208 v) (hs : (txV v).length ≤ 70368744177664) : a0f Pr a7c [vecV v] (strU (txV v)) := by
 have hvl := hv.len
 have he := e5L b1M [] v (fun i => decI (zg v i)) hv.len (by simp) fun i h => by
  have := d4A v[i] (hv.get h)
  rwa [← c5n h] at this
 have hj : a0f Pr a6f [.sl 1 ((tx v.length fun i => decI (zg v i)).map strU), .str ⟨#[32]⟩] (strU (txV v)) := d8F _ [32] (by rw [b6v]; omega) (Nat.le_trans hs (by decide))
 refine a0f.intro b8I b8H (Nat.le_of_ble_eq_true rfl) (a1l _) fun H hH => ?_
 refine Safe.rg rfl ?_
 simp only [b0k, E3, seval]
 refine Safe.rg rfl ?_
 simp only [b0j, E3, seval]
 first | refine (he).acall ?_ | refine (he).dcall ?_ | refine (he).dgcall ?_
 try simp only [E3, seval]
 first | refine (hj).acall ?_ | refine (hj).dcall ?_ | refine (hj).dgcall ?_
 try simp only [E3, seval]
 refine Safe.rt rfl ?_
 simp only [E3, seval]
 first | exact ⟨rfl, _, rfl⟩ | exact ⟨_, rfl⟩ | exact ⟨trivial, _, rfl⟩
def sumL (v : List ZI) : Nat := (v.map fun z => z.mag.length).sum
structure TotV (v : List ZI) : Prop where
 len : v.length ≤ 1048576
 sum : sumL v ≤ 1048576
structure TotM (b : List (List ZI)) : Prop where
 len : b.length ≤ 1048576
 cells : (b.map fun v => v.length).sum ≤ 1048576
 sum : (b.map sumL).sum ≤ 1048576
theorem b8C {α : Type} (f : α → Nat) : ∀ {l : List α} {x : α}, x ∈ l → f x ≤ (l.map f).sum
 | a :: l, x, h => by
  rcases List.mem_cons.1 h with e | e
  ·subst e; simp
  ·have := b8C f e
   simp only [List.map_cons, List.sum_cons]; omega
theorem TotM.row {b : List (List ZI)} (h : TotM b) {i : Nat} (hi : i < b.length) : sumL (mg b i) ≤ 1048576 ∧ (mg b i).length ≤ 1048576 := by
 rw [a5N hi]
 exact ⟨Nat.le_trans (b8C sumL (List.getElem_mem hi)) h.sum, Nat.le_trans (b8C (fun v : List ZI => v.length) (List.getElem_mem hi)) h.cells⟩
end Go.Abs
namespace Go.Abs
def decV (l : List UInt8) : Nat := l.foldl (fun a c => 10 * a + (c.toNat - 48)) 0
theorem d4h : decV [] = 0 := rfl
theorem d9F (l : List UInt8) (c : UInt8) : decV (l ++ [c]) = 10 * decV l + (c.toNat - 48) := by simp [decV]
theorem c4R : ∀ (b : List UInt8) (a : Nat), b.foldl (fun a c => 10 * a + (c.toNat - 48)) a = a * 10 ^ b.length + decV b
 | [], a => by simp [d4h]
 | c :: b, a => by
  unfold decV
  rw [List.foldl_cons, List.foldl_cons, c4R b, c4R b (10 * 0 + (c.toNat - 48)), List.length_cons, Nat.pow_succ, Nat.add_mul, Nat.mul_zero, Nat.zero_add, Nat.add_assoc]
  congr 1
  rw [Nat.mul_comm 10 a, Nat.mul_assoc, Nat.mul_comm 10]
theorem d4i (a b : List UInt8) : decV (a ++ b) = decV a * 10 ^ b.length + decV b := by
 show (a ++ b).foldl _ 0 = _
 rw [List.foldl_append, c4R]
 rfl
theorem d9H (c : UInt8) (l : List UInt8) : decV (c :: l) = (c.toNat - 48) * 10 ^ l.length + decV l := by
 have := d4i [c] l
 simpa [decV] using this
def isDg (c : UInt8) : Prop := 48 ≤ c.toNat ∧ c.toNat ≤ 57
structure Dgs (D : List UInt8) (n : Nat) : Prop where
 pos : 0 < D.length
 dg : ∀ c ∈ D, isDg c
 head : (1 < D.length ∨ n ≠ 0) → (D.getD 0 0).toNat ≠ 48
 val : decV D = n
theorem b5P : ∀ {l : List UInt8}, (∀ c ∈ l, isDg c) → decV l < 10 ^ l.length
 | [], _ => by decide
 | c :: l, h => by
  have h1 := b5P fun d hd => h d (List.mem_cons_of_mem _ hd)
  have h2 := h c (by simp)
  unfold isDg at h2
  rw [d9H, List.length_cons, Nat.pow_succ]
  have h3 : (c.toNat - 48) * 10 ^ l.length ≤ 9 * 10 ^ l.length := Nat.mul_le_mul_right _ (by omega)
  omega
theorem c7D {α : Type} (l : List α) (k n : Nat) : l.take (k + n) = l.take k ++ (l.drop k).take n := List.take_add
theorem d9b {D : List UInt8} (h : ∀ c ∈ D, isDg c) {i : Nat} (hi : i < D.length) : isDg (D.getD i 0) := by
 rw [List.getD_eq_getElem?_getD, List.getElem?_eq_getElem hi]
 exact h _ (List.getElem_mem _)
theorem e2d (P D : List UInt8) (j : Nat) : (P ++ D).getD (P.length + j) 0 = D.getD j 0 := by
 rw [List.getD_eq_getElem?_getD, List.getD_eq_getElem?_getD, List.getElem?_append_right (by omega), Nat.add_sub_cancel_left]
theorem c5o {D : List UInt8} {k j : Nat} (h : k + j < D.length) : (D.drop k).take (j + 1) = (D.drop k).take j ++ [D.getD (k + j) 0] := by
 rw [List.take_succ_eq_append_getElem (by rw [List.length_drop]; omega), List.getElem_drop, List.getD_eq_getElem?_getD, List.getElem?_eq_getElem h]
 rfl
theorem c1R (l : List UInt8) (k : IntKind) {i : Nat} (h : i < l.length) : idxS (strU l) (.int k i) = some (.int .u8 ((l.getD i 0).toNat : Int)) := by
 unfold strU
 rw [d3V, if_pos ⟨by omega, by rw [a8r]; omega⟩]
 simp
theorem a0u (l : List UInt8) : lenS (strU l) = some (.int .i64 l.length) := by
 unfold strU; rw [d3R, a8r]
end Go.Abs
namespace Go.Abs
open Go.Proofs Go.RowKit
set_option maxRecDepth 100000 in
theorem d7Y (n : Nat) (hn : n ≤ 9) (w : World) : Calls Pr b3V #[.int .i64 n] w fun e w' => e = .returned (.int .u32 (10 ^ n : Nat)) ∧ w' = w := by
 have hix : ∀ w : World, (Instr.index 192 (Value.agg #[Value.int IntKind.u32 1, Value.int IntKind.u32 10, Value.int IntKind.u32 100, Value.int IntKind.u32 1000, Value.int IntKind.u32 10000, Value.int IntKind.u32 100000, Value.int IntKind.u32 1000000, Value.int IntKind.u32 10000000, Value.int IntKind.u32 100000000, Value.int IntKind.u32 1000000000]) (Value.int IntKind.i64 (n : Int))).run Pr w = .ok (.int .u32 (10 ^ n : Nat)) w := by
  intro w
  have h : n = 0 ∨ n = 1 ∨ n = 2 ∨ n = 3 ∨ n = 4 ∨ n = 5 ∨ n = 6 ∨ n = 7 ∨ n = 8 ∨ n = 9 := by omega
  rcases h with rfl | rfl | rfl | rfl | rfl | rfl | rfl | rfl | rfl | rfl <;> rfl
 go_enter Tryz.func123, Tryz.ntmps123
 go_wp2
 go_ret
 exact ⟨rfl, rfl⟩
theorem b8p (n : Nat) (hn : n ≤ 9) : a0f Pr b3V [.int .i64 n] (.int .u32 (10 ^ n : Nat)) := by
 refine a0f.ofBelow (fn := Tryz.f123) Tryz.func123 (by kernel_rfl) (by kernel_rfl) ?_
 intro E vs hok hl hrep
 match vs, hl with
 | [v], _ =>
  have hv := hrep 0 v _ rfl rfl
  have e : v = .int .i64 n := a0F hv
  subst e
  refine (d7Y n hn E.w).mono ?_
  rintro e w' ⟨rfl, rfl⟩
  exact ⟨⟨_, rfl, fun E' => .int _ _⟩, Below.refl _ _⟩
end Go.Abs
namespace Go.Abs
theorem d6P (x : Nat) : val [x] = x := by simp [val]
theorem d7O (k : Nat) : 10 ^ k ≤ LB ^ k := Nat.pow_le_pow_left (by decide) k
theorem c4u {M k : Nat} (h : M < 10 ^ k) (hk : k ≤ 65536) : Nt (limbs M) := ⟨a0H _, Nat.le_trans (a0M (Nat.lt_of_lt_of_le h (d7O k))) (by omega)⟩
theorem c2y {n : Nat} (h : n < 4294967296) : IntKind.wrap .u32 (n : Int) = (n : Int) := a9d (Int.natCast_nonneg _) (by omega)
theorem e0x {n : Nat} (h : n < 256) : IntKind.wrap .u8 (n : Int) = (n : Int) := by
 unfold IntKind.wrap
 simp [IntKind.signed, IntKind.bits]
 omega
noncomputable def zrCx (H : Heap) : Cx := ⟨Pr, fun _ _ => false, a3b, 109, [.cell 2 (some 2), .tmp 3, .tmp 4], H.length⟩
def d3k : ACode := .seq (.seq (.region a7A false) (.cond (.t 70) (.seq (.region b0T false) (.ret)) (.skip))) (.seq (.region b0S false) (.seq (.seq (.region b0R false) (.block 2 (.loop b9J))) (.seq (.region a7z false) (.ret))))
theorem b3E (l : List UInt8) (k : IntKind) (h : 0 < l.length) : idxS (strU l) (.int k 0) = some (.int .u8 ((l.getD 0 0).toNat : Int)) := c1R l k (i := 0) h
theorem d8O (l : List UInt8) (k : IntKind) (h : 1 < l.length) : idxS (strU l) (.int k 1) = some (.int .u8 ((l.getD 1 0).toNat : Int)) := c1R l k (i := 1) h
end Go.Abs
namespace Go.Abs
def a1L (c : UInt8) : List UInt8 → List (List UInt8)
 | [] => [[]]
 | b :: l => if b = c then [] :: a1L c l else match a1L c l with
  | [] => [[b]]
  | p :: ps => (b :: p) :: ps
theorem b8c (c : UInt8) : ∀ l, (a1L c l).length = l.count c + 1
 | [] => rfl
 | b :: l => by
  have ih := b8c c l
  unfold a1L
  by_cases h : b = c
  ·rw [if_pos h, List.length_cons, ih, List.count_cons, h]; simp
  ·rw [if_neg h, List.count_cons]
   have hb : (b == c) = false := by simpa using h
   rw [hb]
   match hs : a1L c l with
   | [] => rw [hs] at ih; simp at ih
   | p :: ps => rw [hs] at ih; simp at ih ⊢; omega
theorem c2H (c : UInt8) : ∀ l, l.count c = 0 → a1L c l = [l]
 | [], _ => rfl
 | b :: l, h => by
  rw [List.count_cons] at h
  have hb : b ≠ c := fun e => by subst e; simp at h
  have ih := c2H c l (by omega)
  unfold a1L
  rw [if_neg hb, ih]
theorem c5M (c : UInt8) : ∀ (p r : List UInt8), p.count c = 0 → a1L c (p ++ c :: r) = p :: a1L c r
 | [], r, _ => by simp [a1L]
 | b :: p, r, h => by
  rw [List.count_cons] at h
  have hb : b ≠ c := fun e => by subst e; simp at h
  have ih := c5M c p r (by omega)
  have e : a1L c (b :: (p ++ c :: r)) = if b = c then [] :: a1L c (p ++ c :: r) else match a1L c (p ++ c :: r) with
   | [] => [[b]]
   | q :: ps => (b :: q) :: ps := by rw [a1L]
  rw [List.cons_append, e, if_neg hb, ih]
theorem c4E (c : UInt8) : ∀ l, 0 < l.count c → ∃ m : Nat, Lib.indexByte l c = (m : Int) ∧ m < l.length ∧ (l.take m).count c = 0 ∧ l = l.take m ++ c :: l.drop (m + 1)
 | [], h => by simp at h
 | b :: l, h => by
  unfold Lib.indexByte
  by_cases hb : b = c
  ·subst hb
   exact ⟨0, by simp, by simp, by simp, by simp⟩
  ·have hb' : (b == c) = false := by simpa using hb
   rw [List.count_cons, hb'] at h
   obtain ⟨m, h1, h2, h3, h4⟩ := c4E c l (by simpa using h)
   refine ⟨m + 1, ?_, by simpa using h2, ?_, ?_⟩
   ·rw [hb', h1]
    have : ((m : Int) == -1) = false := by
     rw [beq_eq_false_iff_ne]; omega
    simp [this]
   ·rw [List.take_succ_cons, List.count_cons, h3, hb']; simp
   ·rw [List.take_succ_cons, List.drop_succ_cons, List.cons_append, ← h4]
theorem d7o (l : List UInt8) (lo hi : Nat) (h1 : lo ≤ hi) (h2 : hi ≤ l.length) : slcS (strU l) (some (.int .i64 lo)) (some (.int .i64 hi)) = some (strU ((l.drop lo).take (hi - lo))) := by
 unfold strU
 simp only [slcS, a3T, Option.bind_some, a8r]
 rw [if_pos ⟨by omega, by omega, by omega⟩]
 congr 2
 apply ByteArray.ext
 simp [ByteArray.data_extract]
theorem c7I (l : List UInt8) (lo : Nat) (h : lo ≤ l.length) : slcS (strU l) (some (.int .i64 lo)) none = some (strU (l.drop lo)) := by
 have := d7o l lo l.length h (Nat.le_refl _)
 unfold strU at this ⊢
 simp only [slcS, a3T, Option.bind_some, a8r] at this ⊢
 rw [this, List.take_of_length_le (by rw [List.length_drop]; omega)]
theorem c7J (l : List UInt8) (hi : Nat) (h : hi ≤ l.length) : slcS (strU l) none (some (.int .i64 hi)) = some (strU (l.take hi)) := by
 have := d7o l 0 hi (Nat.zero_le _) h
 rw [List.drop_zero, Nat.sub_zero] at this
 unfold strU at this ⊢
 simp only [slcS, a3T, Option.bind_some, a8r] at this ⊢
 exact this
end Go.Abs
namespace Go.Abs
open Go.Proofs
theorem strE : AV.str ⟨#[]⟩ = strU [] := rfl
theorem d3w (c : UInt8) : AV.str ⟨#[c]⟩ = strU [c] := rfl
theorem d1A (l : List UInt8) (c : UInt8) : a0f Pr a8L [strU l, strU [c]] (.int .i64 (Lib.indexByte l c)) := by
 have hb : a0f Pr a0L [strU l, .int .u8 (c.toNat : Int)] (.int .i64 (Lib.indexByte l c)) := by
  refine a0f.ofBelow Tryz.func124 (by decide +kernel) (by kernel_rfl) fun E vs hok hl hr => ?_
  obtain ⟨v0, v1, rfl⟩ : ∃ v0 v1, vs = [v0, v1] := by
   match vs, hl with
   | [v0, v1], _ => exact ⟨v0, v1, rfl⟩
  have h0 := a0O (hr 0 v0 _ rfl rfl)
  have h1 := a0F (hr 1 v1 _ rfl rfl)
  subst h0; subst h1
  refine (Tryz.stringslite_IndexByte ⟨l.toArray⟩ (c.toNat : Int) E.w).mono ?_
  rintro e w' ⟨rfl, rfl⟩
  refine ⟨⟨_, rfl, fun E' => ?_⟩, Go.RowKit.Below.refl _ _⟩
  have : ((c.toNat : Int)).toNat.toUInt8 = c := by simp
  rw [this]
  exact .int _ _
 have hi := b3E [c] .i64 (by simp)
 rw [show ([c] : List UInt8).getD 0 0 = c from rfl] at hi
 have hli : a0f Pr a0I [strU l, strU [c]] (.int .i64 (Lib.indexByte l c)) := by
  have hl1 : lenS (strU [c]) = some (.int .i64 1) := by rw [a0u]; rfl
  have h10 : ((1 : Int) = 0) = False := eq_false (by omega)
  by_cases hq : [c] = l
  ·have he : binV .eql (strU [c]) (strU l) = some (.bool true) := by rw [a2h, hq]; simp
   have hz : Lib.indexByte l c = 0 := by rw [← hq]; simp [Lib.indexByte]
   rw [hz]
   refine a0f.intro a0V a0U (Nat.le_of_ble_eq_true rfl) (.int _ _) fun H hH => ?_
   refine Safe.rg rfl ?_
   simp only [a0E, E3, seval]
   refine Safe.rg rfl ?_
   simp only [a0D, hl1, E3, seval]
   refine Safe.rg rfl ?_
   simp only [a0C, h10, he, E3, seval]
   refine Safe.cd rfl ?_
   simp only [E3, seval]
   refine Safe.rg rfl ?_
   simp only [a1x, E3, seval]
   refine Safe.rt rfl ?_
   simp only [E3, seval]
   exact ⟨_, rfl⟩
  ·have he : binV .eql (strU [c]) (strU l) = some (.bool false) := by
    rw [a2h]
    have : ([c] == l) = false := by rw [beq_eq_false_iff_ne]; exact hq
    rw [this]
   refine a0f.intro a0V a0U (Nat.le_of_ble_eq_true rfl) (.int _ _) fun H hH => ?_
   refine Safe.rg rfl ?_
   simp only [a0E, E3, seval]
   refine Safe.rg rfl ?_
   simp only [a0D, hl1, E3, seval]
   refine Safe.rg rfl ?_
   simp only [a0C, h10, he, E3, seval]
   refine Safe.cd rfl ?_
   simp only [E3, seval]
   refine Safe.rg rfl ?_
   simp only [a1w, E3, seval]
   refine Safe.cd rfl ?_
   simp only [E3, seval]
   refine Safe.rg rfl ?_
   simp only [a1v, hi, E3, seval]
   first | refine (hb).acall ?_ | refine (hb).dcall ?_ | refine (hb).dgcall ?_
   try simp only [E3, seval]
   refine Safe.rt rfl ?_
   simp only [E3, seval]
   exact ⟨_, rfl⟩
 refine a0f.intro c1e c1d (Nat.le_of_ble_eq_true rfl) (.int _ _) fun H hH => ?_
 refine Safe.rg rfl ?_
 simp only [b1V, E3, seval]
 refine Safe.rg rfl ?_
 simp only [b1U, E3, seval]
 first | refine (hli).acall ?_ | refine (hli).dcall ?_ | refine (hli).dgcall ?_
 try simp only [E3, seval]
 refine Safe.rt rfl ?_
 simp only [E3, seval]
 exact ⟨_, rfl⟩
theorem b5i (l : List UInt8) (c : UInt8) : a0f Pr b3X [strU l, strU [c]] (.int .i64 (l.count c : Nat)) := by
 refine a0f.ofBelow Tryz.func152 (by decide +kernel) (by kernel_rfl) fun E vs hok hl hr => ?_
 obtain ⟨v0, v1, rfl⟩ : ∃ v0 v1, vs = [v0, v1] := by
  match vs, hl with
  | [v0, v1], _ => exact ⟨v0, v1, rfl⟩
 have h0 := a0O (hr 0 v0 _ rfl rfl)
 have h1 := a0O (hr 1 v1 _ rfl rfl)
 subst h0; subst h1
 refine (Tryz.strings_Count_one ⟨l.toArray⟩ c E.w).mono ?_
 rintro e w' ⟨rfl, rfl⟩
 exact ⟨⟨_, rfl, fun E' => .int _ _⟩, Go.RowKit.Below.refl _ _⟩
theorem b1G (l : List UInt8) (c : UInt8) (hl : l.length ≤ 262144) : a0f Pr a4F [strU l, strU [c], .int .i64 0, .int .i64 (-1)] (.sl 1 ((a1L c l).map strU)) := by
 have hcl : Cl (.sl 1 ((a1L c l).map strU)) := .sl _ _ fun a ha => by
  obtain ⟨x, hx, ha⟩ := List.mem_flatMap.1 ha
  obtain ⟨y, _, rfl⟩ := List.mem_map.1 hx
  simp only [a3e, List.mem_cons, List.not_mem_nil, or_false] at ha
  subst ha; exact a1l y
 have hcn : l.count c ≤ l.length := List.count_le_length
 have e1 : binV .eql (strU [c]) (strU []) = some (.bool false) := by rw [a2h]; rfl
 have hm1 : ((-1 : Int) = 0) = False := eq_false (by omega)
 have hm2 : ((-1 : Int) < 0) = True := eq_true (by omega)
 have hw1 : IntKind.wrap .i64 (((l.count c : Nat) : Int) + 1) = ((l.count c + 1 : Nat) : Int) := by rw [a0e] <;> omega
 have hw2 : IntKind.wrap .i64 ((l.length : Int) + 1) = ((l.length + 1 : Nat) : Int) := by rw [a0e] <;> omega
 have hmn : (if ((l.length + 1 : Nat) : Int) < ((l.count c + 1 : Nat) : Int) then ((l.length + 1 : Nat) : Int) else ((l.count c + 1 : Nat) : Int)) = ((l.count c + 1 : Nat) : Int) := if_neg (by omega)
 have hw3 : IntKind.wrap .i64 (((l.count c + 1 : Nat) : Int) - 1) = ((l.count c : Nat) : Int) := by rw [a0e] <;> omega
 have hl1 : lenS (strU [c]) = some (.int .i64 1) := by rw [a0u]; rfl
 refine a0f.intro b5c b5a (Nat.le_of_ble_eq_true rfl) hcl fun H hH => ?_
 refine Safe.rg rfl ?_
 simp only [a8q, E3, seval]
 refine Safe.rg rfl ?_
 simp only [a8p, hm1, E3, seval]
 refine Safe.cd rfl ?_
 simp only [E3, seval]
 refine Safe.rg rfl ?_
 simp only [a8o, strE, e1, E3, seval]
 refine Safe.cd rfl ?_
 simp only [E3, seval]
 refine Safe.rg rfl ?_
 simp only [a8n, hm2, E3, seval]
 refine Safe.cd rfl ?_
 simp only [E3, seval]
 refine Safe.rg rfl ?_
 simp only [a8m, E3, seval]
 first | refine (b5i l c).acall ?_ | refine (b5i l c).dcall ?_ | refine (b5i l c).dgcall ?_
 try simp only [E3, seval]
 simp only [hw1, E3, seval]
 refine Safe.rg rfl ?_
 simp only [a8l, a0u, hw2, hmn, E3, seval]
 refine Safe.rg rfl ?_
 simp only [a8k, fun env => c3V env H [] 1 16 (strU []) .i64 .i64 (l.count c + 1) (l.count c + 1) (by decide) (Nat.le_refl _) (by omega) (by omega), strE, E3, seval]
 refine Safe.rg rfl ?_
 simp only [a8j, hw3, E3, seval]
 refine Safe.rg rfl ?_
 simp only [a7m, E3, seval]
 refine Safe.lp rfl ?_
 refine Safe.keep [0, 1, 2, 3, 9, 10] ?_
 simp only [E3, seval]
 have hst : ∀ (xs : List AV) (i : Nat) (p : List UInt8) (env : Env), i < xs.length → a5f 1 (.loc (lid H 0) i 0) (strU p) env (hap H [some ⟨1, xs⟩]) = some (.top, env, hap H [some ⟨1, xs.set i (strU p)⟩]) := fun xs i p env h => by
  rw [a5x env H [some ⟨1, xs⟩] 1 0 i 0 (strU p) rfl h rfl rfl (Nat.le_refl _), a4a]; rfl
 have hix : ∀ (xs : List AV) (i : Nat), i < l.count c + 1 → idxV (hap H [some ⟨1, xs⟩]) 1 (.mu (lid H 0) 0 (l.count c + 1) (some (l.count c + 1))) (.int .i64 i) = some (.loc (lid H 0) i 0) := fun xs i h => by
  rw [c8r _ _ _ _ _ _ _ _ (by omega) (by omega), a0Q]; simp
 refine Safe.loopW (fun a : List (List UInt8) × List UInt8 => a.2.count c) (fun a => [(0, strU a.2), (1, strU [c]), (2, .int .i64 0), (3, .int .i64 (l.count c : Nat)), (9, .mu (lid H 0) 0 (l.count c + 1) (some (l.count c + 1))), (10, .int .i64 a.1.length)])
  (fun a => hap H [some ⟨1, a.1.map strU ++ List.replicate (l.count c + 1 - a.1.length) (strU [])⟩]) (fun a => a1L c l = a.1 ++ a1L c a.2 ∧ a.1.length + a.2.count c = l.count c ∧ a.2.length ≤ 262144) ([], l) rfl rfl ⟨rfl, by simp, hl⟩ ?_
 rintro ⟨ps, r⟩ ⟨h1, h2, h3⟩ ih
 simp only at h1 h2 h3
 have hxl : (ps.map strU ++ List.replicate (l.count c + 1 - ps.length) (strU [])).length = l.count c + 1 := by simp; omega
 have hset : ∀ p : List UInt8, (ps.map strU ++ List.replicate (l.count c + 1 - ps.length) (strU [])).set ps.length (strU p) = (ps ++ [p]).map strU ++ List.replicate (l.count c + 1 - (ps ++ [p]).length) (strU []) := fun p => by
  rw [List.set_append_right _ _ (by simp), List.length_map, Nat.sub_self, show l.count c + 1 - ps.length = (l.count c + 1 - (ps ++ [p]).length) + 1 by simp; omega, List.replicate_succ, List.set_cons_zero]
  simp
 refine Safe.inLoop ?_
 by_cases hlt' : ps.length < l.count c
 ·have hlt : ((ps.length : Int) < ((l.count c : Nat) : Int)) = True := eq_true (by omega)
  obtain ⟨m, g1, g2, g3, g4⟩ := c4E c r (by omega)
  have hix' := d1A r c
  rw [g1] at hix'
  have hm0 : ((m : Int) < 0) = False := eq_false (by omega)
  have hwm : IntKind.wrap .i64 ((m : Int) + 0) = ((m : Nat) : Int) := by rw [a0e] <;> omega
  have hwm1 : IntKind.wrap .i64 ((m : Int) + 1) = ((m + 1 : Nat) : Int) := by rw [a0e] <;> omega
  have hwi : IntKind.wrap .i64 ((ps.length : Int) + 1) = ((ps.length + 1 : Nat) : Int) := by rw [a0e] <;> omega
  refine Safe.rg rfl ?_
  simp only [a3n, hlt, E3, seval]
  refine Safe.cd rfl ?_
  simp only [E3, seval]
  refine Safe.rg rfl ?_
  simp only [a7l, E3, seval]
  first | refine (hix').acall ?_ | refine (hix').dcall ?_ | refine (hix').dgcall ?_
  try simp only [E3, seval]
  refine Safe.rg rfl ?_
  simp only [a7k, hm0, E3, seval]
  refine Safe.cd rfl ?_
  simp only [E3, seval]
  refine Safe.rg rfl ?_
  simp only [a7j, hwm, c7J r m (by omega), hix _ ps.length (by omega), fun env => hst _ ps.length (r.take m) env (by rw [hxl]; omega), hset, E3, seval]
  refine Safe.rg rfl ?_
  simp only [a7i, hl1, hwm1, c7I r (m + 1) (by omega), E3, seval]
  refine Safe.rg rfl ?_
  simp only [a7h, hwi, E3, seval]
  refine Safe.keep [0, 1, 2, 3, 9, 10] ?_
  simp only [E3, seval]
  repeat (first | refine Safe.seq ?_ | refine Safe.skip ?_ | refine Safe.inBlock ?_ | refine Safe.block ?_ | refine Safe.exit rfl ?_)
  have hdc : r.count c = (r.drop (m + 1)).count c + 1 := by
   conv => lhs; rw [g4]
   rw [List.count_append, g3, List.count_cons]; simp
  have hn := ih (ps ++ [r.take m], r.drop (m + 1)) ⟨?_, by simp; omega, by simp; omega⟩ (by simp only; omega)
  ·simp only [List.length_append, List.length_cons, List.length_nil, Nat.zero_add] at hn ⊢
   exact hn
  ·rw [h1]
   conv => lhs; rw [g4, c5M c _ _ g3]
   simp
 ·have hpe : ps.length = l.count c := by omega
  have hlt : ((ps.length : Int) < ((l.count c : Nat) : Int)) = False := eq_false (by omega)
  have hwi : IntKind.wrap .i64 ((ps.length : Int) + 1) = ((ps.length + 1 : Nat) : Int) := by rw [a0e] <;> omega
  rw [c2H c r (by omega)] at h1
  have hfin : (ps ++ [r]).map strU ++ List.replicate (l.count c + 1 - (ps ++ [r]).length) (strU []) = (a1L c l).map strU := by
   rw [h1, show l.count c + 1 - (ps ++ [r]).length = 0 by simp; omega]; simp
  have hslc : ∀ xs : List AV, slcV (hap H [some ⟨1, xs⟩]) 1 (.mu (lid H 0) 0 (l.count c + 1) (some (l.count c + 1))) none (some (.int .i64 ((ps.length + 1 : Nat) : Int))) none = some (.mu (lid H 0) 0 (l.count c + 1) (some (l.count c + 1))) := fun xs => by
   simp only [slcV, a0Q, a3T, List.getElem?_cons_zero, Option.join_some, Option.bind_some]
   rw [if_pos ⟨trivial, by omega, by omega, by omega⟩]
   simp
   omega
  refine Safe.rg rfl ?_
  simp only [a3n, hlt, E3, seval]
  refine Safe.cd rfl ?_
  simp only [E3, seval]
  refine Safe.rg rfl ?_
  simp only [a7g, hix _ ps.length (by omega), fun env => hst _ ps.length r env (by rw [hxl]; omega), hset, hfin, E3, seval]
  refine Safe.rg rfl ?_
  simp only [a7f, hwi, hslc, E3, seval]
  refine Safe.freeze 0 hH rfl rfl (b := ⟨1, (a1L c l).map strU⟩) (fun a ha => by
   obtain ⟨x, hx, ha⟩ := List.mem_flatMap.1 ha
   obtain ⟨y, _, rfl⟩ := List.mem_map.1 hx
   simp only [a3e, List.mem_cons, List.not_mem_nil, or_false] at ha
   subst ha; exact a1l y) ?_
  refine Safe.keep [8] ?_
  simp only [a8F 0 1 strU (a1L c l) (l.count c + 1) (some (l.count c + 1)) (b8c c l).symm, E3, seval]
  refine Safe.rt rfl ?_
  simp only [E3, seval]
  exact ⟨_, rfl⟩
theorem d4Z (l : List UInt8) (c : UInt8) (hl : l.length ≤ 262144) : a0f Pr a8K [strU l, strU [c]] (.sl 1 ((a1L c l).map strU)) := by
 have hcl : Cl (.sl 1 ((a1L c l).map strU)) := .sl _ _ fun a ha => by
  obtain ⟨x, hx, ha⟩ := List.mem_flatMap.1 ha
  obtain ⟨y, _, rfl⟩ := List.mem_map.1 hx
  simp only [a3e, List.mem_cons, List.not_mem_nil, or_false] at ha
  subst ha; exact a1l y
 refine a0f.intro c1c c1b (Nat.le_of_ble_eq_true rfl) hcl fun H hH => ?_
 refine Safe.rg rfl ?_
 simp only [b1T, E3, seval]
 refine Safe.rg rfl ?_
 simp only [b1S, E3, seval]
 first | refine (b1G l c hl).acall ?_ | refine (b1G l c hl).dcall ?_ | refine (b1G l c hl).dgcall ?_
 try simp only [E3, seval]
 refine Safe.rt rfl ?_
 simp only [E3, seval]
 exact ⟨_, rfl⟩
end Go.Abs

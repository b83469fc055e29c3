/- Part 6 of the proof of WholeDual: W1, W2, W3, W5, W6, W7, W8, W9. -/
import Derived.Test.YtidemmcbjiccfaaWholeDualK5
set_option linter.unusedVariables false
set_option linter.unusedSimpArgs false
namespace Go.Abs
theorem a0p (l : List Nat) (hl : Lim l) (hb : l.length ≤ 17592186044416) : a0d Pr a0u [natV l] (natV (limbs (val l))) := by
 refine a0d.intro c5m c5k (by simp only [List.length_cons, List.length_nil]; omega) (a0V _) fun H hH => ?_
 refine Safe.seq (Safe.region ?_)
 simp only [b4Z, E1, seval]
 refine Safe.seq (Safe.block (Safe.loop ?_))
 refine Safe.keep [0] ?_
 simp only [E1, seval]
 generalize hv : val l = v
 have stop : ∀ (l : List Nat) (ts : Env), Lim l → val l = v → (l.getLast?).getD 1 ≠ 0 → look ts 0 = natV l → Safe ⟨Pr, fun _ _ => false, a0u, 21, [.tmp 2], H.length⟩ [.code ((ACode.region a4f false).seq ACode.ret)] ts (hap H []) fun r' H' => r' = natV (limbs v) ∧ ∃ L, H' = hap H L := by
  intro l ts hl hv hn h0
  refine Safe.seq (Safe.region ?_)
  simp only [a4f, E1, seval, h0]
  refine Safe.retn ?_
  simp only [E1, seval]
  rw [← hv, a7X hl hn]
  exact ⟨rfl, [], rfl⟩
 induction hn : l.length using Nat.strongRecOn generalizing l with
 | _ n ih =>
 refine Safe.inLoop (Safe.seq (Safe.seq (Safe.region ?_)))
 rcases List.eq_nil_or_concat l with rfl | ⟨l', d, rfl⟩
 ·simp only [a5K, E1, seval, a6C, Int.natCast_zero, Int.lt_irrefl]
  refine Safe.cond ?_
  simp only [E1, seval]
  refine Safe.exit rfl ?_
  exact stop [] _ hl hv (by simp) (by simp only [E1, seval])
 ·simp only [List.concat_eq_append] at *
  have hlen : (l' ++ [d]).length = l'.length + 1 := by simp
  have h0 : (0 : Int) < ((l' ++ [d]).length : Int) := by omega
  have hw : IntKind.i64.wrap (((l' ++ [d]).length : Int) - 1) = (l'.length : Int) := by rw [hlen, a0c] <;> omega
  have hg : (l' ++ [d]).getD l'.length 0 = d := by simp
  simp only [a5K, E1, seval, a6C, h0, hw, a0E _ (l' ++ [d]) _ l'.length (by omega), hg]
  refine Safe.cond ?_
  simp only [E1, seval]
  by_cases hd : d = 0
  ·subst hd
   simp only [Int.natCast_zero, E1, seval]
   refine Safe.skip (Safe.block (Safe.region ?_))
   simp only [b4Y, E1, seval, a6C, hw, e5T _ (l' ++ [0]) _ l'.length (by omega)]
   refine Safe.inBlock (Safe.keep [0] ?_)
   simp only [E1, seval, List.take_left']
   exact ih l'.length (by omega) l' (b9M.1 hl).1 (by omega) (by rw [← hv, e1S]) rfl
  ·have : ¬ ((d : Int) = 0) := by omega
   simp only [this, E1, seval]
   refine Safe.exit rfl ?_
   exact stop (l' ++ [d]) _ hl hv (by simpa using hd) (by simp only [E1, seval])
theorem a3N (l : List Nat) (hl : Nt l) : a0d Pr a8i [natV l] (natV (limbs (val l))) := by
 refine a0d.intro d7r d7q (by simp only [List.length_cons, List.length_nil]; omega) (a0V _) fun H hH => ?_
 refine Safe.seq (Safe.region ?_)
 simp only [c5B, E1, seval]
 refine Safe.seq (Safe.region ?_)
 simp only [c5A, E1, seval]
 refine (a0p l hl.lim hl.len).acall ?_
 simp only [E1, seval, c7L _ _ H [] _ hl.limbs.len]
 refine Safe.freeze 0 (b := ⟨1, u32s (limbs (val l))⟩) hH rfl rfl (a0F _) ?_
 refine Safe.retn ?_
 simp only [E1, seval]
 first | exact ⟨rfl, _, rfl⟩ | exact ⟨_, rfl⟩ | exact ⟨trivial, _, rfl⟩
def cmpI (a b : Nat) : Int := if a < b then -1 else if b < a then 1 else 0
theorem b8Y {a b : Nat} (h : (limbs a).length < (limbs b).length) : a < b := by
 have h1 : limbs b ≠ [] := by intro h0; rw [h0] at h; simp at h
 have := d4W h1
 have h2 := a1d (a0b a)
 rw [a0a] at h2
 have h3 : LB ^ (limbs a).length ≤ LB ^ ((limbs b).length - 1) := Nat.pow_le_pow_right (by decide) (by omega)
 omega
theorem b4X (a b : List Nat) (ha : Nt a) (hb : Nt b) : a0d Pr a8k [natV a, natV b] (.int .i64 (cmpI (val a) (val b))) := by
 refine a0d.intro e0N e0M (by simp only [List.length_cons, List.length_nil]; omega) (.int _ _) fun H hH => ?_
 refine Safe.seq (Safe.region ?_)
 simp only [c9Y, E1, seval]
 refine Safe.seq (Safe.region ?_)
 simp only [c9X, E1, seval]
 refine (a0p a ha.lim ha.len).acall ?_
 try simp only [E1, seval]
 refine (a0p b hb.lim hb.len).acall ?_
 try simp only [E1, seval]
 have na := ha.limbs
 have nb := hb.limbs
 have va := a0a (val a)
 have vb := a0a (val b)
 generalize hA : limbs (val a) = A at na va ⊢
 generalize hB : limbs (val b) = B at nb vb ⊢
 refine Safe.keep [0, 1] (Safe.seq (Safe.seq (Safe.region ?_)))
 simp only [c9W, E1, seval, a6C]
 refine Safe.cond ?_
 simp only [E1, seval]
 by_cases hlen : A.length = B.length
 ·have : ((A.length : Int) = B.length) := by omega
  simp only [this, E1, seval]
  refine Safe.skip (Safe.seq (Safe.seq (Safe.region ?_)))
  simp only [c9S, E1, seval, a6C]
  refine Safe.block (Safe.loop ?_)
  have key : ∀ n, n ≤ A.length → A.drop n = B.drop n → Safe ⟨Pr, fun _ _ => false, a8k, 45, [.tmp 4], H.length⟩ [.inLoop c9Z, .inBlock 0, .code ((ACode.region b5j false).seq .ret)]
    [(0, natV A), (1, natV B), (5, .int .i64 ((n : Int) - 1))] (hap H []) fun r' H' => r' = .int .i64 (cmpI (val a) (val b)) ∧ ∃ L, H' = hap H L := by
   intro n
   induction n with
   | zero =>
    intro _ hd
    refine Safe.inLoop (Safe.seq (Safe.seq (Safe.region ?_)))
    simp only [b9x, E1, seval]
    refine Safe.cond ?_
    simp only [E1, seval, show ¬ ((0 : Int) ≤ ((0 : Nat) : Int) - 1) by omega]
    refine Safe.exit rfl (Safe.seq (Safe.region ?_))
    simp only [b5j, E1, seval]
    refine Safe.retn ?_
    simp only [E1, seval]
    have : val a = val b := by
     simp only [List.drop_zero] at hd
     rw [← va, ← vb, hd]
    refine ⟨?_, [], rfl⟩
    simp [cmpI, this]
   | succ m ih =>
    intro hm hd
    refine Safe.inLoop (Safe.seq (Safe.seq (Safe.region ?_)))
    simp only [b9x, E1, seval]
    refine Safe.cond ?_
    have e1 : ((m + 1 : Nat) : Int) - 1 = (m : Int) := by omega
    simp only [E1, seval, e1, Int.natCast_nonneg]
    refine Safe.skip (Safe.seq (Safe.block (Safe.seq (Safe.regionD ?_))))
    simp only [c9R, E1, seval, a0E _ A _ m (by omega), a0E _ B _ m (by omega)]
    refine Safe.cond ?_
    simp only [E1, seval]
    by_cases hq : A.getD m 0 = B.getD m 0
    ·simp only [hq, E1, seval]
     refine Safe.skip (Safe.inBlock (Safe.region ?_))
     simp only [c5P, E1, seval]
     refine Safe.keep [0, 1, 5] ?_
     have := na.len
     simp only [E1, seval, a0c (n := (m : Int) - 1) (by omega) (by omega)]
     refine ih (by omega) ?_
     rw [List.drop_eq_getElem_cons (by omega), List.drop_eq_getElem_cons (l := B) (by omega), hd]
     simp only [List.getD_eq_getElem?_getD, List.getElem?_eq_getElem (show m < A.length by omega), List.getElem?_eq_getElem (show m < B.length by omega), Option.getD_some] at hq
     rw [hq]
    ·have hq' : ¬ ((A.getD m 0 : Nat) : Int) = ((B.getD m 0 : Nat) : Int) := by omega
     simp only [hq', E1, seval]
     refine Safe.seq (Safe.seq (Safe.regionD ?_))
     simp only [c9Q, E1, seval, a0E _ A _ m (by omega), a0E _ B _ m (by omega)]
     refine Safe.cond ?_
     simp only [E1, seval]
     by_cases hlt : A.getD m 0 < B.getD m 0
     ·have hlt' : ((A.getD m 0 : Nat) : Int) < ((B.getD m 0 : Nat) : Int) := by omega
      simp only [hlt', E1, seval]
      refine Safe.seq (Safe.region ?_)
      simp only [c5R, E1, seval]
      refine Safe.retn ?_
      simp only [E1, seval]
      have := b5W na.lim nb.lim hd (by omega) (by omega) hlen hlt
      refine ⟨?_, [], rfl⟩
      rw [← va, ← vb]; simp [cmpI, this]
     ·have hlt' : ¬ ((A.getD m 0 : Nat) : Int) < ((B.getD m 0 : Nat) : Int) := by omega
      simp only [hlt', E1, seval]
      refine Safe.skip (Safe.seq (Safe.region ?_))
      simp only [c5Q, E1, seval]
      refine Safe.retn ?_
      simp only [E1, seval]
      have := b5W nb.lim na.lim hd.symm (by omega) (by omega) hlen.symm (show B.getD m 0 < A.getD m 0 by omega)
      refine ⟨?_, [], rfl⟩
      rw [← va, ← vb]; simp [cmpI, this, Nat.lt_asymm this]
  refine Safe.keep [0, 1, 5] ?_
  have := na.len
  have hk := key A.length (Nat.le_refl _) (by rw [List.drop_length, hlen, List.drop_length])
  simp only [E1, seval, ← hlen, a0c (n := (A.length : Int) - 1) (by omega) (by omega)]
  exact hk
 ·have : ¬ ((A.length : Int) = B.length) := by omega
  simp only [this, E1, seval]
  refine Safe.seq (Safe.seq (Safe.region ?_))
  simp only [c9V, E1, seval, a6C]
  refine Safe.cond ?_
  simp only [E1, seval]
  by_cases hlt : A.length < B.length
  ·have hlt' : ((A.length : Int) < B.length) := by omega
   simp only [hlt', E1, seval]
   refine Safe.seq (Safe.region ?_)
   simp only [c9U, E1, seval]
   refine Safe.retn ?_
   simp only [E1, seval]
   have : val a < val b := b8Y (by rw [hA, hB]; exact hlt)
   refine ⟨?_, [], rfl⟩
   simp [cmpI, this]
  ·have hlt' : ¬ ((A.length : Int) < B.length) := by omega
   simp only [hlt', E1, seval]
   refine Safe.skip (Safe.seq (Safe.region ?_))
   simp only [c9T, E1, seval]
   refine Safe.retn ?_
   simp only [E1, seval]
   have : val b < val a := b8Y (by rw [hA, hB]; omega)
   refine ⟨?_, [], rfl⟩
   simp [cmpI, this, Nat.lt_asymm this]
theorem b2J (n : Nat) (h : n < 4294967296) : a0d Pr a1v [.int .u32 n] (.int .i64 (blen n)) := by
 refine a0d.intro b7L b7K (by simp only [List.length_cons, List.length_nil]; omega) (.int _ _) fun H hH => ?_
 refine Safe.seq (Safe.region ?_)
 simp only [a6G, E1, Nat.reduceAdd, Nat.reduceEqDiff, reduceCtorEq, ↓reduceIte]
 have stop : ∀ (m s : Nat) (env : Env), m < 256 → s ≤ 24 → look env 0 = .int .u32 m → look env 2 = .int .i64 s → s + blen m = blen n → Safe ⟨Pr, fun _ _ => false, a1v, 19, [.tmp 2], H.length⟩ [.code ((ACode.region a2t false).seq .ret)] env (hap H [])
   fun r' H' => r' = .int .i64 (blen n) ∧ ∃ L, H' = hap H L := by
  intro m s env hm hs h0 h2 hb
  refine Safe.seq (Safe.region ?_)
  have hw : IntKind.wrap .u8 (m : Int) = m := by simp [IntKind.wrap, IntKind.bits, IntKind.signed]; omega
  simp only [a2t, E1, Nat.reduceAdd, Nat.reduceEqDiff, reduceCtorEq, ↓reduceIte, h0, h2, hw, d9o]
  have tab : ∀ m : Fin 256, e5o.data.toList.getD m.val 0 = UInt8.ofNat (blen m.val) ∧ blen m.val ≤ 8 := by decide +kernel
  have ht : e5o.data.toList.getD m 0 = UInt8.ofNat (blen m) ∧ blen m ≤ 8 := tab ⟨m, hm⟩
  have hsz : e5o.size = 256 := by decide +kernel
  rw [if_pos (by rw [hsz]; omega)]
  simp only [Int.toNat_natCast, ht.1, E1, Nat.reduceAdd, Nat.reduceEqDiff, reduceCtorEq, ↓reduceIte]
  have h8 : ((UInt8.ofNat (blen m)).toNat : Nat) = blen m := by
   have := ht.2
   simp [UInt8.toNat_ofNat']; omega
  refine Safe.retn ?_
  have := ht.2
  simp only [E1, Nat.reduceAdd, Nat.reduceEqDiff, reduceCtorEq, ↓reduceIte, h8, a0c (n := (blen m : Int)) (by omega) (by omega)]
  rw [a0c (by omega) (by omega)]
  exact ⟨by rw [← hb]; rfl, [], rfl⟩
 have mid : ∀ (m s : Nat) (env : Env), m < 65536 → s ≤ 16 → look env 0 = .int .u32 m → look env 2 = .int .i64 s → s + blen m = blen n → Safe ⟨Pr, fun _ _ => false, a1v, 19, [.tmp 2], H.length⟩
   [.code ((((ACode.region a3Q false).seq (.cond (.t 8) ((ACode.region a3P false).seq (.region a3O false)) .skip)).seq ((ACode.region a2t false).seq .ret)))] env (hap H [])
   fun r' H' => r' = .int .i64 (blen n) ∧ ∃ L, H' = hap H L := by
  intro m s env hm hs h0 h2 hb
  refine Safe.seq (Safe.seq (Safe.region ?_))
  simp only [a3Q, E1, Nat.reduceAdd, Nat.reduceEqDiff, reduceCtorEq, ↓reduceIte, h0]
  refine Safe.cond ?_
  simp only [E1, Nat.reduceAdd, Nat.reduceEqDiff, reduceCtorEq, ↓reduceIte]
  by_cases hc : 256 ≤ m
  ·have hc' : (256 : Int) ≤ (m : Int) := by omega
   simp only [hc', E1, Nat.reduceAdd, Nat.reduceEqDiff, reduceCtorEq, ↓reduceIte]
   refine Safe.seq (Safe.region ?_)
   simp only [a3P, E1, Nat.reduceAdd, Nat.reduceEqDiff, reduceCtorEq, ↓reduceIte, h0, a3J _ _ _ (show (0 : Int) ≤ 8 by decide)]
   refine Safe.region ?_
   simp only [a3O, E1, Nat.reduceAdd, Nat.reduceEqDiff, reduceCtorEq, ↓reduceIte, h2]
   have e1 : Int.fdiv (m : Int) (2 ^ min (Int.toNat 8) IntKind.u32.bits) = ((m / 256 : Nat) : Int) := by
    rw [show (2 : Int) ^ min (Int.toNat 8) IntKind.u32.bits = 256 by decide, Int.fdiv_eq_ediv_of_nonneg _ (by decide)]; omega
   have e2 : IntKind.wrap .i64 ((s : Int) + 8) = ((s + 8 : Nat) : Int) := by rw [a0c] <;> omega
   refine stop (m / 256) (s + 8) _ (by omega) (by omega) (by simp only [E1, Nat.reduceAdd, Nat.reduceEqDiff, reduceCtorEq, ↓reduceIte, e1]) (by simp only [E1, Nat.reduceAdd, Nat.reduceEqDiff, reduceCtorEq, ↓reduceIte, e2]) ?_
   have := d2C (n := m) (k := 8) (by omega)
   simp only [Nat.reducePow] at this
   omega
  ·have hc' : ¬ (256 : Int) ≤ (m : Int) := by omega
   simp only [hc', E1, Nat.reduceAdd, Nat.reduceEqDiff, reduceCtorEq, ↓reduceIte]
   exact Safe.skip (stop m s _ (by omega) (by omega) (by simp only [E1, Nat.reduceAdd, Nat.reduceEqDiff, reduceCtorEq, ↓reduceIte, h0]) (by simp only [E1, Nat.reduceAdd, Nat.reduceEqDiff, reduceCtorEq, ↓reduceIte, h2]) hb)
 refine Safe.seq (Safe.seq (Safe.region ?_))
 simp only [a6F, E1, Nat.reduceAdd, Nat.reduceEqDiff, reduceCtorEq, ↓reduceIte]
 refine Safe.cond ?_
 simp only [E1, Nat.reduceAdd, Nat.reduceEqDiff, reduceCtorEq, ↓reduceIte]
 by_cases hc : 65536 ≤ n
 ·have hc' : (65536 : Int) ≤ (n : Int) := by omega
  simp only [hc', E1, Nat.reduceAdd, Nat.reduceEqDiff, reduceCtorEq, ↓reduceIte]
  refine Safe.seq (Safe.region ?_)
  simp only [a6E, E1, Nat.reduceAdd, Nat.reduceEqDiff, reduceCtorEq, ↓reduceIte, a3J _ _ _ (show (0 : Int) ≤ 16 by decide)]
  refine Safe.region ?_
  simp only [a6D, E1, Nat.reduceAdd, Nat.reduceEqDiff, reduceCtorEq, ↓reduceIte]
  have e1 : Int.fdiv (n : Int) (2 ^ min (Int.toNat 16) IntKind.u32.bits) = ((n / 65536 : Nat) : Int) := by
   rw [show (2 : Int) ^ min (Int.toNat 16) IntKind.u32.bits = 65536 by decide, Int.fdiv_eq_ediv_of_nonneg _ (by decide)]; omega
  refine mid (n / 65536) 16 _ (by omega) (by omega) (by simp only [E1, Nat.reduceAdd, Nat.reduceEqDiff, reduceCtorEq, ↓reduceIte, e1]) (by simp only [E1, Nat.reduceAdd, Nat.reduceEqDiff, reduceCtorEq, ↓reduceIte]; rfl) ?_
  have := d2C (n := n) (k := 16) (by omega)
  simp only [Nat.reducePow] at this
  omega
 ·have hc' : ¬ (65536 : Int) ≤ (n : Int) := by omega
  simp only [hc', E1, Nat.reduceAdd, Nat.reduceEqDiff, reduceCtorEq, ↓reduceIte]
  exact Safe.skip (mid n 0 _ (by omega) (by omega) (by simp only [E1, Nat.reduceAdd, Nat.reduceEqDiff, reduceCtorEq, ↓reduceIte]) (by simp only [E1, Nat.reduceAdd, Nat.reduceEqDiff, reduceCtorEq, ↓reduceIte]; rfl) (by omega))
theorem c2D (l : List Nat) (hl : Nt l) : a0d Pr b2U [natV l] (.int .i64 (blen (val l))) := by
 refine a0d.intro d7t d7s (by simp only [List.length_cons, List.length_nil]; omega) (.int _ _) fun H hH => ?_
 refine Safe.seq (Safe.region ?_)
 simp only [c5W, E1, seval]
 refine Safe.seq (Safe.region ?_)
 simp only [c5V, E1, seval]
 refine (a0p l hl.lim hl.len).acall ?_
 try simp only [E1, seval]
 have nl := hl.limbs
 have vl := a0a (val l)
 have hlast := a5z (val l)
 generalize hA : limbs (val l) = A at nl vl hlast ⊢
 refine Safe.keep [0] (Safe.seq (Safe.seq (Safe.region ?_)))
 simp only [c5U, E1, seval]
 refine Safe.cond ?_
 simp only [E1, seval]
 rcases List.eq_nil_or_concat A with rfl | ⟨A', d, rfl⟩
 ·simp only [E1, seval, Int.natCast_zero]
  refine Safe.seq (Safe.region ?_)
  simp only [c5T, E1, seval]
  refine Safe.retn ?_
  simp only [E1, seval]
  rw [← vl]
  exact ⟨rfl, [], rfl⟩
 ·simp only [List.concat_eq_append] at *
  have hlen : (A' ++ [d]).length = A'.length + 1 := by simp
  have hn0 : ¬ (((A' ++ [d]).length : Int) = 0) := by omega
  have hg : (A' ++ [d]).getD A'.length 0 = d := by simp
  have hd : d ≠ 0 := by simpa using hlast
  have hlt : d < 4294967296 := nl.lim d (by simp)
  have := nl.len
  have hw : IntKind.i64.wrap (((A' ++ [d]).length : Int) - 1) = (A'.length : Int) := by rw [hlen, a0c] <;> omega
  simp only [hn0, E1, seval]
  refine Safe.skip (Safe.seq (Safe.region ?_))
  simp only [c5S, E1, seval, hw, a0E _ (A' ++ [d]) _ A'.length (by omega), hg]
  refine (b2J d hlt).acall ?_
  simp only [E1, seval]
  refine Safe.retn ?_
  simp only [E1, seval]
  have hb : blen d ≤ 32 := by
   rcases Nat.lt_or_ge 32 (blen d) with h | h
   ·have := c0f hd
    have := Nat.pow_le_pow_right (show 0 < 2 by decide) (show 32 ≤ blen d - 1 by omega)
    omega
   ·exact h
  rw [a0c (n := 32 * (A'.length : Int)) (by omega) (by omega), a0c (by omega) (by omega)]
  refine ⟨?_, [], rfl⟩
  rw [← vl, c0e (b9M.1 nl.lim).1 hd]
  congr 1
theorem d7l (a b : List Nat) (la : Lim a) (lb : Lim b) (ha : a.length < 17592186044416) (hb : b.length < 17592186044416) : a0d Pr a8l [natV a, natV b] (natV (limbs (val a + val b))) := by
 refine a0d.intro e0Q e0P (by simp only [List.length_cons, List.length_nil]; omega) (a0V _) fun H hH => ?_
 refine Safe.seq (Safe.region ?_)
 have hLB : LB = 4294967296 := rfl
 simp only [d0f, E1, Nat.reduceAdd, Nat.reduceEqDiff, reduceCtorEq, ↓reduceIte]
 have main : ∀ (a b : List Nat) (env : Env) (s : Nat), Lim a → Lim b → b.length ≤ a.length → a.length < 17592186044416 → val a + val b = s → look env 0 = natV a → look env 1 = natV b →
   Safe ⟨Pr, fun _ _ => false, a8l, 58, [.tmp 4], H.length⟩ [.code ((ACode.region b9B false).seq ((ACode.region b9A false).seq (((ACode.region b9z false).seq (.block 0 (.loop b2G))).seq ((ACode.region a5M false).seq ((ACode.region a5L false).seq .ret)))))]
    env (hap H []) fun r' H' => r' = natV (limbs s) ∧ ∃ L, H' = hap H L := by
  intro a b env s la lb hle ha hs h0 h1
  refine Safe.seq (Safe.region ?_)
  have hw : IntKind.wrap .i64 ((a.length : Int) + 1) = ((a.length + 1 : Nat) : Int) := by rw [a0c] <;> omega
  simp only [b9B, E1, Nat.reduceAdd, Nat.reduceEqDiff, reduceCtorEq, ↓reduceIte, h0, hw, b2H _ H [] _ _ (a.length + 1) (by omega)]
  refine Safe.seq (Safe.region ?_)
  simp only [b9A, E1, Nat.reduceAdd, Nat.reduceEqDiff, reduceCtorEq, ↓reduceIte]
  refine Safe.seq (Safe.seq (Safe.region ?_))
  simp only [b9z, E1, Nat.reduceAdd, Nat.reduceEqDiff, reduceCtorEq, ↓reduceIte, h0]
  refine Safe.block (Safe.loop ?_)
  have key : ∀ (k i c : Nat) (x : List Nat), i + k = a.length → x.length = i → Lim x → c ≤ 1 → val x + LB ^ i * c = val (a.take i) + val (b.take i) →
    Safe ⟨Pr, fun _ _ => false, a8l, 58, [.tmp 4], H.length⟩ [.inLoop b2G, .inBlock 0, .code ((ACode.region a5M false).seq ((ACode.region a5L false).seq .ret))]
     [(0, natV a), (1, natV b), (5, .mu (lid H 0) 0 (a.length + 1) (some (a.length + 1))), (6, .int .u64 c), (20, .int .i64 a.length), (21, .int .i64 i)]
     (hap H [some ⟨1, u32s (x ++ List.replicate (k + 1) 0)⟩]) fun r' H' => r' = natV (limbs s) ∧ ∃ L, H' = hap H L := by
   intro k
   induction k with
   | zero =>
    intro i c x hik hx lx hc hv
    have hi : i = a.length := by omega
    subst hi
    refine Safe.inLoop (Safe.seq (Safe.region ?_))
    simp only [b9y, E1, Nat.reduceAdd, Nat.reduceEqDiff, reduceCtorEq, ↓reduceIte]
    refine Safe.seq (Safe.cond ?_)
    simp only [E1, Nat.reduceAdd, Nat.reduceEqDiff, reduceCtorEq, ↓reduceIte, Int.lt_irrefl]
    refine Safe.exit rfl (Safe.seq (Safe.region ?_))
    have hcw : IntKind.wrap .u32 (c : Int) = (c : Int) := a3z (by omega) (by omega)
    simp only [a5M, E1, Nat.reduceAdd, Nat.reduceEqDiff, reduceCtorEq, ↓reduceIte, a8Z _ _ _ _ _ _ a.length (Nat.lt_succ_self _), hcw, c5d _ _ _ a.length c (show a.length < (x ++ List.replicate (0 + 1) 0).length by simp [hx])]
    rw [← hx, c4K, hx]
    simp only [List.replicate_zero, List.append_nil]
    have hlen : a.length + 1 = (x ++ [c]).length := by simp [hx]
    refine Safe.freeze 0 (b := ⟨1, u32s (x ++ [c])⟩) hH rfl rfl (a0F _) ?_
    refine Safe.seq (Safe.region ?_)
    simp only [a5L, E1, Nat.reduceAdd, Nat.reduceEqDiff, reduceCtorEq, ↓reduceIte, hlen]
    refine (a0p (x ++ [c]) (a1u lx (by omega)) (by omega)).acall ?_
    try simp only [E1, Nat.reduceAdd, Nat.reduceEqDiff, reduceCtorEq, ↓reduceIte]
    refine Safe.retn ?_
    simp only [E1, Nat.reduceAdd, Nat.reduceEqDiff, reduceCtorEq, ↓reduceIte]
    rw [List.take_length, List.take_of_length_le hle] at hv
    rw [a2H, hx, hv, hs]
    first | exact ⟨rfl, _, rfl⟩ | exact ⟨_, rfl⟩ | exact ⟨trivial, _, rfl⟩
   | succ k ih =>
    intro i c x hik hx lx hc hv
    refine Safe.inLoop (Safe.seq (Safe.region ?_))
    simp only [b9y, E1, Nat.reduceAdd, Nat.reduceEqDiff, reduceCtorEq, ↓reduceIte]
    refine Safe.seq (Safe.cond ?_)
    have hlt : (i : Int) < (a.length : Int) := by omega
    simp only [E1, Nat.reduceAdd, Nat.reduceEqDiff, reduceCtorEq, ↓reduceIte, hlt]
    refine Safe.skip (Safe.seq (Safe.block (Safe.seq (Safe.region ?_))))
    simp only [d0c, E1, Nat.reduceAdd, Nat.reduceEqDiff, reduceCtorEq, ↓reduceIte]
    refine Safe.seq (Safe.region ?_)
    have xa := a0L la i
    have xb := a0L lb i
    have h1w : IntKind.wrap .u64 ((a.getD i 0 : Nat) : Int) = ((a.getD i 0 : Nat) : Int) := a0H (by omega) (by omega)
    have h2w : IntKind.wrap .u64 ((c : Int) + ((a.getD i 0 : Nat) : Int)) = ((c + a.getD i 0 : Nat) : Int) := by rw [a0H] <;> omega
    simp only [d0b, E1, Nat.reduceAdd, Nat.reduceEqDiff, reduceCtorEq, ↓reduceIte, a0E _ a _ i (by omega), h1w, h2w]
    refine Safe.seq (Safe.seq (Safe.region ?_))
    simp only [d0a, E1, Nat.reduceAdd, Nat.reduceEqDiff, reduceCtorEq, ↓reduceIte]
    refine Safe.cond ?_
    simp only [E1, Nat.reduceAdd, Nat.reduceEqDiff, reduceCtorEq, ↓reduceIte]
    have rest : ∀ env : Env, look env 0 = natV a → look env 1 = natV b → look env 5 = .mu (lid H 0) 0 (a.length + 1) (some (a.length + 1)) → look env 6 = .int .u64 (c + a.getD i 0 + b.getD i 0 : Nat) → look env 7 = .int .i64 i → look env 20 = .int .i64 a.length → look env 21 = .int .i64 i →
      Safe ⟨Pr, fun _ _ => false, a8l, 58, [.tmp 4], H.length⟩ [.code ((ACode.region b5m false).seq (.region b5l false)), .inBlock 1, .code (.region b5k false), .inLoop b2G, .inBlock 0, .code ((ACode.region a5M false).seq ((ACode.region a5L false).seq .ret))]
       env (hap H [some ⟨1, u32s (x ++ List.replicate (k + 1 + 1) 0)⟩]) fun r' H' => r' = natV (limbs s) ∧ ∃ L, H' = hap H L := by
     intro env e0 e1 e5 e6 e7 e20 e21
     refine Safe.seq (Safe.region ?_)
     have hcw : IntKind.wrap .u32 ((c + a.getD i 0 + b.getD i 0 : Nat) : Int) = (((c + a.getD i 0 + b.getD i 0) % LB : Nat) : Int) := a1W _
     simp only [b5m, E1, Nat.reduceAdd, Nat.reduceEqDiff, reduceCtorEq, ↓reduceIte, e5, e6, e7, a8Z _ _ _ _ _ _ i (show i < a.length + 1 by omega), hcw, c5d _ _ _ i _ (show i < (x ++ List.replicate (k + 1 + 1) 0).length by simp [hx] <;> omega)]
     refine Safe.region ?_
     have hs32 : Int.fdiv ((c + a.getD i 0 + b.getD i 0 : Nat) : Int) (2 ^ min (Int.toNat 32) IntKind.u64.bits) = (((c + a.getD i 0 + b.getD i 0) / LB : Nat) : Int) := by
      rw [show (2 : Int) ^ min (Int.toNat 32) IntKind.u64.bits = (LB : Int) by decide, Int.fdiv_eq_ediv_of_nonneg _ (by decide)]; rfl
     simp only [b5l, E1, Nat.reduceAdd, Nat.reduceEqDiff, reduceCtorEq, ↓reduceIte, e6, a3J _ _ _ (show (0 : Int) ≤ 32 by decide), hs32]
     refine Safe.inBlock (Safe.region ?_)
     have hiw : IntKind.wrap .i64 ((i : Int) + 1) = ((i + 1 : Nat) : Int) := by rw [a0c] <;> omega
     simp only [b5k, E1, Nat.reduceAdd, Nat.reduceEqDiff, reduceCtorEq, ↓reduceIte, e21, hiw]
     refine Safe.keep [0, 1, 5, 6, 20, 21] ?_
     simp only [E1, Nat.reduceAdd, Nat.reduceEqDiff, reduceCtorEq, ↓reduceIte, e0, e1, e5, e20]
     have hset : (x ++ List.replicate (k + 1 + 1) 0).set i ((c + a.getD i 0 + b.getD i 0) % LB) = (x ++ [(c + a.getD i 0 + b.getD i 0) % LB]) ++ List.replicate (k + 1) 0 := by subst hx; exact c4K _ _ _
     rw [hset]
     refine ih (i + 1) _ _ (by omega) (by simp [hx]) (a1u lx (Nat.mod_lt _ (by decide))) ?_ ?_
     ·have : c + a.getD i 0 + b.getD i 0 < LB * 2 := by omega
      have := Nat.div_lt_of_lt_mul this
      omega
     ·rw [a2H, hx, a0k, a0k, Nat.pow_succ]
      exact d1a (i := 0) hv
    by_cases hib : i < b.length
    ·have hib' : (i : Int) < (b.length : Int) := by omega
     simp only [hib', E1, Nat.reduceAdd, Nat.reduceEqDiff, reduceCtorEq, ↓reduceIte]
     refine Safe.region ?_
     have h3w : IntKind.wrap .u64 ((b.getD i 0 : Nat) : Int) = ((b.getD i 0 : Nat) : Int) := a0H (by omega) (by omega)
     have h4w : IntKind.wrap .u64 (((c + a.getD i 0 : Nat) : Int) + ((b.getD i 0 : Nat) : Int)) = ((c + a.getD i 0 + b.getD i 0 : Nat) : Int) := by rw [a0H] <;> omega
     simp only [c5X, E1, Nat.reduceAdd, Nat.reduceEqDiff, reduceCtorEq, ↓reduceIte, a0E _ b _ i hib, h3w, h4w]
     exact rest _ (by simp only [E1, Nat.reduceAdd, Nat.reduceEqDiff, reduceCtorEq, ↓reduceIte]) (by simp only [E1, Nat.reduceAdd, Nat.reduceEqDiff, reduceCtorEq, ↓reduceIte]) (by simp only [E1, Nat.reduceAdd, Nat.reduceEqDiff, reduceCtorEq, ↓reduceIte]) (by simp only [E1, Nat.reduceAdd, Nat.reduceEqDiff, reduceCtorEq, ↓reduceIte]) (by simp only [E1, Nat.reduceAdd, Nat.reduceEqDiff, reduceCtorEq, ↓reduceIte]) (by simp only [E1, Nat.reduceAdd, Nat.reduceEqDiff, reduceCtorEq, ↓reduceIte]) (by simp only [E1, Nat.reduceAdd, Nat.reduceEqDiff, reduceCtorEq, ↓reduceIte])
    ·have hib' : ¬ (i : Int) < (b.length : Int) := by omega
     simp only [hib', E1, Nat.reduceAdd, Nat.reduceEqDiff, reduceCtorEq, ↓reduceIte]
     have hz : b.getD i 0 = 0 := by rw [List.getD_eq_getElem?_getD, List.getElem?_eq_none (by omega)]; rfl
     refine Safe.skip (rest _ (by simp only [E1, Nat.reduceAdd, Nat.reduceEqDiff, reduceCtorEq, ↓reduceIte]) (by simp only [E1, Nat.reduceAdd, Nat.reduceEqDiff, reduceCtorEq, ↓reduceIte]) (by simp only [E1, Nat.reduceAdd, Nat.reduceEqDiff, reduceCtorEq, ↓reduceIte]) (by simp only [E1, Nat.reduceAdd, Nat.reduceEqDiff, reduceCtorEq, ↓reduceIte, hz]) (by simp only [E1, Nat.reduceAdd, Nat.reduceEqDiff, reduceCtorEq, ↓reduceIte]) (by simp only [E1, Nat.reduceAdd, Nat.reduceEqDiff, reduceCtorEq, ↓reduceIte]) (by simp only [E1, Nat.reduceAdd, Nat.reduceEqDiff, reduceCtorEq, ↓reduceIte]))
  refine Safe.keep [0, 1, 5, 6, 20, 21] ?_
  simp only [E1, Nat.reduceAdd, Nat.reduceEqDiff, reduceCtorEq, ↓reduceIte, h0, h1]
  exact key a.length 0 0 [] (by omega) rfl b9K (by omega) (by simp [val])
 refine Safe.seq (Safe.seq (Safe.region ?_))
 simp only [d0e, E1, Nat.reduceAdd, Nat.reduceEqDiff, reduceCtorEq, ↓reduceIte]
 refine Safe.cond ?_
 simp only [E1, Nat.reduceAdd, Nat.reduceEqDiff, reduceCtorEq, ↓reduceIte]
 by_cases hlt : a.length < b.length
 ·have hlt' : (a.length : Int) < (b.length : Int) := by omega
  simp only [hlt', E1, Nat.reduceAdd, Nat.reduceEqDiff, reduceCtorEq, ↓reduceIte]
  refine Safe.region ?_
  simp only [d0d, E1, Nat.reduceAdd, Nat.reduceEqDiff, reduceCtorEq, ↓reduceIte]
  exact main b a _ _ lb la (by omega) hb (Nat.add_comm _ _) (by simp only [E1, Nat.reduceAdd, Nat.reduceEqDiff, reduceCtorEq, ↓reduceIte]) (by simp only [E1, Nat.reduceAdd, Nat.reduceEqDiff, reduceCtorEq, ↓reduceIte])
 ·have hlt' : ¬ (a.length : Int) < (b.length : Int) := by omega
  simp only [hlt', E1, Nat.reduceAdd, Nat.reduceEqDiff, reduceCtorEq, ↓reduceIte]
  exact Safe.skip (main a b _ _ la lb (by omega) ha rfl (by simp only [E1, Nat.reduceAdd, Nat.reduceEqDiff, reduceCtorEq, ↓reduceIte]) (by simp only [E1, Nat.reduceAdd, Nat.reduceEqDiff, reduceCtorEq, ↓reduceIte]))
theorem d4G (a b : List Nat) (la : Lim a) (lb : Lim b) (ha : a.length ≤ 17592186044416) (hb : b.length ≤ a.length) (hv : val b ≤ val a) : a0d Pr a8h [natV a, natV b] (natV (limbs (val a - val b))) := by
 refine a0d.intro d7o d7n (by simp only [List.length_cons, List.length_nil]; omega) (a0V _) fun H hH => ?_
 refine Safe.seq (Safe.region ?_)
 have hLB : LB = 4294967296 := rfl
 simp only [c5z, E1, Nat.reduceAdd, Nat.reduceEqDiff, reduceCtorEq, ↓reduceIte]
 refine Safe.seq (Safe.region ?_)
 simp only [c5y, E1, Nat.reduceAdd, Nat.reduceEqDiff, reduceCtorEq, ↓reduceIte, b2H _ H [] _ _ a.length (by omega)]
 refine Safe.seq (Safe.region ?_)
 simp only [c5x, E1, Nat.reduceAdd, Nat.reduceEqDiff, reduceCtorEq, ↓reduceIte]
 refine Safe.seq (Safe.seq (Safe.region ?_))
 simp only [c5w, E1, Nat.reduceAdd, Nat.reduceEqDiff, reduceCtorEq, ↓reduceIte]
 refine Safe.block (Safe.loop ?_)
 have key : ∀ (k i c : Nat) (x : List Nat), i + k = a.length → x.length = i → Lim x → c ≤ 1 → val (a.take i) + LB ^ i * c = val x + val (b.take i) →
    Safe ⟨Pr, fun _ _ => false, a8h, 45, [.tmp 4], H.length⟩ [.inLoop b5g, .inBlock 0, .code ((ACode.region a6z false).seq .ret)]
     [(0, natV a), (1, natV b), (5, .mu (lid H 0) 0 a.length (some a.length)), (6, .int .u64 c), (13, .int .i64 a.length), (14, .int .i64 i)]
     (hap H [some ⟨1, u32s (x ++ List.replicate k 0)⟩]) fun r' H' => r' = natV (limbs (val a - val b)) ∧ ∃ L, H' = hap H L := by
  intro k
  induction k with
  | zero =>
   intro i c x hik hx lx hc hv2
   have hi : i = a.length := by omega
   subst hi
   refine Safe.inLoop (Safe.seq (Safe.region ?_))
   simp only [b5f, E1, Nat.reduceAdd, Nat.reduceEqDiff, reduceCtorEq, ↓reduceIte]
   refine Safe.seq (Safe.cond ?_)
   simp only [E1, Nat.reduceAdd, Nat.reduceEqDiff, reduceCtorEq, ↓reduceIte, Int.lt_irrefl]
   refine Safe.exit rfl ?_
   simp only [List.replicate_zero, List.append_nil]
   refine Safe.freeze 0 (b := ⟨1, u32s x⟩) hH rfl rfl (a0F _) ?_
   refine Safe.seq (Safe.region ?_)
   simp only [a6z, E1, Nat.reduceAdd, Nat.reduceEqDiff, reduceCtorEq, ↓reduceIte, ← hx]
   refine (a0p x lx (by omega)).acall ?_
   try simp only [E1, Nat.reduceAdd, Nat.reduceEqDiff, reduceCtorEq, ↓reduceIte]
   refine Safe.retn ?_
   simp only [E1, Nat.reduceAdd, Nat.reduceEqDiff, reduceCtorEq, ↓reduceIte]
   rw [List.take_length, List.take_of_length_le hb] at hv2
   have h1 := a1d lx
   rw [hx] at h1
   have hc0 : c = 0 := by
    rcases Nat.eq_zero_or_pos c with h | h
    ·exact h
    ·have : c = 1 := by omega
     subst this
     omega
   subst hc0
   have : val x = val a - val b := by omega
   rw [this]
   first | exact ⟨rfl, _, rfl⟩ | exact ⟨_, rfl⟩ | exact ⟨trivial, _, rfl⟩
  | succ k ih =>
   intro i c x hik hx lx hc hv2
   refine Safe.inLoop (Safe.seq (Safe.region ?_))
   simp only [b5f, E1, Nat.reduceAdd, Nat.reduceEqDiff, reduceCtorEq, ↓reduceIte]
   refine Safe.seq (Safe.cond ?_)
   have hlt : (i : Int) < (a.length : Int) := by omega
   simp only [E1, Nat.reduceAdd, Nat.reduceEqDiff, reduceCtorEq, ↓reduceIte, hlt]
   refine Safe.skip (Safe.seq (Safe.block (Safe.seq (Safe.region ?_))))
   simp only [c5v, E1, Nat.reduceAdd, Nat.reduceEqDiff, reduceCtorEq, ↓reduceIte]
   refine Safe.seq (Safe.region ?_)
   have xa := a0L la i
   have xb := a0L lb i
   have h1w : IntKind.wrap .u64 ((a.getD i 0 : Nat) : Int) = ((a.getD i 0 : Nat) : Int) := a0H (by omega) (by omega)
   simp only [c5u, E1, Nat.reduceAdd, Nat.reduceEqDiff, reduceCtorEq, ↓reduceIte, a0E _ a _ i (by omega), h1w]
   refine Safe.seq (Safe.seq (Safe.region ?_))
   simp only [c5t, E1, Nat.reduceAdd, Nat.reduceEqDiff, reduceCtorEq, ↓reduceIte]
   refine Safe.cond ?_
   simp only [E1, Nat.reduceAdd, Nat.reduceEqDiff, reduceCtorEq, ↓reduceIte]
   have rest : ∀ env : Env, look env 0 = natV a → look env 1 = natV b → look env 5 = .mu (lid H 0) 0 a.length (some a.length) → look env 8 = .int .u64 (((a.getD i 0 : Nat) - (c : Int) - (b.getD i 0 : Nat)) % 18446744073709551616) → look env 7 = .int .i64 i → look env 13 = .int .i64 a.length → look env 14 = .int .i64 i →
      Safe ⟨Pr, fun _ _ => false, a8h, 45, [.tmp 4], H.length⟩ [.code ((ACode.region b5e false).seq (.region b1m false)), .inBlock 1, .code (.region b1l false), .inLoop b5g, .inBlock 0, .code ((ACode.region a6z false).seq .ret)]
       env (hap H [some ⟨1, u32s (x ++ List.replicate (k + 1) 0)⟩]) fun r' H' => r' = natV (limbs (val a - val b)) ∧ ∃ L, H' = hap H L := by
    intro env e0 e1 e5 e8 e7 e13 e14
    refine Safe.seq (Safe.region ?_)
    obtain ⟨d, bo, hd, hbo, hdl, hD, hB⟩ : ∃ d bo : Nat, a.getD i 0 + LB * bo = d + c + b.getD i 0 ∧ bo ≤ 1 ∧ d < LB ∧ (((a.getD i 0 : Nat) - (c : Int) - (b.getD i 0 : Nat)) % 18446744073709551616) % 4294967296 = (d : Int) ∧ (((a.getD i 0 : Nat) - (c : Int) - (b.getD i 0 : Nat)) % 18446744073709551616) / 9223372036854775808 = (bo : Int) := by
     by_cases hlt : a.getD i 0 < c + b.getD i 0
     ·exact ⟨a.getD i 0 + LB - c - b.getD i 0, 1, by omega, by omega, by omega, by omega, by omega⟩
     ·exact ⟨a.getD i 0 - c - b.getD i 0, 0, by omega, by omega, by omega, by omega, by omega⟩
    simp only [b5e, E1, Nat.reduceAdd, Nat.reduceEqDiff, reduceCtorEq, ↓reduceIte, e5, e8, e7, a8Z _ _ _ _ _ _ i (show i < a.length by omega), b5T, hD, c5d _ _ _ i _ (show i < (x ++ List.replicate (k + 1) 0).length by simp [hx])]
    refine Safe.region ?_
    have hs63 : ∀ n : Int, Int.fdiv n (2 ^ min (Int.toNat 63) IntKind.u64.bits) = n / 9223372036854775808 := by
     intro n
     rw [show (2 : Int) ^ min (Int.toNat 63) IntKind.u64.bits = 9223372036854775808 by decide, Int.fdiv_eq_ediv_of_nonneg _ (by decide)]
    simp only [b1m, E1, Nat.reduceAdd, Nat.reduceEqDiff, reduceCtorEq, ↓reduceIte, e8, a3J _ _ _ (show (0 : Int) ≤ 63 by decide), hs63, hB]
    refine Safe.inBlock (Safe.region ?_)
    have hiw : IntKind.wrap .i64 ((i : Int) + 1) = ((i + 1 : Nat) : Int) := by rw [a0c] <;> omega
    simp only [b1l, E1, Nat.reduceAdd, Nat.reduceEqDiff, reduceCtorEq, ↓reduceIte, e14, hiw]
    refine Safe.keep [0, 1, 5, 6, 13, 14] ?_
    simp only [E1, Nat.reduceAdd, Nat.reduceEqDiff, reduceCtorEq, ↓reduceIte, e0, e1, e5, e13]
    have hset : (x ++ List.replicate (k + 1) 0).set i d = (x ++ [d]) ++ List.replicate k 0 := by subst hx; exact c4K _ _ _
    rw [hset]
    refine ih (i + 1) bo _ (by omega) (by simp [hx]) (a1u lx hdl) hbo ?_
    rw [a2H, hx, a0k, a0k, Nat.pow_succ]
    exact d4X hv2 hd
   by_cases hib : i < b.length
   ·have hib' : (i : Int) < (b.length : Int) := by omega
    simp only [hib', E1, Nat.reduceAdd, Nat.reduceEqDiff, reduceCtorEq, ↓reduceIte]
    refine Safe.region ?_
    have h3w : IntKind.wrap .u64 ((b.getD i 0 : Nat) : Int) = ((b.getD i 0 : Nat) : Int) := a0H (by omega) (by omega)
    have h4w : IntKind.wrap .u64 (IntKind.wrap .u64 (((a.getD i 0 : Nat) : Int) - c) - ((b.getD i 0 : Nat) : Int)) = ((a.getD i 0 : Nat) - (c : Int) - (b.getD i 0 : Nat)) % 18446744073709551616 := by
     rw [a1l, a1l]; omega
    simp only [c5s, E1, Nat.reduceAdd, Nat.reduceEqDiff, reduceCtorEq, ↓reduceIte, a0E _ b _ i hib, h3w, h4w]
    exact rest _ (by simp only [E1, Nat.reduceAdd, Nat.reduceEqDiff, reduceCtorEq, ↓reduceIte]) (by simp only [E1, Nat.reduceAdd, Nat.reduceEqDiff, reduceCtorEq, ↓reduceIte]) (by simp only [E1, Nat.reduceAdd, Nat.reduceEqDiff, reduceCtorEq, ↓reduceIte]) (by simp only [E1, Nat.reduceAdd, Nat.reduceEqDiff, reduceCtorEq, ↓reduceIte]) (by simp only [E1, Nat.reduceAdd, Nat.reduceEqDiff, reduceCtorEq, ↓reduceIte]) (by simp only [E1, Nat.reduceAdd, Nat.reduceEqDiff, reduceCtorEq, ↓reduceIte]) (by simp only [E1, Nat.reduceAdd, Nat.reduceEqDiff, reduceCtorEq, ↓reduceIte])
   ·have hib' : ¬ (i : Int) < (b.length : Int) := by omega
    simp only [hib', E1, Nat.reduceAdd, Nat.reduceEqDiff, reduceCtorEq, ↓reduceIte]
    have hz : b.getD i 0 = 0 := by rw [List.getD_eq_getElem?_getD, List.getElem?_eq_none (by omega)]; rfl
    refine Safe.skip (rest _ (by simp only [E1, Nat.reduceAdd, Nat.reduceEqDiff, reduceCtorEq, ↓reduceIte]) (by simp only [E1, Nat.reduceAdd, Nat.reduceEqDiff, reduceCtorEq, ↓reduceIte]) (by simp only [E1, Nat.reduceAdd, Nat.reduceEqDiff, reduceCtorEq, ↓reduceIte]) (by simp only [E1, Nat.reduceAdd, Nat.reduceEqDiff, reduceCtorEq, ↓reduceIte, hz, a1l]; simp) (by simp only [E1, Nat.reduceAdd, Nat.reduceEqDiff, reduceCtorEq, ↓reduceIte]) (by simp only [E1, Nat.reduceAdd, Nat.reduceEqDiff, reduceCtorEq, ↓reduceIte]) (by simp only [E1, Nat.reduceAdd, Nat.reduceEqDiff, reduceCtorEq, ↓reduceIte]))
 refine Safe.keep [0, 1, 5, 6, 13, 14] ?_
 simp only [E1, Nat.reduceAdd, Nat.reduceEqDiff, reduceCtorEq, ↓reduceIte]
 exact key a.length 0 0 [] (by omega) rfl b9K (by omega) (by simp [val])
theorem c5j (a b : List Nat) (ha : Nt a) (hb : Nt b) (hv : val b ≤ val a) : a0d Pr c7R [natV a, natV b] (.tup [natV (limbs (val a - val b)), .int .i64 0]) := by
 refine a0d.intro e0B e0A (by simp only [List.length_cons, List.length_nil]; omega) (.tup _ (by intro c hc; simp at hc; rcases hc with rfl | rfl; exact a0V _; exact .int _ _)) fun H hH => ?_
 refine Safe.seq (Safe.region ?_)
 simp only [c9s, E1, seval]
 refine Safe.seq (Safe.seq (Safe.region ?_))
 simp only [c9r, E1, seval]
 refine (b4X a b ha hb).acall ?_
 have h0 : ¬ (cmpI (val a) (val b) < 0) := by unfold cmpI; split <;> (try split) <;> omega
 simp only [E1, seval, h0]
 refine Safe.cond ?_
 simp only [E1, seval]
 refine Safe.skip (Safe.seq (Safe.region ?_))
 simp only [c9q, E1, seval]
 refine (a0p a ha.lim ha.len).acall ?_
 try simp only [E1, seval]
 refine (a0p b hb.lim hb.len).acall ?_
 try simp only [E1, seval]
 have hlen : (limbs (val b)).length ≤ (limbs (val a)).length := by
  rcases Nat.lt_or_ge (limbs (val a)).length (limbs (val b)).length with h | h
  ·have := b8Y h; omega
  ·exact h
 have := d4G (limbs (val a)) (limbs (val b)) (a0b _) (a0b _) ha.limbs.len hlen (by rw [a0a, a0a]; exact hv)
 rw [a0a, a0a] at this
 refine this.acall ?_
 try simp only [E1, seval]
 refine Safe.retn ?_
 simp only [E1, seval]
 first | exact ⟨rfl, _, rfl⟩ | exact ⟨_, rfl⟩ | exact ⟨trivial, _, rfl⟩
theorem d8D (w r : List Nat) (k d : Nat) (h : k < w.length) : (w ++ r).set k d = w.set k d ++ r := List.set_append_left _ _ h
theorem d5q (w r : List Nat) (k : Nat) (h : k < w.length) : (w ++ r).getD k 0 = w.getD k 0 := by
 simp [List.getElem?_append_left h]
theorem d7k (a b : List Nat) (ha : Nt a) (hb : Nt b) (hab : a.length + b.length ≤ 17592186044416) : a0d Pr a8j [natV a, natV b] (natV (limbs (val a * val b))) := by
 refine a0d.intro e0E e0D (by simp only [List.length_cons, List.length_nil]; omega) (a0V _) fun H hH => ?_
 refine Safe.seq (Safe.region ?_)
 have hLB : LB = 4294967296 := rfl
 simp only [c9A, E1, Nat.reduceAdd, Nat.reduceEqDiff, reduceCtorEq, ↓reduceIte]
 refine Safe.seq (Safe.region ?_)
 simp only [c9z, E1, Nat.reduceAdd, Nat.reduceEqDiff, reduceCtorEq, ↓reduceIte]
 refine (a0p a ha.lim ha.len).acall ?_
 try simp only [E1, Nat.reduceAdd, Nat.reduceEqDiff, reduceCtorEq, ↓reduceIte]
 refine (a0p b hb.lim hb.len).acall ?_
 try simp only [E1, Nat.reduceAdd, Nat.reduceEqDiff, reduceCtorEq, ↓reduceIte]
 have la := a0b (val a)
 have lb := a0b (val b)
 have va := a0a (val a)
 have vb := a0a (val b)
 have hA := a0X ha.lim
 have hB := a0X hb.lim
 generalize limbs (val a) = A at la va hA ⊢
 generalize limbs (val b) = B at lb vb hB ⊢
 refine Safe.keep [0, 1] (Safe.seq (Safe.region ?_))
 have hw : IntKind.wrap .i64 ((A.length : Int) + (B.length : Int)) = ((A.length + B.length : Nat) : Int) := by rw [a0c] <;> omega
 simp only [c9y, E1, Nat.reduceAdd, Nat.reduceEqDiff, reduceCtorEq, ↓reduceIte, hw, b2H _ H [] _ _ (A.length + B.length) (by omega)]
 refine Safe.seq (Safe.seq (Safe.region ?_))
 simp only [c9x, E1, Nat.reduceAdd, Nat.reduceEqDiff, reduceCtorEq, ↓reduceIte]
 refine Safe.block (Safe.loop ?_)
 -- the inner loop
 have inner : ∀ (todo : List AItem) (i x : Nat) (z vx : Nat), i < A.length → x = A.getD i 0 → 
   (∀ (w : List Nat) (c : Nat) (env : Env), w.length = i + B.length → Lim w → c < LB → val w + LB ^ (i + B.length) * c = vx + LB ^ i * (x * val B) →
    look env 0 = natV A → look env 1 = natV B → look env 5 = .mu (lid H 0) 0 (A.length + B.length) (some (A.length + B.length)) → look env 6 = .int .i64 i → look env 7 = .int .u64 c → look env 20 = .int .i64 A.length → look env 21 = .int .i64 i →
    Safe ⟨Pr, fun _ _ => false, a8j, 71, [.tmp 4], H.length⟩ todo env (hap H [some ⟨1, u32s (w ++ List.replicate z 0)⟩]) fun r' H' => r' = natV (limbs (val a * val b)) ∧ ∃ L, H' = hap H L) →
   ∀ (k j c : Nat) (w : List Nat), j + k = B.length → w.length = i + B.length → Lim w → c < LB → val w + LB ^ (i + j) * c = vx + LB ^ i * (x * val (B.take j)) →
    Safe ⟨Pr, fun _ _ => false, a8j, 71, [.tmp 4], H.length⟩ (.inLoop c9B :: .inBlock 2 :: todo)
     [(0, natV A), (1, natV B), (5, .mu (lid H 0) 0 (A.length + B.length) (some (A.length + B.length))), (6, .int .i64 i), (7, .int .u64 c), (20, .int .i64 A.length), (21, .int .i64 i), (25, .int .i64 B.length), (26, .int .i64 j)]
     (hap H [some ⟨1, u32s (w ++ List.replicate z 0)⟩]) fun r' H' => r' = natV (limbs (val a * val b)) ∧ ∃ L, H' = hap H L := by
  intro todo i x z vx hi hx hk k
  induction k with
  | zero =>
   intro j c w hjk hw lw hc hv
   have hj : j = B.length := by omega
   subst hj
   refine Safe.inLoop (Safe.seq (Safe.region ?_))
   simp only [b9t, E1, Nat.reduceAdd, Nat.reduceEqDiff, reduceCtorEq, ↓reduceIte]
   refine Safe.seq (Safe.cond ?_)
   simp only [E1, Nat.reduceAdd, Nat.reduceEqDiff, reduceCtorEq, ↓reduceIte, Int.lt_irrefl]
   refine Safe.exit rfl ?_
   rw [List.take_length] at hv
   exact hk w c _ hw lw hc hv (by simp only [E1, Nat.reduceAdd, Nat.reduceEqDiff, reduceCtorEq, ↓reduceIte]) (by simp only [E1, Nat.reduceAdd, Nat.reduceEqDiff, reduceCtorEq, ↓reduceIte]) (by simp only [E1, Nat.reduceAdd, Nat.reduceEqDiff, reduceCtorEq, ↓reduceIte]) (by simp only [E1, Nat.reduceAdd, Nat.reduceEqDiff, reduceCtorEq, ↓reduceIte]) (by simp only [E1, Nat.reduceAdd, Nat.reduceEqDiff, reduceCtorEq, ↓reduceIte]) (by simp only [E1, Nat.reduceAdd, Nat.reduceEqDiff, reduceCtorEq, ↓reduceIte]) (by simp only [E1, Nat.reduceAdd, Nat.reduceEqDiff, reduceCtorEq, ↓reduceIte])
  | succ k ih =>
   intro j c w hjk hw lw hc hv
   refine Safe.inLoop (Safe.seq (Safe.region ?_))
   simp only [b9t, E1, Nat.reduceAdd, Nat.reduceEqDiff, reduceCtorEq, ↓reduceIte]
   refine Safe.seq (Safe.cond ?_)
   have hlt : (j : Int) < (B.length : Int) := by omega
   simp only [E1, Nat.reduceAdd, Nat.reduceEqDiff, reduceCtorEq, ↓reduceIte, hlt]
   refine Safe.skip (Safe.seq (Safe.block (Safe.seq (Safe.region ?_))))
   simp only [c9t, E1, Nat.reduceAdd, Nat.reduceEqDiff, reduceCtorEq, ↓reduceIte]
   refine Safe.seq (Safe.regionD ?_)
   have xa := a0L la i
   have xb := a0L lb j
   have xw := a0L lw (i + j)
   have hfit := d8N hc xa xb xw
   have hLL : LB * LB = 18446744073709551616 := by decide
   have h1w : IntKind.wrap .u64 ((A.getD i 0 : Nat) : Int) = ((A.getD i 0 : Nat) : Int) := a0H (by omega) (by omega)
   have h2w : IntKind.wrap .u64 ((B.getD j 0 : Nat) : Int) = ((B.getD j 0 : Nat) : Int) := a0H (by omega) (by omega)
   have h3w : IntKind.wrap .u64 ((w.getD (i + j) 0 : Nat) : Int) = ((w.getD (i + j) 0 : Nat) : Int) := a0H (by omega) (by omega)
   have h4w : IntKind.wrap .u64 (((A.getD i 0 : Nat) : Int) * ((B.getD j 0 : Nat) : Int)) = ((A.getD i 0 * B.getD j 0 : Nat) : Int) := by rw [← Int.natCast_mul, a0H] <;> omega
   have h5w : IntKind.wrap .u64 (((A.getD i 0 * B.getD j 0 : Nat) : Int) + ((w.getD (i + j) 0 : Nat) : Int)) = ((A.getD i 0 * B.getD j 0 + w.getD (i + j) 0 : Nat) : Int) := by rw [a0H] <;> omega
   have h6w : IntKind.wrap .u64 ((c : Int) + ((A.getD i 0 * B.getD j 0 + w.getD (i + j) 0 : Nat) : Int)) = ((c + A.getD i 0 * B.getD j 0 + w.getD (i + j) 0 : Nat) : Int) := by rw [a0H] <;> omega
   have h7w : IntKind.wrap .i64 ((i : Int) + (j : Int)) = ((i + j : Nat) : Int) := by rw [a0c] <;> omega
   simp only [c5H, E1, Nat.reduceAdd, Nat.reduceEqDiff, reduceCtorEq, ↓reduceIte, a0E _ A _ i hi, a0E _ B _ j (by omega), h1w, h2w, h3w, h4w, h7w, a8Z _ _ _ _ _ _ (i + j) (show i + j < A.length + B.length by omega), e7O _ _ (i + j) (show i + j < (w ++ List.replicate z 0).length by simp [hw]; omega),
    d5q w _ (i + j) (show i + j < w.length by omega), h5w, h6w]
   refine Safe.seq (Safe.region ?_)
   have hcw : IntKind.wrap .u32 ((c + A.getD i 0 * B.getD j 0 + w.getD (i + j) 0 : Nat) : Int) = (((c + A.getD i 0 * B.getD j 0 + w.getD (i + j) 0) % LB : Nat) : Int) := a1W _
   simp only [c5G, E1, Nat.reduceAdd, Nat.reduceEqDiff, reduceCtorEq, ↓reduceIte, h7w, hcw, a8Z _ _ _ _ _ _ (i + j) (show i + j < A.length + B.length by omega), c5d _ _ _ (i + j) _ (show i + j < (w ++ List.replicate z 0).length by simp [hw]; omega), d8D w _ (i + j) _ (show i + j < w.length by omega)]
   refine Safe.region ?_
   simp only [c5F, E1, Nat.reduceAdd, Nat.reduceEqDiff, reduceCtorEq, ↓reduceIte, a3J _ _ _ (show (0 : Int) ≤ 32 by decide), e8E]
   refine Safe.inBlock (Safe.region ?_)
   have hiw : IntKind.wrap .i64 ((j : Int) + 1) = ((j + 1 : Nat) : Int) := by rw [a0c] <;> omega
   simp only [c5E, E1, Nat.reduceAdd, Nat.reduceEqDiff, reduceCtorEq, ↓reduceIte, hiw]
   refine Safe.keep [0, 1, 5, 6, 7, 20, 21, 25, 26] ?_
   simp only [E1, Nat.reduceAdd, Nat.reduceEqDiff, reduceCtorEq, ↓reduceIte]
   refine ih (j + 1) _ _ (by omega) (by simp [hw]) (e3p lw (Nat.mod_lt _ (by decide))) ?_ ?_
   ·exact Nat.div_lt_of_lt_mul hfit
   ·rw [a0k, show i + (j + 1) = (i + j) + 1 by omega, Nat.pow_succ]
    subst hx
    exact d8M (Nat.pow_add LB i j) hv (e1T (by omega)) rfl
 have outer : ∀ (k i : Nat) (x : List Nat), i + k = A.length → x.length = i + B.length → Lim x → val x = val (A.take i) * val B →
    Safe ⟨Pr, fun _ _ => false, a8j, 71, [.tmp 4], H.length⟩ [.inLoop c9C, .inBlock 0, .code ((ACode.region b5h false).seq .ret)]
     [(0, natV A), (1, natV B), (5, .mu (lid H 0) 0 (A.length + B.length) (some (A.length + B.length))), (20, .int .i64 A.length), (21, .int .i64 i)]
     (hap H [some ⟨1, u32s (x ++ List.replicate k 0)⟩]) fun r' H' => r' = natV (limbs (val a * val b)) ∧ ∃ L, H' = hap H L := by
  intro k
  induction k with
  | zero =>
   intro i x hik hx lx hv
   have hi : i = A.length := by omega
   subst hi
   refine Safe.inLoop (Safe.seq (Safe.region ?_))
   simp only [b9u, E1, Nat.reduceAdd, Nat.reduceEqDiff, reduceCtorEq, ↓reduceIte]
   refine Safe.seq (Safe.cond ?_)
   simp only [E1, Nat.reduceAdd, Nat.reduceEqDiff, reduceCtorEq, ↓reduceIte, Int.lt_irrefl]
   refine Safe.exit rfl ?_
   simp only [List.replicate_zero, List.append_nil]
   refine Safe.freeze 0 (b := ⟨1, u32s x⟩) hH rfl rfl (a0F _) ?_
   refine Safe.seq (Safe.region ?_)
   simp only [b5h, E1, Nat.reduceAdd, Nat.reduceEqDiff, reduceCtorEq, ↓reduceIte, ← hx]
   refine (a0p x lx (by omega)).acall ?_
   try simp only [E1, Nat.reduceAdd, Nat.reduceEqDiff, reduceCtorEq, ↓reduceIte]
   refine Safe.retn ?_
   simp only [E1, Nat.reduceAdd, Nat.reduceEqDiff, reduceCtorEq, ↓reduceIte]
   rw [List.take_length] at hv
   rw [hv, va, vb]
   first | exact ⟨rfl, _, rfl⟩ | exact ⟨_, rfl⟩ | exact ⟨trivial, _, rfl⟩
  | succ k ih =>
   intro i x hik hx lx hv
   refine Safe.inLoop (Safe.seq (Safe.region ?_))
   simp only [b9u, E1, Nat.reduceAdd, Nat.reduceEqDiff, reduceCtorEq, ↓reduceIte]
   refine Safe.seq (Safe.cond ?_)
   have hlt : (i : Int) < (A.length : Int) := by omega
   simp only [E1, Nat.reduceAdd, Nat.reduceEqDiff, reduceCtorEq, ↓reduceIte, hlt]
   refine Safe.skip (Safe.seq (Safe.block (Safe.seq (Safe.region ?_))))
   simp only [c9w, E1, Nat.reduceAdd, Nat.reduceEqDiff, reduceCtorEq, ↓reduceIte]
   refine Safe.seq (Safe.region ?_)
   simp only [c9v, E1, Nat.reduceAdd, Nat.reduceEqDiff, reduceCtorEq, ↓reduceIte]
   refine Safe.seq (Safe.seq (Safe.region ?_))
   simp only [c9u, E1, Nat.reduceAdd, Nat.reduceEqDiff, reduceCtorEq, ↓reduceIte]
   refine Safe.block (Safe.loop ?_)
   refine Safe.keep [0, 1, 5, 6, 7, 20, 21, 25, 26] ?_
   simp only [E1, Nat.reduceAdd, Nat.reduceEqDiff, reduceCtorEq, ↓reduceIte]
   refine inner _ i _ (k + 1) (val x) (by omega) rfl ?_ B.length 0 0 x (by omega) hx lx (by decide) (by simp [val])
   intro w c env hw lw hc hv2 e0 e1 e5 e6 e7 e20 e21
   refine Safe.region ?_
   have h7w : IntKind.wrap .i64 ((i : Int) + (B.length : Int)) = ((i + B.length : Nat) : Int) := by rw [a0c] <;> omega
   have hcw : IntKind.wrap .u32 (c : Int) = (c : Int) := a3z (by omega) (by omega)
   simp only [c5D, E1, Nat.reduceAdd, Nat.reduceEqDiff, reduceCtorEq, ↓reduceIte, e0, e1, e5, e6, e7, h7w, hcw, a8Z _ _ _ _ _ _ (i + B.length) (show i + B.length < A.length + B.length by omega), c5d _ _ _ (i + B.length) _ (show i + B.length < (w ++ List.replicate (k + 1) 0).length by simp [hw])]
   refine Safe.inBlock (Safe.region ?_)
   have hiw : IntKind.wrap .i64 ((i : Int) + 1) = ((i + 1 : Nat) : Int) := by rw [a0c] <;> omega
   simp only [c5C, E1, Nat.reduceAdd, Nat.reduceEqDiff, reduceCtorEq, ↓reduceIte, e21, hiw]
   refine Safe.keep [0, 1, 5, 20, 21] ?_
   simp only [E1, Nat.reduceAdd, Nat.reduceEqDiff, reduceCtorEq, ↓reduceIte, e0, e1, e5, e20]
   have hset : (w ++ List.replicate (k + 1) 0).set (i + B.length) c = (w ++ [c]) ++ List.replicate k 0 := by rw [← hw]; exact c4K _ _ _
   rw [hset]
   refine ih (i + 1) _ (by omega) (by simp [hw]; omega) (a1u lw hc) ?_
   rw [a2H, hw, hv2, a0k, hv, Nat.add_mul, Nat.mul_assoc]
 refine Safe.keep [0, 1, 5, 20, 21] ?_
 simp only [E1, Nat.reduceAdd, Nat.reduceEqDiff, reduceCtorEq, ↓reduceIte]
 have := outer A.length 0 (List.replicate B.length 0) (by omega) (by simp) (by intro d hd; simp at hd; omega) (by simp [b5V, val])
 rw [List.replicate_append_replicate, Nat.add_comm B.length] at this
 exact this
end Go.Abs
namespace Go.Abs
theorem a0n (l : List Nat) (hl : Nt l) : a0d Pr a0A [natV l] (natV (limbs (val l))) := by
 refine a0d.intro d1E d1D (by simp only [List.length_cons, List.length_nil]; omega) (a0V _) fun H hH => ?_
 have hll := hl.len
 refine Safe.seq (Safe.region ?_)
 simp only [b6Y, E1, seval]
 refine Safe.seq (Safe.region ?_)
 simp only [b6X, E1, seval]
 refine Safe.seq (Safe.block (Safe.loop ?_))
 -- the copy
 have copy : ∀ (n : Nat), n ≤ l.length → limbs (val l) = l.take n → ∀ env : Env, look env 0 = natV l → look env 3 = .int .i64 n →
   Safe ⟨Pr, fun _ _ => false, a0A, 33, [.tmp 2], H.length⟩ [.code ((ACode.region a5d false).seq (((ACode.region a5c false).seq (.block 2 (.loop a5e))).seq ((ACode.region a3L false).seq .ret)))]
    env (hap H []) fun r' H' => r' = natV (limbs (val l)) ∧ ∃ L, H' = hap H L := by
  intro n hn hlim env e0 e3
  refine Safe.seq (Safe.region ?_)
  simp only [a5d, E1, seval]
  refine Safe.seq (Safe.seq (Safe.region ?_))
  simp only [a5c, E1, seval]
  refine Safe.nilrow 4 1 (by decide) (by simp only [E1, seval]) ?_
  refine Safe.block (Safe.loop ?_)
  have key : ∀ (k i : Nat), i + k = n → Safe ⟨Pr, fun _ _ => false, a0A, 33, [.tmp 2], H.length⟩ [.inLoop a5e, .inBlock 2, .code ((ACode.region a3L false).seq .ret)]
    [(0, natV l), (3, .int .i64 n), (4, .mu (lid H 0) 0 (l.take i).length none), (5, .int .i64 i)] (hap H [some ⟨1, u32s (l.take i)⟩]) fun r' H' => r' = natV (limbs (val l)) ∧ ∃ L, H' = hap H L := by
   intro k
   induction k with
   | zero =>
    intro i hi
    have hi : i = n := by omega
    subst hi
    refine Safe.inLoop (Safe.seq (Safe.seq (Safe.region ?_)))
    simp only [a8I, E1, seval, Int.lt_irrefl]
    refine Safe.cond ?_
    simp only [E1, seval]
    refine Safe.exit rfl ?_
    refine Safe.freeze 0 (b := ⟨1, u32s (l.take i)⟩) hH rfl rfl (a0F _) ?_
    refine Safe.seq (Safe.region ?_)
    simp only [a3L, E1, seval]
    refine Safe.retn ?_
    simp only [E1, seval, hlim]
    first | exact ⟨rfl, _, rfl⟩ | exact ⟨_, rfl⟩ | exact ⟨trivial, _, rfl⟩
   | succ k ih =>
    intro i hi
    refine Safe.inLoop (Safe.seq (Safe.seq (Safe.region ?_)))
    have hlt : (i : Int) < (n : Int) := by omega
    simp only [a8I, E1, seval, hlt]
    refine Safe.cond ?_
    simp only [E1, seval]
    refine Safe.skip (Safe.seq (Safe.block (Safe.region ?_)))
    simp only [b6V, E1, seval, a0E _ l _ i (by omega), c5e H hH _ (a1M H 0) _ (l.take i) (l.getD i 0) (by rw [List.length_take]; omega)]
    refine Safe.inBlock (Safe.region ?_)
    have hiw : IntKind.wrap .i64 ((i : Int) + 1) = ((i + 1 : Nat) : Int) := by rw [a0c] <;> omega
    simp only [b6U, E1, seval, hiw]
    refine Safe.keep [0, 3, 4, 5] ?_
    simp only [E1, seval, d4M]
    have := ih (i + 1) (by omega)
    rw [a7N (by omega)] at this
    simpa only [List.length_append, List.length_cons, List.length_nil] using this
  refine Safe.keep [0, 3, 4, 5] ?_
  simp only [E1, seval, e0, e3]
  exact key n 0 (by omega)
 have key : ∀ (n : Nat), n ≤ l.length → val (l.take n) = val l → ∀ env : Env, look env 0 = natV l → look env 3 = .int .i64 n →
   Safe ⟨Pr, fun _ _ => false, a0A, 33, [.tmp 2], H.length⟩ [.inLoop b6Z, .inBlock 0, .code ((ACode.region a5d false).seq (((ACode.region a5c false).seq (.block 2 (.loop a5e))).seq ((ACode.region a3L false).seq .ret)))]
    env (hap H []) fun r' H' => r' = natV (limbs (val l)) ∧ ∃ L, H' = hap H L := by
  intro n
  induction n with
  | zero =>
   intro hn hv env e0 e3
   refine Safe.inLoop (Safe.seq (Safe.seq (Safe.region ?_)))
   simp only [a8J, E1, seval, e0, e3, Int.natCast_zero, Int.lt_irrefl]
   refine Safe.cond ?_
   simp only [E1, seval]
   refine Safe.exit rfl (copy 0 hn ?_ _ (by simp only [E1, seval, e0]) (by simp only [E1, seval, e3] <;> rfl))
   rw [← hv]; simp [val, a0J]
  | succ n ih =>
   intro hn hv env e0 e3
   refine Safe.inLoop (Safe.seq (Safe.seq (Safe.region ?_)))
   have h0 : (0 : Int) < ((n + 1 : Nat) : Int) := by omega
   have hw : IntKind.wrap .i64 (((n + 1 : Nat) : Int) - 1) = (n : Int) := by rw [a0c] <;> omega
   simp only [a8J, E1, seval, e0, e3, h0, hw, a0E _ l _ n (by omega)]
   refine Safe.cond ?_
   simp only [E1, seval]
   by_cases hd : l.getD n 0 = 0
   ·simp only [hd, Int.natCast_zero, E1, seval]
    refine Safe.skip (Safe.block (Safe.region ?_))
    simp only [b6W, E1, seval, e3, hw]
    refine Safe.inBlock (ih (by omega) ?_ _ (by simp only [E1, seval, e0]) (by simp only [E1, seval]))
    rw [← hv, a0k, hd]; simp
   ·have hd' : ¬ (((l.getD n 0 : Nat) : Int) = 0) := by omega
    simp only [hd', E1, seval]
    refine Safe.exit rfl (copy (n + 1) hn ?_ _ (by simp only [E1, seval, e0]) (by simp only [E1, seval, e3]))
    rw [← hv, a7X (hl.lim.take _)]
    rw [a7N (by omega)]; simpa using hd
 exact key l.length (Nat.le_refl _) (by rw [List.take_length]) _ (by simp only [E1, seval]) (by simp only [E1, seval])
theorem a0P (l : List Nat) (i : Nat) (hl : Lim l) (hb : l.length ≤ 17592186044416) : a0d Pr a0R [natV l, .int .i64 i] (.int .u64 (l.getD i 0 : Nat)) := by
 refine a0d.intro d1A d1z (by simp only [List.length_cons, List.length_nil]; omega) (.int _ _) fun H hH => ?_
 have hd := a0L hl i
 have hLB : LB = 4294967296 := rfl
 refine Safe.seq (Safe.region ?_)
 simp only [b6I, E1, seval]
 refine Safe.seq (Safe.seq (Safe.region ?_))
 simp only [b6H, E1, seval]
 refine Safe.cond ?_
 simp only [E1, seval]
 by_cases h : i < l.length
 ·have h' : (i : Int) < (l.length : Int) := by omega
  simp only [h', E1, seval]
  refine Safe.seq (Safe.region ?_)
  simp only [b6G, E1, seval, a0E _ l _ i h, a0H (n := ((l.getD i 0 : Nat) : Int)) (by omega) (by omega)]
  refine Safe.retn ?_
  simp only [E1, seval]
  first | exact ⟨rfl, _, rfl⟩ | exact ⟨_, rfl⟩ | exact ⟨trivial, _, rfl⟩
 ·have h' : ¬ (i : Int) < (l.length : Int) := by omega
  simp only [h', E1, seval]
  refine Safe.skip (Safe.seq (Safe.region ?_))
  simp only [b6F, E1, seval]
  refine Safe.retn ?_
  simp only [E1, seval]
  rw [a6K (by omega)]
  first | exact ⟨rfl, _, rfl⟩ | exact ⟨_, rfl⟩ | exact ⟨trivial, _, rfl⟩
theorem c6a (a b : Nat) : a0d Pr a6O [.int .i64 a, .int .i64 b] (.int .i64 (max a b : Nat)) := by
 refine a0d.intro d1y d1x (by simp only [List.length_cons, List.length_nil]; omega) (.int _ _) fun H hH => ?_
 refine Safe.seq (Safe.region ?_)
 simp only [b6E, E1, seval]
 refine Safe.seq (Safe.seq (Safe.region ?_))
 simp only [b6D, E1, seval]
 refine Safe.cond ?_
 simp only [E1, seval]
 by_cases h : b < a
 ·have h' : (b : Int) < (a : Int) := by omega
  simp only [h', E1, seval]
  refine Safe.seq (Safe.region ?_)
  simp only [b6C, E1, seval]
  refine Safe.retn ?_
  simp only [E1, seval]
  rw [Nat.max_eq_left (by omega)]
  first | exact ⟨rfl, _, rfl⟩ | exact ⟨_, rfl⟩ | exact ⟨trivial, _, rfl⟩
 ·have h' : ¬ (b : Int) < (a : Int) := by omega
  simp only [h', E1, seval]
  refine Safe.skip (Safe.seq (Safe.region ?_))
  simp only [b6B, E1, seval]
  refine Safe.retn ?_
  simp only [E1, seval]
  rw [Nat.max_eq_right (by omega)]
  first | exact ⟨rfl, _, rfl⟩ | exact ⟨_, rfl⟩ | exact ⟨trivial, _, rfl⟩
theorem a8x (a b : List Nat) (ha : Nt a) (hb : Nt b) : a0d Pr a3g [natV a, natV b] (.int .i64 (cmpI (val a) (val b))) := by
 refine a0d.intro d4x d4w (by simp only [List.length_cons, List.length_nil]; omega) (.int _ _) fun H hH => ?_
 have hal := ha.len
 have hbl := hb.len
 refine Safe.seq (Safe.region ?_)
 simp only [c2o, E1, seval]
 refine Safe.seq (Safe.seq (Safe.region ?_))
 simp only [c2n, E1, seval]
 refine (c6a _ _).acall ?_
 have hm : max a.length b.length ≤ 17592186044416 := Nat.max_le.2 ⟨hal, hbl⟩
 simp only [E1, seval, a0c (n := ((max a.length b.length : Nat) : Int) - 1) (by omega) (by omega)]
 refine Safe.block (Safe.loop ?_)
 have key : ∀ (n : Nat), n ≤ max a.length b.length → (∀ j, n ≤ j → a.getD j 0 = b.getD j 0) → 
   Safe ⟨Pr, fun _ _ => false, a3g, 30, [.tmp 4], H.length⟩ [.inLoop c2p, .inBlock 0, .code ((ACode.region a8S false).seq .ret)]
    [(0, natV a), (1, natV b), (5, .int .i64 ((n : Int) - 1))] (hap H []) fun r' H' => r' = .int .i64 (cmpI (val a) (val b)) ∧ ∃ L, H' = hap H L := by
  intro n
  induction n with
  | zero =>
   intro hn hd
   refine Safe.inLoop (Safe.seq (Safe.seq (Safe.region ?_)))
   simp only [b1e, E1, seval, show ¬ ((0 : Int) ≤ ((0 : Nat) : Int) - 1) by omega]
   refine Safe.cond ?_
   simp only [E1, seval]
   refine Safe.exit rfl (Safe.seq (Safe.region ?_))
   simp only [a8S, E1, seval]
   refine Safe.retn ?_
   simp only [E1, seval]
   have : val a = val b := c4A fun i => hd i (Nat.zero_le _)
   exact ⟨by simp [cmpI, this], [], rfl⟩
  | succ n ih =>
   intro hn hd
   refine Safe.inLoop (Safe.seq (Safe.seq (Safe.region ?_)))
   have e1 : ((n + 1 : Nat) : Int) - 1 = (n : Int) := by omega
   simp only [b1e, E1, seval, e1, Int.natCast_nonneg]
   refine Safe.cond ?_
   simp only [E1, seval]
   refine Safe.skip (Safe.seq (Safe.block (Safe.seq (Safe.region ?_))))
   simp only [c2m, E1, seval]
   refine (a0P a n ha.lim hal).acall ?_
   try simp only [E1, seval]
   refine Safe.seq (Safe.region ?_)
   simp only [c2l, E1, seval]
   refine (a0P b n hb.lim hbl).acall ?_
   try simp only [E1, seval]
   refine Safe.seq (Safe.seq (Safe.region ?_))
   simp only [c2k, E1, seval]
   refine Safe.cond ?_
   simp only [E1, seval]
   by_cases h1 : a.getD n 0 < b.getD n 0
   ·have h1' : ((a.getD n 0 : Nat) : Int) < ((b.getD n 0 : Nat) : Int) := by omega
    simp only [h1', E1, seval]
    refine Safe.seq (Safe.region ?_)
    simp only [c2j, E1, seval]
    refine Safe.retn ?_
    simp only [E1, seval]
    have := b0G ha.lim hb.lim (fun j hj => hd j (by omega)) h1
    exact ⟨by simp [cmpI, this], [], rfl⟩
   ·have h1' : ¬ ((a.getD n 0 : Nat) : Int) < ((b.getD n 0 : Nat) : Int) := by omega
    simp only [h1', E1, seval]
    refine Safe.skip (Safe.seq (Safe.region ?_))
    simp only [c2i, E1, seval]
    refine Safe.cond ?_
    simp only [E1, seval]
    by_cases h2 : b.getD n 0 < a.getD n 0
    ·have h2' : ((b.getD n 0 : Nat) : Int) < ((a.getD n 0 : Nat) : Int) := by omega
     simp only [h2', E1, seval]
     refine Safe.seq (Safe.region ?_)
     simp only [c2h, E1, seval]
     refine Safe.retn ?_
     simp only [E1, seval]
     have := b0G hb.lim ha.lim (fun j hj => (hd j (by omega)).symm) h2
     exact ⟨by simp [cmpI, this, Nat.lt_asymm this], [], rfl⟩
    ·have h2' : ¬ ((b.getD n 0 : Nat) : Int) < ((a.getD n 0 : Nat) : Int) := by omega
     simp only [h2', E1, seval]
     refine Safe.skip (Safe.inBlock (Safe.region ?_))
     simp only [c2g, E1, seval, a0c (n := (n : Int) - 1) (by omega) (by omega)]
     refine Safe.keep [0, 1, 5] ?_
     simp only [E1, seval]
     refine ih (by omega) fun j hj => ?_
     rcases Nat.eq_or_lt_of_le hj with rfl | hj
     ·omega
     ·exact hd j hj
 refine Safe.keep [0, 1, 5] ?_
 simp only [E1, seval]
 refine key _ (Nat.le_refl _) fun j hj => ?_
 rw [a6K (by have := Nat.le_max_left a.length b.length; omega), a6K (by have := Nat.le_max_right a.length b.length; omega)]
theorem d6G (a b : List Nat) (la : Lim a) (lb : Lim b) (ha : a.length < 17592186044416) (hb : b.length < 17592186044416) : a0d Pr a9P [natV a, natV b] (natV (limbs (val a + val b))) := by
 refine a0d.intro d4A d4z (by simp only [List.length_cons, List.length_nil]; omega) (a0V _) fun H hH => ?_
 have hLB : LB = 4294967296 := rfl
 refine Safe.seq (Safe.region ?_)
 simp only [c2x, E1, seval]
 refine Safe.seq (Safe.region ?_)
 simp only [c2w, E1, seval]
 refine Safe.seq (Safe.region ?_)
 simp only [c2v, E1, seval]
 refine Safe.seq (Safe.seq (Safe.region ?_))
 simp only [c2u, E1, seval]
 refine Safe.nilrow 5 1 (by decide) (by simp only [E1, seval]) ?_
 refine Safe.block (Safe.loop ?_)
 have hm : max a.length b.length < 17592186044416 := Nat.max_lt.2 ⟨ha, hb⟩
 have m1 := Nat.le_max_left a.length b.length
 have m2 := Nat.le_max_right a.length b.length
 generalize hM : max a.length b.length = M at hm m1 m2
 have key : ∀ (k i c : Nat) (x : List Nat), i + k = M → x.length = i → Lim x → c ≤ 1 → val x + LB ^ i * c = val (a.take i) + val (b.take i) →
   Safe ⟨Pr, fun _ _ => false, a9P, 41, [.tmp 4], H.length⟩ [.inLoop c2y, .inBlock 0, .code ((ACode.region b1f false).seq ((ACode.region a8W false).seq .ret))]
    [(0, natV a), (1, natV b), (5, .mu (lid H 0) 0 x.length none), (6, .int .u64 c), (7, .int .i64 i)] (hap H [some ⟨1, u32s x⟩]) fun r' H' => r' = natV (limbs (val a + val b)) ∧ ∃ L, H' = hap H L := by
  intro k
  induction k with
  | zero =>
   intro i c x hik hx lx hc hv
   refine Safe.inLoop (Safe.seq (Safe.seq (Safe.region ?_)))
   simp only [b1g, E1, seval]
   refine (c6a _ _).acall ?_
   have : ¬ (i : Int) < (M : Int) := by omega
   rw [hM]
   simp only [E1, seval, this]
   refine Safe.cond ?_
   simp only [E1, seval]
   refine Safe.exit rfl (Safe.seq (Safe.region ?_))
   simp only [b1f, E1, seval, a3z (n := (c : Int)) (by omega) (by omega), c5e H hH _ (a1M H 0) _ x c (by omega)]
   have hlen : x.length + 1 = (x ++ [c]).length := by simp
   refine Safe.freeze 0 (b := ⟨1, u32s (x ++ [c])⟩) hH rfl rfl (a0F _) ?_
   refine Safe.seq (Safe.region ?_)
   simp only [a8W, E1, seval, hlen]
   refine (a0n (x ++ [c]) ⟨a1u lx (by omega), by simp; omega⟩).acall ?_
   try simp only [E1, seval]
   refine Safe.retn ?_
   simp only [E1, seval]
   rw [List.take_of_length_le (by omega), List.take_of_length_le (by omega)] at hv
   rw [a2H, hx, hv]
   first | exact ⟨rfl, _, rfl⟩ | exact ⟨_, rfl⟩ | exact ⟨trivial, _, rfl⟩
  | succ k ih =>
   intro i c x hik hx lx hc hv
   refine Safe.inLoop (Safe.seq (Safe.seq (Safe.region ?_)))
   simp only [b1g, E1, seval]
   refine (c6a _ _).acall ?_
   have : (i : Int) < (M : Int) := by omega
   rw [hM]
   simp only [E1, seval, this]
   refine Safe.cond ?_
   simp only [E1, seval]
   refine Safe.skip (Safe.seq (Safe.block (Safe.seq (Safe.region ?_))))
   simp only [c2t, E1, seval]
   have xa := a0L la i
   have xb := a0L lb i
   refine (a0P a i la (by omega)).acall ?_
   have w1 : IntKind.wrap .u64 ((c : Int) + ((a.getD i 0 : Nat) : Int)) = ((c + a.getD i 0 : Nat) : Int) := by rw [a0H] <;> omega
   simp only [E1, seval, w1]
   refine (a0P b i lb (by omega)).acall ?_
   have w2 : IntKind.wrap .u64 (((c + a.getD i 0 : Nat) : Int) + ((b.getD i 0 : Nat) : Int)) = ((c + a.getD i 0 + b.getD i 0 : Nat) : Int) := by rw [a0H] <;> omega
   simp only [E1, seval, w2]
   refine Safe.seq (Safe.region ?_)
   have hmod := Nat.mod_lt (c + a.getD i 0 + b.getD i 0) (show 0 < LB by decide)
   have w3 : IntKind.wrap .u32 (((c + a.getD i 0 + b.getD i 0) % LB : Nat) : Int) = (((c + a.getD i 0 + b.getD i 0) % LB : Nat) : Int) := a3z (by omega) (by omega)
   simp only [c2s, E1, seval, e2C, w3, c5e H hH _ (a1M H 0) _ x _ (show x.length < 35184372088832 by omega)]
   refine Safe.region ?_
   simp only [c2r, E1, seval, e7N _ (show c + a.getD i 0 + b.getD i 0 < 18446744073709551616 by omega)]
   refine Safe.inBlock (Safe.region ?_)
   have hiw : IntKind.wrap .i64 ((i : Int) + 1) = ((i + 1 : Nat) : Int) := by rw [a0c] <;> omega
   simp only [c2q, E1, seval, hiw]
   refine Safe.keep [0, 1, 5, 6, 7] ?_
   simp only [E1, seval]
   have hlen : x.length + 1 = (x ++ [(c + a.getD i 0 + b.getD i 0) % LB]).length := by simp
   rw [hlen]
   refine ih (i + 1) _ _ (by omega) (by simp [hx]) (a1u lx hmod) ?_ ?_
   ·have : c + a.getD i 0 + b.getD i 0 < LB * 2 := by omega
    have := Nat.div_lt_of_lt_mul this
    omega
   ·rw [a2H, hx, a0k, a0k, Nat.pow_succ]
    exact d1a (i := 0) hv
 refine Safe.keep [0, 1, 5, 6, 7] ?_
 simp only [E1, seval]
 exact key M 0 0 [] (by omega) rfl b9K (by omega) (by simp [val])
theorem a2w (a b : List Nat) (la : Lim a) (lb : Lim b) (ha : a.length ≤ 17592186044416) (hb : b.length ≤ 17592186044416) (hv : val b ≤ val a) : a0d Pr a2F [natV a, natV b] (natV (limbs (val a - val b))) := by
 refine a0d.intro d1C d1B (by simp only [List.length_cons, List.length_nil]; omega) (a0V _) fun H hH => ?_
 have hLB : LB = 4294967296 := rfl
 refine Safe.seq (Safe.region ?_)
 simp only [b6R, E1, seval]
 refine Safe.seq (Safe.region ?_)
 simp only [b6Q, E1, seval]
 refine Safe.seq (Safe.region ?_)
 simp only [b6P, E1, seval]
 refine Safe.seq (Safe.seq (Safe.region ?_))
 simp only [b6O, E1, seval]
 refine Safe.nilrow 5 1 (by decide) (by simp only [E1, seval]) ?_
 refine Safe.block (Safe.loop ?_)
 have key : ∀ (k i c : Nat) (x : List Nat), i + k = a.length → x.length = i → Lim x → c ≤ 1 → val (a.take i) + LB ^ i * c = val x + val (b.take i) →
   Safe ⟨Pr, fun _ _ => false, a2F, 38, [.tmp 4], H.length⟩ [.inLoop a8H, .inBlock 0, .code ((ACode.region a4o false).seq .ret)]
    [(0, natV a), (1, natV b), (5, .mu (lid H 0) 0 x.length none), (6, .int .u64 c), (7, .int .i64 i)] (hap H [some ⟨1, u32s x⟩]) fun r' H' => r' = natV (limbs (val a - val b)) ∧ ∃ L, H' = hap H L := by
  intro k
  induction k with
  | zero =>
   intro i c x hik hx lx hc hv2
   refine Safe.inLoop (Safe.seq (Safe.seq (Safe.region ?_)))
   have : ¬ (i : Int) < (a.length : Int) := by omega
   simp only [a8G, E1, seval, this]
   refine Safe.cond ?_
   simp only [E1, seval]
   refine Safe.exit rfl ?_
   refine Safe.freeze 0 (b := ⟨1, u32s x⟩) hH rfl rfl (a0F _) ?_
   refine Safe.seq (Safe.region ?_)
   simp only [a4o, E1, seval]
   refine (a0n x ⟨lx, by omega⟩).acall ?_
   try simp only [E1, seval]
   refine Safe.retn ?_
   simp only [E1, seval]
   rw [List.take_of_length_le (by omega)] at hv2
   have h1 := a1d lx
   rw [hx] at h1
   have h3 := a3A b i
   have hc0 : c = 0 ∧ val b = val (b.take i) := by
    rcases Nat.eq_zero_or_pos (val (b.drop i)) with h0 | h0
    ·rw [h0, Nat.mul_zero] at h3
     rcases Nat.eq_zero_or_pos c with h | h
     ·exact ⟨h, by omega⟩
     ·have : c = 1 := by omega
      subst this
      omega
    ·exfalso
     have h4 : LB ^ i * 1 ≤ LB ^ i * val (b.drop i) := Nat.mul_le_mul_left _ h0
     have h5 := a1d la
     have : a.length = i := by omega
     rw [this] at h5
     omega
   obtain ⟨rfl, hb2⟩ := hc0
   have : val x = val a - val b := by omega
   rw [this]
   first | exact ⟨rfl, _, rfl⟩ | exact ⟨_, rfl⟩ | exact ⟨trivial, _, rfl⟩
  | succ k ih =>
   intro i c x hik hx lx hc hv2
   refine Safe.inLoop (Safe.seq (Safe.seq (Safe.region ?_)))
   have : (i : Int) < (a.length : Int) := by omega
   simp only [a8G, E1, seval, this]
   refine Safe.cond ?_
   simp only [E1, seval]
   refine Safe.skip (Safe.seq (Safe.block (Safe.seq (Safe.region ?_))))
   simp only [b6N, E1, seval]
   have xa := a0L la i
   have xb := a0L lb i
   refine (a0P a i la ha).acall ?_
   try simp only [E1, seval]
   refine Safe.seq (Safe.region ?_)
   simp only [b6M, E1, seval]
   refine (a0P b i lb hb).acall ?_
   have w1 : IntKind.wrap .u64 (((b.getD i 0 : Nat) : Int) + (c : Int)) = ((b.getD i 0 + c : Nat) : Int) := by rw [a0H] <;> omega
   simp only [E1, seval, w1]
   refine Safe.seq (Safe.region ?_)
   simp only [b6L, E1, seval]
   refine Safe.seq (Safe.seq (Safe.region ?_))
   simp only [b6K, E1, seval]
   refine Safe.cond ?_
   simp only [E1, seval]
   have rest : ∀ (X bo d : Nat) (env : Env), X = d + (b.getD i 0 + c) → X < 18446744073709551616 → bo ≤ 1 → d < LB → a.getD i 0 + LB * bo = d + c + b.getD i 0 → look env 0 = natV a → look env 1 = natV b → look env 5 = .mu (lid H 0) 0 x.length none → look env 6 = .int .u64 bo → look env 7 = .int .i64 i → look env 8 = .int .u64 X → look env 9 = .int .u64 (b.getD i 0 + c : Nat) →
     Safe ⟨Pr, fun _ _ => false, a2F, 38, [.tmp 4], H.length⟩ [.code (.region a7k false), .inBlock 1, .code (.region a7j false), .inLoop a8H, .inBlock 0, .code ((ACode.region a4o false).seq .ret)]
      env (hap H [some ⟨1, u32s x⟩]) fun r' H' => r' = natV (limbs (val a - val b)) ∧ ∃ L, H' = hap H L := by
    intro X bo d env hX hX64 hbo hd hdig e0 e1 e5 e6 e7 e8 e9
    refine Safe.region ?_
    have w2 : IntKind.wrap .u64 ((X : Int) - ((b.getD i 0 + c : Nat) : Int)) = (d : Int) := by rw [a0H] <;> omega
    have w3 : IntKind.wrap .u32 (d : Int) = (d : Int) := a3z (by omega) (by omega)
    simp only [a7k, E1, seval, e5, e8, e9, w2, w3, c5e H hH _ (a1M H 0) _ x _ (show x.length < 35184372088832 by omega)]
    refine Safe.inBlock (Safe.region ?_)
    have hiw : IntKind.wrap .i64 ((i : Int) + 1) = ((i + 1 : Nat) : Int) := by rw [a0c] <;> omega
    simp only [a7j, E1, seval, a1E, e7, hiw]
    refine Safe.keep [0, 1, 5, 6, 7] ?_
    simp only [E1, seval, a1E, e0, e1, e6]
    have hlen : x.length + 1 = (x ++ [d]).length := by simp
    rw [hlen]
    refine ih (i + 1) _ _ (by omega) (by simp [hx]) (a1u lx hd) hbo ?_
    rw [a2H, hx, a0k, a0k, Nat.pow_succ]
    exact d4X hv2 hdig
   by_cases hlt : a.getD i 0 < b.getD i 0 + c
   ·have hlt' : ((a.getD i 0 : Nat) : Int) < ((b.getD i 0 + c : Nat) : Int) := by omega
    simp only [hlt', E1, seval]
    refine Safe.seq (Safe.region ?_)
    have w4 : IntKind.wrap .u64 (((a.getD i 0 : Nat) : Int) + 4294967296) = ((a.getD i 0 + 4294967296 : Nat) : Int) := by rw [a0H] <;> omega
    simp only [b6J, E1, seval, w4]
    refine Safe.region ?_
    simp only [b3G, E1, seval]
    exact rest (a.getD i 0 + 4294967296) 1 (a.getD i 0 + 4294967296 - (b.getD i 0 + c)) _ (by omega) (by omega) (by omega) (by omega) (by omega) (by simp only [E1, seval]) (by simp only [E1, seval]) (by simp only [E1, seval]) (by simp only [E1, seval] <;> rfl) (by simp only [E1, seval]) (by simp only [E1, seval]) (by simp only [E1, seval])
   ·have hlt' : ¬ ((a.getD i 0 : Nat) : Int) < ((b.getD i 0 + c : Nat) : Int) := by omega
    simp only [hlt', E1, seval]
    exact Safe.skip (rest (a.getD i 0) 0 (a.getD i 0 - (b.getD i 0 + c)) _ (by omega) (by omega) (by omega) (by omega) (by omega) (by simp only [E1, seval]) (by simp only [E1, seval]) (by simp only [E1, seval]) (by simp only [E1, seval] <;> rfl) (by simp only [E1, seval]) (by simp only [E1, seval]) (by simp only [E1, seval]))
 refine Safe.keep [0, 1, 5, 6, 7] ?_
 simp only [E1, seval]
 exact key a.length 0 0 [] (by omega) rfl b9K (by omega) (by simp [val])
theorem c4S (a b : List Nat) (ha : Nt a) (hb : Nt b) (hv : val b ≤ val a) : a0d Pr a9O [natV a, natV b] (.tup [natV (limbs (val a - val b)), .int .i64 0]) := by
 refine a0d.intro d4i d4h (by simp only [List.length_cons, List.length_nil]; omega) (.tup _ (by intro c hc; simp at hc; rcases hc with rfl | rfl; exact a0V _; exact .int _ _)) fun H hH => ?_
 refine Safe.seq (Safe.region ?_)
 simp only [c1w, E1, seval]
 refine Safe.seq (Safe.seq (Safe.region ?_))
 simp only [c1v, E1, seval]
 refine (a8x a b ha hb).acall ?_
 have h0 : ¬ (cmpI (val a) (val b) < 0) := by unfold cmpI; split <;> (try split) <;> omega
 simp only [E1, seval, h0]
 refine Safe.cond ?_
 simp only [E1, seval]
 refine Safe.skip (Safe.seq (Safe.region ?_))
 simp only [c1u, E1, seval]
 refine (a2w a b ha.lim hb.lim ha.len hb.len hv).acall ?_
 try simp only [E1, seval]
 refine Safe.retn ?_
 simp only [E1, seval]
 first | exact ⟨rfl, _, rfl⟩ | exact ⟨_, rfl⟩ | exact ⟨trivial, _, rfl⟩
theorem a1J (A B : List Nat) (ha : Nt A) (hb : Nt B) (hab : A.length + B.length ≤ 17592186044416) : a0d Pr a2h [natV A, natV B] (natV (limbs (val A * val B))) := by
 refine a0d.intro d4p d4o (by simp only [List.length_cons, List.length_nil]; omega) (a0V _) fun H hH => ?_
 have la := ha.lim
 have lb := hb.lim
 refine Safe.seq (Safe.region ?_)
 have hLB : LB = 4294967296 := rfl
 simp only [c1M, E1, seval]
 refine Safe.seq (Safe.region ?_)
 have hw : IntKind.wrap .i64 ((A.length : Int) + (B.length : Int)) = ((A.length + B.length : Nat) : Int) := by rw [a0c] <;> omega
 simp only [c1L, E1, seval, hw, b2H _ H [] _ _ (A.length + B.length) (by omega)]
 refine Safe.seq (Safe.seq (Safe.region ?_))
 simp only [c1K, E1, seval]
 refine Safe.block (Safe.loop ?_)
 have inner : ∀ (todo : List AItem) (i x : Nat) (z vx : Nat), i < A.length → x = A.getD i 0 → 
   (∀ (w : List Nat) (c : Nat) (env : Env), w.length = i + B.length → Lim w → c < LB → val w + LB ^ (i + B.length) * c = vx + LB ^ i * (x * val B) →
    look env 0 = natV A → look env 1 = natV B → look env 5 = .mu (lid H 0) 0 (A.length + B.length) (some (A.length + B.length)) → look env 6 = .int .i64 i → look env 7 = .int .u64 c →
    Safe ⟨Pr, fun _ _ => false, a2h, 68, [.tmp 4], H.length⟩ todo env (hap H [some ⟨1, u32s (w ++ List.replicate z 0)⟩]) fun r' H' => r' = natV (limbs (val A * val B)) ∧ ∃ L, H' = hap H L) →
   ∀ (k j c : Nat) (w : List Nat), j + k = B.length → w.length = i + B.length → Lim w → c < LB → val w + LB ^ (i + j) * c = vx + LB ^ i * (x * val (B.take j)) →
    Safe ⟨Pr, fun _ _ => false, a2h, 68, [.tmp 4], H.length⟩ (.inLoop c1N :: .inBlock 2 :: todo)
     [(0, natV A), (1, natV B), (5, .mu (lid H 0) 0 (A.length + B.length) (some (A.length + B.length))), (6, .int .i64 i), (7, .int .u64 c), (8, .int .i64 j)]
     (hap H [some ⟨1, u32s (w ++ List.replicate z 0)⟩]) fun r' H' => r' = natV (limbs (val A * val B)) ∧ ∃ L, H' = hap H L := by
  intro todo i x z vx hi hx hk k
  induction k with
  | zero =>
   intro j c w hjk hw lw hc hv
   have hj : j = B.length := by omega
   subst hj
   refine Safe.inLoop (Safe.seq (Safe.seq (Safe.region ?_)))
   simp only [b1a, E1, seval, Int.lt_irrefl]
   refine Safe.cond ?_
   simp only [E1, seval]
   refine Safe.exit rfl ?_
   rw [List.take_length] at hv
   exact hk w c _ hw lw hc hv (by simp only [E1, seval]) (by simp only [E1, seval]) (by simp only [E1, seval]) (by simp only [E1, seval]) (by simp only [E1, seval])
  | succ k ih =>
   intro j c w hjk hw lw hc hv
   refine Safe.inLoop (Safe.seq (Safe.seq (Safe.region ?_)))
   have hlt : (j : Int) < (B.length : Int) := by omega
   simp only [b1a, E1, seval, hlt]
   refine Safe.cond ?_
   simp only [E1, seval]
   refine Safe.skip (Safe.seq (Safe.block (Safe.seq (Safe.regionD ?_))))
   have xa := a0L la i
   have xb := a0L lb j
   have xw := a0L lw (i + j)
   have hfit := d8N hc xa xb xw
   have hLL : LB * LB = 18446744073709551616 := by decide
   have h1w : IntKind.wrap .u64 ((A.getD i 0 : Nat) : Int) = ((A.getD i 0 : Nat) : Int) := a0H (by omega) (by omega)
   have h2w : IntKind.wrap .u64 ((B.getD j 0 : Nat) : Int) = ((B.getD j 0 : Nat) : Int) := a0H (by omega) (by omega)
   have h3w : IntKind.wrap .u64 ((w.getD (i + j) 0 : Nat) : Int) = ((w.getD (i + j) 0 : Nat) : Int) := a0H (by omega) (by omega)
   have h4w : IntKind.wrap .u64 (((A.getD i 0 : Nat) : Int) * ((B.getD j 0 : Nat) : Int)) = ((A.getD i 0 * B.getD j 0 : Nat) : Int) := by rw [← Int.natCast_mul, a0H] <;> omega
   have h5w : IntKind.wrap .u64 ((c : Int) + ((w.getD (i + j) 0 : Nat) : Int)) = ((c + w.getD (i + j) 0 : Nat) : Int) := by rw [a0H] <;> omega
   have h6w : IntKind.wrap .u64 (((c + w.getD (i + j) 0 : Nat) : Int) + ((A.getD i 0 * B.getD j 0 : Nat) : Int)) = ((c + A.getD i 0 * B.getD j 0 + w.getD (i + j) 0 : Nat) : Int) := by rw [a0H] <;> omega
   have h7w : IntKind.wrap .i64 ((i : Int) + (j : Int)) = ((i + j : Nat) : Int) := by rw [a0c] <;> omega
   simp only [c1H, E1, seval, a0E _ A _ i hi, a0E _ B _ j (by omega), h1w, h2w, h3w, h4w, h7w, a8Z _ _ _ _ _ _ (i + j) (show i + j < A.length + B.length by omega), e7O _ _ (i + j) (show i + j < (w ++ List.replicate z 0).length by simp [hw]; omega),
    d5q w _ (i + j) (show i + j < w.length by omega), h5w, h6w]
   refine Safe.seq (Safe.region ?_)
   have hmod := Nat.mod_lt (c + A.getD i 0 * B.getD j 0 + w.getD (i + j) 0) (show 0 < LB by decide)
   have hcw : IntKind.wrap .u32 (((c + A.getD i 0 * B.getD j 0 + w.getD (i + j) 0) % LB : Nat) : Int) = (((c + A.getD i 0 * B.getD j 0 + w.getD (i + j) 0) % LB : Nat) : Int) := a3z (by omega) (by omega)
   simp only [c1G, E1, seval, h7w, e2C, hcw, a8Z _ _ _ _ _ _ (i + j) (show i + j < A.length + B.length by omega), c5d _ _ _ (i + j) _ (show i + j < (w ++ List.replicate z 0).length by simp [hw]; omega), d8D w _ (i + j) _ (show i + j < w.length by omega)]
   refine Safe.region ?_
   simp only [c1F, E1, seval, e7N _ (show c + A.getD i 0 * B.getD j 0 + w.getD (i + j) 0 < 18446744073709551616 by omega)]
   refine Safe.inBlock (Safe.region ?_)
   have hiw : IntKind.wrap .i64 ((j : Int) + 1) = ((j + 1 : Nat) : Int) := by rw [a0c] <;> omega
   simp only [b7c, E1, seval, hiw]
   refine Safe.keep [0, 1, 5, 6, 7, 8] ?_
   simp only [E1, seval]
   refine ih (j + 1) _ _ (by omega) (by simp [hw]) (e3p lw hmod) ?_ ?_
   ·exact Nat.div_lt_of_lt_mul hfit
   ·rw [a0k, show i + (j + 1) = (i + j) + 1 by omega, Nat.pow_succ]
    subst hx
    exact d8M (Nat.pow_add LB i j) hv (e1T (by omega)) rfl
 have outer : ∀ (k i : Nat) (x : List Nat), i + k = A.length → x.length = i + B.length → Lim x → val x = val (A.take i) * val B →
    Safe ⟨Pr, fun _ _ => false, a2h, 68, [.tmp 4], H.length⟩ [.inLoop c1O, .inBlock 0, .code ((ACode.region a8K false).seq .ret)]
     [(0, natV A), (1, natV B), (5, .mu (lid H 0) 0 (A.length + B.length) (some (A.length + B.length))), (6, .int .i64 i)]
     (hap H [some ⟨1, u32s (x ++ List.replicate k 0)⟩]) fun r' H' => r' = natV (limbs (val A * val B)) ∧ ∃ L, H' = hap H L := by
  intro k
  induction k with
  | zero =>
   intro i x hik hx lx hv
   have hi : i = A.length := by omega
   subst hi
   refine Safe.inLoop (Safe.seq (Safe.seq (Safe.region ?_)))
   simp only [b1b, E1, seval, Int.lt_irrefl]
   refine Safe.cond ?_
   simp only [E1, seval]
   refine Safe.exit rfl ?_
   simp only [List.replicate_zero, List.append_nil]
   refine Safe.freeze 0 (b := ⟨1, u32s x⟩) hH rfl rfl (a0F _) ?_
   refine Safe.seq (Safe.region ?_)
   simp only [a8K, E1, seval, ← hx]
   refine (a0n x ⟨lx, by omega⟩).acall ?_
   try simp only [E1, seval]
   refine Safe.retn ?_
   simp only [E1, seval]
   rw [List.take_length] at hv
   rw [hv]
   first | exact ⟨rfl, _, rfl⟩ | exact ⟨_, rfl⟩ | exact ⟨trivial, _, rfl⟩
  | succ k ih =>
   intro i x hik hx lx hv
   refine Safe.inLoop (Safe.seq (Safe.seq (Safe.region ?_)))
   have hlt : (i : Int) < (A.length : Int) := by omega
   simp only [b1b, E1, seval, hlt]
   refine Safe.cond ?_
   simp only [E1, seval]
   refine Safe.skip (Safe.seq (Safe.block (Safe.seq (Safe.region ?_))))
   simp only [c1J, E1, seval]
   refine Safe.seq (Safe.seq (Safe.region ?_))
   simp only [c1I, E1, seval]
   refine Safe.block (Safe.loop ?_)
   refine Safe.keep [0, 1, 5, 6, 7, 8] ?_
   simp only [E1, seval]
   refine inner _ i _ (k + 1) (val x) (by omega) rfl ?_ B.length 0 0 x (by omega) hx lx (by decide) (by simp [val])
   intro w c env hw lw hc hv2 e0 e1 e5 e6 e7
   refine Safe.region ?_
   have h7w : IntKind.wrap .i64 ((i : Int) + (B.length : Int)) = ((i + B.length : Nat) : Int) := by rw [a0c] <;> omega
   have hcw : IntKind.wrap .u32 (c : Int) = (c : Int) := a3z (by omega) (by omega)
   simp only [b7b, E1, seval, e0, e1, e5, e6, e7, h7w, hcw, a8Z _ _ _ _ _ _ (i + B.length) (show i + B.length < A.length + B.length by omega), c5d _ _ _ (i + B.length) _ (show i + B.length < (w ++ List.replicate (k + 1) 0).length by simp [hw])]
   refine Safe.inBlock (Safe.region ?_)
   have hiw : IntKind.wrap .i64 ((i : Int) + 1) = ((i + 1 : Nat) : Int) := by rw [a0c] <;> omega
   simp only [b7a, E1, seval, e6, hiw]
   refine Safe.keep [0, 1, 5, 6] ?_
   simp only [E1, seval, e0, e1, e5]
   have hset : (w ++ List.replicate (k + 1) 0).set (i + B.length) c = (w ++ [c]) ++ List.replicate k 0 := by rw [← hw]; exact c4K _ _ _
   rw [hset]
   refine ih (i + 1) _ (by omega) (by simp [hw]; omega) (a1u lw hc) ?_
   rw [a2H, hw, hv2, a0k, hv, Nat.add_mul, Nat.mul_assoc]
 refine Safe.keep [0, 1, 5, 6] ?_
 simp only [E1, seval]
 have := outer A.length 0 (List.replicate B.length 0) (by omega) (by simp) (by intro d hd; simp at hd; omega) (by simp [b5V, val])
 rw [List.replicate_append_replicate, Nat.add_comm B.length] at this
 exact this
theorem a1X (l : List Nat) (hl : Nt l) : a0d Pr a2a [natV l] (.int .i64 (blen (val l))) := by
 refine a0d.intro d1G d1F (by simp only [List.length_cons, List.length_nil]; omega) (.int _ _) fun H hH => ?_
 have hll := hl.len
 refine Safe.seq (Safe.region ?_)
 simp only [b7t, E1, seval]
 refine Safe.seq (Safe.seq (Safe.region ?_))
 have hw : IntKind.wrap .i64 ((l.length : Int) - 1) = (l.length : Int) - 1 := a0c (by omega) (by omega)
 simp only [b7s, E1, seval, hw]
 refine Safe.block (Safe.loop ?_)
 have inner : ∀ (todo : List AItem) (m s : Nat), m < 4294967296 → s + blen m = blen (val l) → s + blen m ≤ 32 * l.length →
   Safe ⟨Pr, fun _ _ => false, a2a, 31, [.tmp 2], H.length⟩ (.inLoop b7u :: .inBlock 2 :: .code ((ACode.region a8T false).seq .ret) :: todo)
    [(4, .int .i64 s), (5, .int .u32 m)] (hap H []) fun r' H' => r' = .int .i64 (blen (val l)) ∧ ∃ L, H' = hap H L := by
  intro todo m
  induction m using Nat.strongRecOn with
  | _ m ih =>
  intro s hm hs hb
  refine Safe.inLoop (Safe.seq (Safe.seq (Safe.region ?_)))
  by_cases h0 : m = 0
  ·subst h0
   simp only [a8U, E1, seval, Int.natCast_zero, Int.lt_irrefl]
   refine Safe.cond ?_
   simp only [E1, seval]
   refine Safe.exit rfl (Safe.seq (Safe.region ?_))
   simp only [a8T, E1, seval]
   refine Safe.retn ?_
   simp only [E1, seval]
   rw [← hs]
   exact ⟨rfl, [], rfl⟩
  ·have h0' : (0 : Int) < (m : Int) := by omega
   simp only [a8U, E1, seval, h0']
   refine Safe.cond ?_
   simp only [E1, seval]
   refine Safe.skip (Safe.seq (Safe.block (Safe.region ?_)))
   have hbl : blen m = 1 + blen (m / 2) := by
    by_cases h1 : m = 1
    ·subst h1; rfl
    ·have := d2C (n := m) (k := 1) (by omega)
     simpa using this
   have w1 : IntKind.wrap .i64 ((s : Int) + 1) = ((s + 1 : Nat) : Int) := by rw [a0c] <;> omega
   simp only [b7o, E1, seval, w1]
   refine Safe.inBlock (Safe.region ?_)
   have w2 : binV .quo (.int .u32 (m : Int)) (.int .u32 2) = some (.int .u32 ((m / 2 : Nat) : Int)) := by
    rw [c4b _ _ _ (by decide), Int.tdiv_eq_ediv_of_nonneg (by omega)]
    have : (m : Int) / 2 = ((m / 2 : Nat) : Int) := rfl
    rw [this, a3z (by omega) (by omega)]
   simp only [b7n, E1, seval, w2]
   refine Safe.keep [4, 5] ?_
   simp only [E1, seval]
   exact ih (m / 2) (by omega) (s + 1) (by omega) (by omega) (by omega)
 have key : ∀ (n : Nat), n ≤ l.length → val (l.take n) = val l → 
   Safe ⟨Pr, fun _ _ => false, a2a, 31, [.tmp 2], H.length⟩ [.inLoop b7v, .inBlock 0, .code ((ACode.region a7l false).seq .ret)]
    [(0, natV l), (3, .int .i64 ((n : Int) - 1))] (hap H []) fun r' H' => r' = .int .i64 (blen (val l)) ∧ ∃ L, H' = hap H L := by
  intro n
  induction n with
  | zero =>
   intro hn hv
   refine Safe.inLoop (Safe.seq (Safe.seq (Safe.region ?_)))
   simp only [a8V, E1, seval, show ¬ ((0 : Int) ≤ ((0 : Nat) : Int) - 1) by omega]
   refine Safe.cond ?_
   simp only [E1, seval]
   refine Safe.exit rfl (Safe.seq (Safe.region ?_))
   simp only [a7l, E1, seval]
   refine Safe.retn ?_
   simp only [E1, seval]
   rw [← hv]
   exact ⟨rfl, [], rfl⟩
  | succ n ih =>
   intro hn hv
   refine Safe.inLoop (Safe.seq (Safe.seq (Safe.region ?_)))
   have e1 : ((n + 1 : Nat) : Int) - 1 = (n : Int) := by omega
   simp only [a8V, E1, seval, e1, Int.natCast_nonneg]
   refine Safe.cond ?_
   simp only [E1, seval]
   refine Safe.skip (Safe.seq (Safe.block (Safe.seq (Safe.region ?_))))
   simp only [b7r, E1, seval, a0E _ l _ n (by omega)]
   refine Safe.cond ?_
   simp only [E1, seval]
   by_cases hd : l.getD n 0 = 0
   ·simp only [hd, Int.natCast_zero, E1, seval]
    refine Safe.skip (Safe.inBlock (Safe.region ?_))
    simp only [b3H, E1, seval, a0c (n := (n : Int) - 1) (by omega) (by omega)]
    refine Safe.keep [0, 3] ?_
    simp only [E1, seval]
    refine ih (by omega) ?_
    rw [← hv, a0k, hd]; simp
   ·have hd' : ¬ (((l.getD n 0 : Nat) : Int) = 0) := by omega
    simp only [hd', E1, seval]
    refine Safe.seq (Safe.region ?_)
    have w1 : IntKind.wrap .i64 (32 * (n : Int)) = ((32 * n : Nat) : Int) := by rw [a0c] <;> omega
    simp only [b7q, E1, seval, w1]
    refine Safe.seq (Safe.seq (Safe.region ?_))
    simp only [b7p, E1, seval, a0E _ l _ n (by omega)]
    refine Safe.block (Safe.loop ?_)
    refine Safe.keep [4, 5] ?_
    simp only [E1, seval]
    have hlt : l.getD n 0 < 4294967296 := a0L hl.lim n
    have hbv : blen (val l) = 32 * n + blen (l.getD n 0) := by
     rw [← hv, a7N (by omega), c0e (hl.lim.take n) hd, List.length_take, Nat.min_eq_left (by omega)]
    refine inner _ _ (32 * n) hlt hbv.symm ?_
    rw [← hbv]
    have h1 := a1d hl.lim
    rw [e3t] at h1
    rcases Nat.lt_or_ge (32 * l.length) (blen (val l)) with h | h
    ·have h0 : val l ≠ 0 := by intro h0; rw [h0] at h; simp [blen] at h
     have h2 := c0f h0
     have h3 := Nat.pow_le_pow_right (show 0 < 2 by decide) (show 32 * l.length ≤ blen (val l) - 1 by omega)
     omega
    ·exact h
 refine Safe.keep [0, 3] ?_
 simp only [E1, seval]
 exact key l.length (Nat.le_refl _) (by rw [List.take_length])
end Go.Abs
namespace Go.Abs
theorem a2v (neg : Bool) (l : List Nat) (hl : Nt l) : a0d Pr a1I [.bool neg, natV l] (Z (sgn neg (val l))) := by
 refine a0d.intro d1r d1q (by simp only [List.length_cons, List.length_nil]; omega) (Z_cl _) fun H hH => ?_
 refine Safe.seq (Safe.region ?_)
 simp only [b6r, E2, seval]
 refine Safe.seq (Safe.region ?_)
 simp only [b6q, E2, seval]
 refine (a0n l hl).acall ?_
 try simp only [E2, seval]
 refine Safe.seq (Safe.region ?_)
 have e0 : decide ((0 : Int) < ((limbs (val l)).length : Int)) = decide (0 < val l) := by
  rcases Nat.eq_zero_or_pos (val l) with h | h
  ·rw [h, a0J]; rfl
  ·rw [a6a (by omega)]; simp [h] <;> omega
 cases neg
 ·simp only [a8F, E2, seval]
  refine Safe.retn ?_
  simp only [E2, seval]
  rw [← f0A]
  simp only [Bool.false_and]
  first | exact ⟨rfl, _, rfl⟩ | exact ⟨_, rfl⟩ | exact ⟨trivial, _, rfl⟩
 ·simp only [a8F, E2, seval, e0, d4E]
  refine Safe.retn ?_
  simp only [E2, seval]
  rw [← f0A]
  simp only [Bool.true_and]
  first | exact ⟨rfl, _, rfl⟩ | exact ⟨_, rfl⟩ | exact ⟨trivial, _, rfl⟩
theorem a1x (neg : Bool) (l : List Nat) (hl : Nt l) : a0d Pr a1a [.bool neg, natV l] (Z (sgn neg (val l))) := by
 refine a0d.introL d2N d2M (by simp only [List.length_cons, List.length_nil]; omega) (Z_cl _) fun H hH => ?_
 have hll := hl.len
 refine Safe.seq (Safe.region ?_)
 simp only [c0p, E2, seval]
 refine Safe.seq (Safe.region ?_)
 simp only [c0o, E2, seval]
 refine Safe.seq (Safe.block (Safe.loop ?_))
 have copy : ∀ (n : Nat), n ≤ l.length → limbs (val l) = l.take n → ∀ env : Env, look env 0 = .bool neg → look env 1 = natV l → look env 4 = .loc (lid H 0) 0 0 → look env 5 = .int .i64 n →
   Safe ⟨Pr, fun _ _ => false, a1a, 32, [.cell 4 (some 2)], H.length⟩ [.code (((ACode.region a6v false).seq (.cond (.t 22) ((ACode.region a6u false).seq .ret) .skip)).seq ((ACode.region a6t false).seq ((ACode.region a6s false).seq ((ACode.region a6r false).seq .ret))))]
    env (hap H [some ⟨2, [.agg [.bool false, .nil]]⟩]) fun r' H' => Le r' (Z (sgn neg (val l))) ∧ ∃ L, H' = hap H L := by
  intro n hn hlim env e0 e1 e4 e5
  refine Safe.seq (Safe.seq (Safe.region ?_))
  simp only [a6v, E2, seval, e5]
  refine Safe.cond ?_
  simp only [E2, seval]
  by_cases h0 : n = 0
  ·subst h0
   simp only [Int.natCast_zero, E2, seval]
   refine Safe.seq (Safe.region ?_)
   simp only [a6u, E2, seval, e4]
   refine Safe.retn ?_
   simp only [E2, seval, e4]
   refine ⟨?_, _, rfl⟩
   have : val l = 0 := by
    have := a0a (val l)
    rw [hlim] at this
    simpa [val] using this.symm
   rw [this, c3K]
   exact le_zero
  ·have h0' : ¬ ((n : Int) = 0) := by omega
   simp only [h0', E2, seval]
   refine Safe.skip (Safe.seq (Safe.region ?_))
   simp only [a6t, E2, seval, e5, b2H _ H [some ⟨2, [.agg [.bool false, .nil]]⟩] _ _ n (by omega)]
   refine Safe.seq (Safe.region ?_)
   have hc := d9i ((28, .int .i64 n) :: []) H [some ⟨2, [.agg [.bool false, .nil]]⟩, some ⟨1, u32s (List.replicate n 0)⟩] 1 1 n (some n) (natV l) (u32s (List.replicate n 0)) (u32s l) rfl (by simp [a0D]) (b7H _ l) (by rw [a0D]; exact hn)
   simp only [a6s, E2, seval, e1]
   rw [d9i _ H [some ⟨2, [.agg [.bool false, .nil]]⟩, some ⟨1, u32s (List.replicate n 0)⟩] 1 1 n (some n) (natV l) (u32s (List.replicate n 0)) (u32s l) rfl (by simp [a0D]) (b7H _ l) (by rw [a0D]; exact hn)]
   simp only [E2, seval, b5X]
   refine Safe.freeze 1 (b := ⟨1, u32s (l.take n)⟩) hH rfl rfl (a0F _) ?_
   have hlen : n = (l.take n).length := by rw [List.length_take]; omega
   have hfm : frz (lid H 1) ⟨1, u32s (l.take n)⟩ (.mu (lid H 1) 0 n (some n)) = natV (l.take n) := by
    have := a7Z H 1 (l.take n) (some n)
    rwa [← hlen] at this
   refine Safe.keep [0, 4, 6] ?_
   simp only [E2, seval, c6B, e0, e4, hfm, a0G H 1 0 _ 0 0 (by decide)]
   refine Safe.seq (Safe.region ?_)
   simp only [a6r, E2, seval]
   refine Safe.retn ?_
   simp only [E2, seval]
   refine ⟨?_, _, rfl⟩
   rw [← f0A, hlim]
   have hp : 0 < val l := by
    rcases Nat.eq_zero_or_pos (val l) with h | h
    ·rw [h, a0J] at hlim
     have := congrArg List.length hlim
     simp at this; omega
    ·exact h
   simp only [hp, decide_true, Bool.and_true]
   exact Le.refl _
 have key : ∀ (n : Nat), n ≤ l.length → val (l.take n) = val l → ∀ env : Env, look env 0 = .bool neg → look env 1 = natV l → look env 4 = .loc (lid H 0) 0 0 → look env 5 = .int .i64 n →
   Safe ⟨Pr, fun _ _ => false, a1a, 32, [.cell 4 (some 2)], H.length⟩ [.inLoop c0q, .inBlock 0, .code (((ACode.region a6v false).seq (.cond (.t 22) ((ACode.region a6u false).seq .ret) .skip)).seq ((ACode.region a6t false).seq ((ACode.region a6s false).seq ((ACode.region a6r false).seq .ret))))]
    env (hap H [some ⟨2, [.agg [.bool false, .nil]]⟩]) fun r' H' => Le r' (Z (sgn neg (val l))) ∧ ∃ L, H' = hap H L := by
  intro n
  induction n with
  | zero =>
   intro hn hv env e0 e1 e4 e5
   refine Safe.inLoop (Safe.seq (Safe.seq (Safe.region ?_)))
   simp only [b0F, E2, seval, e1, e5, Int.natCast_zero, Int.lt_irrefl]
   refine Safe.cond ?_
   simp only [E2, seval]
   refine Safe.exit rfl (copy 0 hn ?_ _ (by simp only [E2, seval, e0]) (by simp only [E2, seval, e1]) (by simp only [E2, seval, e4]) (by simp only [E2, seval, e5] <;> rfl))
   rw [← hv]; simp [val, a0J]
  | succ n ih =>
   intro hn hv env e0 e1 e4 e5
   refine Safe.inLoop (Safe.seq (Safe.seq (Safe.region ?_)))
   have h0 : (0 : Int) < ((n + 1 : Nat) : Int) := by omega
   have hw : IntKind.wrap .i64 (((n + 1 : Nat) : Int) - 1) = (n : Int) := by rw [a0c] <;> omega
   simp only [b0F, E2, seval, e1, e5, h0, hw, a0E _ l _ n (by omega)]
   refine Safe.cond ?_
   simp only [E2, seval]
   by_cases hd : l.getD n 0 = 0
   ·simp only [hd, Int.natCast_zero, E2, seval]
    refine Safe.skip (Safe.block (Safe.region ?_))
    simp only [c0n, E2, seval, e5, hw]
    refine Safe.inBlock (ih (by omega) ?_ _ (by simp only [E2, seval, e0]) (by simp only [E2, seval, e1]) (by simp only [E2, seval, e4]) (by simp only [E2, seval]))
    rw [← hv, a0k, hd]; simp
   ·have hd' : ¬ (((l.getD n 0 : Nat) : Int) = 0) := by omega
    simp only [hd', E2, seval]
    refine Safe.exit rfl (copy (n + 1) hn ?_ _ (by simp only [E2, seval, e0]) (by simp only [E2, seval, e1]) (by simp only [E2, seval, e4]) (by simp only [E2, seval, e5]))
    rw [← hv, a7X (hl.lim.take _)]
    rw [a7N (by omega)]; simpa using hd
 exact key l.length (Nat.le_refl _) (by rw [List.take_length]) _ (by simp only [E2, seval]) (by simp only [E2, seval]) (by simp only [E2, seval]) (by simp only [E2, seval])
theorem e2q (n : Bool) (a b : Nat) : sgn n a + sgn n b = sgn n (a + b) := by cases n <;> simp [sgn] <;> omega
theorem e2o (m n : Bool) (a b : Nat) (h : m ≠ n) (hb : b ≤ a) : sgn m a + sgn n b = sgn m (a - b) := by
 cases m <;> cases n <;> simp [sgn] at h ⊢ <;> omega
theorem d8B (m n : Bool) (a b : Nat) (h : m ≠ n) (hb : a ≤ b) : sgn m a + sgn n b = sgn n (b - a) := by
 cases m <;> cases n <;> simp [sgn] at h ⊢ <;> omega
theorem d6D (m n : Bool) (a b : Nat) : sgn m a * sgn n b = sgn (!(m == n)) (a * b) := by
 cases m <;> cases n <;> simp [sgn, Int.neg_mul, Int.mul_neg]
theorem e2p (n : Bool) (a : Nat) : sgn (!n) a = - sgn n a := by cases n <;> simp [sgn]
theorem e4q (a b : Nat) : (0 ≤ cmpI a b) = (b ≤ a) := by unfold cmpI; split <;> (try split) <;> simp <;> omega
theorem c0b (a b : Nat) : (cmpI a b < 0) = (a < b) := by unfold cmpI; split <;> (try split) <;> simp <;> omega
theorem a1K (x : ZI) (hx : Zok 17592186044416 x) : a0d Pr a3x [x.av] (Z x.z) := by
 obtain ⟨n, m⟩ := x
 have hm : Nt m := ⟨hx.lim, hx.len⟩
 simp only [ZI.av, ZI.z]
 refine a0d.intro d1v d1u (by simp only [List.length_cons, List.length_nil]; omega) (Z_cl _) fun H hH => ?_
 refine Safe.seq (Safe.region ?_)
 simp only [b6A, E2, seval]
 refine Safe.seq (Safe.region ?_)
 simp only [b6z, E2, seval]
 refine (a2v n m hm).acall ?_
 simp only [Z, E2, seval]
 refine Safe.retn ?_
 simp only [E2, seval]
 first | exact ⟨rfl, _, rfl⟩ | exact ⟨_, rfl⟩ | exact ⟨trivial, _, rfl⟩
theorem b2F (x : ZI) (hx : Zok 17592186044416 x) : a0d Pr a4k [x.av] (Z (-x.z)) := by
 obtain ⟨n, m⟩ := x
 have hm : Nt m := ⟨hx.lim, hx.len⟩
 simp only [ZI.av, ZI.z]
 refine a0d.intro d3R d3Q (by simp only [List.length_cons, List.length_nil]; omega) (Z_cl _) fun H hH => ?_
 refine Safe.seq (Safe.region ?_)
 simp only [c1c, E2, seval]
 refine Safe.seq (Safe.region ?_)
 simp only [c1b, E2, seval]
 refine (a2v (!n) m hm).acall ?_
 rw [e2p]
 simp only [Z, E2, seval]
 refine Safe.retn ?_
 simp only [E2, seval]
 first | exact ⟨rfl, _, rfl⟩ | exact ⟨_, rfl⟩ | exact ⟨trivial, _, rfl⟩
theorem a2L (x y : ZI) (k l : Nat) (hx : Zok k x) (hy : Zok l y) (hkl : k + l ≤ 17592186044416) : a0d Pr a1b [x.av, y.av] (Z (x.z * y.z)) := by
 obtain ⟨n, a⟩ := x
 obtain ⟨m, b⟩ := y
 have hal := hx.len
 have hbl := hy.len
 simp only at hal hbl
 have ha : Nt a := ⟨hx.lim, by omega⟩
 have hb : Nt b := ⟨hy.lim, by omega⟩
 simp only [ZI.av, ZI.z]
 refine a0d.intro d3T d3S (by simp only [List.length_cons, List.length_nil]; omega) (Z_cl _) fun H hH => ?_
 refine Safe.seq (Safe.region ?_)
 simp only [c1e, E2, seval]
 refine Safe.seq (Safe.regionD ?_)
 simp only [c1d, E2, seval]
 refine (a1J a b ha hb (by omega)).dcall ?_
 try simp only [E2, seval]
 have hn : Nt (limbs (val a * val b)) := ⟨a0b _, by
  have h1 := a1d ha.lim
  have h2 := a1d hb.lim
  have h3 : val a * val b < LB ^ (a.length + b.length) := by
   rw [Nat.pow_add]
   exact Nat.mul_lt_mul'' h1 h2
  exact Nat.le_trans (a0l h3) (by omega)⟩
 refine (a2v _ _ hn).dcall ?_
 rw [a0a, ← d6D]
 simp only [Z, E2, seval]
 refine Safe.retn ?_
 simp only [E2, seval]
 first | exact ⟨rfl, _, rfl⟩ | exact ⟨_, rfl⟩ | exact ⟨trivial, _, rfl⟩
theorem c8W (x y : ZI) (k : Nat) (hx : Zok k x) (hy : Zok k y) (hk : k < 17592186044416) : a0d Pr a4l [x.av, y.av] (Z (x.z + y.z)) := by
 obtain ⟨n, a⟩ := x
 obtain ⟨m, b⟩ := y
 have hal := hx.len
 have hbl := hy.len
 have hav := hx.lt
 have hbv := hy.lt
 simp only at hal hbl hav hbv
 have ha : Nt a := ⟨hx.lim, by omega⟩
 have hb : Nt b := ⟨hy.lim, by omega⟩
 have hle : ∀ v, v < LB ^ k → Nt (limbs v) := fun v hv => ⟨a0b _, Nat.le_trans (a0l hv) (by omega)⟩
 simp only [ZI.av, ZI.z]
 refine a0d.intro d3X d3W (by simp only [List.length_cons, List.length_nil]; omega) (Z_cl _) fun H hH => ?_
 refine Safe.seq (Safe.region ?_)
 simp only [c1o, E2, seval]
 refine Safe.seq (Safe.seq (Safe.region ?_))
 simp only [c1n, E2, seval]
 refine Safe.cond ?_
 simp only [E2, seval]
 by_cases hnm : n = m
 ·subst hnm
  simp only [beq_self_eq_true, E2, seval]
  refine Safe.seq (Safe.regionD ?_)
  simp only [c1m, E2, seval]
  refine (d6G a b ha.lim hb.lim (by omega) (by omega)).dcall ?_
  try simp only [E2, seval]
  have hn : Nt (limbs (val a + val b)) := ⟨a0b _, by
   have h3 : val a + val b < LB ^ (k + 1) := by
    rw [Nat.pow_succ]
    have : LB ^ k * 2 ≤ LB ^ k * LB := Nat.mul_le_mul_left _ (by decide)
    omega
   exact Nat.le_trans (a0l h3) (by omega)⟩
  refine (a2v _ _ hn).dcall ?_
  rw [a0a, e2q]
  simp only [Z, E2, seval]
  refine Safe.retn ?_
  simp only [E2, seval]
  first | exact ⟨rfl, _, rfl⟩ | exact ⟨_, rfl⟩ | exact ⟨trivial, _, rfl⟩
 ·have hnm' : (n == m) = false := by simpa using hnm
  simp only [hnm', E2, seval]
  refine Safe.skip (Safe.seq (Safe.seq (Safe.region ?_)))
  simp only [c1l, E2, seval]
  refine (a8x a b ha hb).acall ?_
  simp only [E2, seval, c0b, e4q]
  refine Safe.cond ?_
  simp only [E2, seval]
  by_cases hlt : val b ≤ val a
  ·simp only [hlt, E2, seval]
   refine Safe.seq (Safe.region ?_)
   simp only [c1k, E2, seval]
   refine (c4S a b ha hb (by omega)).acall ?_
   simp only [E2, seval]
   refine Safe.seq (Safe.region ?_)
   simp only [c1j, E2, seval]
   refine (a2v _ _ (hle (val a - val b) (by omega))).acall ?_
   rw [a0a, e2o n m _ _ hnm (by omega)]
   simp only [Z, E2, seval]
   refine Safe.retn ?_
   simp only [E2, seval]
   first | exact ⟨rfl, _, rfl⟩ | exact ⟨_, rfl⟩ | exact ⟨trivial, _, rfl⟩
  ·simp only [hlt, E2, seval]
   refine Safe.skip (Safe.seq (Safe.region ?_))
   simp only [c1i, E2, seval]
   refine (c4S b a hb ha (by omega)).acall ?_
   simp only [E2, seval]
   refine Safe.seq (Safe.region ?_)
   simp only [c1h, E2, seval]
   refine (a2v _ _ (hle (val b - val a) (by omega))).acall ?_
   rw [a0a, d8B n m _ _ hnm (by omega)]
   simp only [Z, E2, seval]
   refine Safe.retn ?_
   simp only [E2, seval]
   first | exact ⟨rfl, _, rfl⟩ | exact ⟨_, rfl⟩ | exact ⟨trivial, _, rfl⟩
theorem e0h (x y : ZI) (k : Nat) (hx : Zok k x) (hy : Zok k y) (hk : k < 17592186044416) : a0d Pr b5x [x.av, y.av] (Z (x.z - y.z)) := by
 have hadd := c8W x (canZ (-y.z)) k hx (a0q (by rw [Int.natAbs_neg]; exact hy.abs)) hk
 rw [a0x, a2p] at hadd
 have hneg := b2F y (hy.mono (by omega))
 obtain ⟨n, a⟩ := x
 obtain ⟨m, b⟩ := y
 simp only [ZI.av] at hadd hneg ⊢
 refine a0d.intro d3N d3M (by simp only [List.length_cons, List.length_nil]; omega) (Z_cl _) fun H hH => ?_
 refine Safe.seq (Safe.region ?_)
 simp only [c1a, E2, seval]
 refine Safe.seq (Safe.regionD ?_)
 simp only [c0Z, E2, seval]
 refine hneg.dcall ?_
 try simp only [E2, seval]
 refine hadd.dcall ?_
 rw [← Int.sub_eq_add_neg]
 simp only [Z, E2, seval]
 refine Safe.retn ?_
 simp only [E2, seval]
 first | exact ⟨rfl, _, rfl⟩ | exact ⟨_, rfl⟩ | exact ⟨trivial, _, rfl⟩
theorem c5b (n : Int) (h0 : -9223372036854775808 ≤ n) (h1 : n < 9223372036854775808) : a0d Pr b2T [.int .i64 n] (Z n) := by
 refine a0d.intro d6S d6R (by simp only [List.length_cons, List.length_nil]; omega) (Z_cl _) fun H hH => ?_
 have hLB : LB = 4294967296 := rfl
 refine Safe.seq (Safe.region ?_)
 simp only [c5a, E2, Nat.reduceLeDiff, Nat.reduceSub, Nat.reduceAdd, Nat.reduceEqDiff, reduceCtorEq, ↓reduceIte]
 refine Safe.seq (Safe.region ?_)
 simp only [c4Z, E2, Nat.reduceLeDiff, Nat.reduceSub, Nat.reduceAdd, Nat.reduceEqDiff, reduceCtorEq, ↓reduceIte]
 refine Safe.seq (Safe.seq (Safe.region ?_))
 simp only [c4Y, E2, Nat.reduceLeDiff, Nat.reduceSub, Nat.reduceAdd, Nat.reduceEqDiff, reduceCtorEq, ↓reduceIte]
 refine Safe.cond ?_
 simp only [E2, Nat.reduceLeDiff, Nat.reduceSub, Nat.reduceAdd, Nat.reduceEqDiff, reduceCtorEq, ↓reduceIte]
 have rest : ∀ (env : Env), look env 0 = .int .i64 n → look env 2 = .loc (lid H 0) 0 0 → look env 3 = .int .u64 (n.natAbs : Nat) →
   Safe ⟨Pr, fun _ _ => false, b2T, 19, [.cell 2 (some 2)], H.length⟩ [.code ((ACode.region b4T false).seq .ret)] env (hap H [some ⟨2, [.agg [.bool false, .nil]]⟩]) fun r' H' => r' = Z n ∧ ∃ L, H' = hap H L := by
  intro env e0 e2 e3
  refine Safe.seq (Safe.region ?_)
  have w1 : IntKind.wrap .u32 ((n.natAbs : Nat) : Int) = ((n.natAbs % LB : Nat) : Int) := a1W _
  have hLL : LB * LB = 18446744073709551616 := by decide
  have hdiv : n.natAbs / LB < LB := Nat.div_lt_of_lt_mul (by omega)
  have w2 : IntKind.wrap .u32 ((n.natAbs / LB : Nat) : Int) = ((n.natAbs / LB : Nat) : Int) := a3z (Int.natCast_nonneg _) (by omega)
  simp only [b4T, E2, Nat.reduceLeDiff, Nat.reduceSub, Nat.reduceAdd, Nat.reduceEqDiff, reduceCtorEq, ↓reduceIte, e0, e3, e2, w1, a3J _ _ _ (show (0 : Int) ≤ 32 by decide), e8E, w2]
  have hm := Nat.mod_lt n.natAbs (show 0 < LB by decide)
  have := a2v (decide (n < 0)) [n.natAbs % LB, n.natAbs / LB] ⟨by intro d hd; simp at hd; omega, by simp⟩
  have hv : val [n.natAbs % LB, n.natAbs / LB] = n.natAbs := by
   simp only [val]; rw [Nat.mul_zero, Nat.add_zero, Nat.mod_add_div]
  rw [hv, show sgn (decide (n < 0)) n.natAbs = n by unfold sgn; by_cases h : n < 0 <;> simp [h] <;> omega] at this
  refine a0d.acall this ?_
  simp only [Z, E2, Nat.reduceLeDiff, Nat.reduceSub, Nat.reduceAdd, Nat.reduceEqDiff, reduceCtorEq, ↓reduceIte, e2]
  refine Safe.retn ?_
  simp only [E2, Nat.reduceLeDiff, Nat.reduceSub, Nat.reduceAdd, Nat.reduceEqDiff, reduceCtorEq, ↓reduceIte, e2]
  first | exact ⟨rfl, _, rfl⟩ | exact ⟨_, rfl⟩ | exact ⟨trivial, _, rfl⟩
 by_cases hn : n < 0
 ·simp only [hn, E2, Nat.reduceLeDiff, Nat.reduceSub, Nat.reduceAdd, Nat.reduceEqDiff, reduceCtorEq, ↓reduceIte]
  refine Safe.region ?_
  have w : IntKind.wrap .u64 (0 - IntKind.wrap .u64 n) = ((n.natAbs : Nat) : Int) := by rw [a1l, a1l]; omega
  simp only [c4X, E2, Nat.reduceLeDiff, Nat.reduceSub, Nat.reduceAdd, Nat.reduceEqDiff, reduceCtorEq, ↓reduceIte, w]
  exact rest _ (by simp only [E2, Nat.reduceLeDiff, Nat.reduceSub, Nat.reduceAdd, Nat.reduceEqDiff, reduceCtorEq, ↓reduceIte]) (by simp only [E2, Nat.reduceLeDiff, Nat.reduceSub, Nat.reduceAdd, Nat.reduceEqDiff, reduceCtorEq, ↓reduceIte]) (by simp only [E2, Nat.reduceLeDiff, Nat.reduceSub, Nat.reduceAdd, Nat.reduceEqDiff, reduceCtorEq, ↓reduceIte])
 ·have w : IntKind.wrap .u64 n = ((n.natAbs : Nat) : Int) := by rw [a1l]; omega
  simp only [hn, E2, Nat.reduceLeDiff, Nat.reduceSub, Nat.reduceAdd, Nat.reduceEqDiff, reduceCtorEq, ↓reduceIte]
  exact Safe.skip (rest _ (by simp only [E2, Nat.reduceLeDiff, Nat.reduceSub, Nat.reduceAdd, Nat.reduceEqDiff, reduceCtorEq, ↓reduceIte]) (by simp only [E2, Nat.reduceLeDiff, Nat.reduceSub, Nat.reduceAdd, Nat.reduceEqDiff, reduceCtorEq, ↓reduceIte]) (by simp only [E2, Nat.reduceLeDiff, Nat.reduceSub, Nat.reduceAdd, Nat.reduceEqDiff, reduceCtorEq, ↓reduceIte, w]))
theorem d9D (x : ZI) (hx : Zok 17592186044416 x) : a0d Pr b5r [x.av] (Z x.z) := by
 obtain ⟨n, m⟩ := x
 have hm : Nt m := ⟨hx.lim, hx.len⟩
 simp only [ZI.av, ZI.z]
 refine a0d.intro d2R d2Q (by simp only [List.length_cons, List.length_nil]; omega) (Z_cl _) fun H hH => ?_
 refine Safe.seq (Safe.region ?_)
 simp only [c0y, E2, seval]
 refine Safe.seq (Safe.region ?_)
 simp only [c0x, E2, seval]
 refine (a1x n m hm).acall ?_
 simp only [Z, E2, seval]
 refine Safe.retn ?_
 simp only [E2, seval]
 first | exact ⟨rfl, _, rfl⟩ | exact ⟨_, rfl⟩ | exact ⟨trivial, _, rfl⟩
theorem b5F (x : ZI) (hx : Zok 17592186044416 x) : a0d Pr a5B [x.av] (Z (-x.z)) := by
 obtain ⟨n, m⟩ := x
 have hm : Nt m := ⟨hx.lim, hx.len⟩
 simp only [ZI.av, ZI.z]
 refine a0d.intro d6j d6i (by simp only [List.length_cons, List.length_nil]; omega) (Z_cl _) fun H hH => ?_
 refine Safe.seq (Safe.region ?_)
 simp only [c4k, E2, seval]
 refine Safe.seq (Safe.region ?_)
 simp only [c4j, E2, seval]
 refine (a1x (!n) m hm).acall ?_
 rw [e2p]
 simp only [Z, E2, seval]
 refine Safe.retn ?_
 simp only [E2, seval]
 first | exact ⟨rfl, _, rfl⟩ | exact ⟨_, rfl⟩ | exact ⟨trivial, _, rfl⟩
theorem b8W (x : ZI) (hx : Zok 17592186044416 x) : a0d Pr b5s [x.av] (.int .i64 (blen x.z.natAbs)) := by
 obtain ⟨n, m⟩ := x
 have hm : Nt m := ⟨hx.lim, hx.len⟩
 simp only [ZI.av, ZI.z, b4Q]
 refine a0d.intro d2V d2U (by simp only [List.length_cons, List.length_nil]; omega) (.int _ _) fun H hH => ?_
 refine Safe.seq (Safe.region ?_)
 simp only [c0A, E2, seval]
 refine Safe.seq (Safe.region ?_)
 simp only [c0z, E2, seval]
 refine (c2D m hm).acall ?_
 try simp only [E2, seval]
 refine Safe.retn ?_
 simp only [E2, seval]
 first | exact ⟨rfl, _, rfl⟩ | exact ⟨_, rfl⟩ | exact ⟨trivial, _, rfl⟩
theorem a7J (x y : ZI) (k l : Nat) (hx : Zok k x) (hy : Zok l y) (hkl : k + l ≤ 17592186044416) : a0d Pr a1V [x.av, y.av] (Z (x.z * y.z)) := by
 obtain ⟨n, a⟩ := x
 obtain ⟨m, b⟩ := y
 have hal := hx.len
 have hbl := hy.len
 simp only at hal hbl
 have ha : Nt a := ⟨hx.lim, by omega⟩
 have hb : Nt b := ⟨hy.lim, by omega⟩
 simp only [ZI.av, ZI.z]
 refine a0d.intro d6l d6k (by simp only [List.length_cons, List.length_nil]; omega) (Z_cl _) fun H hH => ?_
 refine Safe.seq (Safe.region ?_)
 simp only [c4m, E2, seval]
 refine Safe.seq (Safe.regionD ?_)
 simp only [c4l, E2, seval]
 refine (d7k a b ha hb (by omega)).dcall ?_
 try simp only [E2, seval]
 have hn : Nt (limbs (val a * val b)) := ⟨a0b _, by
  have h1 := a1d ha.lim
  have h2 := a1d hb.lim
  have h3 : val a * val b < LB ^ (a.length + b.length) := by
   rw [Nat.pow_add]
   exact Nat.mul_lt_mul'' h1 h2
  exact Nat.le_trans (a0l h3) (by omega)⟩
 refine (a1x _ _ hn).dcall ?_
 rw [a0a, ← d6D]
 simp only [Z, E2, seval]
 refine Safe.retn ?_
 simp only [E2, seval]
 first | exact ⟨rfl, _, rfl⟩ | exact ⟨_, rfl⟩ | exact ⟨trivial, _, rfl⟩
theorem d2Z (x y : ZI) (k : Nat) (hx : Zok k x) (hy : Zok k y) (hk : k < 17592186044416) : a0d Pr a4i [x.av, y.av] (Z (x.z + y.z)) := by
 obtain ⟨n, a⟩ := x
 obtain ⟨m, b⟩ := y
 have hal := hx.len
 have hbl := hy.len
 have hav := hx.lt
 have hbv := hy.lt
 simp only at hal hbl hav hbv
 have ha : Nt a := ⟨hx.lim, by omega⟩
 have hb : Nt b := ⟨hy.lim, by omega⟩
 have hle : ∀ v, v < LB ^ k → Nt (limbs v) := fun v hv => ⟨a0b _, Nat.le_trans (a0l hv) (by omega)⟩
 simp only [ZI.av, ZI.z]
 refine a0d.intro d6r d6q (by simp only [List.length_cons, List.length_nil]; omega) (Z_cl _) fun H hH => ?_
 refine Safe.seq (Safe.region ?_)
 simp only [c4t, E2, seval]
 refine Safe.seq (Safe.seq (Safe.region ?_))
 simp only [c4s, E2, seval]
 refine Safe.cond ?_
 simp only [E2, seval]
 by_cases hnm : n = m
 ·subst hnm
  simp only [beq_self_eq_true, E2, seval]
  refine Safe.seq (Safe.regionD ?_)
  simp only [c4r, E2, seval]
  refine (d7l a b ha.lim hb.lim (by omega) (by omega)).dcall ?_
  try simp only [E2, seval]
  have hn : Nt (limbs (val a + val b)) := ⟨a0b _, by
   have h3 : val a + val b < LB ^ (k + 1) := by
    rw [Nat.pow_succ]
    have : LB ^ k * 2 ≤ LB ^ k * LB := Nat.mul_le_mul_left _ (by decide)
    omega
   exact Nat.le_trans (a0l h3) (by omega)⟩
  refine (a1x _ _ hn).dcall ?_
  rw [a0a, e2q]
  simp only [Z, E2, seval]
  refine Safe.retn ?_
  simp only [E2, seval]
  first | exact ⟨rfl, _, rfl⟩ | exact ⟨_, rfl⟩ | exact ⟨trivial, _, rfl⟩
 ·have hnm' : (n == m) = false := by simpa using hnm
  simp only [hnm', E2, seval]
  refine Safe.skip (Safe.seq (Safe.seq (Safe.region ?_)))
  simp only [c4q, E2, seval]
  refine (b4X a b ha hb).acall ?_
  simp only [E2, seval, c0b, e4q]
  refine Safe.cond ?_
  simp only [E2, seval]
  by_cases hlt : val a < val b
  ·simp only [hlt, E2, seval]
   refine Safe.region ?_
   simp only [c4p, E2, seval]
   refine Safe.seq (Safe.region ?_)
   simp only [b4M, E2, seval]
   refine (c5j b a hb ha (by omega)).acall ?_
   simp only [E2, seval]
   refine Safe.seq (Safe.region ?_)
   simp only [b4L, E2, seval]
   refine (a1x _ _ (hle (val b - val a) (by omega))).acall ?_
   rw [a0a, d8B n m _ _ hnm (by omega)]
   simp only [Z, E2, seval]
   refine Safe.retn ?_
   simp only [E2, seval]
   first | exact ⟨rfl, _, rfl⟩ | exact ⟨_, rfl⟩ | exact ⟨trivial, _, rfl⟩
  ·simp only [hlt, E2, seval]
   refine Safe.skip (Safe.seq (Safe.region ?_))
   simp only [b4M, E2, seval]
   refine (c5j a b ha hb (by omega)).acall ?_
   simp only [E2, seval]
   refine Safe.seq (Safe.region ?_)
   simp only [b4L, E2, seval]
   refine (a1x _ _ (hle (val a - val b) (by omega))).acall ?_
   rw [a0a, e2o n m _ _ hnm (by omega)]
   simp only [Z, E2, seval]
   refine Safe.retn ?_
   simp only [E2, seval]
   first | exact ⟨rfl, _, rfl⟩ | exact ⟨_, rfl⟩ | exact ⟨trivial, _, rfl⟩
theorem e1K (x y : ZI) (k : Nat) (hx : Zok k x) (hy : Zok k y) (hk : k < 17592186044416) : a0d Pr a5A [x.av, y.av] (Z (x.z - y.z)) := by
 have hadd := d2Z x (canZ (-y.z)) k hx (a0q (by rw [Int.natAbs_neg]; exact hy.abs)) hk
 rw [a0x, a2p] at hadd
 have hneg := b5F y (hy.mono (by omega))
 obtain ⟨n, a⟩ := x
 obtain ⟨m, b⟩ := y
 simp only [ZI.av] at hadd hneg ⊢
 refine a0d.intro d6g d6f (by simp only [List.length_cons, List.length_nil]; omega) (Z_cl _) fun H hH => ?_
 refine Safe.seq (Safe.region ?_)
 simp only [c4i, E2, seval]
 refine Safe.seq (Safe.regionD ?_)
 simp only [c4h, E2, seval]
 refine hneg.dcall ?_
 try simp only [E2, seval]
 refine hadd.dcall ?_
 rw [← Int.sub_eq_add_neg]
 simp only [Z, E2, seval]
 refine Safe.retn ?_
 simp only [E2, seval]
 first | exact ⟨rfl, _, rfl⟩ | exact ⟨_, rfl⟩ | exact ⟨trivial, _, rfl⟩
theorem b2A (n : Int) (h0 : -9223372036854775808 ≤ n) (h1 : n < 9223372036854775808) : a0d Pr a8g [.int .i64 n] (Z n) := by
 refine a0d.intro d9x d9w (by simp only [List.length_cons, List.length_nil]; omega) (Z_cl _) fun H hH => ?_
 have hLB : LB = 4294967296 := rfl
 refine Safe.seq (Safe.region ?_)
 simp only [c8L, E2, Nat.reduceLeDiff, Nat.reduceSub, Nat.reduceAdd, Nat.reduceEqDiff, reduceCtorEq, ↓reduceIte]
 refine Safe.seq (Safe.region ?_)
 simp only [c8K, E2, Nat.reduceLeDiff, Nat.reduceSub, Nat.reduceAdd, Nat.reduceEqDiff, reduceCtorEq, ↓reduceIte]
 refine Safe.seq (Safe.seq (Safe.region ?_))
 simp only [c8J, E2, Nat.reduceLeDiff, Nat.reduceSub, Nat.reduceAdd, Nat.reduceEqDiff, reduceCtorEq, ↓reduceIte]
 refine Safe.cond ?_
 simp only [E2, Nat.reduceLeDiff, Nat.reduceSub, Nat.reduceAdd, Nat.reduceEqDiff, reduceCtorEq, ↓reduceIte]
 have rest : ∀ (env : Env), look env 0 = .int .i64 n → look env 2 = .loc (lid H 0) 0 0 → look env 3 = .int .u64 (n.natAbs : Nat) →
   Safe ⟨Pr, fun _ _ => false, a8g, 19, [.cell 2 (some 2)], H.length⟩ [.code ((ACode.region b8V false).seq .ret)] env (hap H [some ⟨2, [.agg [.bool false, .nil]]⟩]) fun r' H' => r' = Z n ∧ ∃ L, H' = hap H L := by
  intro env e0 e2 e3
  refine Safe.seq (Safe.region ?_)
  have w1 : IntKind.wrap .u32 ((n.natAbs : Nat) : Int) = ((n.natAbs % LB : Nat) : Int) := a1W _
  have hLL : LB * LB = 18446744073709551616 := by decide
  have hdiv : n.natAbs / LB < LB := Nat.div_lt_of_lt_mul (by omega)
  have w2 : IntKind.wrap .u32 ((n.natAbs / LB : Nat) : Int) = ((n.natAbs / LB : Nat) : Int) := a3z (Int.natCast_nonneg _) (by omega)
  simp only [b8V, E2, Nat.reduceLeDiff, Nat.reduceSub, Nat.reduceAdd, Nat.reduceEqDiff, reduceCtorEq, ↓reduceIte, e0, e3, e2, w1, a3J _ _ _ (show (0 : Int) ≤ 32 by decide), e8E, w2]
  have hm := Nat.mod_lt n.natAbs (show 0 < LB by decide)
  have := a1x (decide (n < 0)) [n.natAbs % LB, n.natAbs / LB] ⟨by intro d hd; simp at hd; omega, by simp⟩
  have hv : val [n.natAbs % LB, n.natAbs / LB] = n.natAbs := by
   simp only [val]; rw [Nat.mul_zero, Nat.add_zero, Nat.mod_add_div]
  rw [hv, show sgn (decide (n < 0)) n.natAbs = n by unfold sgn; by_cases h : n < 0 <;> simp [h] <;> omega] at this
  refine a0d.acall this ?_
  simp only [Z, E2, Nat.reduceLeDiff, Nat.reduceSub, Nat.reduceAdd, Nat.reduceEqDiff, reduceCtorEq, ↓reduceIte, e2]
  refine Safe.retn ?_
  simp only [E2, Nat.reduceLeDiff, Nat.reduceSub, Nat.reduceAdd, Nat.reduceEqDiff, reduceCtorEq, ↓reduceIte, e2]
  first | exact ⟨rfl, _, rfl⟩ | exact ⟨_, rfl⟩ | exact ⟨trivial, _, rfl⟩
 by_cases hn : n < 0
 ·simp only [hn, E2, Nat.reduceLeDiff, Nat.reduceSub, Nat.reduceAdd, Nat.reduceEqDiff, reduceCtorEq, ↓reduceIte]
  refine Safe.region ?_
  have w : IntKind.wrap .u64 (0 - IntKind.wrap .u64 n) = ((n.natAbs : Nat) : Int) := by rw [a1l, a1l]; omega
  simp only [c8I, E2, Nat.reduceLeDiff, Nat.reduceSub, Nat.reduceAdd, Nat.reduceEqDiff, reduceCtorEq, ↓reduceIte, w]
  exact rest _ (by simp only [E2, Nat.reduceLeDiff, Nat.reduceSub, Nat.reduceAdd, Nat.reduceEqDiff, reduceCtorEq, ↓reduceIte]) (by simp only [E2, Nat.reduceLeDiff, Nat.reduceSub, Nat.reduceAdd, Nat.reduceEqDiff, reduceCtorEq, ↓reduceIte]) (by simp only [E2, Nat.reduceLeDiff, Nat.reduceSub, Nat.reduceAdd, Nat.reduceEqDiff, reduceCtorEq, ↓reduceIte])
 ·have w : IntKind.wrap .u64 n = ((n.natAbs : Nat) : Int) := by rw [a1l]; omega
  simp only [hn, E2, Nat.reduceLeDiff, Nat.reduceSub, Nat.reduceAdd, Nat.reduceEqDiff, reduceCtorEq, ↓reduceIte]
  exact Safe.skip (rest _ (by simp only [E2, Nat.reduceLeDiff, Nat.reduceSub, Nat.reduceAdd, Nat.reduceEqDiff, reduceCtorEq, ↓reduceIte]) (by simp only [E2, Nat.reduceLeDiff, Nat.reduceSub, Nat.reduceAdd, Nat.reduceEqDiff, reduceCtorEq, ↓reduceIte]) (by simp only [E2, Nat.reduceLeDiff, Nat.reduceSub, Nat.reduceAdd, Nat.reduceEqDiff, reduceCtorEq, ↓reduceIte, w]))
theorem d8z (n : Bool) (a : Nat) : (sgn n a).sign = if a = 0 then 0 else if n then -1 else 1 := by
 rcases Nat.eq_zero_or_pos a with h | h
 ·subst h; simp [c3K]
 ·rw [if_neg (by omega)]
  cases n
  ·simp only [sgn, Bool.false_eq_true, if_false]
   exact Int.sign_eq_one_of_pos (by omega)
  ·simp only [sgn, if_true]
   exact Int.sign_eq_neg_one_of_neg (by omega)
theorem d5U (n : Nat) : ((blen n : Nat) : Int) = 0 ↔ n = 0 := by
 unfold blen
 split
 ·rename_i h; simp [h]
 ·rename_i h; simp [h]; omega
theorem b3Z (n : Nat) : (((limbs n).length : Nat) : Int) = 0 ↔ n = 0 := by
 constructor
 ·intro h
  have : limbs n = [] := List.length_eq_zero_iff.1 (by omega)
  have := congrArg val this
  rwa [a0a] at this
 ·intro h; rw [h, a0J]; rfl
theorem a3h (x : ZI) (hx : Zok 17592186044416 x) : a0d Pr a1L [x.av] (.int .i64 x.z.sign) := by
 obtain ⟨n, m⟩ := x
 have hm : Nt m := ⟨hx.lim, hx.len⟩
 simp only [ZI.av, ZI.z, d8z]
 refine a0d.intro d2P d2O (by simp only [List.length_cons, List.length_nil]; omega) (.int _ _) fun H hH => ?_
 refine Safe.seq (Safe.region ?_)
 simp only [c0w, E2, seval]
 refine Safe.seq (Safe.block (Safe.seq (Safe.region ?_)))
 simp only [c0v, E2, seval]
 refine (c2D m hm).acall ?_
 simp only [E2, seval, d5U]
 refine Safe.cond ?_
 simp only [E2, seval]
 by_cases h0 : val m = 0
 ·simp only [h0, E2, seval]
  refine Safe.seq (Safe.region ?_)
  simp only [c0u, E2, seval]
  refine Safe.retn ?_
  simp only [E2, seval]
  first | exact ⟨rfl, _, rfl⟩ | exact ⟨_, rfl⟩ | exact ⟨trivial, _, rfl⟩
 ·simp only [h0, E2, seval]
  refine Safe.seq (Safe.region ?_)
  simp only [c0t, E2, seval]
  refine Safe.cond ?_
  simp only [E2, seval]
  cases n
  ·simp only [E2, seval]
   refine Safe.skip (Safe.inBlock (Safe.seq (Safe.region ?_)))
   simp only [c0r, E2, seval]
   refine Safe.retn ?_
   simp only [E2, seval]
   first | exact ⟨rfl, _, rfl⟩ | exact ⟨_, rfl⟩ | exact ⟨trivial, _, rfl⟩
  ·simp only [E2, seval]
   refine Safe.seq (Safe.region ?_)
   simp only [c0s, E2, seval]
   refine Safe.retn ?_
   simp only [E2, seval]
   first | exact ⟨rfl, _, rfl⟩ | exact ⟨_, rfl⟩ | exact ⟨trivial, _, rfl⟩
theorem a8Y (x : ZI) (hx : Zok 17592186044416 x) : a0d Pr a3w [x.av] (.int .i64 x.z.sign) := by
 obtain ⟨n, m⟩ := x
 have hm : Nt m := ⟨hx.lim, hx.len⟩
 simp only [ZI.av, ZI.z, d8z]
 refine a0d.intro d1t d1s (by simp only [List.length_cons, List.length_nil]; omega) (.int _ _) fun H hH => ?_
 refine Safe.seq (Safe.region ?_)
 simp only [b6y, E2, seval]
 refine Safe.seq (Safe.region ?_)
 simp only [b6x, E2, seval]
 refine (a0n m hm).acall ?_
 try simp only [E2, seval]
 refine Safe.seq (Safe.block (Safe.seq (Safe.region ?_)))
 simp only [b6w, E2, seval, b3Z]
 refine Safe.cond ?_
 simp only [E2, seval]
 by_cases h0 : val m = 0
 ·simp only [h0, E2, seval]
  refine Safe.seq (Safe.region ?_)
  simp only [b6v, E2, seval]
  refine Safe.retn ?_
  simp only [E2, seval]
  first | exact ⟨rfl, _, rfl⟩ | exact ⟨_, rfl⟩ | exact ⟨trivial, _, rfl⟩
 ·simp only [h0, E2, seval]
  refine Safe.seq (Safe.region ?_)
  simp only [b6u, E2, seval]
  refine Safe.cond ?_
  simp only [E2, seval]
  cases n
  ·simp only [E2, seval]
   refine Safe.skip (Safe.inBlock (Safe.seq (Safe.region ?_)))
   simp only [b6s, E2, seval]
   refine Safe.retn ?_
   simp only [E2, seval]
   first | exact ⟨rfl, _, rfl⟩ | exact ⟨_, rfl⟩ | exact ⟨trivial, _, rfl⟩
  ·simp only [E2, seval]
   refine Safe.seq (Safe.region ?_)
   simp only [b6t, E2, seval]
   refine Safe.retn ?_
   simp only [E2, seval]
   first | exact ⟨rfl, _, rfl⟩ | exact ⟨_, rfl⟩ | exact ⟨trivial, _, rfl⟩
theorem e0i (x y : ZI) (k : Nat) (hx : Zok k x) (hy : Zok k y) (hk : k < 17592186044416) : a0d Pr b5y [x.av, y.av] (.int .i64 (x.z - y.z).sign) := by
 have hsub := e0h x y k hx hy hk
 have hsgn := a8Y (canZ (x.z - y.z)) ((a0q (k := k + 1) (by
  have h1 := hx.abs
  have h2 := hy.abs
  have h3 : (x.z - y.z).natAbs ≤ x.z.natAbs + y.z.natAbs := Int.natAbs_sub_le _ _
  have h4 : LB ^ k * 2 ≤ LB ^ k * LB := Nat.mul_le_mul_left _ (by decide)
  have h5 : LB ^ k * LB = LB ^ (k + 1) := (Nat.pow_succ ..).symm
  omega)).mono (by omega))
 rw [a0x, a2p] at hsgn
 obtain ⟨n, a⟩ := x
 obtain ⟨m, b⟩ := y
 simp only [ZI.av] at hsub ⊢
 refine a0d.intro d3V d3U (by simp only [List.length_cons, List.length_nil]; omega) (.int _ _) fun H hH => ?_
 refine Safe.seq (Safe.region ?_)
 simp only [c1g, E2, seval]
 refine Safe.seq (Safe.region ?_)
 simp only [c1f, E2, seval]
 refine hsub.acall ?_
 try simp only [E2, seval]
 refine hsgn.acall ?_
 try simp only [E2, seval]
 refine Safe.retn ?_
 simp only [E2, seval]
 first | exact ⟨rfl, _, rfl⟩ | exact ⟨_, rfl⟩ | exact ⟨trivial, _, rfl⟩
end Go.Abs
namespace Go.Abs
theorem e9Y (g : FuncId) (caps : List AV) (v : List ZI) (f : Nat → Int) (hv : v.length ≤ 2097152) (hc : ∀ c ∈ caps, Cl c) (hf : ∀ (i : Nat) (h : i < v.length), a0d Pr g (v[i].av :: caps) (Z (f i))) : a0d Pr a7H [vecV v, .fn g caps] (vecV (vec v.length f)) := by
 have hcl : ∀ id, caps.all (nref id) = true := fun id => List.all_eq_true.2 fun c h => a0y (hc c h)
 refine a0d.intro c6j c6h (Nat.le_of_ble_eq_true rfl) (a0g _) fun H hH => ?_
 refine Safe.rg rfl ?_
 simp only [b1F, E3, seval]
 refine Safe.rg rfl ?_
 simp only [b1E, b7I _ _ 2 32 _ _ _ v.length (by decide) (by omega) (by omega), E3, seval]
 refine Safe.rg rfl ?_
 simp only [b1D, E3, seval]
 refine Safe.lp rfl ?_
 refine Safe.keep [1, 5, 11, 12, 13] ?_
 try simp only [E3, seval]
 refine Safe.loopN (v.length) (fun i => [(1, .fn g caps), (5, .mu (lid H 0) 0 i (some v.length)), (11, vecV v), (12, .int .i64 v.length), (13, .int .i64 i)]) (fun i => hap H [some ⟨2, (vec i f).map ZI.av⟩]) rfl rfl (fun i hi ih => ?_) ?_
 ·have hlt : (i : Int) < (v.length : Int) := by omega
  have hiw : IntKind.wrap .i64 ((i : Int) + 1) = ((i + 1 : Nat) : Int) := by rw [a0c] <;> omega
  refine Safe.inLoop ?_
  refine Safe.rg rfl ?_
  simp only [a5X, hlt, E3, seval]
  refine Safe.cd rfl ?_
  simp only [E3, seval]
  refine Safe.rg rfl ?_
  simp only [b1C, a4a _ v _ i (by omega), E3, seval]
  refine Safe.rg rfl ?_
  simp only [b1B, E3, seval]
  first | refine (hf i hi).acall ?_ | refine (hf i hi).dcall ?_ | refine (hf i hi).dgcall ?_
  try simp only [E3, seval]
  rw [b8M (H := H) 0 (a1M H 0) (f := ZI.av) (vec i f) (canZ (f i)) (vec (i + 1) f) ?hlen ?hl ?hy ?hl2 ?hc]
  case hlen => first | rfl | (simp only [a0e, a0f, List.length_map, List.length_take]; done) | (simp only [a0e, a0f, List.length_map, List.length_take]; omega)
  case hl => rfl
  case hy => rfl
  case hl2 => first | exact a4n _ _ | exact a4q _ _ | exact a5C _ (by omega) | exact a2e _ _ (by omega)
  case hc => omega
  simp only [hcl, E3, seval]
  refine Safe.rg rfl ?_
  simp only [b1A, hiw, E3, seval]
  refine Safe.keep [1, 5, 11, 12, 13] ?_
  simp only [E3, seval]
  refine Safe.drop1 hH rfl (by simp only [List.all_cons, List.all_nil, hcl, E3, seval]) (by repeat (first | exact RC.nil | refine RC.none ?_ | refine RC.mo ?_ | refine RC.io ?_ | refine RC.row ZI.cl ?_ | refine RC.cons (a0F _) ?_ | refine RC.row a0g ?_ | refine RC.emp ?_ | refine RC.zero ?_ | refine RC.one (Z_cl _) ?_ | refine RC.one (ZI.cl _) ?_ | refine RC.one (a0g _) ?_)) ?_
  exact ih
 ·refine Safe.inLoop ?_
  refine Safe.rg rfl ?_
  simp only [a5X, Int.lt_irrefl, E3, seval]
  refine Safe.cd rfl ?_
  simp only [E3, seval]
  refine Safe.freeze 0 hH rfl rfl (a1t 2 ZI.av _ ZI.cl) ?_
  refine Safe.keep [5] ?_
  simp only [a9z 0 2 ZI.av (vec v.length f) v.length (some v.length) (a0e _ _).symm, E3, seval]
  refine Safe.rg rfl ?_
  simp only [b1z, E3, seval]
  refine Safe.rt rfl ?_
  simp only [E3, seval]
  first | exact ⟨rfl, _, rfl⟩ | exact ⟨_, rfl⟩ | exact ⟨trivial, _, rfl⟩
theorem e9W (g : FuncId) (caps : List AV) (v : List (List ZI)) (f : Nat → List ZI) (hv : v.length ≤ 2097152) (hc : ∀ c ∈ caps, Cl c) (hf : ∀ (i : Nat) (h : i < v.length), a0d Pr g (vecV v[i] :: caps) (vecV (f i))) : a0d Pr a2W [matV v, .fn g caps] (matV (mat v.length f)) := by
 have hcl : ∀ id, caps.all (nref id) = true := fun id => List.all_eq_true.2 fun c h => a0y (hc c h)
 refine a0d.intro b1r b1q (Nat.le_of_ble_eq_true rfl) (a2g _) fun H hH => ?_
 refine Safe.rg rfl ?_
 simp only [a5V, E3, seval]
 refine Safe.rg rfl ?_
 simp only [a5U, b7I _ _ 1 24 _ _ _ v.length (by decide) (by omega) (by omega), E3, seval]
 refine Safe.rg rfl ?_
 simp only [a5T, E3, seval]
 refine Safe.lp rfl ?_
 refine Safe.keep [1, 5, 11, 12, 13] ?_
 try simp only [E3, seval]
 refine Safe.loopN (v.length) (fun i => [(1, .fn g caps), (5, .mu (lid H 0) 0 i (some v.length)), (11, matV v), (12, .int .i64 v.length), (13, .int .i64 i)]) (fun i => hap H [some ⟨1, (mat i f).map vecV⟩]) rfl rfl (fun i hi ih => ?_) ?_
 ·have hlt : (i : Int) < (v.length : Int) := by omega
  have hiw : IntKind.wrap .i64 ((i : Int) + 1) = ((i + 1 : Nat) : Int) := by rw [a0c] <;> omega
  refine Safe.inLoop ?_
  refine Safe.rg rfl ?_
  simp only [a2z, hlt, E3, seval]
  refine Safe.cd rfl ?_
  simp only [E3, seval]
  refine Safe.rg rfl ?_
  simp only [a5S, a1r _ v _ i (by omega), E3, seval]
  refine Safe.rg rfl ?_
  simp only [a5R, E3, seval]
  first | refine (hf i hi).acall ?_ | refine (hf i hi).dcall ?_ | refine (hf i hi).dgcall ?_
  try simp only [E3, seval]
  rw [b8M (H := H) 0 (a1M H 0) (f := vecV) (mat i f) (f i) (mat (i + 1) f) ?hlen ?hl ?hy ?hl2 ?hc]
  case hlen => first | rfl | (simp only [a0e, a0f, List.length_map, List.length_take]; done) | (simp only [a0e, a0f, List.length_map, List.length_take]; omega)
  case hl => rfl
  case hy => rfl
  case hl2 => first | exact a4n _ _ | exact a4q _ _ | exact a5C _ (by omega) | exact a2e _ _ (by omega)
  case hc => omega
  simp only [hcl, E3, seval]
  refine Safe.rg rfl ?_
  simp only [a5Q, hiw, E3, seval]
  refine Safe.keep [1, 5, 11, 12, 13] ?_
  simp only [E3, seval]
  exact ih
 ·refine Safe.inLoop ?_
  refine Safe.rg rfl ?_
  simp only [a2z, Int.lt_irrefl, E3, seval]
  refine Safe.cd rfl ?_
  simp only [E3, seval]
  refine Safe.freeze 0 hH rfl rfl (a1t 1 vecV _ a0g) ?_
  refine Safe.keep [5] ?_
  simp only [a9z 0 1 vecV (mat v.length f) v.length (some v.length) (a0f _ _).symm, E3, seval]
  refine Safe.rg rfl ?_
  simp only [a5P, E3, seval]
  refine Safe.rt rfl ?_
  simp only [E3, seval]
  first | exact ⟨rfl, _, rfl⟩ | exact ⟨_, rfl⟩ | exact ⟨trivial, _, rfl⟩
theorem e9X (g : FuncId) (caps : List AV) (v : List (List ZI)) (f : Nat → Int) (hv : v.length ≤ 2097152) (hc : ∀ c ∈ caps, Cl c) (hf : ∀ (i : Nat) (h : i < v.length), a0d Pr g (vecV v[i] :: caps) (Z (f i))) : a0d Pr a7G [matV v, .fn g caps] (vecV (vec v.length f)) := by
 have hcl : ∀ id, caps.all (nref id) = true := fun id => List.all_eq_true.2 fun c h => a0y (hc c h)
 refine a0d.intro c6g c6e (Nat.le_of_ble_eq_true rfl) (a0g _) fun H hH => ?_
 refine Safe.rg rfl ?_
 simp only [b1y, E3, seval]
 refine Safe.rg rfl ?_
 simp only [b1x, b7I _ _ 2 32 _ _ _ v.length (by decide) (by omega) (by omega), E3, seval]
 refine Safe.rg rfl ?_
 simp only [b1w, E3, seval]
 refine Safe.lp rfl ?_
 refine Safe.keep [1, 5, 11, 12, 13] ?_
 try simp only [E3, seval]
 refine Safe.loopN (v.length) (fun i => [(1, .fn g caps), (5, .mu (lid H 0) 0 i (some v.length)), (11, matV v), (12, .int .i64 v.length), (13, .int .i64 i)]) (fun i => hap H [some ⟨2, (vec i f).map ZI.av⟩]) rfl rfl (fun i hi ih => ?_) ?_
 ·have hlt : (i : Int) < (v.length : Int) := by omega
  have hiw : IntKind.wrap .i64 ((i : Int) + 1) = ((i + 1 : Nat) : Int) := by rw [a0c] <;> omega
  refine Safe.inLoop ?_
  refine Safe.rg rfl ?_
  simp only [a5W, hlt, E3, seval]
  refine Safe.cd rfl ?_
  simp only [E3, seval]
  refine Safe.rg rfl ?_
  simp only [b1v, a1r _ v _ i (by omega), E3, seval]
  refine Safe.rg rfl ?_
  simp only [b1u, E3, seval]
  first | refine (hf i hi).acall ?_ | refine (hf i hi).dcall ?_ | refine (hf i hi).dgcall ?_
  try simp only [E3, seval]
  rw [b8M (H := H) 0 (a1M H 0) (f := ZI.av) (vec i f) (canZ (f i)) (vec (i + 1) f) ?hlen ?hl ?hy ?hl2 ?hc]
  case hlen => first | rfl | (simp only [a0e, a0f, List.length_map, List.length_take]; done) | (simp only [a0e, a0f, List.length_map, List.length_take]; omega)
  case hl => rfl
  case hy => rfl
  case hl2 => first | exact a4n _ _ | exact a4q _ _ | exact a5C _ (by omega) | exact a2e _ _ (by omega)
  case hc => omega
  simp only [hcl, E3, seval]
  refine Safe.rg rfl ?_
  simp only [b1t, hiw, E3, seval]
  refine Safe.keep [1, 5, 11, 12, 13] ?_
  simp only [E3, seval]
  exact ih
 ·refine Safe.inLoop ?_
  refine Safe.rg rfl ?_
  simp only [a5W, Int.lt_irrefl, E3, seval]
  refine Safe.cd rfl ?_
  simp only [E3, seval]
  refine Safe.freeze 0 hH rfl rfl (a1t 2 ZI.av _ ZI.cl) ?_
  refine Safe.keep [5] ?_
  simp only [a9z 0 2 ZI.av (vec v.length f) v.length (some v.length) (a0e _ _).symm, E3, seval]
  refine Safe.rg rfl ?_
  simp only [b1s, E3, seval]
  refine Safe.rt rfl ?_
  simp only [E3, seval]
  first | exact ⟨rfl, _, rfl⟩ | exact ⟨_, rfl⟩ | exact ⟨trivial, _, rfl⟩
section
variable {a b : Int} {k l : Nat} (ha : a.natAbs < LB ^ k)
include ha
theorem c3I (hb : b.natAbs < LB ^ k) (hk : k < 17592186044416) : a0d Pr a4i [Z a, Z b] (Z (a + b)) := by
 have := d2Z (canZ a) (canZ b) k (a0q ha) (a0q hb) hk
 rwa [a0x, a0x] at this
theorem d8r (hb : b.natAbs < LB ^ k) (hk : k < 17592186044416) : a0d Pr a5A [Z a, Z b] (Z (a - b)) := by
 have := e1K (canZ a) (canZ b) k (a0q ha) (a0q hb) hk
 rwa [a0x, a0x] at this
theorem d8s (hb : b.natAbs < LB ^ l) (hk : k + l ≤ 17592186044416) : a0d Pr a1V [Z a, Z b] (Z (a * b)) := by
 have := a7J (canZ a) (canZ b) k l (a0q ha) (a0q hb) hk
 rwa [a0x, a0x] at this
theorem b7w (hb : b.natAbs < LB ^ k) (hk : k < 17592186044416) : a0d Pr a4l [Z a, Z b] (Z (a + b)) := by
 have := c8W (canZ a) (canZ b) k (a0q ha) (a0q hb) hk
 rwa [a0x, a0x] at this
theorem d4C (hb : b.natAbs < LB ^ l) (hk : k + l ≤ 17592186044416) : a0d Pr a1b [Z a, Z b] (Z (a * b)) := by
 have := a2L (canZ a) (canZ b) k l (a0q ha) (a0q hb) hk
 rwa [a0x, a0x] at this
end
section
variable (u v : List ZI) {p : Nat} {i : Nat} (hu : Vok p u) (hv : Vok p v) (hp : p + p ≤ 17592186044416) (hi : i < u.length) (hj : i < v.length)
include hu hv hp
theorem d6d : a0d Pr a1V [u[i].av, v[i].av] (Z (zg u i * zg v i)) := by
 have := a7J u[i] v[i] p p (hu.get hi) (hv.get hj) hp
 rwa [← c3y hi, ← c3y hj] at this
theorem d1H : a0d Pr a1b [u[i].av, v[i].av] (Z (zg u i * zg v i)) := by
 have := a2L u[i] v[i] p p (hu.get hi) (hv.get hj) hp
 rwa [← c3y hi, ← c3y hj] at this
end
def dotZ (u v : List ZI) : Int := a0T (fun i => zg u i * zg v i) u.length
theorem a4g {u v : List ZI} {p : Nat} (hu : Vok p u) (hv : Vok p v) (i : Nat) : (zg u i * zg v i).natAbs < LB ^ (p + p) := a1R (hu.abs i) (hv.abs i)
theorem a7E {u v : List ZI} {p : Nat} (hu : Vok p u) (hv : Vok p v) {i : Nat} (hi : i ≤ u.length) : (a0T (fun i => zg u i * zg v i) i).natAbs < LB ^ (p + p + 2) :=
 d3d (Nat.le_trans hi hu.len) fun j _ => a4g hu hv j
theorem b2M (u v : List ZI) (p : Nat) (hu : Vok p u) (hv : Vok p v) (hp : p + p + 2 < 17592186044416) (hl : u.length = v.length) : a0d Pr b8S [vecV u, vecV v] (Z (dotZ u v)) := by
 have hul := hu.len
 refine a0d.intro e0Z e0X (Nat.le_of_ble_eq_true rfl) (Z_cl _) fun H hH => ?_
 refine Safe.rg rfl ?_
 simp only [d0n, E3, seval]
 refine Safe.rg rfl ?_
 simp only [d0m, E3, seval]
 refine Safe.told0 1 rfl ?_
 refine Safe.rg rfl ?_
 simp only [d0l, E3, seval]
 refine Safe.lp rfl ?_
 refine Safe.keep [0, 1, 4, 5, 8, 9, 7] ?_
 try simp only [E3, seval]
 refine Safe.loopN (u.length) (fun i => [(0, vecV u), (1, vecV v), (4, .loc (lid H 0) 0 0), (5, .loc (lid H 1) 0 0), (8, .int .i64 u.length), (9, .int .i64 i), (7, vecV u)]) (fun i => hap H [some ⟨2, [.agg [.bool false, .nil]]⟩, some ⟨2, [Z (a0T (fun i => zg u i * zg v i) i)]⟩]) rfl rfl (fun i hi ih => ?_) ?_
 ·have hlt : (i : Int) < (u.length : Int) := by omega
  have hiw : IntKind.wrap .i64 ((i : Int) + 1) = ((i + 1 : Nat) : Int) := by rw [a0c] <;> omega
  refine Safe.inLoop ?_
  refine Safe.rg rfl ?_
  simp only [b9G, hlt, E3, seval]
  refine Safe.cd rfl ?_
  simp only [E3, seval]
  refine Safe.rg rfl ?_
  simp only [d0k, E3, seval]
  refine Safe.rg rfl ?_
  simp only [d0j, a4a _ u _ i (by omega), a4a _ v _ i (by omega), E3, seval]
  first | refine (d6d u v hu hv (by omega) hi (by omega)).acall ?_ | refine (d6d u v hu hv (by omega) hi (by omega)).dcall ?_ | refine (d6d u v hu hv (by omega) hi (by omega)).dgcall ?_
  try simp only [E3, seval]
  first | refine (c3I (a7E hu hv (Nat.le_of_lt hi)) (Nat.lt_of_lt_of_le (a4g hu hv i) (a4H (by omega))) hp).acall ?_ | refine (c3I (a7E hu hv (Nat.le_of_lt hi)) (Nat.lt_of_lt_of_le (a4g hu hv i) (a4H (by omega))) hp).dcall ?_ | refine (c3I (a7E hu hv (Nat.le_of_lt hi)) (Nat.lt_of_lt_of_le (a4g hu hv i) (a4H (by omega))) hp).dgcall ?_
  try simp only [E3, seval]
  refine Safe.rg rfl ?_
  simp only [d0i, hiw, E3, seval]
  refine Safe.keep [0, 1, 4, 5, 8, 9, 7] ?_
  simp only [E3, seval]
  exact ih
 ·refine Safe.inLoop ?_
  refine Safe.rg rfl ?_
  simp only [b9G, Int.lt_irrefl, E3, seval]
  refine Safe.cd rfl ?_
  simp only [E3, seval]
  refine Safe.rg rfl ?_
  simp only [d0h, E3, seval]
  refine Safe.rt rfl ?_
  simp only [E3, seval]
  first | exact ⟨rfl, _, rfl⟩ | exact ⟨_, rfl⟩ | exact ⟨trivial, _, rfl⟩
theorem e7Z (u v : List ZI) (p : Nat) (hu : Vok p u) (hv : Vok p v) (hp : p + p + 2 < 17592186044416) (hl : u.length = v.length) : a0d Pr b8T [vecV u, vecV v] (.tup [Z (dotZ u v), .int .i64 0]) := by
 have hl' : (u.length : Int) = (v.length : Int) := by omega
 refine a0d.intro e1d e1c (Nat.le_of_ble_eq_true rfl) (.tup _ (by simp only [List.mem_cons, List.not_mem_nil, or_false, forall_eq_or_imp, forall_eq]; exact ⟨Z_cl _, .int _ _⟩)) fun H hH => ?_
 refine Safe.rg rfl ?_
 simp only [d0q, E3, seval]
 refine Safe.rg rfl ?_
 simp only [d0p, hl', E3, seval]
 refine Safe.cd rfl ?_
 simp only [E3, seval]
 refine Safe.rg rfl ?_
 simp only [d0o, E3, seval]
 first | refine (b2M u v p hu hv hp hl).acall ?_ | refine (b2M u v p hu hv hp hl).dcall ?_ | refine (b2M u v p hu hv hp hl).dgcall ?_
 try simp only [E3, seval]
 refine Safe.rt rfl ?_
 simp only [E3, seval]
 first | exact ⟨rfl, _, rfl⟩ | exact ⟨_, rfl⟩ | exact ⟨trivial, _, rfl⟩
theorem d6x (k x : ZI) (p q : Nat) (hk : Zok p k) (hx : Zok q x) (hpq : p + q ≤ 17592186044416) : a0d Pr a5u [x.av, .ro k.av 0] (Z (k.z * x.z)) := by
 have hm := a7J k x p q hk hx hpq
 obtain ⟨n, m⟩ := k
 obtain ⟨n', m'⟩ := x
 simp only [ZI.av] at hm ⊢
 refine a0d.intro c8r c8q (Nat.le_of_ble_eq_true rfl) (Z_cl _) fun H hH => ?_
 refine Safe.rg rfl ?_
 simp only [b3T, E3, seval]
 refine Safe.rg rfl ?_
 simp only [b3S, E3, seval]
 first | refine (hm).acall ?_ | refine (hm).dcall ?_ | refine (hm).dgcall ?_
 try simp only [E3, seval]
 refine Safe.rt rfl ?_
 simp only [E3, seval]
 first | exact ⟨rfl, _, rfl⟩ | exact ⟨_, rfl⟩ | exact ⟨trivial, _, rfl⟩
theorem a2S {a b : AV} (ha : Cl a) (hb : Cl b) : Cl (.tup [a, b]) := .tup _ (by
 intro c hc
 simp only [List.mem_cons, List.not_mem_nil, or_false] at hc
 rcases hc with rfl | rfl
 ·exact ha
 ·exact hb)
theorem c7H {a b d : AV} (ha : Cl a) (hb : Cl b) (hd : Cl d) : Cl (.tup [a, b, d]) := .tup _ (by
 intro c hc
 simp only [List.mem_cons, List.not_mem_nil, or_false] at hc
 rcases hc with rfl | rfl | rfl
 ·exact ha
 ·exact hb
 ·exact hd)
theorem d5P {a : AV} (ha : Cl a) : ∀ c ∈ [a], Cl c := by
 intro c hc
 simp only [List.mem_cons, List.not_mem_nil, or_false] at hc
 subst hc; exact ha
theorem d7v (k : ZI) (v : List ZI) (p q : Nat) (hk : Zok p k) (hv : Vok q v) (hpq : p + q ≤ 17592186044416) : a0d Pr b5D [k.av, vecV v] (vecV (vec v.length fun i => k.z * zg v i)) := by
 have hvl := hv.len
 have hcl := ZI.cl k
 have he := e9Y a5u [.ro k.av 0] v (fun i => k.z * zg v i) hv.len (d5P (.ro _ _ (a3f hcl))) fun i h => by
  have := d6x k v[i] p q hk (hv.get h) hpq
  rwa [← c3y h] at this
 obtain ⟨n, m⟩ := k
 simp only [ZI.av] at he hcl ⊢
 refine a0d.intro d4Q d4P (Nat.le_of_ble_eq_true rfl) (a0g _) fun H hH => ?_
 refine Safe.rg rfl ?_
 simp only [c2X, E3, seval]
 refine Safe.freeze 0 (b := ⟨2, [.agg [.bool n, natV m]]⟩) hH rfl rfl (by simpa only [Blk.flat, List.flatMap_cons, List.flatMap_nil, List.append_nil] using a3f hcl) ?_
 simp only [a0K, E3, seval]
 refine Safe.rg rfl ?_
 simp only [c2W, E3, seval]
 first | refine (he).acall ?_ | refine (he).dcall ?_ | refine (he).dgcall ?_
 try simp only [E3, seval]
 refine Safe.rt rfl ?_
 simp only [E3, seval]
 first | exact ⟨rfl, _, rfl⟩ | exact ⟨_, rfl⟩ | exact ⟨trivial, _, rfl⟩
theorem Le.nilvec : Le .nil (vecV []) := Le.nil 2 (by decide)
theorem e5c (k : Nat) : Zok k (canZ 0) := a0q (by have := e3u k; simpa using this)
end Go.Abs
namespace Go.Abs
theorem sign_zero {z : Int} (h : z = 0) : z.sign = 0 := by rw [h]; rfl
theorem one3 (a b c : AV) : b9m [a, b, c] = .tup [a, b, c] := rfl
theorem cl3i (a b c : Int) : Cl (.tup [.int .i64 a, .int .i64 b, .int .i64 c]) := c7H (.int _ _) (.int _ _) (.int _ _)
theorem e8Q {b : List (List ZI)} (hr : Rect b) {i : Nat} (hi : i < b.length) : (b[i].length : Int) = (b[0].length : Int) := by
 have := hr i hi
 rw [a1F hi, a1F (by omega)] at this
 omega
theorem e7I {b : List (List ZI)} (h : 0 < b.length) : wid b = b[0].length := by rw [wid, a1F h]
theorem a1g (b : List (List ZI)) (k : Nat) (hb : Mok k b) (hr : Rect b) : a0d Pr a2G [matV b] (.tup [.int .i64 b.length, .int .i64 (wid b), .int .i64 0]) := by
 have hbl := hb.len
 refine a0d.intro c3c c3b (Nat.le_of_ble_eq_true rfl) (cl3i _ _ _) fun H hH => ?_
 refine Safe.rg rfl ?_
 simp only [b1N, E3, seval]
 refine Safe.rg rfl ?_
 simp only [b1M, E3, seval]
 refine Safe.cd rfl ?_
 simp only [E3, seval]
 by_cases h0 : b.length = 0
 ·have h0' : (b.length : Int) = 0 := by omega
  have hw : wid b = 0 := by simp [wid, mg, List.length_eq_zero_iff.1 h0]
  simp only [h0', E3, seval]
  refine Safe.rg rfl ?_
  simp only [c3a, E3, seval]
  refine Safe.rt rfl ?_
  simp only [one3, h0', hw, Int.natCast_zero, E3, seval]
  first | exact ⟨rfl, _, rfl⟩ | exact ⟨_, rfl⟩ | exact ⟨trivial, _, rfl⟩
 ·have h0' : ¬ (b.length : Int) = 0 := by omega
  simp only [h0', E3, seval]
  refine Safe.rg rfl ?_
  simp only [b1L, E3, seval]
  refine Safe.lp rfl ?_
  refine Safe.keep [0, 10, 11, 12] ?_
  try simp only [E3, seval]
  refine Safe.loopN (b.length) (fun i => [(0, matV b), (10, matV b), (11, .int .i64 b.length), (12, .int .i64 i)]) (fun i => hap H []) rfl rfl (fun i hi ih => ?_) ?_
  ·have hlt : (i : Int) < (b.length : Int) := by omega
   have hiw : IntKind.wrap .i64 ((i : Int) + 1) = ((i + 1 : Nat) : Int) := by rw [a0c] <;> omega
   refine Safe.inLoop ?_
   refine Safe.rg rfl ?_
   simp only [a4B, hlt, E3, seval]
   refine Safe.cd rfl ?_
   simp only [E3, seval]
   refine Safe.rg rfl ?_
   simp only [a6I, a1r _ b _ i hi, E3, seval]
   refine Safe.rg rfl ?_
   simp only [a6H, b2I _ b _ (show 0 < b.length by omega), e8Q hr hi, E3, seval]
   refine Safe.cd rfl ?_
   simp only [E3, seval]
   refine Safe.rg rfl ?_
   simp only [b1K, hiw, E3, seval]
   refine Safe.keep [0, 10, 11, 12] ?_
   simp only [E3, seval]
   exact ih
  ·refine Safe.inLoop ?_
   refine Safe.rg rfl ?_
   simp only [a4B, Int.lt_irrefl, E3, seval]
   refine Safe.cd rfl ?_
   simp only [E3, seval]
   refine Safe.rg rfl ?_
   simp only [c2Y, b2I _ b _ (show 0 < b.length by omega), E3, seval]
   refine Safe.rt rfl ?_
   simp only [one3, e7I (show 0 < b.length by omega), E3, seval]
   first | exact ⟨rfl, _, rfl⟩ | exact ⟨_, rfl⟩ | exact ⟨trivial, _, rfl⟩
theorem a5y (b : List (List ZI)) (k : Nat) (hb : Mok k b) (hr : ¬ Rect b) : a0d Pr a2G [matV b] (.tup [.int .i64 0, .int .i64 0, .int .i64 8]) := by
 have hbl := hb.len
 rcases e0c b with h | ⟨m, hm, h1, h2⟩
 ·exact absurd h hr
 have h0' : ¬ (b.length : Int) = 0 := by omega
 refine a0d.intro c3c c3b (Nat.le_of_ble_eq_true rfl) (cl3i _ _ _) fun H hH => ?_
 refine Safe.rg rfl ?_
 simp only [b1N, E3, seval]
 refine Safe.rg rfl ?_
 simp only [b1M, h0', E3, seval]
 refine Safe.cd rfl ?_
 simp only [E3, seval]
 refine Safe.rg rfl ?_
 simp only [b1L, E3, seval]
 refine Safe.lp rfl ?_
 refine Safe.keep [0, 10, 11, 12] ?_
 try simp only [E3, seval]
 refine Safe.loopN (m) (fun i => [(0, matV b), (10, matV b), (11, .int .i64 b.length), (12, .int .i64 i)]) (fun i => hap H []) rfl rfl (fun i hi ih => ?_) ?_
 ·have hlt : (i : Int) < (b.length : Int) := by omega
  have he : (b[i].length : Int) = (b[0].length : Int) := by
   have := h2 i hi
   rw [a1F (by omega), a1F (by omega)] at this
   omega
  have hiw : IntKind.wrap .i64 ((i : Int) + 1) = ((i + 1 : Nat) : Int) := by rw [a0c] <;> omega
  refine Safe.inLoop ?_
  refine Safe.rg rfl ?_
  simp only [a4B, hlt, E3, seval]
  refine Safe.cd rfl ?_
  simp only [E3, seval]
  refine Safe.rg rfl ?_
  simp only [a6I, a1r _ b _ i (by omega), E3, seval]
  refine Safe.rg rfl ?_
  simp only [a6H, b2I _ b _ (show 0 < b.length by omega), he, E3, seval]
  refine Safe.cd rfl ?_
  simp only [E3, seval]
  refine Safe.rg rfl ?_
  simp only [b1K, hiw, E3, seval]
  refine Safe.keep [0, 10, 11, 12] ?_
  simp only [E3, seval]
  exact ih
 ·have hlt : (m : Int) < (b.length : Int) := by omega
  have he : ¬ (b[m].length : Int) = (b[0].length : Int) := by
   rw [a1F hm, a1F (by omega)] at h1
   omega
  refine Safe.inLoop ?_
  refine Safe.rg rfl ?_
  simp only [a4B, hlt, E3, seval]
  refine Safe.cd rfl ?_
  simp only [E3, seval]
  refine Safe.rg rfl ?_
  simp only [a6I, a1r _ b _ m hm, E3, seval]
  refine Safe.rg rfl ?_
  simp only [a6H, b2I _ b _ (show 0 < b.length by omega), he, E3, seval]
  refine Safe.cd rfl ?_
  simp only [E3, seval]
  refine Safe.rg rfl ?_
  simp only [c2Z, E3, seval]
  refine Safe.rt rfl ?_
  simp only [one3, E3, seval]
  first | exact ⟨rfl, _, rfl⟩ | exact ⟨_, rfl⟩ | exact ⟨trivial, _, rfl⟩
theorem e0W (b : List (List ZI)) (hb : Mok 17592186044416 b) : a0d Pr c0l [matV b] (.int .i64 (c3F b b.length)) := by
 have hbl := hb.len
 refine a0d.intro d7E d7B (Nat.le_of_ble_eq_true rfl) (.int _ _) fun H hH => ?_
 refine Safe.rg rfl ?_
 simp only [c6y, E3, seval]
 refine Safe.rg rfl ?_
 simp only [c6x, E3, seval]
 refine Safe.rg rfl ?_
 simp only [c6w, E3, seval]
 refine Safe.lp rfl ?_
 refine Safe.keep [3, 8, 9, 10] ?_
 try simp only [E3, seval]
 refine Safe.loopN (b.length) (fun i => [(3, .int .i64 (c3F b i)), (8, matV b), (9, .int .i64 b.length), (10, .int .i64 i)]) (fun i => hap H []) rfl rfl (fun i hi ih => ?_) ?_
 ·have hlt : (i : Int) < (b.length : Int) := by omega
  have hvl := (hb.get hi).len
  have hml : (mg b i).length = b[i].length := by rw [a1F hi]
  have hiw : IntKind.wrap .i64 ((i : Int) + 1) = ((i + 1 : Nat) : Int) := by rw [a0c] <;> omega
  refine Safe.inLoop ?_
  refine Safe.rg rfl ?_
  simp only [b5p, hlt, E3, seval]
  refine Safe.cd rfl ?_
  simp only [E3, seval]
  refine Safe.rg rfl ?_
  simp only [c6v, a1r _ b _ i hi, E3, seval]
  refine Safe.rg rfl ?_
  simp only [c6u, E3, seval]
  refine Safe.lp rfl ?_
  refine Safe.keep [3, 8, 9, 10, 14, 15, 16] ?_
  simp only [E3, seval]
  refine Safe.loopN (b[i].length) (fun j => [(3, .int .i64 (c6c (c3F b i) (fun k => blen (zg (mg b i) k).natAbs) j)), (8, matV b), (9, .int .i64 b.length), (10, .int .i64 i), (14, vecV b[i]), (15, .int .i64 b[i].length), (16, .int .i64 j)]) (fun j => hap H []) rfl rfl (fun j hj ih2 => ?_) ?_
  ·have hlt2 : (j : Int) < (b[i].length : Int) := by omega
   have hz : b[i][j].z = zg (mg b i) j := by rw [a1F hi, c3y hj]
   have hjw : IntKind.wrap .i64 ((j : Int) + 1) = ((j + 1 : Nat) : Int) := by rw [a0c] <;> omega
   refine Safe.inLoop ?_
   refine Safe.rg rfl ?_
   simp only [b5o, hlt2, E3, seval]
   refine Safe.cd rfl ?_
   simp only [E3, seval]
   refine Safe.rg rfl ?_
   simp only [c6t, a4a _ b[i] _ j hj, E3, seval]
   refine Safe.rg rfl ?_
   simp only [c6s, E3, seval]
   first | refine (b8W b[i][j] ((hb.get hi).get hj)).acall ?_ | refine (b8W b[i][j] ((hb.get hi).get hj)).dcall ?_ | refine (b8W b[i][j] ((hb.get hi).get hj)).dgcall ?_
   try simp only [E3, seval]
   simp only [gt_iff_lt, e9p, E3, seval]
   rw [hz]
   refine Safe.rg rfl ?_
   simp only [c6r, hjw, E3, seval]
   refine Safe.keep [3, 8, 9, 10, 14, 15, 16] ?_
   simp only [E3, seval]
   refine Safe.drop0 hH rfl (by simp only [List.all_cons, List.all_nil, E3, seval]) (by repeat (first | exact RC.nil | refine RC.none ?_ | refine RC.mo ?_ | refine RC.io ?_ | refine RC.row ZI.cl ?_ | refine RC.cons (a0F _) ?_ | refine RC.row a0g ?_ | refine RC.emp ?_ | refine RC.zero ?_ | refine RC.one (Z_cl _) ?_ | refine RC.one (ZI.cl _) ?_ | refine RC.one (a0g _) ?_)) ?_
   exact ih2
  ·refine Safe.inLoop ?_
   refine Safe.rg rfl ?_
   simp only [b5o, Int.lt_irrefl, E3, seval]
   refine Safe.cd rfl ?_
   simp only [E3, seval]
   refine Safe.rg rfl ?_
   simp only [c3e, hiw, E3, seval]
   refine Safe.keep [3, 8, 9, 10] ?_
   simp only [E3, seval]
   rw [c3F, hml] at ih
   exact ih
 ·refine Safe.inLoop ?_
  refine Safe.rg rfl ?_
  simp only [b5p, Int.lt_irrefl, E3, seval]
  refine Safe.cd rfl ?_
  simp only [E3, seval]
  refine Safe.rg rfl ?_
  simp only [c3d, E3, seval]
  refine Safe.rt rfl ?_
  simp only [E3, seval]
  first | exact ⟨rfl, _, rfl⟩ | exact ⟨_, rfl⟩ | exact ⟨trivial, _, rfl⟩
end Go.Abs
namespace Go.Abs
theorem b2r (x : List ZI) (b : List (List ZI)) (p q : Nat) (hx : Vok p x) (hb : Mok q b) (hp : p + q + 2 < 17592186044416) (hr : Rect b) (hl : x.length = b.length) : a0d Pr a9R [vecV x, matV b] (vecV (d8i x b)) := by
 have hbl := hb.len
 refine a0d.introL c8p c8m (Nat.le_of_ble_eq_true rfl) (a0g _) fun H hH => ?_
 refine Safe.rg rfl ?_
 simp only [b3R, E3, seval]
 refine Safe.rg rfl ?_
 simp only [b3Q, E3, seval]
 refine Safe.cd rfl ?_
 simp only [E3, seval]
 by_cases h0 : b.length = 0
 ·have h0' : (b.length : Int) = 0 := by omega
  have hw : d8i x b = [] := by simp [d8i, wid, mg, List.length_eq_zero_iff.1 h0, vec]
  simp only [h0', E3, seval]
  refine Safe.rg rfl ?_
  simp only [b3P, E3, seval]
  refine Safe.rt rfl ?_
  simp only [E3, seval]
  rw [hw]
  exact ⟨Le.nilvec, _, rfl⟩
 ·have h0' : ¬ (b.length : Int) = 0 := by omega
  have hw0 : b[0].length = wid b := (e7I (by omega)).symm
  have hwl := (hb.row 0).len
  rw [show (mg b 0).length = wid b from rfl] at hwl
  simp only [h0', E3, seval]
  refine Safe.rg rfl ?_
  simp only [b3O, b2I _ b _ (show 0 < b.length by omega), hw0, b7J _ H [] 2 32 (.agg [.bool false, .nil]) .i64 .i64 (wid b) (wid b) (by decide) (Nat.le_refl _) (by omega) (by omega), E3, seval]
  refine Safe.toldRep 0 (wid b) rfl ?_
  simp only [E3, seval]
  refine Safe.rg rfl ?_
  simp only [b3N, E3, seval]
  refine Safe.lp rfl ?_
  refine Safe.keep [0, 5, 18, 19, 20] ?_
  try simp only [E3, seval]
  refine Safe.loopN (b.length) (fun i => [(0, vecV x), (5, .mu (lid H 0) 0 (wid b) (some (wid b))), (18, matV b), (19, .int .i64 b.length), (20, .int .i64 i)]) (fun i => hap H [some ⟨2, (vec (wid b) fun k => cmbS x b k i).map ZI.av⟩]) rfl rfl (fun i hi ih => ?_) ?_
  ·have hlt : (i : Int) < (b.length : Int) := by omega
   have hri := d8I hr hi
   have hiw : IntKind.wrap .i64 ((i : Int) + 1) = ((i + 1 : Nat) : Int) := by rw [a0c] <;> omega
   refine Safe.inLoop ?_
   refine Safe.rg rfl ?_
   simp only [a7o, hlt, E3, seval]
   refine Safe.cd rfl ?_
   simp only [E3, seval]
   refine Safe.rg rfl ?_
   simp only [b3M, a1r _ b _ i hi, E3, seval]
   refine Safe.rg rfl ?_
   simp only [b3L, hri, E3, seval]
   refine Safe.lp rfl ?_
   refine Safe.keep [0, 5, 6, 18, 19, 20, 25, 26, 27] ?_
   simp only [E3, seval]
   refine Safe.loopN (wid b) (fun j => [(0, vecV x), (5, .mu (lid H 0) 0 (wid b) (some (wid b))), (6, .int .i64 i), (18, matV b), (19, .int .i64 b.length), (20, .int .i64 i), (25, vecV b[i]), (26, .int .i64 (wid b)), (27, .int .i64 j)]) (fun j => hap H [some ⟨2, (vec (wid b) (cmbF x b i j)).map ZI.av⟩]) rfl (by rw [e4r]) (fun j hj ih2 => ?_) ?_
   ·have hlt2 : (j : Int) < (wid b : Int) := by omega
    have hjw : IntKind.wrap .i64 ((j : Int) + 1) = ((j + 1 : Nat) : Int) := by rw [a0c] <;> omega
    have hm := a7J x[i] b[i][j] p q (hx.get (by omega)) ((hb.get hi).get (by omega)) (by omega)
    rw [← c3y (show i < x.length by omega), mgz hi (show j < b[i].length by omega)] at hm
    have ha := c3I (e6U hx hb hi j (j := j)) (Nat.lt_of_lt_of_le (a1R (hx.abs i) ((hb.row i).abs j)) (a4H (show p + q ≤ p + q + 2 by omega))) hp
    refine Safe.inLoop ?_
    refine Safe.rg rfl ?_
    simp only [a7n, hlt2, E3, seval]
    refine Safe.cd rfl ?_
    simp only [E3, seval]
    refine Safe.rg rfl ?_
    simp only [b3K, a4a _ b[i] _ j (by omega), E3, seval]
    refine Safe.rg rfl ?_
    simp only [b1J, d8W hj, f0t hj, a4a _ x _ i (by omega), E3, seval]
    first | refine (hm).acall ?_ | refine (hm).dcall ?_ | refine (hm).dgcall ?_
    try simp only [E3, seval]
    first | refine (ha).acall ?_ | refine (ha).dcall ?_ | refine (ha).dgcall ?_
    try simp only [E3, seval]
    simp only [d8W hj, f2g hj, E3, seval]
    rw [e4s]
    refine Safe.rg rfl ?_
    simp only [b1I, hjw, E3, seval]
    refine Safe.keep [0, 5, 6, 18, 19, 20, 25, 26, 27] ?_
    simp only [E3, seval]
    refine Safe.drop1 hH rfl (by simp only [List.all_cons, List.all_nil, E3, seval]) (by repeat (first | exact RC.nil | refine RC.none ?_ | refine RC.mo ?_ | refine RC.io ?_ | refine RC.row ZI.cl ?_ | refine RC.cons (a0F _) ?_ | refine RC.row a0g ?_ | refine RC.emp ?_ | refine RC.zero ?_ | refine RC.one (Z_cl _) ?_ | refine RC.one (ZI.cl _) ?_ | refine RC.one (a0g _) ?_)) ?_
    exact ih2
   ·refine Safe.inLoop ?_
    refine Safe.rg rfl ?_
    simp only [a7n, Int.lt_irrefl, E3, seval]
    refine Safe.cd rfl ?_
    simp only [E3, seval]
    rw [e6T]
    refine Safe.rg rfl ?_
    simp only [b1H, hiw, E3, seval]
    refine Safe.keep [0, 5, 18, 19, 20] ?_
    simp only [E3, seval]
    exact ih
  ·refine Safe.inLoop ?_
   refine Safe.rg rfl ?_
   simp only [a7o, Int.lt_irrefl, E3, seval]
   refine Safe.cd rfl ?_
   simp only [E3, seval]
   refine Safe.freeze 0 hH rfl rfl (a1t 2 ZI.av _ ZI.cl) ?_
   refine Safe.keep [5] ?_
   simp only [b9W H 0 (vec (wid b) fun k => cmbS x b k b.length) (wid b) (some (wid b)) (by simp only [a0e, a0f]), a1m, a0G, a5Y, a5Z, E3, seval]
   refine Safe.rg rfl ?_
   simp only [b1G, E3, seval]
   refine Safe.rt rfl ?_
   simp only [E3, seval]
   exact ⟨Le.refl _, _, rfl⟩
theorem c4Q (b : List (List ZI)) (off : Nat) : Cl (.ro (matV b) off) := .ro _ _ (a3f (a2g b))
theorem e2y (b : List ZI) (off : Nat) : Cl (.ro (vecV b) off) := .ro _ _ (a3f (a0g b))
theorem a1U {wd : Nat} {a : AV} (h : Cl a) : ∀ c ∈ (Blk.mk wd [a]).flat, Cl c := fun c hc => by
 simp only [Blk.flat, List.flatMap_cons, List.flatMap_nil, List.append_nil] at hc
 exact a3f h c hc
theorem e0j (x : List ZI) (b : List (List ZI)) (p q : Nat) (hx : Vok p x) (hb : Mok q b) (hp : p + q + 2 < 17592186044416) (hr : Rect b) (hl : x.length = b.length) : a0d Pr a3X [vecV x, .ro (matV b) 0] (vecV (d8i x b)) := by
 refine a0d.intro c3B c3A (Nat.le_of_ble_eq_true rfl) (a0g _) fun H hH => ?_
 refine Safe.rg rfl ?_
 simp only [b0a, E3, seval]
 refine Safe.rg rfl ?_
 simp only [a9Z, E3, seval]
 first | refine (b2r x b p q hx hb hp hr hl).acall ?_ | refine (b2r x b p q hx hb hp hr hl).dcall ?_ | refine (b2r x b p q hx hb hp hr hl).dgcall ?_
 try simp only [E3, seval]
 refine Safe.rt rfl ?_
 simp only [E3, seval]
 first | exact ⟨rfl, _, rfl⟩ | exact ⟨_, rfl⟩ | exact ⟨trivial, _, rfl⟩
def Fits (a b : List (List ZI)) : Prop := Rect a ∧ Rect b ∧ (0 < a.length → wid a = b.length)
def a0s (b : List (List ZI)) : List (List ZI) := mat b.length fun i => vec b.length fun j => dotZ (mg b i) (mg b j)
theorem d7O (u v : List ZI) (p : Nat) (hu : Vok p u) (hv : Vok p v) (hp : p + p + 2 < 17592186044416) (hl : u.length = v.length) : a0d Pr a4z [vecV v, .ro (vecV u) 0] (Z (dotZ u v)) := by
 refine a0d.intro c6q c6p (Nat.le_of_ble_eq_true rfl) (Z_cl _) fun H hH => ?_
 refine Safe.rg rfl ?_
 simp only [b1P, E3, seval]
 refine Safe.rg rfl ?_
 simp only [b1O, E3, seval]
 first | refine (b2M u v p hu hv hp hl).acall ?_ | refine (b2M u v p hu hv hp hl).dcall ?_ | refine (b2M u v p hu hv hp hl).dgcall ?_
 try simp only [E3, seval]
 refine Safe.rt rfl ?_
 simp only [E3, seval]
 first | exact ⟨rfl, _, rfl⟩ | exact ⟨_, rfl⟩ | exact ⟨trivial, _, rfl⟩
theorem e1l (u : List ZI) (b : List (List ZI)) (p : Nat) (hu : Vok p u) (hb : Mok p b) (hp : p + p + 2 < 17592186044416) (hl : ∀ i (h : i < b.length), u.length = b[i].length) : a0d Pr a6P [vecV u, .ro (matV b) 0] (vecV (vec b.length fun j => dotZ u (mg b j))) := by
 have he := e9X a4z [.ro (vecV u) 0] b (fun j => dotZ u (mg b j)) hb.len (d5P (e2y u 0)) fun i h => by
  rw [a1F h]; exact d7O u b[i] p hu (hb.get h) hp (hl i h)
 refine a0d.intro d1V d1U (Nat.le_of_ble_eq_true rfl) (a0g _) fun H hH => ?_
 refine Safe.rg rfl ?_
 simp only [b7N, E3, seval]
 refine Safe.freeze 0 (b := ⟨1, [vecV u]⟩) hH rfl rfl (a1U (a0g u)) ?_
 simp only [a0K, AV.cells, e7T, E3, seval]
 refine Safe.rg rfl ?_
 simp only [b7M, E3, seval]
 first | refine (he).acall ?_ | refine (he).dcall ?_ | refine (he).dgcall ?_
 try simp only [E3, seval]
 refine Safe.rt rfl ?_
 simp only [E3, seval]
 first | exact ⟨rfl, _, rfl⟩ | exact ⟨_, rfl⟩ | exact ⟨trivial, _, rfl⟩
theorem e9v (b : List (List ZI)) (p : Nat) (hb : Mok p b) (hp : p + p + 2 < 17592186044416) (hr : Rect b) : a0d Pr c0k [matV b] (.tup [matV (a0s b), .int .i64 0]) := by
 have he := e9W a6P [.ro (matV b) 0] b (fun i => vec b.length fun j => dotZ (mg b i) (mg b j)) hb.len (d5P (c4Q b 0)) fun i h => by
  rw [a1F h]; exact e1l b[i] b p (hb.get h) hb hp fun j hj => by rw [d8I hr h, d8I hr hj]
 refine a0d.intro d7A d7z (Nat.le_of_ble_eq_true rfl) (a2S (a2g _) (.int _ _)) fun H hH => ?_
 refine Safe.rg rfl ?_
 simp only [c6o, E3, seval]
 refine Safe.freeze 0 (b := ⟨1, [matV b]⟩) hH rfl rfl (a1U (a2g b)) ?_
 simp only [a0K, E3, seval]
 refine Safe.rg rfl ?_
 simp only [c6n, E3, seval]
 first | refine (a1g b p hb hr).acall ?_ | refine (a1g b p hb hr).dcall ?_ | refine (a1g b p hb hr).dgcall ?_
 try simp only [E3, seval]
 refine Safe.rg rfl ?_
 simp only [c6m, E3, seval]
 refine Safe.cd rfl ?_
 simp only [E3, seval]
 refine Safe.rg rfl ?_
 simp only [c6l, E3, seval]
 first | refine (he).acall ?_ | refine (he).dcall ?_ | refine (he).dgcall ?_
 try simp only [E3, seval]
 refine Safe.rt rfl ?_
 simp only [E3, seval]
 first | exact ⟨rfl, _, rfl⟩ | exact ⟨_, rfl⟩ | exact ⟨trivial, _, rfl⟩
end Go.Abs
namespace Go.Abs
def a1Q (H : Heap) (n k : Nat) : List AV := (List.range k).map fun j => .mu (lid H 0) (j * n) n (some n)
end Go.Abs
namespace Go.Abs
theorem b8F {n : Nat} (M : Nat) : (fl n fun j => if n ≤ j then dig M j else 0) = fl n fun _ => 0 := a2Z fun i hi => if_neg (by omega)
theorem b8G {n i : Nat} (M : Nat) : (fl n fun j => if j = i then dig M i else if i + 1 ≤ j then dig M j else 0) = fl n fun j => if i ≤ j then dig M j else 0 := a2Z fun j _ => by
 by_cases h : j = i
 ·subst h; rw [if_pos rfl, if_pos (Nat.le_refl _)]
 ·rw [if_neg h]
  by_cases h2 : i + 1 ≤ j
  ·rw [if_pos h2, if_pos (by omega)]
  ·rw [if_neg h2, if_neg (by omega)]
theorem c3X {n : Nat} (M : Nat) : (fl n fun j => if 0 ≤ j then dig M j else 0) = fl n (dig M) := a2Z fun j _ => if_pos (Nat.zero_le _)
theorem b2N {A n d : Nat} (h : A < LB ^ n) : A / d < LB ^ n := Nat.lt_of_le_of_lt (Nat.div_le_self _ _) h
theorem b9e (a : List Nat) (d : Nat) (ha : Nt a) (hd : 0 < d) (hd2 : d < LB) : a0d Pr b5C [natV a, .int .u32 d] (.tup [natV (limbs (val a / d)), .int .u32 (val a % d : Nat)]) := by
 have hLB : LB = 4294967296 := rfl
 have hlen := ha.len
 have hv := a1d ha.lim
 refine a0d.intro d4J d4H (Nat.le_of_ble_eq_true rfl) (a2S (a0V _) (.int _ _)) fun H hH => ?_
 refine Safe.rg rfl ?_
 simp only [c2M, E3, Nat.reduceLeDiff, Nat.reduceSub, Nat.reduceAdd, Nat.reduceEqDiff, reduceCtorEq, ↓reduceIte]
 refine Safe.rg rfl ?_
 simp only [c2L, b9D (H := H) (L := []) (n := a.length) (by omega), E3, Nat.reduceLeDiff, Nat.reduceSub, Nat.reduceAdd, Nat.reduceEqDiff, reduceCtorEq, ↓reduceIte]
 refine Safe.rg rfl ?_
 simp only [c2K, E3, Nat.reduceLeDiff, Nat.reduceSub, Nat.reduceAdd, Nat.reduceEqDiff, reduceCtorEq, ↓reduceIte]
 refine Safe.rg rfl ?_
 simp only [c2J, a0c (n := (a.length : Int) - 1) (by omega) (by omega), E3, Nat.reduceLeDiff, Nat.reduceSub, Nat.reduceAdd, Nat.reduceEqDiff, reduceCtorEq, ↓reduceIte]
 refine Safe.lp rfl ?_
 refine Safe.keep [0, 1, 6, 7, 8] ?_
 simp only [E3, Nat.reduceLeDiff, Nat.reduceSub, Nat.reduceAdd, Nat.reduceEqDiff, reduceCtorEq, ↓reduceIte]
 refine Safe.loopD a.length (fun i => [(0, natV a), (1, .int .u32 d), (6, .mu (lid H 0) 0 a.length (some a.length)), (7, .int .u64 (val a / LB ^ i % d : Nat)), (8, .int .i64 ((i : Int) - 1))])
  (fun i => hap H [some ⟨1, u32s (fl a.length fun j => if i ≤ j then dig (val a / d) j else 0)⟩]) ?_ ?_ (fun i hi ih => ?_) ?_
 ·rw [Nat.div_eq_of_lt hv]; rfl
 ·rw [b8F]
 ·have e1 : ((i + 1 : Nat) : Int) - 1 = (i : Int) := by omega
  rw [e1]
  refine Safe.inLoop ?_
  refine Safe.rg rfl ?_
  simp only [b1k, Int.natCast_nonneg i, E3, Nat.reduceLeDiff, Nat.reduceSub, Nat.reduceAdd, Nat.reduceEqDiff, reduceCtorEq, ↓reduceIte]
  refine Safe.cd rfl ?_
  simp only [E3, Nat.reduceLeDiff, Nat.reduceSub, Nat.reduceAdd, Nat.reduceEqDiff, reduceCtorEq, ↓reduceIte]
  have hr : val a / LB ^ (i + 1) % d < LB := Nat.lt_trans (Nat.mod_lt _ hd) hd2
  have hai : a.getD i 0 < LB := a0L ha.lim i
  refine Safe.rg rfl ?_
  simp only [c2I, a0E _ a _ i hi, e8F hr, a2r (x := a.getD i 0) (by omega), c4y hr hai, E3, Nat.reduceLeDiff, Nat.reduceSub, Nat.reduceAdd, Nat.reduceEqDiff, reduceCtorEq, ↓reduceIte]
  rw [← d2s ha.lim i]
  have hs := c4H (val a) d i
  have hq := c4I (val a) d i
  have hb : val a / LB ^ (i + 1) % d * LB + dig (val a) i < 18446744073709551616 := by
   have := b8H (val a) i
   have : val a / LB ^ (i + 1) % d * LB ≤ 4294967295 * LB := Nat.mul_le_mul_right _ (by omega)
   omega
  refine Safe.rg rfl ?_
  simp only [c2H, a2r (x := d) (by omega), d1I hd hb, hq, a9X (b8H _ _), e1p hi, fst0 hi, E3, Nat.reduceLeDiff, Nat.reduceSub, Nat.reduceAdd, Nat.reduceEqDiff, reduceCtorEq, ↓reduceIte]
  refine Safe.rg rfl ?_
  simp only [c2G, a2r (x := d) (by omega), e2B hd, hs, E3, Nat.reduceLeDiff, Nat.reduceSub, Nat.reduceAdd, Nat.reduceEqDiff, reduceCtorEq, ↓reduceIte]
  refine Safe.rg rfl ?_
  simp only [c2F, a0c (n := (i : Int) - 1) (by omega) (by omega), E3, Nat.reduceLeDiff, Nat.reduceSub, Nat.reduceAdd, Nat.reduceEqDiff, reduceCtorEq, ↓reduceIte]
  refine Safe.keep [0, 1, 6, 7, 8] ?_
  simp only [E3, Nat.reduceLeDiff, Nat.reduceSub, Nat.reduceAdd, Nat.reduceEqDiff, reduceCtorEq, ↓reduceIte]
  rw [b8G]
  exact ih
 ·refine Safe.inLoop ?_
  refine Safe.rg rfl ?_
  simp only [b1k, show (0 ≤ ((0 : Nat) : Int) - 1) = False by simp, E3, Nat.reduceLeDiff, Nat.reduceSub, Nat.reduceAdd, Nat.reduceEqDiff, reduceCtorEq, ↓reduceIte]
  refine Safe.cd rfl ?_
  simp only [E3, Nat.reduceLeDiff, Nat.reduceSub, Nat.reduceAdd, Nat.reduceEqDiff, reduceCtorEq, ↓reduceIte]
  refine Safe.freeze 0 hH rfl rfl (a0F _) ?_
  refine Safe.keep [6, 7] ?_
  simp only [d5x, E3, Nat.reduceLeDiff, Nat.reduceSub, Nat.reduceAdd, Nat.reduceEqDiff, reduceCtorEq, ↓reduceIte]
  rw [c3X]
  have hr : val a % d < LB := Nat.lt_trans (Nat.mod_lt _ hd) hd2
  refine Safe.rg rfl ?_
  simp only [c2E, E3, Nat.reduceLeDiff, Nat.reduceSub, Nat.reduceAdd, Nat.reduceEqDiff, reduceCtorEq, ↓reduceIte]
  first | refine (a0p _ (a1y _ _) (by rw [a0M]; exact hlen)).acall ?_ | refine (a0p _ (a1y _ _) (by rw [a0M]; exact hlen)).dcall ?_ | refine (a0p _ (a1y _ _) (by rw [a0M]; exact hlen)).dgcall ?_
  try simp only [E3, Nat.reduceLeDiff, Nat.reduceSub, Nat.reduceAdd, Nat.reduceEqDiff, reduceCtorEq, ↓reduceIte]
  simp only [a1N (b2N hv (d := d)), Nat.pow_zero, Nat.div_one, a9X hr, E3, Nat.reduceLeDiff, Nat.reduceSub, Nat.reduceAdd, Nat.reduceEqDiff, reduceCtorEq, ↓reduceIte]
  refine Safe.rt rfl ?_
  simp only [E3, Nat.reduceLeDiff, Nat.reduceSub, Nat.reduceAdd, Nat.reduceEqDiff, reduceCtorEq, ↓reduceIte]
  first | exact ⟨rfl, _, rfl⟩ | exact ⟨_, rfl⟩ | exact ⟨trivial, _, rfl⟩
theorem d2y (n : Nat) (h : n < LB) : a0d Pr a1D [.int .u32 n] (.int .i64 ((32 - blen n : Nat) : Int)) := by
 have hLB : LB = 4294967296 := rfl
 have hb : blen n ≤ 32 := by
  rcases Nat.lt_or_ge 32 (blen n) with hc | hc
  ·exfalso
   have h0 : n ≠ 0 := by rintro rfl; simp [d5S] at hc
   have := c0f h0
   have h2 : 2 ^ 32 ≤ 2 ^ (blen n - 1) := Nat.pow_le_pow_right (by decide) (by omega)
   have : (2 : Nat) ^ 32 = LB := by decide
   omega
  ·exact hc
 refine a0d.intro a5O a5N (Nat.le_of_ble_eq_true rfl) (.int _ _) fun H hH => ?_
 refine Safe.rg rfl ?_
 simp only [a2y, E3, seval]
 refine Safe.rg rfl ?_
 simp only [a2x, E3, seval]
 first | refine (b2J n (by omega)).acall ?_ | refine (b2J n (by omega)).dcall ?_ | refine (b2J n (by omega)).dgcall ?_
 try simp only [E3, seval]
 have hw : IntKind.wrap .i64 ((32 : Int) - ((blen n : Nat) : Int)) = ((32 - blen n : Nat) : Int) := by rw [a0c] <;> omega
 simp only [hw, E3, seval]
 refine Safe.rt rfl ?_
 simp only [E3, seval]
 first | exact ⟨rfl, _, rfl⟩ | exact ⟨_, rfl⟩ | exact ⟨trivial, _, rfl⟩
section
variable {H L : Heap} {id : Nat} {b : Blk}
theorem lrow (h : H[id]? = some (some b)) : hrow (hap H L) id = some b := by
 have hlt := a0o h
 rw [a9m _ _ _ hlt]
 unfold hrow; rw [h]; rfl
theorem llen (h : H[id]? = some (some b)) (off len : Nat) (oc : Option Nat) : lenV (hap H L) (.mu id off len oc) = some (.int .i64 len) := by rw [c6C, lrow h]; rfl
theorem lidx (h : H[id]? = some (some b)) {wd off len j : Nat} (hw : b.wd = wd) (oc : Option Nat) (k : IntKind) (hj : j < len) : idxV (hap H L) wd (.mu id off len oc) (.int k j) = some (.loc id (off + j) 0) := by
 rw [c6H _ _ _ _ _ _ _ _ (by omega) (by omega), lrow h]; simp [hw]
theorem lat (h : H[id]? = some (some b)) {j : Nat} (hj : j < b.xs.length) : atV (hap H L) (.loc id j 0) = some (b.xs.getD j .top).cells := by rw [b2u, lrow h]; simp [hj]
theorem lslc (h : H[id]? = some (some b)) {wd off len n : Nat} (hw : b.wd = wd) (oc : Option Nat) (k : IntKind) (hn : n ≤ len) : slcV (hap H L) wd (.mu id off len oc) none (some (.int k n)) none = some (.mu id off n oc) := by
 simp only [slcV, lrow h, Option.bind_some, a3V]
 rw [if_pos ⟨hw, by omega, by omega, by omega⟩]
 cases oc <;> simp
theorem e3H {i : Nat} (h : L[i]? = some (some b)) : (hap H L)[lid H i]? = some (some b) := by
 unfold hap lid
 rw [List.getElem?_append_right (by omega), Nat.add_sub_cancel_left]; exact h
end
theorem e8z (X : List Nat) (hX : Lim X) (hb : X.length ≤ 17592186044416) {H : Heap} {id : Nat} (h : H[id]? = some (some ⟨1, u32s X⟩)) (n : Nat) (hn : n = X.length) (oc : Option Nat) :
  a0m Pr a0u [.mu id 0 n oc] H fun r' H' => r' = .mu id 0 (limbs (val X)).length oc ∧ H' = H := by
 subst hn
 have hid := a0o h
 refine a0m.eff c5m c5k (Nat.le_of_ble_eq_true rfl) fun hH => ?_
 have kk : ∀ k : Nat, k ≤ X.length → val (X.take k) = val X → Safe ⟨Pr, fun _ _ => false, a0u, 21, [.tmp 2], H.length⟩ [.inLoop c5l, .inBlock 0, .code ((ACode.region a4f false).seq ACode.ret)] [(0, .mu id 0 k oc)] (hap H [])
   fun r' H' => ∃ H1 L, H' = hap H1 L ∧ H1.length = H.length ∧ a0C H1 ∧ Ref (· < H.length) r' ∧ r' = .mu id 0 (limbs (val X)).length oc ∧ H1 = H := by
  have stop : ∀ (k : Nat) (env : Env), k ≤ X.length → val (X.take k) = val X → ((X.take k).getLast?).getD 1 ≠ 0 → look env 0 = .mu id 0 k oc → Safe ⟨Pr, fun _ _ => false, a0u, 21, [.tmp 2], H.length⟩ [.code ((ACode.region a4f false).seq ACode.ret)] env (hap H [])
    fun r' H' => ∃ H1 L, H' = hap H1 L ∧ H1.length = H.length ∧ a0C H1 ∧ Ref (· < H.length) r' ∧ r' = .mu id 0 (limbs (val X)).length oc ∧ H1 = H := by
   intro k env hk hv hl h0
   refine Safe.rg rfl ?_
   simp only [a4f, h0, E3, seval]
   refine Safe.rt rfl ?_
   simp only [E3, seval]
   refine ⟨H, [], rfl, rfl, hH, .mu _ _ _ _ hid, ?_, rfl⟩
   rw [← hv, a7X (hX.take k) hl, List.length_take, Nat.min_eq_left hk]
  intro k
  induction k with
  | zero =>
   intro hk hv
   refine Safe.inLoop ?_
   refine Safe.rg rfl ?_
   simp only [a5K, llen h, show ((0 : Int) < ((0 : Nat) : Int)) = False by simp, E3, seval]
   refine Safe.cd rfl ?_
   simp only [E3, seval]
   refine Safe.exit rfl ?_
   exact stop 0 _ hk hv (by simp) (by simp only [E3, seval])
  | succ k ih =>
   intro hk hv
   refine Safe.inLoop ?_
   have hw : IntKind.i64.wrap (((k + 1 : Nat) : Int) - 1) = (k : Int) := by rw [a0c] <;> omega
   have hp : (0 < ((k + 1 : Nat) : Int)) = True := eq_true (by omega)
   have hat := lat (L := []) h (j := k) (by rw [a0D]; omega)
   rw [b0H (by omega)] at hat
   refine Safe.rg rfl ?_
   simp only [a5K, llen h, hw, hp, lidx h rfl oc .i64 (Nat.lt_succ_self k), hat, E3, seval]
   have hlast : ((X.take (k + 1)).getLast?).getD 1 = X.getD k 0 := by rw [a7N (by omega)]; simp
   by_cases hd : X.getD k 0 = 0
   ·have e : (((X.getD k 0 : Nat) : Int) = 0) = True := eq_true (by omega)
    refine Safe.cd rfl ?_
    simp only [e, E3, seval]
    refine Safe.rg rfl ?_
    simp only [b4Y, llen h, hw, lslc h rfl oc .i64 (Nat.le_succ k), E3, seval]
    refine Safe.inBlock ?_
    refine Safe.keep [0] ?_
    simp only [E3, seval]
    refine ih (by omega) ?_
    rw [← hv, a0k, hd]; simp
   ·have e : (((X.getD k 0 : Nat) : Int) = 0) = False := eq_false (by omega)
    refine Safe.cd rfl ?_
    simp only [e, E3, seval]
    refine Safe.exit rfl ?_
    exact stop (k + 1) _ hk hv (by rw [hlast]; exact hd) (by simp only [E3, seval])
 refine Safe.rg rfl ?_
 simp only [b4Z, E3, seval]
 refine Safe.lp rfl ?_
 refine Safe.keep [0] ?_
 simp only [E3, seval]
 exact kk X.length (Nat.le_refl _) (by rw [List.take_length])
theorem e5r {l : List Nat} (hl : Lim l) {i n : Nat} (hi : i < l.length) (hn : n < 32) (j : Nat) :
  (if j = i + 1 then l.getD i 0 * 2 ^ n / LB else if j = i then l.getD i 0 % 2 ^ (32 - n) * 2 ^ n + dig (val (l.take i) * 2 ^ n) i else dig (val (l.take i) * 2 ^ n) j) = dig (val (l.take (i + 1)) * 2 ^ n) j := by
 have hLB : LB = 2 ^ (32 - n) * 2 ^ n := by rw [← Nat.pow_add, show 32 - n + n = 32 by omega]
 have hp : 0 < 2 ^ n := Nat.pow_pos (by decide)
 have hai := a0L hl i
 have hM := a3c hl i
 rw [a0k, Nat.add_mul]
 have e : LB ^ i * l.getD i 0 * 2 ^ n = LB ^ i * (l.getD i 0 * 2 ^ n) := Nat.mul_assoc _ _ _
 rw [e]
 generalize l.getD i 0 = a at *
 generalize hV : val (l.take i) = V at *
 have hy : V * 2 ^ n / LB ^ i < 2 ^ n := by
  rw [Nat.div_lt_iff_lt_mul (a5g i), Nat.mul_comm]
  exact Nat.mul_lt_mul_of_pos_left hM hp
 have h2n : 2 ^ n ≤ LB := by rw [hLB]; exact Nat.le_mul_of_pos_left _ (Nat.pow_pos (by decide))
 have hmod : a * 2 ^ n % LB = a % 2 ^ (32 - n) * 2 ^ n := by rw [hLB, Nat.mul_mod_mul_right]
 have hx : a % 2 ^ (32 - n) * 2 ^ n + V * 2 ^ n / LB ^ i < LB := by
  have h1 : (a % 2 ^ (32 - n) + 1) * 2 ^ n ≤ 2 ^ (32 - n) * 2 ^ n := Nat.mul_le_mul_right _ (Nat.mod_lt _ (Nat.pow_pos (by decide)))
  rw [← hLB, Nat.add_mul] at h1
  omega
 have hs : (V * 2 ^ n + LB ^ i * (a * 2 ^ n)) / LB ^ i = V * 2 ^ n / LB ^ i + a * 2 ^ n := Nat.add_mul_div_left _ _ (a5g i)
 have hdm := Nat.mod_add_div (a * 2 ^ n) LB
 rw [hmod] at hdm
 by_cases h1 : j = i + 1
 ·rw [if_pos h1, h1]
  unfold dig
  rw [b2q, hs]
  have h3 : (V * 2 ^ n / LB ^ i + a * 2 ^ n) / LB = a * 2 ^ n / LB := by
   conv => lhs; rw [← hdm, ← Nat.add_assoc, Nat.add_mul_div_left _ _ (show 0 < LB by decide)]
   rw [Nat.div_eq_of_lt (by omega), Nat.zero_add]
  rw [h3, Nat.mod_eq_of_lt]
  rw [Nat.div_lt_iff_lt_mul (by decide)]
  exact Nat.lt_of_lt_of_le (Nat.mul_lt_mul_of_pos_right hai hp) (Nat.mul_le_mul_left _ h2n)
 ·rw [if_neg h1]
  by_cases h2 : j = i
  ·rw [if_pos h2, h2]
   have h5 : (V * 2 ^ n / LB ^ i + a * 2 ^ n) % LB = V * 2 ^ n / LB ^ i + a % 2 ^ (32 - n) * 2 ^ n := by
    have : V * 2 ^ n / LB ^ i + a * 2 ^ n = (V * 2 ^ n / LB ^ i + a % 2 ^ (32 - n) * 2 ^ n) + LB * (a * 2 ^ n / LB) := by omega
    rw [this, Nat.add_mul_mod_self_left, Nat.mod_eq_of_lt (by omega)]
   unfold dig
   rw [hs, h5, Nat.mod_eq_of_lt (show V * 2 ^ n / LB ^ i < LB by omega), Nat.add_comm]
  ·rw [if_neg h2]
   rcases Nat.lt_or_ge j i with h3 | h3
   ·exact (c7v _ h3).symm
   ·have hbig : LB ^ (i + 1) * LB ≤ LB ^ j := by
     rw [← Nat.pow_succ]; exact Nat.pow_le_pow_right (by decide) (by omega)
    have hlow : V * 2 ^ n < LB ^ (i + 1) := by
     rw [Nat.pow_succ]
     exact Nat.lt_of_lt_of_le (Nat.mul_lt_mul_of_pos_right hM hp) (Nat.mul_le_mul_left _ h2n)
    have hall : V * 2 ^ n + LB ^ i * (a * 2 ^ n) < LB ^ (i + 1) * LB := by
     have q1 : V * 2 ^ n + LB ^ i * (a * 2 ^ n) = (V + LB ^ i * a) * 2 ^ n := by rw [Nat.add_mul, Nat.mul_assoc]
     have q2 : LB ^ i * (a + 1) ≤ LB ^ (i + 1) := by rw [Nat.pow_succ]; exact Nat.mul_le_mul_left _ hai
     rw [Nat.mul_add, Nat.mul_one] at q2
     rw [q1]
     exact Nat.lt_of_lt_of_le (Nat.mul_lt_mul_of_pos_right (show V + LB ^ i * a < LB ^ (i + 1) by omega) hp) (Nat.mul_le_mul_left _ h2n)
    have hL1 : LB ^ (i + 1) ≤ LB ^ (i + 1) * LB := Nat.le_mul_of_pos_right _ (by decide)
    rw [b2O (by omega), b2O (by omega)]
theorem a0m.introH {P : Program} {mu : Nat → Nat → Bool} {f : FuncId} {fn : Func} (hf : P.funcs[f]? = some fn) {ac : ACode} {rs : List ResV} {nt : Nat} (hc : fchk P mu fn = some (ac, rs, nt))
  {args : List AV} {H : Heap} {R : AV → Heap → Prop} (ha : args.length ≤ nt) (h : a0C H → Safe ⟨P, mu, f, nt, rs, H.length⟩ [.code ac] (b8k 0 args) (hap H []) R) : a0m P f args H R := a0m.intro hf hc ha fun hH => by
 have := h hH
 rw [a1T] at this
 exact this
theorem d3h (a : List Nat) (n : Nat) (ha : Nt a) (hal : a.length < 17592186044416) (hv : val a ≠ 0) (hn : n < 32) (H : Heap) : a0m Pr b8Q [natV a, .int .i64 n] H fun r' H' =>
  r' = .mu (lid H 0) 0 (limbs (val a * 2 ^ n)).length (some ((limbs (val a)).length + 1)) ∧ H' = hap H [some ⟨1, u32s (fl ((limbs (val a)).length + 1) (dig (val a * 2 ^ n)))⟩] := by
 have hlb : (limbs (val a)).length < 17592186044416 := Nat.lt_of_le_of_lt (a0X ha.lim) hal
 have hlim := a0b (val a)
 have hval := a0a (val a)
 have hne : (limbs (val a)).length ≠ 0 := by
  intro h0
  have := List.length_eq_zero_iff.1 h0
  rw [this] at hval
  exact hv hval.symm
 have hLB : LB = 4294967296 := rfl
 refine a0m.introH e0x e0v (Nat.le_of_ble_eq_true rfl) fun hH => ?_
 refine Safe.rg rfl ?_
 simp only [c9p, E3, seval]
 refine Safe.rg rfl ?_
 simp only [c9o, E3, seval]
 first | refine (a0p a ha.lim ha.len).acall ?_ | refine (a0p a ha.lim ha.len).dcall ?_ | refine (a0p a ha.lim ha.len).dgcall ?_
 try simp only [E3, seval]
 generalize limbs (val a) = l at *
 generalize val a = A at *
 subst hval
 have h0 : ((l.length : Int) = 0) = False := eq_false (by omega)
 refine Safe.rg rfl ?_
 simp only [c9n, h0, E3, seval]
 refine Safe.cd rfl ?_
 simp only [E3, seval]
 have hq : binV .quo (.int .i64 (n : Int)) (.int .i64 32) = some (.int .i64 0) := by
  have := e5A (x := n) (y := 32) (by decide) (by omega)
  rw [Nat.div_eq_of_lt hn] at this; exact this
 have hr : binV .rem (.int .i64 (n : Int)) (.int .i64 32) = some (.int .i64 (n : Int)) := by
  have := e5y (x := n) (y := 32) (by decide)
  rw [Nat.mod_eq_of_lt hn] at this; exact this
 refine Safe.rg rfl ?_
 simp only [c9m, hq, hr, a2r (x := n) (by omega), E3, seval]
 have w1 : IntKind.wrap .i64 ((l.length : Int) + 0) = (l.length : Int) := by rw [Int.add_zero]; exact d3a (by omega)
 have w2 : IntKind.wrap .i64 ((l.length : Int) + 1) = ((l.length + 1 : Nat) : Int) := by rw [a0c] <;> omega
 refine Safe.rg rfl ?_
 simp only [c9l, w1, w2, b9D (H := H) (L := []) (n := l.length + 1) (by omega), E3, seval]
 refine Safe.rg rfl ?_
 simp only [c9k, E3, seval]
 refine Safe.lp rfl ?_
 refine Safe.keep [0, 5, 6, 7, 27, 28] ?_
 simp only [E3, seval]
 refine Safe.loopN l.length (fun i => [(0, natV l), (5, .int .i64 0), (6, .int .u64 (n : Int)), (7, .mu (lid H 0) 0 (l.length + 1) (some (l.length + 1))), (27, .int .i64 l.length), (28, .int .i64 i)])
  (fun i => hap H [some ⟨1, u32s (fl (l.length + 1) (dig (val (l.take i) * 2 ^ n)))⟩]) rfl ?_ (fun i hi ih => ?_) ?_
 ·congr 5
  refine a2Z fun j _ => ?_
  simp [dig, val]
 ·have hlt : ((i : Int) < (l.length : Int)) = True := eq_true (by omega)
  refine Safe.inLoop ?_
  refine Safe.rg rfl ?_
  simp only [b9s, hlt, E3, seval]
  refine Safe.cd rfl ?_
  simp only [E3, seval]
  have hai := a0L hlim i
  refine Safe.rg rfl ?_
  simp only [c9j, E3, seval]
  refine Safe.rg rfl ?_
  simp only [c9i, a0E _ l _ i hi, a2r (x := l.getD i 0) (by omega), f0W hai (show n < 33 by omega), E3, seval]
  have w3 : IntKind.wrap .i64 ((i : Int) + 0) = (i : Int) := by rw [Int.add_zero]; exact d3a (by omega)
  have w4 : IntKind.wrap .i64 ((i : Int) + 1) = ((i + 1 : Nat) : Int) := by rw [a0c] <;> omega
  have hLB2 : LB = 2 ^ (32 - n) * 2 ^ n := by rw [← Nat.pow_add, show 32 - n + n = 32 by omega]
  have w5 : IntKind.wrap .u32 ((l.getD i 0 * 2 ^ n : Nat) : Int) = ((l.getD i 0 % 2 ^ (32 - n) * 2 ^ n : Nat) : Int) := by
   rw [a1W]; congr 1
   rw [hLB2, Nat.mul_mod_mul_right]
  have hy : dig (val (l.take i) * 2 ^ n) i < 2 ^ n := by
   unfold dig
   refine Nat.lt_of_le_of_lt (Nat.mod_le _ _) ?_
   rw [Nat.div_lt_iff_lt_mul (a5g i), Nat.mul_comm]
   exact Nat.mul_lt_mul_of_pos_left (a3c hlim i) (Nat.pow_pos (by decide))
  have w6 := e1Q (x := l.getD i 0 % 2 ^ (32 - n)) n (Nat.mod_lt _ (Nat.pow_pos (by decide))) (by omega) hy
  refine Safe.rg rfl ?_
  simp only [c5r, w3, e1p (show i < l.length + 1 by omega), fat0 (show i < l.length + 1 by omega), w5, w6, fst0 (show i < l.length + 1 by omega), E3, seval]
  have hq2 : l.getD i 0 * 2 ^ n / LB < LB := by
   rw [Nat.div_lt_iff_lt_mul (by decide)]
   have h2n : 2 ^ n ≤ LB := by rw [hLB2]; exact Nat.le_mul_of_pos_left _ (Nat.pow_pos (by decide))
   exact Nat.lt_of_lt_of_le (Nat.mul_lt_mul_of_pos_right hai (Nat.pow_pos (by decide))) (Nat.mul_le_mul_left _ h2n)
  refine Safe.rg rfl ?_
  simp only [c5q, w3, w4, e2l, a9X hq2, e1p (show i + 1 < l.length + 1 by omega), fst0 (show i + 1 < l.length + 1 by omega), E3, seval]
  refine Safe.rg rfl ?_
  simp only [c5p, w4, E3, seval]
  refine Safe.keep [0, 5, 6, 7, 27, 28] ?_
  simp only [E3, seval]
  rw [a2Z fun j _ => e5r hlim hi hn j]
  exact ih
 ·refine Safe.inLoop ?_
  refine Safe.rg rfl ?_
  simp only [b9s, Int.lt_irrefl, E3, seval]
  refine Safe.cd rfl ?_
  simp only [E3, seval]
  rw [List.take_length]
  refine Safe.rg rfl ?_
  simp only [c5o, E3, seval]
  have hb : val l * 2 ^ n < LB ^ (l.length + 1) := by
   rw [Nat.pow_succ]
   have h2n : 2 ^ n ≤ LB := by
    have : LB = 2 ^ (32 - n) * 2 ^ n := by rw [← Nat.pow_add, show 32 - n + n = 32 by omega]
    rw [this]; exact Nat.le_mul_of_pos_left _ (Nat.pow_pos (by decide))
   exact Nat.lt_of_lt_of_le (Nat.mul_lt_mul_of_pos_right (a1d hlim) (Nat.pow_pos (by decide))) (Nat.mul_le_mul_left _ h2n)
  refine a0m.mono (e8z _ (a1y _ _) (by rw [a0M]; omega) (e3H rfl) (l.length + 1) (a0M _ _).symm (some (l.length + 1))) ?_
  rintro r' H' ⟨rfl, rfl⟩
  rw [a1N hb]
  simp only [E3, seval]
  refine Safe.rt rfl ?_
  simp only [E3, seval]
theorem a2I (l : List Nat) (i : Nat) : val (l.drop i) = l.getD i 0 + LB * val (l.drop (i + 1)) := by
 rcases Nat.lt_or_ge i l.length with h | h
 ·rw [List.drop_eq_getElem_cons h, List.getD_eq_getElem?_getD, List.getElem?_eq_getElem h]; rfl
 ·rw [List.drop_eq_nil_of_le h, List.drop_eq_nil_of_le (by omega), a6K h]; rfl
theorem d6w {l : List Nat} (hl : Lim l) (i : Nat) : val l / LB ^ i = val (l.drop i) := by
 rw [a3A l i, Nat.add_mul_div_left _ _ (a5g i), Nat.div_eq_of_lt (a3c hl i), Nat.zero_add]
theorem d8A {l : List Nat} (hl : Lim l) (i : Nat) {n : Nat} (hn : n < 32) : (l.getD (i + 1) 0 * LB + l.getD i 0) / 2 ^ n % LB = dig (val l / 2 ^ n) i := by
 have hLB : LB = 2 ^ (32 - n) * 2 ^ n := by rw [← Nat.pow_add, show 32 - n + n = 32 by omega]
 unfold dig
 rw [Nat.div_div_eq_div_mul, Nat.mul_comm (2 ^ n), ← Nat.div_div_eq_div_mul, d6w hl, a2I, a2I l (i + 1)]
 have e : l.getD i 0 + LB * (l.getD (i + 1) 0 + LB * val (l.drop (i + 1 + 1))) = (l.getD (i + 1) 0 * LB + l.getD i 0) + 2 ^ n * (LB * (2 ^ (32 - n) * val (l.drop (i + 1 + 1)))) := by
  have h1 : LB * (LB * val (l.drop (i + 1 + 1))) = 2 ^ n * (LB * (2 ^ (32 - n) * val (l.drop (i + 1 + 1)))) := by
   conv => lhs; rw [Nat.mul_left_comm]; lhs; rw [hLB]
   rw [Nat.mul_comm (2 ^ (32 - n)), Nat.mul_assoc]
   congr 1
   rw [Nat.mul_left_comm]
  rw [Nat.mul_add, h1, Nat.mul_comm LB (l.getD (i + 1) 0)]
  omega
 rw [e, Nat.add_mul_div_left _ _ (Nat.pow_pos (by decide)), Nat.add_mul_mod_self_left]
theorem d1f (a : List Nat) (n : Nat) (ha : Nt a) (hn : n < 32) : a0d Pr b8P [natV a, .int .i64 n] (natV (limbs (val a / 2 ^ n))) := by
 have hlb := ha.limbs.len
 have hlim := a0b (val a)
 have hval := a0a (val a)
 have hLB : LB = 4294967296 := rfl
 refine a0d.introL e0t e0s (Nat.le_of_ble_eq_true rfl) (a0V _) fun H hH => ?_
 refine Safe.rg rfl ?_
 simp only [c9g, E3, seval]
 refine Safe.rg rfl ?_
 simp only [c9f, E3, seval]
 first | refine (a0p a ha.lim ha.len).acall ?_ | refine (a0p a ha.lim ha.len).dcall ?_ | refine (a0p a ha.lim ha.len).dgcall ?_
 try simp only [E3, seval]
 generalize limbs (val a) = l at *
 generalize val a = A at *
 subst hval
 have hq : binV .quo (.int .i64 (n : Int)) (.int .i64 32) = some (.int .i64 0) := by
  have := e5A (x := n) (y := 32) (by decide) (by omega)
  rw [Nat.div_eq_of_lt hn] at this; exact this
 have hr : binV .rem (.int .i64 (n : Int)) (.int .i64 32) = some (.int .i64 (n : Int)) := by
  have := e5y (x := n) (y := 32) (by decide)
  rw [Nat.mod_eq_of_lt hn] at this; exact this
 refine Safe.rg rfl ?_
 simp only [c9e, hq, hr, a2r (x := n) (by omega), E3, seval]
 by_cases h0 : l.length = 0
 ·have hc : ((l.length : Int) ≤ 0) = True := eq_true (by omega)
  refine Safe.rg rfl ?_
  simp only [b9r, hc, E3, seval]
  refine Safe.cd rfl ?_
  simp only [E3, seval]
  refine Safe.rg rfl ?_
  simp only [c9d, E3, seval]
  have : l = [] := List.length_eq_zero_iff.1 h0
  subst this
  refine Safe.rt rfl ?_
  simp only [E3, seval]
  refine ⟨?_, [], rfl⟩
  have : limbs (val [] / 2 ^ n) = [] := by simp [val, a0J]
  rw [this]
  exact Le.nil 1 (by decide)
 ·have hc : ((l.length : Int) ≤ 0) = False := eq_false (by omega)
  refine Safe.rg rfl ?_
  simp only [b9r, hc, E3, seval]
  refine Safe.cd rfl ?_
  simp only [E3, seval]
  have w1 : IntKind.wrap .i64 ((l.length : Int) - 0) = (l.length : Int) := by rw [Int.sub_zero]; exact d3a (by omega)
  refine Safe.rg rfl ?_
  simp only [c9c, w1, b9D (H := H) (L := []) (n := l.length) (by omega), E3, seval]
  refine Safe.rg rfl ?_
  simp only [c9b, e9d, E3, seval]
  refine Safe.lp rfl ?_
  refine Safe.keep [0, 5, 6, 7, 27, 28] ?_
  simp only [E3, seval]
  refine Safe.loopN l.length (fun i => [(0, natV l), (5, .int .i64 0), (6, .int .u64 (n : Int)), (7, .mu (lid H 0) 0 l.length (some l.length)), (27, .int .i64 l.length), (28, .int .i64 i)])
   (fun i => hap H [some ⟨1, u32s (fl l.length fun j => if j < i then dig (val l / 2 ^ n) j else 0)⟩]) rfl ?_ (fun i hi ih => ?_) ?_
  ·congr 5
  ·have hlt : ((i : Int) < (l.length : Int)) = True := eq_true (by omega)
   refine Safe.inLoop ?_
   refine Safe.rg rfl ?_
   simp only [b9q, hlt, E3, seval]
   refine Safe.cd rfl ?_
   simp only [E3, seval]
   have hai := a0L hlim i
   have hai1 := a0L hlim (i + 1)
   have w3 : IntKind.wrap .i64 ((i : Int) + 0) = (i : Int) := by rw [Int.add_zero]; exact d3a (by omega)
   have w4 : IntKind.wrap .i64 ((i : Int) + 1) = ((i + 1 : Nat) : Int) := by rw [a0c] <;> omega
   refine Safe.rg rfl ?_
   simp only [c9a, E3, seval]
   refine Safe.rg rfl ?_
   simp only [c8Z, a0E _ l _ i hi, a2r (x := l.getD i 0) (by omega), w3, E3, seval]
   have rest : ∀ env : Env, look env 0 = natV l → look env 5 = .int .i64 0 → look env 6 = .int .u64 (n : Int) → look env 7 = .mu (lid H 0) 0 l.length (some l.length) → look env 27 = .int .i64 l.length → look env 28 = .int .i64 i → look env 8 = .int .i64 i →
     look env 9 = .int .u64 (l.getD (i + 1) 0 * LB + l.getD i 0 : Nat) → Safe ⟨Pr, fun _ _ => false, b8P, 66, [.tmp 4], H.length⟩ [.code (.region b5c false), .inBlock 1, .code (.region b5b false), .inLoop c9h, .inBlock 0, .code ((ACode.region b5a false).seq .ret)]
      env (hap H [some ⟨1, u32s (fl l.length fun j => if j < i then dig (val l / 2 ^ n) j else 0)⟩]) fun r' H' => Le r' (natV (limbs (val l / 2 ^ n))) ∧ ∃ L, H' = hap H L := by
    intro env e0 e5 e6 e7 e27 e28 e8 e9
    have w5 := a1W ((l.getD (i + 1) 0 * LB + l.getD i 0) / 2 ^ n)
    rw [d8A hlim i hn] at w5
    refine Safe.rg rfl ?_
    simp only [b5c, e7, e8, e9, e6, e8D (show n ≤ 64 by omega), w5, e1p hi, fst0 hi, E3, seval]
    refine Safe.inBlock ?_
    refine Safe.rg rfl ?_
    simp only [b5b, e28, w4, E3, seval]
    refine Safe.keep [0, 5, 6, 7, 27, 28] ?_
    simp only [E3, seval]
    simp only [e0, e5, e6, e7, e27]
    rw [show (fl l.length fun j => if j = i then dig (val l / 2 ^ n) i else if j < i then dig (val l / 2 ^ n) j else 0) = fl l.length fun j => if j < i + 1 then dig (val l / 2 ^ n) j else 0 from a2Z fun j _ => by
     by_cases h : j = i
     ·subst h; rw [if_pos rfl, if_pos (by omega)]
     ·rw [if_neg h]
      by_cases h2 : j < i
      ·rw [if_pos h2, if_pos (by omega)]
      ·rw [if_neg h2, if_neg (by omega)]]
    exact ih
   by_cases h1 : i + 1 < l.length
   ·have hlt1 : (((i + 1 : Nat) : Int) < (l.length : Int)) = True := eq_true (by omega)
    refine Safe.rg rfl ?_
    simp only [b5d, w3, w4, hlt1, E3, seval]
    refine Safe.cd rfl ?_
    simp only [E3, seval]
    refine Safe.rg rfl ?_
    simp only [c5n, w3, w4, a0E _ l _ (i + 1) h1, a2r (x := l.getD (i + 1) 0) (by omega), e8F hai1, d9E hai1 hai, E3, seval]
    exact rest _ (by simp only [E3, seval]) (by simp only [E3, seval]) (by simp only [E3, seval]) (by simp only [E3, seval]) (by simp only [E3, seval]) (by simp only [E3, seval]) (by simp only [E3, seval]) (by simp only [E3, seval])
   ·have hlt1 : (((i + 1 : Nat) : Int) < (l.length : Int)) = False := eq_false (by omega)
    refine Safe.rg rfl ?_
    simp only [b5d, w3, w4, hlt1, E3, seval]
    refine Safe.cd rfl ?_
    simp only [E3, seval]
    have hz : l.getD (i + 1) 0 * LB + l.getD i 0 = l.getD i 0 := by rw [a6K (a := l) (i := i + 1) (by omega)]; omega
    refine Safe.skip (rest _ (by simp only [E3, seval]) (by simp only [E3, seval]) (by simp only [E3, seval]) (by simp only [E3, seval]) (by simp only [E3, seval]) (by simp only [E3, seval]) (by simp only [E3, seval]) (by rw [hz]; simp only [E3, seval]))
  ·refine Safe.inLoop ?_
   refine Safe.rg rfl ?_
   simp only [b9q, Int.lt_irrefl, E3, seval]
   refine Safe.cd rfl ?_
   simp only [E3, seval]
   refine Safe.freeze 0 hH rfl rfl (a0F _) ?_
   refine Safe.keep [7] ?_
   simp only [d5x, E3, seval]
   rw [show (fl l.length fun j => if j < l.length then dig (val l / 2 ^ n) j else 0) = fl l.length (dig (val l / 2 ^ n)) from a2Z fun j hj => if_pos hj]
   refine Safe.rg rfl ?_
   simp only [b5a, E3, seval]
   first | refine (a0p _ (a1y _ _) (by rw [a0M]; omega)).acall ?_ | refine (a0p _ (a1y _ _) (by rw [a0M]; omega)).dcall ?_ | refine (a0p _ (a1y _ _) (by rw [a0M]; omega)).dgcall ?_
   try simp only [E3, seval]
   simp only [a1N (b2N (a1d hlim) (d := 2 ^ n)), E3, seval]
   refine Safe.rt rfl ?_
   simp only [E3, seval]
   exact ⟨Le.refl _, _, rfl⟩
def xr (g : Nat → Nat) (off : Nat) (x : List Nat) : Nat → Nat := fun j => if off ≤ j ∧ j < off + x.length then x.getD (j - off) 0 else g j
section
variable {g : Nat → Nat} {off N : Nat} {x y : List Nat}
theorem e7H : xr g off [] = g := by funext j; unfold xr; rw [if_neg (by simp)]
theorem e1P (d : Nat) : (fun j => if j = off + x.length then d else xr g off x j) = xr g off (x ++ [d]) := by
 funext j; unfold xr
 rw [List.length_append, List.length_singleton]
 by_cases h : j = off + x.length
 ·subst h; rw [if_pos rfl, if_pos (by omega), Nat.add_sub_cancel_left]; simp
 ·rw [if_neg h]
  by_cases h2 : off ≤ j ∧ j < off + x.length
  ·rw [if_pos h2, if_pos (by omega)]
   simp only [List.getD_eq_getElem?_getD]
   rw [List.getElem?_append_left (by omega)]
  ·rw [if_neg h2, if_neg (by omega)]
theorem f0O : xr g off x (off + x.length) = g (off + x.length) := by unfold xr; rw [if_neg (by omega)]
theorem f2e (hg : ∀ i, i < N → g i < LB) (hx : Lim x) : ∀ i, i < N → xr g off x i < LB := by
 intro i hi; unfold xr; split
 ·exact a0L hx _
 ·exact hg i hi
theorem f0N : fl x.length (fun i => xr g off x (off + i)) = x := by
 refine Eq.trans ?_ (e9J (l := x) rfl).symm
 refine a2Z fun i hi => ?_
 unfold xr; rw [if_pos (by omega), Nat.add_sub_cancel_left]
theorem f2d (h : x.length = y.length) : xr (xr g off x) off y = xr g off y := by
 funext j; unfold xr; rw [h]
 split
 ·rfl
 ·rfl
end
section
variable {H L : Heap} {id N : Nat} {f : Nat → Nat} (hid : id < H.length)
include hid
theorem ofat {j : Nat} (h : j < N) : atV (hap (H.set id (some ⟨1, u32s (fl N f)⟩)) L) (.loc id j 0) = some [.int .u32 (f j : Nat)] := by
 rw [f1p hid _ j (by rw [a0D, a0M]; exact h)]
 simp only [b0H (l := fl N f) (i := j) (by rw [a0M]; exact h), b8j h, AV.cells]
theorem ofst {env : Env} {j : Nat} (h : j < N) (d : Nat) : a2s 1 (.loc id j 0) (.int .u32 (d : Int)) env (hap (H.set id (some ⟨1, u32s (fl N f)⟩)) L) = some (.top, env, hap (H.set id (some ⟨1, u32s (fl N fun i => if i = j then d else f i)⟩)) L) := by
 rw [f1o hid env _ 1 j _ (by rw [a0D, a0M]; exact h) rfl rfl (Nat.le_refl 1)]
 simp only [a3B, c3J, e3T]
end
noncomputable abbrev digX (n0 : Nat) : Cx := ⟨Pr, fun _ _ => false, a9Q, 117, [.tmp 4], n0⟩
theorem e4d {H : Heap} {id off N n : Nat} {oc : Option Nat} {v : List Nat} {g : Nat → Nat} {todo : List AItem} {R : AV → Heap → Prop} {q b : Nat} (hid : id < H.length) (hv : Lim v) (hn : v.length = n) (hoff : off + n + 1 ≤ N) (hN : N ≤ 17592186044416) (hg : ∀ i, i < N → g i < LB)
  (k : ∀ y c, y.length = n + 1 → Lim y → c ≤ 1 → val y + LB ^ (n + 1) * c = val (fl (n + 1) fun i => g (off + i)) + val v →
   Safe (digX H.length) todo [(0, .mu id off (n + 1) oc), (1, natV v), (5, .int .i64 n), (7, .int .u64 q), (9, .int .u64 b), (13, .int .u64 c)] (hap (H.set id (some ⟨1, u32s (fl N (xr g off y))⟩)) []) R) :
  Safe (digX H.length) (.inLoop a6A :: .inBlock 4 :: todo) [(0, .mu id off (n + 1) oc), (1, natV v), (5, .int .i64 n), (7, .int .u64 q), (9, .int .u64 b), (13, .int .u64 0), (83, .int .i64 ((n + 1 : Nat) : Int)), (84, .int .i64 0)] (hap (H.set id (some ⟨1, u32s (fl N g)⟩)) []) R := by
 have hLB : LB = 4294967296 := rfl
 have key : ∀ (m i c : Nat) (y : List Nat), i + m = n + 1 → y.length = i → Lim y → c ≤ 1 → val y + LB ^ i * c = val ((fl (n + 1) fun i => g (off + i)).take i) + val (v.take i) →
   Safe (digX H.length) (.inLoop a6A :: .inBlock 4 :: todo) [(0, .mu id off (n + 1) oc), (1, natV v), (5, .int .i64 n), (7, .int .u64 q), (9, .int .u64 b), (13, .int .u64 c), (83, .int .i64 ((n + 1 : Nat) : Int)), (84, .int .i64 i)] (hap (H.set id (some ⟨1, u32s (fl N (xr g off y))⟩)) []) R := by
  intro m
  induction m with
  | zero =>
   intro i c y him hy ly hc hval
   have hi : i = n + 1 := by omega
   subst hi
   refine Safe.inLoop ?_
   refine Safe.rg rfl ?_
   simp only [a9f, Int.lt_irrefl, E3, seval]
   refine Safe.cd rfl ?_
   simp only [E3, seval]
   refine Safe.exit rfl ?_
   refine Safe.keep [0, 1, 5, 7, 9, 13] ?_
   simp only [E3, seval]
   refine k y c hy ly hc ?_
   rw [hval, List.take_of_length_le (l := fl _ _) (by rw [a0M]; omega), List.take_of_length_le (l := v) (by omega)]
  | succ m ih =>
   intro i c y him hy ly hc hval
   have hlt : ((i : Int) < ((n + 1 : Nat) : Int)) = True := eq_true (by omega)
   refine Safe.inLoop ?_
   refine Safe.rg rfl ?_
   simp only [a9f, hlt, E3, seval]
   refine Safe.cd rfl ?_
   simp only [E3, seval]
   have hgi : g (off + i) < LB := hg _ (by omega)
   have hxi : xr g off y (off + i) = g (off + i) := by subst hy; exact f0O
   have hvi := a0L hv i
   refine Safe.rg rfl ?_
   simp only [b7C, E3, seval]
   refine Safe.rg rfl ?_
   simp only [b7B, b9n hid 1 _ off (n + 1) i oc .i64 (show i < n + 1 by omega), ofat hid (show off + i < N by omega), hxi, a2r (x := g (off + i)) (by omega), a5x (x := c) (y := g (off + i)) (by omega), E3, seval]
   have rest : ∀ env : Env, look env 0 = .mu id off (n + 1) oc → look env 1 = natV v → look env 5 = .int .i64 n → look env 7 = .int .u64 q → look env 9 = .int .u64 b → look env 83 = .int .i64 ((n + 1 : Nat) : Int) → look env 84 = .int .i64 i → look env 14 = .int .i64 i → look env 13 = .int .u64 (c + g (off + i) + v.getD i 0 : Nat) →
     Safe (digX H.length) (.code (.seq (.region a9d false) (.region a9c false)) :: .inBlock 5 :: .code (.region a9b false) :: .inLoop a6A :: .inBlock 4 :: todo) env (hap (H.set id (some ⟨1, u32s (fl N (xr g off y))⟩)) []) R := by
    intro env e0 e1 e5 e7 e9 e83 e84 e14 e13
    have w5 := a1W (c + g (off + i) + v.getD i 0)
    refine Safe.rg rfl ?_
    simp only [a9d, e0, e14, e13, w5, b9n hid 1 _ off (n + 1) i oc .i64 (show i < n + 1 by omega), ofst hid (show off + i < N by omega), E3, seval]
    refine Safe.rg rfl ?_
    simp only [a9c, e13, e2l, E3, seval]
    refine Safe.inBlock ?_
    have w4 : IntKind.wrap .i64 ((i : Int) + 1) = ((i + 1 : Nat) : Int) := by rw [a0c] <;> omega
    refine Safe.rg rfl ?_
    simp only [a9b, e84, w4, E3, seval]
    refine Safe.keep [0, 1, 5, 7, 9, 13, 83, 84] ?_
    simp only [E3, seval]
    simp only [e0, e1, e5, e7, e9, e83]
    rw [← hy, e1P, hy]
    refine ih (i + 1) _ _ (by omega) (by simp [hy]) (a1u ly (Nat.mod_lt _ (by decide))) ?_ ?_
    ·have : c + g (off + i) + v.getD i 0 < LB * 2 := by omega
     have := Nat.div_lt_of_lt_mul this
     omega
    ·rw [a2H, hy, a0k, a0k, Nat.pow_succ, b8j (by omega)]
     exact d1a (i := 0) hval
   by_cases hin : i < n
   ·have hl2 : ((i : Int) < (n : Int)) = True := eq_true (by omega)
    refine Safe.rg rfl ?_
    simp only [a9e, hl2, E3, seval]
    refine Safe.cd rfl ?_
    simp only [E3, seval]
    refine Safe.rg rfl ?_
    simp only [b7A, a0E _ v _ i (by omega), a2r (x := v.getD i 0) (by omega), a5x (x := c + g (off + i)) (y := v.getD i 0) (by omega), E3, seval]
    exact rest _ (by simp only [E3, seval]) (by simp only [E3, seval]) (by simp only [E3, seval]) (by simp only [E3, seval]) (by simp only [E3, seval]) (by simp only [E3, seval]) (by simp only [E3, seval]) (by simp only [E3, seval]) (by simp only [E3, seval])
   ·have hl2 : ((i : Int) < (n : Int)) = False := eq_false (by omega)
    refine Safe.rg rfl ?_
    simp only [a9e, hl2, E3, seval]
    refine Safe.cd rfl ?_
    simp only [E3, seval]
    have hz : c + g (off + i) + v.getD i 0 = c + g (off + i) := by rw [a6K (a := v) (by omega), Nat.add_zero]
    exact Safe.skip (rest _ (by simp only [E3, seval]) (by simp only [E3, seval]) (by simp only [E3, seval]) (by simp only [E3, seval]) (by simp only [E3, seval]) (by simp only [E3, seval]) (by simp only [E3, seval]) (by simp only [E3, seval]) (by rw [hz]; simp only [E3, seval]))
 have := key (n + 1) 0 0 [] (by omega) rfl b9K (by omega) (by simp [val])
 rw [e7H] at this
 exact this
theorem e5n {vx qv vu B b c q vi lo d bo c' u : Nat} (h : vx + qv = vu + B * (b + c)) (hd : u + LB * bo = d + lo + b) (hl : lo + LB * c' = c + q * vi) : (vx + B * d) + (qv + B * (q * vi)) = (vu + B * u) + (B * LB) * (bo + c') := by
 have e1 : B * (u + LB * bo) = B * (d + lo + b) := by rw [hd]
 have e2 : B * (lo + LB * c') = B * (c + q * vi) := by rw [hl]
 simp only [Nat.mul_add, ← Nat.mul_assoc] at *
 omega
theorem e4c {H : Heap} {id off N n : Nat} {oc : Option Nat} {v : List Nat} {g : Nat → Nat} {todo : List AItem} {R : AV → Heap → Prop} {q : Nat} (hid : id < H.length) (hv : Lim v) (hn : v.length = n) (hoff : off + n + 1 ≤ N) (hN : N ≤ 17592186044416) (hg : ∀ i, i < N → g i < LB) (hq : q < LB)
  (k : ∀ y b, y.length = n + 1 → Lim y → b ≤ 1 → val y + q * val v = val (fl (n + 1) fun i => g (off + i)) + LB ^ (n + 1) * b →
   Safe (digX H.length) todo [(0, .mu id off (n + 1) oc), (1, natV v), (5, .int .i64 n), (7, .int .u64 q), (9, .int .u64 b)] (hap (H.set id (some ⟨1, u32s (fl N (xr g off y))⟩)) []) R) :
  Safe (digX H.length) (.inLoop a6B :: .inBlock 0 :: todo) [(0, .mu id off (n + 1) oc), (1, natV v), (5, .int .i64 n), (7, .int .u64 q), (8, .int .u64 0), (9, .int .u64 0), (40, .int .i64 ((n + 1 : Nat) : Int)), (41, .int .i64 0)] (hap (H.set id (some ⟨1, u32s (fl N g)⟩)) []) R := by
 have hLB : LB = 4294967296 := rfl
 have key : ∀ (m i b c : Nat) (y : List Nat), i + m = n + 1 → y.length = i → Lim y → b ≤ 1 → c < LB → val y + q * val (v.take i) = val ((fl (n + 1) fun i => g (off + i)).take i) + LB ^ i * (b + c) → LB ^ i * c ≤ q * val (v.take i) →
   Safe (digX H.length) (.inLoop a6B :: .inBlock 0 :: todo) [(0, .mu id off (n + 1) oc), (1, natV v), (5, .int .i64 n), (7, .int .u64 q), (8, .int .u64 c), (9, .int .u64 b), (40, .int .i64 ((n + 1 : Nat) : Int)), (41, .int .i64 i)] (hap (H.set id (some ⟨1, u32s (fl N (xr g off y))⟩)) []) R := by
  intro m
  induction m with
  | zero =>
   intro i b c y him hy ly hb hc hval hcl
   have hi : i = n + 1 := by omega
   subst hi
   refine Safe.inLoop ?_
   refine Safe.rg rfl ?_
   simp only [b1o, Int.lt_irrefl, E3, Nat.reduceLeDiff, Nat.reduceSub, Nat.reduceAdd, Nat.reduceEqDiff, reduceCtorEq, ↓reduceIte]
   refine Safe.cd rfl ?_
   simp only [E3, Nat.reduceLeDiff, Nat.reduceSub, Nat.reduceAdd, Nat.reduceEqDiff, reduceCtorEq, ↓reduceIte]
   refine Safe.exit rfl ?_
   refine Safe.keep [0, 1, 5, 7, 9] ?_
   simp only [E3, Nat.reduceLeDiff, Nat.reduceSub, Nat.reduceAdd, Nat.reduceEqDiff, reduceCtorEq, ↓reduceIte]
   refine k y b hy ly hb ?_
   rw [List.take_of_length_le (l := v) (by omega)] at hval hcl
   rw [List.take_of_length_le (l := fl _ _) (by rw [a0M]; omega)] at hval
   have hc0 : c = 0 := by
    have h1 := a1d hv
    rw [hn] at h1
    have h2 : q * val v < LB * LB ^ n := Nat.mul_lt_mul'' hq h1
    rw [← Nat.pow_succ'] at h2
    have h3 : LB ^ (n + 1) * c < LB ^ (n + 1) * 1 := by rw [Nat.mul_one]; exact Nat.lt_of_le_of_lt hcl h2
    have := Nat.lt_of_mul_lt_mul_left h3
    omega
   rw [hval, hc0, show b + 0 = b from rfl]
  | succ m ih =>
   intro i b c y him hy ly hb hc hval hcl
   have hlt : ((i : Int) < ((n + 1 : Nat) : Int)) = True := eq_true (by omega)
   refine Safe.inLoop ?_
   refine Safe.rg rfl ?_
   simp only [b1o, hlt, E3, Nat.reduceLeDiff, Nat.reduceSub, Nat.reduceAdd, Nat.reduceEqDiff, reduceCtorEq, ↓reduceIte]
   refine Safe.cd rfl ?_
   simp only [E3, Nat.reduceLeDiff, Nat.reduceSub, Nat.reduceAdd, Nat.reduceEqDiff, reduceCtorEq, ↓reduceIte]
   have hgi : g (off + i) < LB := hg _ (by omega)
   have hxi : xr g off y (off + i) = g (off + i) := by subst hy; exact f0O
   have hvi := a0L hv i
   have hqv : c + q * v.getD i 0 < LB * LB := by
    have h1 : q * v.getD i 0 ≤ (LB - 1) * (LB - 1) := Nat.mul_le_mul (by omega) (by omega)
    have h2 : (LB - 1) * (LB - 1) + (LB - 1) < LB * LB := by decide
    omega
   have hqv2 : LB * LB = 18446744073709551616 := by decide
   refine Safe.rg rfl ?_
   simp only [c2O, E3, Nat.reduceLeDiff, Nat.reduceSub, Nat.reduceAdd, Nat.reduceEqDiff, reduceCtorEq, ↓reduceIte]
   refine Safe.rg rfl ?_
   simp only [c2N, E3, Nat.reduceLeDiff, Nat.reduceSub, Nat.reduceAdd, Nat.reduceEqDiff, reduceCtorEq, ↓reduceIte]
   have rest : ∀ env : Env, look env 0 = .mu id off (n + 1) oc → look env 1 = natV v → look env 5 = .int .i64 n → look env 7 = .int .u64 q → look env 9 = .int .u64 b → look env 40 = .int .i64 ((n + 1 : Nat) : Int) → look env 41 = .int .i64 i → look env 10 = .int .i64 i → look env 11 = .int .u64 (c + q * v.getD i 0 : Nat) →
     Safe (digX H.length) (.code (.seq (.region a9k false) (.seq (.region a9j false) (.seq (.region a9i false) (.region a9h false)))) :: .inBlock 1 :: .code (.region a9g false) :: .inLoop a6B :: .inBlock 0 :: todo) env (hap (H.set id (some ⟨1, u32s (fl N (xr g off y))⟩)) []) R := by
    intro env e0 e1 e5 e7 e9 e40 e41 e10 e11
    have w5 := a1W (c + q * v.getD i 0)
    have htl : (c + q * v.getD i 0) % LB < LB := Nat.mod_lt _ (by decide)
    have htm := Nat.mod_add_div (c + q * v.getD i 0) LB
    have htd : (c + q * v.getD i 0) / LB < LB := by rw [Nat.div_lt_iff_lt_mul (by decide)]; exact hqv
    have h4w : IntKind.wrap .u64 (IntKind.wrap .u64 (((g (off + i) : Nat) : Int) - (((c + q * v.getD i 0) % LB : Nat) : Int)) - (b : Int)) = (((g (off + i) : Nat) : Int) - (((c + q * v.getD i 0) % LB : Nat) : Int) - (b : Int)) % 18446744073709551616 := by
     rw [a1l, a1l]; omega
    refine Safe.rg rfl ?_
    simp only [a9k, e11, e2l, E3, Nat.reduceLeDiff, Nat.reduceSub, Nat.reduceAdd, Nat.reduceEqDiff, reduceCtorEq, ↓reduceIte]
    refine Safe.rg rfl ?_
    simp only [a9j, e0, e10, e11, e9, b9n hid 1 _ off (n + 1) i oc .i64 (show i < n + 1 by omega), ofat hid (show off + i < N by omega), hxi, a2r (x := g (off + i)) (by omega), w5, a2r (x := (c + q * v.getD i 0) % LB) (by omega), h4w, E3, Nat.reduceLeDiff, Nat.reduceSub, Nat.reduceAdd, Nat.reduceEqDiff, reduceCtorEq, ↓reduceIte]
    obtain ⟨d, bo, hd, hbo, hdl, hD, hB⟩ : ∃ d bo : Nat, g (off + i) + LB * bo = d + (c + q * v.getD i 0) % LB + b ∧ bo ≤ 1 ∧ d < LB ∧ ((((g (off + i) : Nat) : Int) - (((c + q * v.getD i 0) % LB : Nat) : Int) - (b : Int)) % 18446744073709551616) % 4294967296 = (d : Int) ∧ ((((g (off + i) : Nat) : Int) - (((c + q * v.getD i 0) % LB : Nat) : Int) - (b : Int)) % 18446744073709551616) / 9223372036854775808 = (bo : Int) := by
     generalize (c + q * v.getD i 0) % LB = lo at *
     by_cases hlt : g (off + i) < lo + b
     ·exact ⟨g (off + i) + LB - lo - b, 1, by omega, by omega, by omega, by omega, by omega⟩
     ·exact ⟨g (off + i) - lo - b, 0, by omega, by omega, by omega, by omega, by omega⟩
    refine Safe.rg rfl ?_
    simp only [a9i, e0, e10, b5T, hD, b9n hid 1 _ off (n + 1) i oc .i64 (show i < n + 1 by omega), ofst hid (show off + i < N by omega), E3, Nat.reduceLeDiff, Nat.reduceSub, Nat.reduceAdd, Nat.reduceEqDiff, reduceCtorEq, ↓reduceIte]
    have hs63 : ∀ n : Int, Int.fdiv n (2 ^ min (Int.toNat 63) IntKind.u64.bits) = n / 9223372036854775808 := by
     intro n
     rw [show (2 : Int) ^ min (Int.toNat 63) IntKind.u64.bits = 9223372036854775808 by decide, Int.fdiv_eq_ediv_of_nonneg _ (by decide)]
    refine Safe.rg rfl ?_
    simp only [a9h, a3J _ _ _ (show (0 : Int) ≤ 63 by decide), hs63, hB, E3, Nat.reduceLeDiff, Nat.reduceSub, Nat.reduceAdd, Nat.reduceEqDiff, reduceCtorEq, ↓reduceIte]
    refine Safe.inBlock ?_
    have w4 : IntKind.wrap .i64 ((i : Int) + 1) = ((i + 1 : Nat) : Int) := by rw [a0c] <;> omega
    refine Safe.rg rfl ?_
    simp only [a9g, e41, w4, E3, Nat.reduceLeDiff, Nat.reduceSub, Nat.reduceAdd, Nat.reduceEqDiff, reduceCtorEq, ↓reduceIte]
    refine Safe.keep [0, 1, 5, 7, 8, 9, 40, 41] ?_
    simp only [E3, Nat.reduceLeDiff, Nat.reduceSub, Nat.reduceAdd, Nat.reduceEqDiff, reduceCtorEq, ↓reduceIte]
    simp only [e0, e1, e5, e7, e40]
    rw [← hy, e1P, hy]
    refine ih (i + 1) bo _ _ (by omega) (by simp [hy]) (a1u ly hdl) hbo htd ?_ ?_
    ·rw [a2H, hy, a0k, a0k, Nat.pow_succ, b8j (by omega), Nat.mul_add, Nat.mul_left_comm]
     exact e5n hval hd htm
    ·rw [a0k, Nat.mul_add, Nat.mul_left_comm q, Nat.pow_succ, Nat.mul_assoc]
     have h1 : LB ^ i * (LB * ((c + q * v.getD i 0) / LB)) ≤ LB ^ i * (c + q * v.getD i 0) := Nat.mul_le_mul_left _ (Nat.mul_div_le _ _)
     rw [Nat.mul_add] at h1
     omega
   by_cases hin : i < n
   ·have hl2 : ((i : Int) < (n : Int)) = True := eq_true (by omega)
    refine Safe.rg rfl ?_
    simp only [b1n, hl2, E3, Nat.reduceLeDiff, Nat.reduceSub, Nat.reduceAdd, Nat.reduceEqDiff, reduceCtorEq, ↓reduceIte]
    refine Safe.cd rfl ?_
    simp only [E3, Nat.reduceLeDiff, Nat.reduceSub, Nat.reduceAdd, Nat.reduceEqDiff, reduceCtorEq, ↓reduceIte]
    refine Safe.rg rfl ?_
    simp only [b7G, a0E _ v _ i (by omega), a2r (x := v.getD i 0) (by omega), b8X (x := q) (y := v.getD i 0) (by omega), a5x (x := c) (y := q * v.getD i 0) (by omega), E3, Nat.reduceLeDiff, Nat.reduceSub, Nat.reduceAdd, Nat.reduceEqDiff, reduceCtorEq, ↓reduceIte]
    exact rest _ (by simp only [E3, Nat.reduceLeDiff, Nat.reduceSub, Nat.reduceAdd, Nat.reduceEqDiff, reduceCtorEq, ↓reduceIte]) (by simp only [E3, Nat.reduceLeDiff, Nat.reduceSub, Nat.reduceAdd, Nat.reduceEqDiff, reduceCtorEq, ↓reduceIte]) (by simp only [E3, Nat.reduceLeDiff, Nat.reduceSub, Nat.reduceAdd, Nat.reduceEqDiff, reduceCtorEq, ↓reduceIte]) (by simp only [E3, Nat.reduceLeDiff, Nat.reduceSub, Nat.reduceAdd, Nat.reduceEqDiff, reduceCtorEq, ↓reduceIte]) (by simp only [E3, Nat.reduceLeDiff, Nat.reduceSub, Nat.reduceAdd, Nat.reduceEqDiff, reduceCtorEq, ↓reduceIte]) (by simp only [E3, Nat.reduceLeDiff, Nat.reduceSub, Nat.reduceAdd, Nat.reduceEqDiff, reduceCtorEq, ↓reduceIte]) (by simp only [E3, Nat.reduceLeDiff, Nat.reduceSub, Nat.reduceAdd, Nat.reduceEqDiff, reduceCtorEq, ↓reduceIte]) (by simp only [E3, Nat.reduceLeDiff, Nat.reduceSub, Nat.reduceAdd, Nat.reduceEqDiff, reduceCtorEq, ↓reduceIte]) (by simp only [E3, Nat.reduceLeDiff, Nat.reduceSub, Nat.reduceAdd, Nat.reduceEqDiff, reduceCtorEq, ↓reduceIte])
   ·have hl2 : ((i : Int) < (n : Int)) = False := eq_false (by omega)
    refine Safe.rg rfl ?_
    simp only [b1n, hl2, E3, Nat.reduceLeDiff, Nat.reduceSub, Nat.reduceAdd, Nat.reduceEqDiff, reduceCtorEq, ↓reduceIte]
    refine Safe.cd rfl ?_
    simp only [E3, Nat.reduceLeDiff, Nat.reduceSub, Nat.reduceAdd, Nat.reduceEqDiff, reduceCtorEq, ↓reduceIte]
    have hz : c + q * v.getD i 0 = c := by rw [a6K (a := v) (by omega)]; omega
    exact Safe.skip (rest _ (by simp only [E3, Nat.reduceLeDiff, Nat.reduceSub, Nat.reduceAdd, Nat.reduceEqDiff, reduceCtorEq, ↓reduceIte]) (by simp only [E3, Nat.reduceLeDiff, Nat.reduceSub, Nat.reduceAdd, Nat.reduceEqDiff, reduceCtorEq, ↓reduceIte]) (by simp only [E3, Nat.reduceLeDiff, Nat.reduceSub, Nat.reduceAdd, Nat.reduceEqDiff, reduceCtorEq, ↓reduceIte]) (by simp only [E3, Nat.reduceLeDiff, Nat.reduceSub, Nat.reduceAdd, Nat.reduceEqDiff, reduceCtorEq, ↓reduceIte]) (by simp only [E3, Nat.reduceLeDiff, Nat.reduceSub, Nat.reduceAdd, Nat.reduceEqDiff, reduceCtorEq, ↓reduceIte]) (by simp only [E3, Nat.reduceLeDiff, Nat.reduceSub, Nat.reduceAdd, Nat.reduceEqDiff, reduceCtorEq, ↓reduceIte]) (by simp only [E3, Nat.reduceLeDiff, Nat.reduceSub, Nat.reduceAdd, Nat.reduceEqDiff, reduceCtorEq, ↓reduceIte]) (by simp only [E3, Nat.reduceLeDiff, Nat.reduceSub, Nat.reduceAdd, Nat.reduceEqDiff, reduceCtorEq, ↓reduceIte]) (by rw [hz]; simp only [E3, Nat.reduceLeDiff, Nat.reduceSub, Nat.reduceAdd, Nat.reduceEqDiff, reduceCtorEq, ↓reduceIte]))
 have := key (n + 1) 0 0 0 [] (by omega) rfl b9K (by omega) (by decide) (by simp [val]) (by simp)
 rw [e7H] at this
 exact this
theorem d8f {H : Heap} {id off N n : Nat} {oc : Option Nat} {v : List Nat} {f : Nat → Nat} (hl : H[id]? = some (some ⟨1, u32s (fl N f)⟩)) (hv : Lim v) (hn : v.length = n) (hn0 : 0 < n) (ht : 0 < v.getD (n - 1) 0) (hoff : off + n + 1 ≤ N) (hN : N ≤ 17592186044416) (hf : ∀ i, i < N → f i < LB)
  {S : Nat} (hS : val (fl (n + 1) fun i => f (off + i)) = S) (hlt : S < LB * val v) : a0m Pr a9Q [.mu id off (n + 1) oc, natV v] H fun r' H' => r' = .int .u32 (S / val v : Nat) ∧ H' = H.set id (some ⟨1, u32s (fl N (xr f off (fl (n + 1) (dig (S % val v)))))⟩) := by
 have hLB : LB = 4294967296 := rfl
 have hid := a0o hl
 have hv0 : 0 < val v := by
  have := a3A v (n - 1)
  have h2 : val (v.drop (n - 1)) ≠ 0 := by
   rw [a2I]; rw [show n - 1 + 1 = n by omega]; omega
  have h3 : 0 < LB ^ (n - 1) * val (v.drop (n - 1)) := Nat.mul_pos (a5g _) (by omega)
  omega
 have hUl : (fl (n + 1) fun i => f (off + i)).length = n + 1 := a0M _ _
 have hU : Lim (fl (n + 1) fun i => f (off + i)) := e7W fun i hi => hf _ (by omega)
 have hguess := d8Y hU hv hUl hn hn0 hv0 (by rw [hS]; exact hlt) ht
 rw [hS, b8j (by omega), b8j (by omega)] at hguess
 have hSl : S < LB ^ (n + 1) := by have := a1d hU; rw [hS, hUl] at this; exact this
 have hvl := a1d hv
 rw [hn] at hvl
 have hvle : val v ≤ LB ^ (n + 1) := by
  have : LB ^ n ≤ LB ^ (n + 1) := Nat.pow_le_pow_right (by decide) (by omega)
  omega
 have hvt : v.getD (n - 1) 0 < LB := a0L hv _
 have hfn : f (off + n) < LB := hf _ (by omega)
 have hfn1 : f (off + (n - 1)) < LB := hf _ (by omega)
 refine a0m.eff d4L d4K (Nat.le_of_ble_eq_true rfl) fun hH => ?_
 have h0 : hap H [] = hap (H.set id (some ⟨1, u32s (fl N f)⟩)) [] := by rw [e5s hl]
 rw [h0]
 refine Safe.rg rfl ?_
 simp only [c2U, E3, Nat.reduceLeDiff, Nat.reduceSub, Nat.reduceAdd, Nat.reduceEqDiff, reduceCtorEq, ↓reduceIte]
 refine Safe.rg rfl ?_
 simp only [c2T, a6C, E3, Nat.reduceLeDiff, Nat.reduceSub, Nat.reduceAdd, Nat.reduceEqDiff, reduceCtorEq, ↓reduceIte]
 have w1 : IntKind.wrap .i64 ((n : Int) - 1) = ((n - 1 : Nat) : Int) := by rw [a0c] <;> omega
 refine Safe.rg rfl ?_
 simp only [c2S, hn, w1, b9n hid 1 _ off (n + 1) n oc .i64 (Nat.lt_succ_self n), b9n hid 1 _ off (n + 1) (n - 1) oc .i64 (show n - 1 < n + 1 by omega), ofat hid (show off + n < N by omega), ofat hid (show off + (n - 1) < N by omega), a2r (x := f (off + n)) (by omega), a2r (x := f (off + (n - 1))) (by omega), e8F hfn, c4y hfn hfn1, E3, Nat.reduceLeDiff, Nat.reduceSub, Nat.reduceAdd, Nat.reduceEqDiff, reduceCtorEq, ↓reduceIte]
 have htop : f (off + n) * LB + f (off + (n - 1)) < 18446744073709551616 := by
  have : f (off + n) * LB ≤ 4294967295 * LB := Nat.mul_le_mul_right _ (by omega)
  omega
 have hmin : (if (4294967295 : Int) < (((f (off + n) * LB + f (off + (n - 1))) / v.getD (n - 1) 0 : Nat) : Int) then (4294967295 : Int) else (((f (off + n) * LB + f (off + (n - 1))) / v.getD (n - 1) 0 : Nat) : Int)) = ((min ((f (off + n) * LB + f (off + (n - 1))) / v.getD (n - 1) 0) (LB - 1) : Nat) : Int) := by
  generalize (f (off + n) * LB + f (off + (n - 1))) / v.getD (n - 1) 0 = z
  split
  ·rw [Nat.min_eq_right (by omega)]; rfl
  ·rw [Nat.min_eq_left (by omega)]
 refine Safe.rg rfl ?_
 simp only [c2R, hn, w1, a0E _ v _ (n - 1) (by omega), a2r (x := v.getD (n - 1) 0) (by omega), d1I ht htop, d8P, hmin, E3, Nat.reduceLeDiff, Nat.reduceSub, Nat.reduceAdd, Nat.reduceEqDiff, reduceCtorEq, ↓reduceIte]
 have hq0l : min ((f (off + n) * LB + f (off + (n - 1))) / v.getD (n - 1) 0) (LB - 1) < LB := Nat.lt_of_le_of_lt (Nat.min_le_right _ _) (by decide)
 generalize hq0 : min ((f (off + n) * LB + f (off + (n - 1))) / v.getD (n - 1) 0) (LB - 1) = q0 at *
 refine Safe.rg rfl ?_
 simp only [c2Q, E3, Nat.reduceLeDiff, Nat.reduceSub, Nat.reduceAdd, Nat.reduceEqDiff, reduceCtorEq, ↓reduceIte]
 have w2 : IntKind.wrap .i64 ((n : Int) + 1) = ((n + 1 : Nat) : Int) := by rw [a0c] <;> omega
 refine Safe.rg rfl ?_
 simp only [c2P, w2, hn, E3, Nat.reduceLeDiff, Nat.reduceSub, Nat.reduceAdd, Nat.reduceEqDiff, reduceCtorEq, ↓reduceIte]
 refine Safe.lp rfl ?_
 refine Safe.keep [0, 1, 5, 7, 8, 9, 40, 41] ?_
 simp only [hn, E3, Nat.reduceLeDiff, Nat.reduceSub, Nat.reduceAdd, Nat.reduceEqDiff, reduceCtorEq, ↓reduceIte]
 refine e4c hid hv hn hoff hN hf hq0l fun y b hy ly hb hval => ?_
 rw [hS] at hval
 refine Safe.lp rfl ?_
 -- the rows put back
 have key : ∀ (q b : Nat) (y : List Nat), y.length = n + 1 → Lim y → b ≤ 1 → val y + q * val v = S + LB ^ (n + 1) * b → S / val v ≤ q → q < LB →
   Safe (digX H.length) [.inLoop c2V, .inBlock 2, .code (.seq (.region a5h false) .ret)] [(0, .mu id off (n + 1) oc), (1, natV v), (5, .int .i64 n), (7, .int .u64 q), (9, .int .u64 b)] (hap (H.set id (some ⟨1, u32s (fl N (xr f off y))⟩)) [])
    fun r' H' => ∃ H1 L, H' = hap H1 L ∧ H1.length = H.length ∧ a0C H1 ∧ Ref (· < H.length) r' ∧ r' = .int .u32 (S / val v : Nat) ∧ H1 = H.set id (some ⟨1, u32s (fl N (xr f off (fl (n + 1) (dig (S % val v)))))⟩) := by
  intro q
  induction q with
  | zero =>
   intro b y hy ly hb hval hq hql
   have hyl := a1d ly
   rw [hy] at hyl
   have hb0 : b = 0 := by
    rcases Nat.eq_zero_or_pos b with h | h
    ·exact h
    ·have : b = 1 := by omega
     subst this; omega
   subst hb0
   refine Safe.inLoop ?_
   refine Safe.rg rfl ?_
   simp only [a5i, show ((0 : Int) < ((0 : Nat) : Int)) = False by simp, E3, Nat.reduceLeDiff, Nat.reduceSub, Nat.reduceAdd, Nat.reduceEqDiff, reduceCtorEq, ↓reduceIte]
   refine Safe.cd rfl ?_
   simp only [E3, Nat.reduceLeDiff, Nat.reduceSub, Nat.reduceAdd, Nat.reduceEqDiff, reduceCtorEq, ↓reduceIte]
   refine Safe.exit rfl ?_
   refine Safe.rg rfl ?_
   simp only [a5h, a9X (x := 0) (by decide), E3, Nat.reduceLeDiff, Nat.reduceSub, Nat.reduceAdd, Nat.reduceEqDiff, reduceCtorEq, ↓reduceIte]
   refine Safe.rt rfl ?_
   simp only [E3, Nat.reduceLeDiff, Nat.reduceSub, Nat.reduceAdd, Nat.reduceEqDiff, reduceCtorEq, ↓reduceIte]
   have e1 : S / val v = 0 := Nat.le_zero.1 hq
   have e2 : S % val v = val y := by
    have := Nat.mod_add_div S (val v)
    rw [e1] at this
    omega
   refine ⟨_, [], rfl, by simp, a0C.set hH id fun a ha => (a0F _ a ha).ref, .int _ _, by rw [e1], ?_⟩
   rw [e2, ← b9L ly hy]
  | succ q ih =>
   intro b y hy ly hb hval hq hql
   have hyl := a1d ly
   rw [hy] at hyl
   refine Safe.inLoop ?_
   by_cases hb0 : b = 0
   ·subst hb0
    refine Safe.rg rfl ?_
    simp only [a5i, show ((0 : Int) < ((0 : Nat) : Int)) = False by simp, E3, Nat.reduceLeDiff, Nat.reduceSub, Nat.reduceAdd, Nat.reduceEqDiff, reduceCtorEq, ↓reduceIte]
    refine Safe.cd rfl ?_
    simp only [E3, Nat.reduceLeDiff, Nat.reduceSub, Nat.reduceAdd, Nat.reduceEqDiff, reduceCtorEq, ↓reduceIte]
    refine Safe.exit rfl ?_
    refine Safe.rg rfl ?_
    simp only [a5h, a9X (x := q + 1) (by omega), E3, Nat.reduceLeDiff, Nat.reduceSub, Nat.reduceAdd, Nat.reduceEqDiff, reduceCtorEq, ↓reduceIte]
    refine Safe.rt rfl ?_
    simp only [E3, Nat.reduceLeDiff, Nat.reduceSub, Nat.reduceAdd, Nat.reduceEqDiff, reduceCtorEq, ↓reduceIte]
    have e1 : S / val v = q + 1 := by
     have : (q + 1) ≤ S / val v := by rw [Nat.le_div_iff_mul_le hv0]; omega
     omega
    have e2 : S % val v = val y := by
     have := Nat.mod_add_div S (val v)
     rw [e1, Nat.mul_comm (val v)] at this
     omega
    refine ⟨_, [], rfl, by simp, a0C.set hH id fun a ha => (a0F _ a ha).ref, .int _ _, by rw [e1], ?_⟩
    rw [e2, ← b9L ly hy]
   ·have hb1 : b = 1 := by omega
    subst hb1
    have hlq : S / val v ≤ q := by
     have h1 : S < (q + 1) * val v := by omega
     have := (Nat.div_lt_iff_lt_mul hv0).2 h1
     omega
    have w3 : IntKind.wrap .u64 (((q + 1 : Nat) : Int) - 1) = (q : Int) := by rw [a0H] <;> omega
    refine Safe.rg rfl ?_
    simp only [a5i, show ((0 : Int) < ((1 : Nat) : Int)) = True by simp, E3, Nat.reduceLeDiff, Nat.reduceSub, Nat.reduceAdd, Nat.reduceEqDiff, reduceCtorEq, ↓reduceIte]
    refine Safe.cd rfl ?_
    simp only [E3, Nat.reduceLeDiff, Nat.reduceSub, Nat.reduceAdd, Nat.reduceEqDiff, reduceCtorEq, ↓reduceIte]
    refine Safe.rg rfl ?_
    simp only [b7F, w3, E3, Nat.reduceLeDiff, Nat.reduceSub, Nat.reduceAdd, Nat.reduceEqDiff, reduceCtorEq, ↓reduceIte]
    refine Safe.rg rfl ?_
    simp only [b7E, E3, Nat.reduceLeDiff, Nat.reduceSub, Nat.reduceAdd, Nat.reduceEqDiff, reduceCtorEq, ↓reduceIte]
    refine Safe.rg rfl ?_
    simp only [b7D, w2, E3, Nat.reduceLeDiff, Nat.reduceSub, Nat.reduceAdd, Nat.reduceEqDiff, reduceCtorEq, ↓reduceIte]
    refine Safe.lp rfl ?_
    refine Safe.keep [0, 1, 5, 7, 9, 13, 83, 84] ?_
    simp only [E3, Nat.reduceLeDiff, Nat.reduceSub, Nat.reduceAdd, Nat.reduceEqDiff, reduceCtorEq, ↓reduceIte]
    refine e4d (b := 1) hid hv hn hoff hN (f2e hf ly) fun z c hz lz hc hzv => ?_
    have hseg := f0N (g := f) (off := off) (x := y)
    rw [hy] at hseg
    rw [hseg] at hzv
    rw [f2d (by rw [hy, hz])]
    have w4 : IntKind.wrap .u64 (((1 : Nat) : Int) - (c : Int)) = ((1 - c : Nat) : Int) := by rw [a0H] <;> omega
    refine Safe.rg rfl ?_
    simp only [b7z, w4, E3, Nat.reduceLeDiff, Nat.reduceSub, Nat.reduceAdd, Nat.reduceEqDiff, reduceCtorEq, ↓reduceIte]
    refine Safe.inBlock ?_
    refine Safe.keep [0, 1, 5, 7, 9] ?_
    simp only [E3, Nat.reduceLeDiff, Nat.reduceSub, Nat.reduceAdd, Nat.reduceEqDiff, reduceCtorEq, ↓reduceIte]
    have hexp : (q + 1) * val v = q * val v + val v := by rw [Nat.add_mul, Nat.one_mul]
    refine ih (1 - c) z hz lz (by omega) ?_ hlq (by omega)
    rcases Nat.eq_zero_or_pos c with h | h
    ·subst h; omega
    ·have : c = 1 := by omega
     subst this; omega
 exact key q0 b y hy ly hb hval hguess hq0l
end Go.Abs

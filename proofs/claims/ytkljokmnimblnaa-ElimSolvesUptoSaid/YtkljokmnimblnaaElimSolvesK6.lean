/- Part 6 of the proof of ElimSolves: W1, W2, W3, W4, W5, W6, W8, W9. -/
import Derived.Test.YtkljokmnimblnaaElimSolvesK5
set_option linter.unusedVariables false
set_option linter.unusedSimpArgs false
namespace Go.Abs
theorem a0v (l : List Nat) (hl : Lim l) (hb : l.length ≤ 17592186044416) : a0d Pr a0r [natV l] (natV (limbs (val l))) := by
  refine a0d.intro c4q c4o (by simp only [List.length_cons, List.length_nil]; omega) (a0T _) fun H hH => ?_
  refine Safe.seq (Safe.region ?_)
  simp only [b4r, E1, seval]
  refine Safe.seq (Safe.block (Safe.loop ?_))
  refine Safe.keep [0] ?_
  simp only [E1, seval]
  generalize hv : val l = v
  have stop : ∀ (l : List Nat) (ts : Env), Lim l → val l = v → (l.getLast?).getD 1 ≠ 0 → look ts 0 = natV l → Safe ⟨Pr, fun _ _ => false, a0r, 21, [.tmp 2], H.length⟩ [.code ((ACode.region a4k false).seq ACode.ret)] ts (hap H []) fun r' H' => r' = natV (limbs v) ∧ ∃ L, H' = hap H L := by
    intro l ts hl hv hn h0
    refine Safe.seq (Safe.region ?_)
    simp only [a4k, E1, seval, h0]
    refine Safe.retn ?_
    simp only [E1, seval]
    rw [← hv, a8g hl hn]
    exact ⟨rfl, [], rfl⟩
  induction hn : l.length using Nat.strongRecOn generalizing l with
  | _ n ih =>
  refine Safe.inLoop (Safe.seq (Safe.seq (Safe.region ?_)))
  rcases List.eq_nil_or_concat l with rfl | ⟨l', d, rfl⟩
  · simp only [a5Z, E1, seval, a6P, Int.natCast_zero, Int.lt_irrefl]
    refine Safe.cond ?_
    simp only [E1, seval]
    refine Safe.exit rfl ?_
    exact stop [] _ hl hv (by simp) (by simp only [E1, seval])
  · simp only [List.concat_eq_append] at *
    have hlen : (l' ++ [d]).length = l'.length + 1 := by simp
    have h0 : (0 : Int) < ((l' ++ [d]).length : Int) := by omega
    have hw : IntKind.i64.wrap (((l' ++ [d]).length : Int) - 1) = (l'.length : Int) := by rw [hlen, a0a] <;> omega
    have hg : (l' ++ [d]).getD l'.length 0 = d := by simp
    simp only [a5Z, E1, seval, a6P, h0, hw, a0A _ (l' ++ [d]) _ l'.length (by omega), hg]
    refine Safe.cond ?_
    simp only [E1, seval]
    by_cases hd : d = 0
    · subst hd
      simp only [Int.natCast_zero, E1, seval]
      refine Safe.skip (Safe.block (Safe.region ?_))
      simp only [b4q, E1, seval, a6P, hw, e2h _ (l' ++ [0]) _ l'.length (by omega)]
      refine Safe.inBlock (Safe.keep [0] ?_)
      simp only [E1, seval, List.take_left']
      exact ih l'.length (by omega) l' (b9e.1 hl).1 (by omega) (by rw [← hv, d8P]) rfl
    · have : ¬ ((d : Int) = 0) := by omega
      simp only [this, E1, seval]
      refine Safe.exit rfl ?_
      exact stop (l' ++ [d]) _ hl hv (by simpa using hd) (by simp only [E1, seval])
theorem a8e (l : List Nat) (hl : Nt l) : a0d Pr a8r [natV l] (natV (limbs (val l))) := by
  refine a0d.intro d4E d4D (by simp only [List.length_cons, List.length_nil]; omega) (a0T _) fun H hH => ?_
  refine Safe.seq (Safe.region ?_)
  simp only [c4F, E1, seval]
  refine Safe.seq (Safe.region ?_)
  simp only [c4E, E1, seval]
  refine (a0v l hl.lim hl.len).acall ?_
  simp only [E1, seval, b4Q _ _ H [] _ hl.limbs.len]
  refine Safe.freeze 0 (b := ⟨1, u32s (limbs (val l))⟩) hH rfl rfl (a0m _) ?_
  refine Safe.retn ?_
  simp only [E1, seval]
  first | exact ⟨rfl, _, rfl⟩ | exact ⟨_, rfl⟩ | exact ⟨trivial, _, rfl⟩
def cmpI (a b : Nat) : Int := if a < b then -1 else if b < a then 1 else 0
theorem b8u {a b : Nat} (h : (limbs a).length < (limbs b).length) : a < b := by
  have h1 : limbs b ≠ [] := by intro h0; rw [h0] at h; simp at h
  have := d2B h1
  have h2 := a0Z (a0c a)
  rw [a0b] at h2
  have h3 : LB ^ (limbs a).length ≤ LB ^ ((limbs b).length - 1) := Nat.pow_le_pow_right (by decide) (by omega)
  omega
theorem b4p (a b : List Nat) (ha : Nt a) (hb : Nt b) : a0d Pr a8t [natV a, natV b] (.int .i64 (cmpI (val a) (val b))) := by
  refine a0d.intro d8b d8a (by simp only [List.length_cons, List.length_nil]; omega) (.int _ _) fun H hH => ?_
  refine Safe.seq (Safe.region ?_)
  simp only [c8d, E1, seval]
  refine Safe.seq (Safe.region ?_)
  simp only [c8c, E1, seval]
  refine (a0v a ha.lim ha.len).acall ?_
  try simp only [E1, seval]
  refine (a0v b hb.lim hb.len).acall ?_
  try simp only [E1, seval]
  have na := ha.limbs
  have nb := hb.limbs
  have va := a0b (val a)
  have vb := a0b (val b)
  generalize hA : limbs (val a) = A at na va ⊢
  generalize hB : limbs (val b) = B at nb vb ⊢
  refine Safe.keep [0, 1] (Safe.seq (Safe.seq (Safe.region ?_)))
  simp only [c8b, E1, seval, a6P]
  refine Safe.cond ?_
  simp only [E1, seval]
  by_cases hlen : A.length = B.length
  · have : ((A.length : Int) = B.length) := by omega
    simp only [this, E1, seval]
    refine Safe.skip (Safe.seq (Safe.seq (Safe.region ?_)))
    simp only [c7X, E1, seval, a6P]
    refine Safe.block (Safe.loop ?_)
    have key : ∀ n, n ≤ A.length → A.drop n = B.drop n → Safe ⟨Pr, fun _ _ => false, a8t, 45, [.tmp 4], H.length⟩ [.inLoop c8e, .inBlock 0, .code ((ACode.region b4B false).seq .ret)]
        [(0, natV A), (1, natV B), (5, .int .i64 ((n : Int) - 1))] (hap H []) fun r' H' => r' = .int .i64 (cmpI (val a) (val b)) ∧ ∃ L, H' = hap H L := by
      intro n
      induction n with
      | zero =>
        intro _ hd
        refine Safe.inLoop (Safe.seq (Safe.seq (Safe.region ?_)))
        simp only [b8T, E1, seval]
        refine Safe.cond ?_
        simp only [E1, seval, show ¬ ((0 : Int) ≤ ((0 : Nat) : Int) - 1) by omega]
        refine Safe.exit rfl (Safe.seq (Safe.region ?_))
        simp only [b4B, E1, seval]
        refine Safe.retn ?_
        simp only [E1, seval]
        have : val a = val b := by
          simp only [List.drop_zero] at hd
          rw [← va, ← vb, hd]
        refine ⟨?_, [], rfl⟩
        simp [cmpI, this]
      | succ m ih =>
        intro hm hd
        refine Safe.inLoop (Safe.seq (Safe.seq (Safe.region ?_)))
        simp only [b8T, E1, seval]
        refine Safe.cond ?_
        have e1 : ((m + 1 : Nat) : Int) - 1 = (m : Int) := by omega
        simp only [E1, seval, e1, Int.natCast_nonneg]
        refine Safe.skip (Safe.seq (Safe.block (Safe.seq (Safe.regionD ?_))))
        simp only [c7W, E1, seval, a0A _ A _ m (by omega), a0A _ B _ m (by omega)]
        refine Safe.cond ?_
        simp only [E1, seval]
        by_cases hq : A.getD m 0 = B.getD m 0
        · simp only [hq, E1, seval]
          refine Safe.skip (Safe.inBlock (Safe.region ?_))
          simp only [c4T, E1, seval]
          refine Safe.keep [0, 1, 5] ?_
          have := na.len
          simp only [E1, seval, a0a (n := (m : Int) - 1) (by omega) (by omega)]
          refine ih (by omega) ?_
          rw [List.drop_eq_getElem_cons (by omega), List.drop_eq_getElem_cons (l := B) (by omega), hd]
          simp only [List.getD_eq_getElem?_getD, List.getElem?_eq_getElem (show m < A.length by omega), List.getElem?_eq_getElem (show m < B.length by omega), Option.getD_some] at hq
          rw [hq]
        · have hq' : ¬ ((A.getD m 0 : Nat) : Int) = ((B.getD m 0 : Nat) : Int) := by omega
          simp only [hq', E1, seval]
          refine Safe.seq (Safe.seq (Safe.regionD ?_))
          simp only [c7V, E1, seval, a0A _ A _ m (by omega), a0A _ B _ m (by omega)]
          refine Safe.cond ?_
          simp only [E1, seval]
          by_cases hlt : A.getD m 0 < B.getD m 0
          · have hlt' : ((A.getD m 0 : Nat) : Int) < ((B.getD m 0 : Nat) : Int) := by omega
            simp only [hlt', E1, seval]
            refine Safe.seq (Safe.region ?_)
            simp only [c4V, E1, seval]
            refine Safe.retn ?_
            simp only [E1, seval]
            have := b5n na.lim nb.lim hd (by omega) (by omega) hlen hlt
            refine ⟨?_, [], rfl⟩
            rw [← va, ← vb]; simp [cmpI, this]
          · have hlt' : ¬ ((A.getD m 0 : Nat) : Int) < ((B.getD m 0 : Nat) : Int) := by omega
            simp only [hlt', E1, seval]
            refine Safe.skip (Safe.seq (Safe.region ?_))
            simp only [c4U, E1, seval]
            refine Safe.retn ?_
            simp only [E1, seval]
            have := b5n nb.lim na.lim hd.symm (by omega) (by omega) hlen.symm (show B.getD m 0 < A.getD m 0 by omega)
            refine ⟨?_, [], rfl⟩
            rw [← va, ← vb]; simp [cmpI, this, Nat.lt_asymm this]
    refine Safe.keep [0, 1, 5] ?_
    have := na.len
    have hk := key A.length (Nat.le_refl _) (by rw [List.drop_length, hlen, List.drop_length])
    simp only [E1, seval, ← hlen, a0a (n := (A.length : Int) - 1) (by omega) (by omega)]
    exact hk
  · have : ¬ ((A.length : Int) = B.length) := by omega
    simp only [this, E1, seval]
    refine Safe.seq (Safe.seq (Safe.region ?_))
    simp only [c8a, E1, seval, a6P]
    refine Safe.cond ?_
    simp only [E1, seval]
    by_cases hlt : A.length < B.length
    · have hlt' : ((A.length : Int) < B.length) := by omega
      simp only [hlt', E1, seval]
      refine Safe.seq (Safe.region ?_)
      simp only [c7Z, E1, seval]
      refine Safe.retn ?_
      simp only [E1, seval]
      have : val a < val b := b8u (by rw [hA, hB]; exact hlt)
      refine ⟨?_, [], rfl⟩
      simp [cmpI, this]
    · have hlt' : ¬ ((A.length : Int) < B.length) := by omega
      simp only [hlt', E1, seval]
      refine Safe.skip (Safe.seq (Safe.region ?_))
      simp only [c7Y, E1, seval]
      refine Safe.retn ?_
      simp only [E1, seval]
      have : val b < val a := b8u (by rw [hA, hB]; omega)
      refine ⟨?_, [], rfl⟩
      simp [cmpI, this, Nat.lt_asymm this]
theorem b9g (n : Nat) (h : n < 4294967296) : a0d Pr a1y [.int .u32 n] (.int .i64 (blen n)) := by
  refine a0d.intro b7n b7m (by simp only [List.length_cons, List.length_nil]; omega) (.int _ _) fun H hH => ?_
  refine Safe.seq (Safe.region ?_)
  simp only [a6T, E1, Nat.reduceAdd, Nat.reduceEqDiff, reduceCtorEq, ↓reduceIte]
  have stop : ∀ (m s : Nat) (env : Env), m < 256 → s ≤ 24 → look env 0 = .int .u32 m → look env 2 = .int .i64 s → s + blen m = blen n → Safe ⟨Pr, fun _ _ => false, a1y, 19, [.tmp 2], H.length⟩ [.code ((ACode.region a2n false).seq .ret)] env (hap H [])
      fun r' H' => r' = .int .i64 (blen n) ∧ ∃ L, H' = hap H L := by
    intro m s env hm hs h0 h2 hb
    refine Safe.seq (Safe.region ?_)
    have hw : IntKind.wrap .u8 (m : Int) = m := by simp [IntKind.wrap, IntKind.bits, IntKind.signed]; omega
    simp only [a2n, E1, Nat.reduceAdd, Nat.reduceEqDiff, reduceCtorEq, ↓reduceIte, h0, h2, hw, d6C]
    have tab : ∀ m : Fin 256, e1D.data.toList.getD m.val 0 = UInt8.ofNat (blen m.val) ∧ blen m.val ≤ 8 := by decide +kernel
    have ht : e1D.data.toList.getD m 0 = UInt8.ofNat (blen m) ∧ blen m ≤ 8 := tab ⟨m, hm⟩
    have hsz : e1D.size = 256 := by decide +kernel
    rw [if_pos (by rw [hsz]; omega)]
    simp only [Int.toNat_natCast, ht.1, E1, Nat.reduceAdd, Nat.reduceEqDiff, reduceCtorEq, ↓reduceIte]
    have h8 : ((UInt8.ofNat (blen m)).toNat : Nat) = blen m := by
      have := ht.2
      simp [UInt8.toNat_ofNat']; omega
    refine Safe.retn ?_
    have := ht.2
    simp only [E1, Nat.reduceAdd, Nat.reduceEqDiff, reduceCtorEq, ↓reduceIte, h8, a0a (n := (blen m : Int)) (by omega) (by omega)]
    rw [a0a (by omega) (by omega)]
    exact ⟨by rw [← hb]; rfl, [], rfl⟩
  have mid : ∀ (m s : Nat) (env : Env), m < 65536 → s ≤ 16 → look env 0 = .int .u32 m → look env 2 = .int .i64 s → s + blen m = blen n → Safe ⟨Pr, fun _ _ => false, a1y, 19, [.tmp 2], H.length⟩
      [.code ((((ACode.region a3M false).seq (.cond (.t 8) ((ACode.region a3L false).seq (.region a3K false)) .skip)).seq ((ACode.region a2n false).seq .ret)))] env (hap H [])
      fun r' H' => r' = .int .i64 (blen n) ∧ ∃ L, H' = hap H L := by
    intro m s env hm hs h0 h2 hb
    refine Safe.seq (Safe.seq (Safe.region ?_))
    simp only [a3M, E1, Nat.reduceAdd, Nat.reduceEqDiff, reduceCtorEq, ↓reduceIte, h0]
    refine Safe.cond ?_
    simp only [E1, Nat.reduceAdd, Nat.reduceEqDiff, reduceCtorEq, ↓reduceIte]
    by_cases hc : 256 ≤ m
    · have hc' : (256 : Int) ≤ (m : Int) := by omega
      simp only [hc', E1, Nat.reduceAdd, Nat.reduceEqDiff, reduceCtorEq, ↓reduceIte]
      refine Safe.seq (Safe.region ?_)
      simp only [a3L, E1, Nat.reduceAdd, Nat.reduceEqDiff, reduceCtorEq, ↓reduceIte, h0, a3A _ _ _ (show (0 : Int) ≤ 8 by decide)]
      refine Safe.region ?_
      simp only [a3K, E1, Nat.reduceAdd, Nat.reduceEqDiff, reduceCtorEq, ↓reduceIte, h2]
      have e1 : Int.fdiv (m : Int) (2 ^ min (Int.toNat 8) IntKind.u32.bits) = ((m / 256 : Nat) : Int) := by
        rw [show (2 : Int) ^ min (Int.toNat 8) IntKind.u32.bits = 256 by decide, Int.fdiv_eq_ediv_of_nonneg _ (by decide)]; omega
      have e2 : IntKind.wrap .i64 ((s : Int) + 8) = ((s + 8 : Nat) : Int) := by rw [a0a] <;> omega
      refine stop (m / 256) (s + 8) _ (by omega) (by omega) (by simp only [E1, Nat.reduceAdd, Nat.reduceEqDiff, reduceCtorEq, ↓reduceIte, e1]) (by simp only [E1, Nat.reduceAdd, Nat.reduceEqDiff, reduceCtorEq, ↓reduceIte, e2]) ?_
      have := d0u (n := m) (k := 8) (by omega)
      simp only [Nat.reducePow] at this
      omega
    · have hc' : ¬ (256 : Int) ≤ (m : Int) := by omega
      simp only [hc', E1, Nat.reduceAdd, Nat.reduceEqDiff, reduceCtorEq, ↓reduceIte]
      exact Safe.skip (stop m s _ (by omega) (by omega) (by simp only [E1, Nat.reduceAdd, Nat.reduceEqDiff, reduceCtorEq, ↓reduceIte, h0]) (by simp only [E1, Nat.reduceAdd, Nat.reduceEqDiff, reduceCtorEq, ↓reduceIte, h2]) hb)
  refine Safe.seq (Safe.seq (Safe.region ?_))
  simp only [a6S, E1, Nat.reduceAdd, Nat.reduceEqDiff, reduceCtorEq, ↓reduceIte]
  refine Safe.cond ?_
  simp only [E1, Nat.reduceAdd, Nat.reduceEqDiff, reduceCtorEq, ↓reduceIte]
  by_cases hc : 65536 ≤ n
  · have hc' : (65536 : Int) ≤ (n : Int) := by omega
    simp only [hc', E1, Nat.reduceAdd, Nat.reduceEqDiff, reduceCtorEq, ↓reduceIte]
    refine Safe.seq (Safe.region ?_)
    simp only [a6R, E1, Nat.reduceAdd, Nat.reduceEqDiff, reduceCtorEq, ↓reduceIte, a3A _ _ _ (show (0 : Int) ≤ 16 by decide)]
    refine Safe.region ?_
    simp only [a6Q, E1, Nat.reduceAdd, Nat.reduceEqDiff, reduceCtorEq, ↓reduceIte]
    have e1 : Int.fdiv (n : Int) (2 ^ min (Int.toNat 16) IntKind.u32.bits) = ((n / 65536 : Nat) : Int) := by
      rw [show (2 : Int) ^ min (Int.toNat 16) IntKind.u32.bits = 65536 by decide, Int.fdiv_eq_ediv_of_nonneg _ (by decide)]; omega
    refine mid (n / 65536) 16 _ (by omega) (by omega) (by simp only [E1, Nat.reduceAdd, Nat.reduceEqDiff, reduceCtorEq, ↓reduceIte, e1]) (by simp only [E1, Nat.reduceAdd, Nat.reduceEqDiff, reduceCtorEq, ↓reduceIte]; rfl) ?_
    have := d0u (n := n) (k := 16) (by omega)
    simp only [Nat.reducePow] at this
    omega
  · have hc' : ¬ (65536 : Int) ≤ (n : Int) := by omega
    simp only [hc', E1, Nat.reduceAdd, Nat.reduceEqDiff, reduceCtorEq, ↓reduceIte]
    exact Safe.skip (mid n 0 _ (by omega) (by omega) (by simp only [E1, Nat.reduceAdd, Nat.reduceEqDiff, reduceCtorEq, ↓reduceIte]) (by simp only [E1, Nat.reduceAdd, Nat.reduceEqDiff, reduceCtorEq, ↓reduceIte]; rfl) (by omega))
theorem d2p (l : List Nat) (hl : Nt l) : a0d Pr b9z [natV l] (.int .i64 (blen (val l))) := by
  refine a0d.intro d4G d4F (by simp only [List.length_cons, List.length_nil]; omega) (.int _ _) fun H hH => ?_
  refine Safe.seq (Safe.region ?_)
  simp only [c5a, E1, seval]
  refine Safe.seq (Safe.region ?_)
  simp only [c4Z, E1, seval]
  refine (a0v l hl.lim hl.len).acall ?_
  try simp only [E1, seval]
  have nl := hl.limbs
  have vl := a0b (val l)
  have hlast := a5M (val l)
  generalize hA : limbs (val l) = A at nl vl hlast ⊢
  refine Safe.keep [0] (Safe.seq (Safe.seq (Safe.region ?_)))
  simp only [c4Y, E1, seval]
  refine Safe.cond ?_
  simp only [E1, seval]
  rcases List.eq_nil_or_concat A with rfl | ⟨A', d, rfl⟩
  · simp only [E1, seval, Int.natCast_zero]
    refine Safe.seq (Safe.region ?_)
    simp only [c4X, E1, seval]
    refine Safe.retn ?_
    simp only [E1, seval]
    rw [← vl]
    exact ⟨rfl, [], rfl⟩
  · simp only [List.concat_eq_append] at *
    have hlen : (A' ++ [d]).length = A'.length + 1 := by simp
    have hn0 : ¬ (((A' ++ [d]).length : Int) = 0) := by omega
    have hg : (A' ++ [d]).getD A'.length 0 = d := by simp
    have hd : d ≠ 0 := by simpa using hlast
    have hlt : d < 4294967296 := nl.lim d (by simp)
    have := nl.len
    have hw : IntKind.i64.wrap (((A' ++ [d]).length : Int) - 1) = (A'.length : Int) := by rw [hlen, a0a] <;> omega
    simp only [hn0, E1, seval]
    refine Safe.skip (Safe.seq (Safe.region ?_))
    simp only [c4W, E1, seval, hw, a0A _ (A' ++ [d]) _ A'.length (by omega), hg]
    refine (b9g d hlt).acall ?_
    simp only [E1, seval]
    refine Safe.retn ?_
    simp only [E1, seval]
    have hb : blen d ≤ 32 := by
      rcases Nat.lt_or_ge 32 (blen d) with h | h
      · have := b9w hd
        have := Nat.pow_le_pow_right (show 0 < 2 by decide) (show 32 ≤ blen d - 1 by omega)
        omega
      · exact h
    rw [a0a (n := 32 * (A'.length : Int)) (by omega) (by omega), a0a (by omega) (by omega)]
    refine ⟨?_, [], rfl⟩
    rw [← vl, b9v (b9e.1 nl.lim).1 hd]
    congr 1
theorem d4y (a b : List Nat) (la : Lim a) (lb : Lim b) (ha : a.length < 17592186044416) (hb : b.length < 17592186044416) : a0d Pr a8u [natV a, natV b] (natV (limbs (val a + val b))) := by
  refine a0d.intro d8e d8d (by simp only [List.length_cons, List.length_nil]; omega) (a0T _) fun H hH => ?_
  refine Safe.seq (Safe.region ?_)
  have hLB : LB = 4294967296 := rfl
  simp only [c8k, E1, Nat.reduceAdd, Nat.reduceEqDiff, reduceCtorEq, ↓reduceIte]
  have main : ∀ (a b : List Nat) (env : Env) (s : Nat), Lim a → Lim b → b.length ≤ a.length → a.length < 17592186044416 → val a + val b = s → look env 0 = natV a → look env 1 = natV b →
      Safe ⟨Pr, fun _ _ => false, a8u, 58, [.tmp 4], H.length⟩ [.code ((ACode.region b8X false).seq ((ACode.region b8W false).seq (((ACode.region b8V false).seq (.block 0 (.loop b2e))).seq ((ACode.region a6b false).seq ((ACode.region a6a false).seq .ret)))))]
        env (hap H []) fun r' H' => r' = natV (limbs s) ∧ ∃ L, H' = hap H L := by
    intro a b env s la lb hle ha hs h0 h1
    refine Safe.seq (Safe.region ?_)
    have hw : IntKind.wrap .i64 ((a.length : Int) + 1) = ((a.length + 1 : Nat) : Int) := by rw [a0a] <;> omega
    simp only [b8X, E1, Nat.reduceAdd, Nat.reduceEqDiff, reduceCtorEq, ↓reduceIte, h0, hw, b2g _ H [] _ _ (a.length + 1) (by omega)]
    refine Safe.seq (Safe.region ?_)
    simp only [b8W, E1, Nat.reduceAdd, Nat.reduceEqDiff, reduceCtorEq, ↓reduceIte]
    refine Safe.seq (Safe.seq (Safe.region ?_))
    simp only [b8V, E1, Nat.reduceAdd, Nat.reduceEqDiff, reduceCtorEq, ↓reduceIte, h0]
    refine Safe.block (Safe.loop ?_)
    have key : ∀ (k i c : Nat) (x : List Nat), i + k = a.length → x.length = i → Lim x → c ≤ 1 → val x + LB ^ i * c = val (a.take i) + val (b.take i) →
        Safe ⟨Pr, fun _ _ => false, a8u, 58, [.tmp 4], H.length⟩ [.inLoop b2e, .inBlock 0, .code ((ACode.region a6b false).seq ((ACode.region a6a false).seq .ret))]
          [(0, natV a), (1, natV b), (5, .mu (lid H 0) 0 (a.length + 1) (some (a.length + 1))), (6, .int .u64 c), (20, .int .i64 a.length), (21, .int .i64 i)]
          (hap H [some ⟨1, u32s (x ++ List.replicate (k + 1) 0)⟩]) fun r' H' => r' = natV (limbs s) ∧ ∃ L, H' = hap H L := by
      intro k
      induction k with
      | zero =>
        intro i c x hik hx lx hc hv
        have hi : i = a.length := by omega
        subst hi
        refine Safe.inLoop (Safe.seq (Safe.region ?_))
        simp only [b8U, E1, Nat.reduceAdd, Nat.reduceEqDiff, reduceCtorEq, ↓reduceIte]
        refine Safe.seq (Safe.cond ?_)
        simp only [E1, Nat.reduceAdd, Nat.reduceEqDiff, reduceCtorEq, ↓reduceIte, Int.lt_irrefl]
        refine Safe.exit rfl (Safe.seq (Safe.region ?_))
        have hcw : IntKind.wrap .u32 (c : Int) = (c : Int) := a3w (by omega) (by omega)
        simp only [a6b, E1, Nat.reduceAdd, Nat.reduceEqDiff, reduceCtorEq, ↓reduceIte, a9d _ _ _ _ _ _ a.length (Nat.lt_succ_self _), hcw, c4i _ _ _ a.length c (show a.length < (x ++ List.replicate (0 + 1) 0).length by simp [hx])]
        rw [← hx, c3M, hx]
        simp only [List.replicate_zero, List.append_nil]
        have hlen : a.length + 1 = (x ++ [c]).length := by simp [hx]
        refine Safe.freeze 0 (b := ⟨1, u32s (x ++ [c])⟩) hH rfl rfl (a0m _) ?_
        refine Safe.seq (Safe.region ?_)
        simp only [a6a, E1, Nat.reduceAdd, Nat.reduceEqDiff, reduceCtorEq, ↓reduceIte, hlen]
        refine (a0v (x ++ [c]) (a1t lx (by omega)) (by omega)).acall ?_
        try simp only [E1, Nat.reduceAdd, Nat.reduceEqDiff, reduceCtorEq, ↓reduceIte]
        refine Safe.retn ?_
        simp only [E1, Nat.reduceAdd, Nat.reduceEqDiff, reduceCtorEq, ↓reduceIte]
        rw [List.take_length, List.take_of_length_le hle] at hv
        rw [a2F, hx, hv, hs]
        first | exact ⟨rfl, _, rfl⟩ | exact ⟨_, rfl⟩ | exact ⟨trivial, _, rfl⟩
      | succ k ih =>
        intro i c x hik hx lx hc hv
        refine Safe.inLoop (Safe.seq (Safe.region ?_))
        simp only [b8U, E1, Nat.reduceAdd, Nat.reduceEqDiff, reduceCtorEq, ↓reduceIte]
        refine Safe.seq (Safe.cond ?_)
        have hlt : (i : Int) < (a.length : Int) := by omega
        simp only [E1, Nat.reduceAdd, Nat.reduceEqDiff, reduceCtorEq, ↓reduceIte, hlt]
        refine Safe.skip (Safe.seq (Safe.block (Safe.seq (Safe.region ?_))))
        simp only [c8h, E1, Nat.reduceAdd, Nat.reduceEqDiff, reduceCtorEq, ↓reduceIte]
        refine Safe.seq (Safe.region ?_)
        have xa := a0L la i
        have xb := a0L lb i
        have h1w : IntKind.wrap .u64 ((a.getD i 0 : Nat) : Int) = ((a.getD i 0 : Nat) : Int) := a0F (by omega) (by omega)
        have h2w : IntKind.wrap .u64 ((c : Int) + ((a.getD i 0 : Nat) : Int)) = ((c + a.getD i 0 : Nat) : Int) := by rw [a0F] <;> omega
        simp only [c8g, E1, Nat.reduceAdd, Nat.reduceEqDiff, reduceCtorEq, ↓reduceIte, a0A _ a _ i (by omega), h1w, h2w]
        refine Safe.seq (Safe.seq (Safe.region ?_))
        simp only [c8f, E1, Nat.reduceAdd, Nat.reduceEqDiff, reduceCtorEq, ↓reduceIte]
        refine Safe.cond ?_
        simp only [E1, Nat.reduceAdd, Nat.reduceEqDiff, reduceCtorEq, ↓reduceIte]
        have rest : ∀ env : Env, look env 0 = natV a → look env 1 = natV b → look env 5 = .mu (lid H 0) 0 (a.length + 1) (some (a.length + 1)) → look env 6 = .int .u64 (c + a.getD i 0 + b.getD i 0 : Nat) → look env 7 = .int .i64 i → look env 20 = .int .i64 a.length → look env 21 = .int .i64 i →
            Safe ⟨Pr, fun _ _ => false, a8u, 58, [.tmp 4], H.length⟩ [.code ((ACode.region b4E false).seq (.region b4D false)), .inBlock 1, .code (.region b4C false), .inLoop b2e, .inBlock 0, .code ((ACode.region a6b false).seq ((ACode.region a6a false).seq .ret))]
              env (hap H [some ⟨1, u32s (x ++ List.replicate (k + 1 + 1) 0)⟩]) fun r' H' => r' = natV (limbs s) ∧ ∃ L, H' = hap H L := by
          intro env e0 e1 e5 e6 e7 e20 e21
          refine Safe.seq (Safe.region ?_)
          have hcw : IntKind.wrap .u32 ((c + a.getD i 0 + b.getD i 0 : Nat) : Int) = (((c + a.getD i 0 + b.getD i 0) % LB : Nat) : Int) := a1X _
          simp only [b4E, E1, Nat.reduceAdd, Nat.reduceEqDiff, reduceCtorEq, ↓reduceIte, e5, e6, e7, a9d _ _ _ _ _ _ i (show i < a.length + 1 by omega), hcw, c4i _ _ _ i _ (show i < (x ++ List.replicate (k + 1 + 1) 0).length by simp [hx] <;> omega)]
          refine Safe.region ?_
          have hs32 : Int.fdiv ((c + a.getD i 0 + b.getD i 0 : Nat) : Int) (2 ^ min (Int.toNat 32) IntKind.u64.bits) = (((c + a.getD i 0 + b.getD i 0) / LB : Nat) : Int) := by
            rw [show (2 : Int) ^ min (Int.toNat 32) IntKind.u64.bits = (LB : Int) by decide, Int.fdiv_eq_ediv_of_nonneg _ (by decide)]; rfl
          simp only [b4D, E1, Nat.reduceAdd, Nat.reduceEqDiff, reduceCtorEq, ↓reduceIte, e6, a3A _ _ _ (show (0 : Int) ≤ 32 by decide), hs32]
          refine Safe.inBlock (Safe.region ?_)
          have hiw : IntKind.wrap .i64 ((i : Int) + 1) = ((i + 1 : Nat) : Int) := by rw [a0a] <;> omega
          simp only [b4C, E1, Nat.reduceAdd, Nat.reduceEqDiff, reduceCtorEq, ↓reduceIte, e21, hiw]
          refine Safe.keep [0, 1, 5, 6, 20, 21] ?_
          simp only [E1, Nat.reduceAdd, Nat.reduceEqDiff, reduceCtorEq, ↓reduceIte, e0, e1, e5, e20]
          have hset : (x ++ List.replicate (k + 1 + 1) 0).set i ((c + a.getD i 0 + b.getD i 0) % LB) = (x ++ [(c + a.getD i 0 + b.getD i 0) % LB]) ++ List.replicate (k + 1) 0 := by subst hx; exact c3M _ _ _
          rw [hset]
          refine ih (i + 1) _ _ (by omega) (by simp [hx]) (a1t lx (Nat.mod_lt _ (by decide))) ?_ ?_
          · have : c + a.getD i 0 + b.getD i 0 < LB * 2 := by omega
            have := Nat.div_lt_of_lt_mul this
            omega
          · rw [a2F, hx, a0i, a0i, Nat.pow_succ]
            exact c8M (i := 0) hv
        by_cases hib : i < b.length
        · have hib' : (i : Int) < (b.length : Int) := by omega
          simp only [hib', E1, Nat.reduceAdd, Nat.reduceEqDiff, reduceCtorEq, ↓reduceIte]
          refine Safe.region ?_
          have h3w : IntKind.wrap .u64 ((b.getD i 0 : Nat) : Int) = ((b.getD i 0 : Nat) : Int) := a0F (by omega) (by omega)
          have h4w : IntKind.wrap .u64 (((c + a.getD i 0 : Nat) : Int) + ((b.getD i 0 : Nat) : Int)) = ((c + a.getD i 0 + b.getD i 0 : Nat) : Int) := by rw [a0F] <;> omega
          simp only [c5b, E1, Nat.reduceAdd, Nat.reduceEqDiff, reduceCtorEq, ↓reduceIte, a0A _ b _ i hib, h3w, h4w]
          exact rest _ (by simp only [E1, Nat.reduceAdd, Nat.reduceEqDiff, reduceCtorEq, ↓reduceIte]) (by simp only [E1, Nat.reduceAdd, Nat.reduceEqDiff, reduceCtorEq, ↓reduceIte]) (by simp only [E1, Nat.reduceAdd, Nat.reduceEqDiff, reduceCtorEq, ↓reduceIte]) (by simp only [E1, Nat.reduceAdd, Nat.reduceEqDiff, reduceCtorEq, ↓reduceIte]) (by simp only [E1, Nat.reduceAdd, Nat.reduceEqDiff, reduceCtorEq, ↓reduceIte]) (by simp only [E1, Nat.reduceAdd, Nat.reduceEqDiff, reduceCtorEq, ↓reduceIte]) (by simp only [E1, Nat.reduceAdd, Nat.reduceEqDiff, reduceCtorEq, ↓reduceIte])
        · have hib' : ¬ (i : Int) < (b.length : Int) := by omega
          simp only [hib', E1, Nat.reduceAdd, Nat.reduceEqDiff, reduceCtorEq, ↓reduceIte]
          have hz : b.getD i 0 = 0 := by rw [List.getD_eq_getElem?_getD, List.getElem?_eq_none (by omega)]; rfl
          refine Safe.skip (rest _ (by simp only [E1, Nat.reduceAdd, Nat.reduceEqDiff, reduceCtorEq, ↓reduceIte]) (by simp only [E1, Nat.reduceAdd, Nat.reduceEqDiff, reduceCtorEq, ↓reduceIte]) (by simp only [E1, Nat.reduceAdd, Nat.reduceEqDiff, reduceCtorEq, ↓reduceIte]) (by simp only [E1, Nat.reduceAdd, Nat.reduceEqDiff, reduceCtorEq, ↓reduceIte, hz]) (by simp only [E1, Nat.reduceAdd, Nat.reduceEqDiff, reduceCtorEq, ↓reduceIte]) (by simp only [E1, Nat.reduceAdd, Nat.reduceEqDiff, reduceCtorEq, ↓reduceIte]) (by simp only [E1, Nat.reduceAdd, Nat.reduceEqDiff, reduceCtorEq, ↓reduceIte]))
    refine Safe.keep [0, 1, 5, 6, 20, 21] ?_
    simp only [E1, Nat.reduceAdd, Nat.reduceEqDiff, reduceCtorEq, ↓reduceIte, h0, h1]
    exact key a.length 0 0 [] (by omega) rfl b9c (by omega) (by simp [val])
  refine Safe.seq (Safe.seq (Safe.region ?_))
  simp only [c8j, E1, Nat.reduceAdd, Nat.reduceEqDiff, reduceCtorEq, ↓reduceIte]
  refine Safe.cond ?_
  simp only [E1, Nat.reduceAdd, Nat.reduceEqDiff, reduceCtorEq, ↓reduceIte]
  by_cases hlt : a.length < b.length
  · have hlt' : (a.length : Int) < (b.length : Int) := by omega
    simp only [hlt', E1, Nat.reduceAdd, Nat.reduceEqDiff, reduceCtorEq, ↓reduceIte]
    refine Safe.region ?_
    simp only [c8i, E1, Nat.reduceAdd, Nat.reduceEqDiff, reduceCtorEq, ↓reduceIte]
    exact main b a _ _ lb la (by omega) hb (Nat.add_comm _ _) (by simp only [E1, Nat.reduceAdd, Nat.reduceEqDiff, reduceCtorEq, ↓reduceIte]) (by simp only [E1, Nat.reduceAdd, Nat.reduceEqDiff, reduceCtorEq, ↓reduceIte])
  · have hlt' : ¬ (a.length : Int) < (b.length : Int) := by omega
    simp only [hlt', E1, Nat.reduceAdd, Nat.reduceEqDiff, reduceCtorEq, ↓reduceIte]
    exact Safe.skip (main a b _ _ la lb (by omega) ha rfl (by simp only [E1, Nat.reduceAdd, Nat.reduceEqDiff, reduceCtorEq, ↓reduceIte]) (by simp only [E1, Nat.reduceAdd, Nat.reduceEqDiff, reduceCtorEq, ↓reduceIte]))
theorem d2o (a b : List Nat) (la : Lim a) (lb : Lim b) (ha : a.length ≤ 17592186044416) (hb : b.length ≤ a.length) (hv : val b ≤ val a) : a0d Pr a8q [natV a, natV b] (natV (limbs (val a - val b))) := by
  refine a0d.intro d4B d4A (by simp only [List.length_cons, List.length_nil]; omega) (a0T _) fun H hH => ?_
  refine Safe.seq (Safe.region ?_)
  have hLB : LB = 4294967296 := rfl
  simp only [c4D, E1, Nat.reduceAdd, Nat.reduceEqDiff, reduceCtorEq, ↓reduceIte]
  refine Safe.seq (Safe.region ?_)
  simp only [c4C, E1, Nat.reduceAdd, Nat.reduceEqDiff, reduceCtorEq, ↓reduceIte, b2g _ H [] _ _ a.length (by omega)]
  refine Safe.seq (Safe.region ?_)
  simp only [c4B, E1, Nat.reduceAdd, Nat.reduceEqDiff, reduceCtorEq, ↓reduceIte]
  refine Safe.seq (Safe.seq (Safe.region ?_))
  simp only [c4A, E1, Nat.reduceAdd, Nat.reduceEqDiff, reduceCtorEq, ↓reduceIte]
  refine Safe.block (Safe.loop ?_)
  have key : ∀ (k i c : Nat) (x : List Nat), i + k = a.length → x.length = i → Lim x → c ≤ 1 → val (a.take i) + LB ^ i * c = val x + val (b.take i) →
        Safe ⟨Pr, fun _ _ => false, a8q, 45, [.tmp 4], H.length⟩ [.inLoop b4y, .inBlock 0, .code ((ACode.region a6M false).seq .ret)]
          [(0, natV a), (1, natV b), (5, .mu (lid H 0) 0 a.length (some a.length)), (6, .int .u64 c), (13, .int .i64 a.length), (14, .int .i64 i)]
          (hap H [some ⟨1, u32s (x ++ List.replicate k 0)⟩]) fun r' H' => r' = natV (limbs (val a - val b)) ∧ ∃ L, H' = hap H L := by
    intro k
    induction k with
    | zero =>
      intro i c x hik hx lx hc hv2
      have hi : i = a.length := by omega
      subst hi
      refine Safe.inLoop (Safe.seq (Safe.region ?_))
      simp only [b4x, E1, Nat.reduceAdd, Nat.reduceEqDiff, reduceCtorEq, ↓reduceIte]
      refine Safe.seq (Safe.cond ?_)
      simp only [E1, Nat.reduceAdd, Nat.reduceEqDiff, reduceCtorEq, ↓reduceIte, Int.lt_irrefl]
      refine Safe.exit rfl ?_
      simp only [List.replicate_zero, List.append_nil]
      refine Safe.freeze 0 (b := ⟨1, u32s x⟩) hH rfl rfl (a0m _) ?_
      refine Safe.seq (Safe.region ?_)
      simp only [a6M, E1, Nat.reduceAdd, Nat.reduceEqDiff, reduceCtorEq, ↓reduceIte, ← hx]
      refine (a0v x lx (by omega)).acall ?_
      try simp only [E1, Nat.reduceAdd, Nat.reduceEqDiff, reduceCtorEq, ↓reduceIte]
      refine Safe.retn ?_
      simp only [E1, Nat.reduceAdd, Nat.reduceEqDiff, reduceCtorEq, ↓reduceIte]
      rw [List.take_length, List.take_of_length_le hb] at hv2
      have h1 := a0Z lx
      rw [hx] at h1
      have hc0 : c = 0 := by
        rcases Nat.eq_zero_or_pos c with h | h
        · exact h
        · have : c = 1 := by omega
          subst this
          omega
      subst hc0
      have : val x = val a - val b := by omega
      rw [this]
      first | exact ⟨rfl, _, rfl⟩ | exact ⟨_, rfl⟩ | exact ⟨trivial, _, rfl⟩
    | succ k ih =>
      intro i c x hik hx lx hc hv2
      refine Safe.inLoop (Safe.seq (Safe.region ?_))
      simp only [b4x, E1, Nat.reduceAdd, Nat.reduceEqDiff, reduceCtorEq, ↓reduceIte]
      refine Safe.seq (Safe.cond ?_)
      have hlt : (i : Int) < (a.length : Int) := by omega
      simp only [E1, Nat.reduceAdd, Nat.reduceEqDiff, reduceCtorEq, ↓reduceIte, hlt]
      refine Safe.skip (Safe.seq (Safe.block (Safe.seq (Safe.region ?_))))
      simp only [c4z, E1, Nat.reduceAdd, Nat.reduceEqDiff, reduceCtorEq, ↓reduceIte]
      refine Safe.seq (Safe.region ?_)
      have xa := a0L la i
      have xb := a0L lb i
      have h1w : IntKind.wrap .u64 ((a.getD i 0 : Nat) : Int) = ((a.getD i 0 : Nat) : Int) := a0F (by omega) (by omega)
      simp only [c4y, E1, Nat.reduceAdd, Nat.reduceEqDiff, reduceCtorEq, ↓reduceIte, a0A _ a _ i (by omega), h1w]
      refine Safe.seq (Safe.seq (Safe.region ?_))
      simp only [c4x, E1, Nat.reduceAdd, Nat.reduceEqDiff, reduceCtorEq, ↓reduceIte]
      refine Safe.cond ?_
      simp only [E1, Nat.reduceAdd, Nat.reduceEqDiff, reduceCtorEq, ↓reduceIte]
      have rest : ∀ env : Env, look env 0 = natV a → look env 1 = natV b → look env 5 = .mu (lid H 0) 0 a.length (some a.length) → look env 8 = .int .u64 (((a.getD i 0 : Nat) - (c : Int) - (b.getD i 0 : Nat)) % 18446744073709551616) → look env 7 = .int .i64 i → look env 13 = .int .i64 a.length → look env 14 = .int .i64 i →
            Safe ⟨Pr, fun _ _ => false, a8q, 45, [.tmp 4], H.length⟩ [.code ((ACode.region b4w false).seq (.region b1l false)), .inBlock 1, .code (.region b1k false), .inLoop b4y, .inBlock 0, .code ((ACode.region a6M false).seq .ret)]
              env (hap H [some ⟨1, u32s (x ++ List.replicate (k + 1) 0)⟩]) fun r' H' => r' = natV (limbs (val a - val b)) ∧ ∃ L, H' = hap H L := by
        intro env e0 e1 e5 e8 e7 e13 e14
        refine Safe.seq (Safe.region ?_)
        obtain ⟨d, bo, hd, hbo, hdl, hD, hB⟩ : ∃ d bo : Nat, a.getD i 0 + LB * bo = d + c + b.getD i 0 ∧ bo ≤ 1 ∧ d < LB ∧ (((a.getD i 0 : Nat) - (c : Int) - (b.getD i 0 : Nat)) % 18446744073709551616) % 4294967296 = (d : Int) ∧ (((a.getD i 0 : Nat) - (c : Int) - (b.getD i 0 : Nat)) % 18446744073709551616) / 9223372036854775808 = (bo : Int) := by
          by_cases hlt : a.getD i 0 < c + b.getD i 0
          · exact ⟨a.getD i 0 + LB - c - b.getD i 0, 1, by omega, by omega, by omega, by omega, by omega⟩
          · exact ⟨a.getD i 0 - c - b.getD i 0, 0, by omega, by omega, by omega, by omega, by omega⟩
        simp only [b4w, E1, Nat.reduceAdd, Nat.reduceEqDiff, reduceCtorEq, ↓reduceIte, e5, e8, e7, a9d _ _ _ _ _ _ i (show i < a.length by omega), b5l, hD, c4i _ _ _ i _ (show i < (x ++ List.replicate (k + 1) 0).length by simp [hx])]
        refine Safe.region ?_
        have hs63 : ∀ n : Int, Int.fdiv n (2 ^ min (Int.toNat 63) IntKind.u64.bits) = n / 9223372036854775808 := by
          intro n
          rw [show (2 : Int) ^ min (Int.toNat 63) IntKind.u64.bits = 9223372036854775808 by decide, Int.fdiv_eq_ediv_of_nonneg _ (by decide)]
        simp only [b1l, E1, Nat.reduceAdd, Nat.reduceEqDiff, reduceCtorEq, ↓reduceIte, e8, a3A _ _ _ (show (0 : Int) ≤ 63 by decide), hs63, hB]
        refine Safe.inBlock (Safe.region ?_)
        have hiw : IntKind.wrap .i64 ((i : Int) + 1) = ((i + 1 : Nat) : Int) := by rw [a0a] <;> omega
        simp only [b1k, E1, Nat.reduceAdd, Nat.reduceEqDiff, reduceCtorEq, ↓reduceIte, e14, hiw]
        refine Safe.keep [0, 1, 5, 6, 13, 14] ?_
        simp only [E1, Nat.reduceAdd, Nat.reduceEqDiff, reduceCtorEq, ↓reduceIte, e0, e1, e5, e13]
        have hset : (x ++ List.replicate (k + 1) 0).set i d = (x ++ [d]) ++ List.replicate k 0 := by subst hx; exact c3M _ _ _
        rw [hset]
        refine ih (i + 1) bo _ (by omega) (by simp [hx]) (a1t lx hdl) hbo ?_
        rw [a2F, hx, a0i, a0i, Nat.pow_succ]
        exact d2C hv2 hd
      by_cases hib : i < b.length
      · have hib' : (i : Int) < (b.length : Int) := by omega
        simp only [hib', E1, Nat.reduceAdd, Nat.reduceEqDiff, reduceCtorEq, ↓reduceIte]
        refine Safe.region ?_
        have h3w : IntKind.wrap .u64 ((b.getD i 0 : Nat) : Int) = ((b.getD i 0 : Nat) : Int) := a0F (by omega) (by omega)
        have h4w : IntKind.wrap .u64 (IntKind.wrap .u64 (((a.getD i 0 : Nat) : Int) - c) - ((b.getD i 0 : Nat) : Int)) = ((a.getD i 0 : Nat) - (c : Int) - (b.getD i 0 : Nat)) % 18446744073709551616 := by
          rw [a1f, a1f]; omega
        simp only [c4w, E1, Nat.reduceAdd, Nat.reduceEqDiff, reduceCtorEq, ↓reduceIte, a0A _ b _ i hib, h3w, h4w]
        exact rest _ (by simp only [E1, Nat.reduceAdd, Nat.reduceEqDiff, reduceCtorEq, ↓reduceIte]) (by simp only [E1, Nat.reduceAdd, Nat.reduceEqDiff, reduceCtorEq, ↓reduceIte]) (by simp only [E1, Nat.reduceAdd, Nat.reduceEqDiff, reduceCtorEq, ↓reduceIte]) (by simp only [E1, Nat.reduceAdd, Nat.reduceEqDiff, reduceCtorEq, ↓reduceIte]) (by simp only [E1, Nat.reduceAdd, Nat.reduceEqDiff, reduceCtorEq, ↓reduceIte]) (by simp only [E1, Nat.reduceAdd, Nat.reduceEqDiff, reduceCtorEq, ↓reduceIte]) (by simp only [E1, Nat.reduceAdd, Nat.reduceEqDiff, reduceCtorEq, ↓reduceIte])
      · have hib' : ¬ (i : Int) < (b.length : Int) := by omega
        simp only [hib', E1, Nat.reduceAdd, Nat.reduceEqDiff, reduceCtorEq, ↓reduceIte]
        have hz : b.getD i 0 = 0 := by rw [List.getD_eq_getElem?_getD, List.getElem?_eq_none (by omega)]; rfl
        refine Safe.skip (rest _ (by simp only [E1, Nat.reduceAdd, Nat.reduceEqDiff, reduceCtorEq, ↓reduceIte]) (by simp only [E1, Nat.reduceAdd, Nat.reduceEqDiff, reduceCtorEq, ↓reduceIte]) (by simp only [E1, Nat.reduceAdd, Nat.reduceEqDiff, reduceCtorEq, ↓reduceIte]) (by simp only [E1, Nat.reduceAdd, Nat.reduceEqDiff, reduceCtorEq, ↓reduceIte, hz, a1f]; simp) (by simp only [E1, Nat.reduceAdd, Nat.reduceEqDiff, reduceCtorEq, ↓reduceIte]) (by simp only [E1, Nat.reduceAdd, Nat.reduceEqDiff, reduceCtorEq, ↓reduceIte]) (by simp only [E1, Nat.reduceAdd, Nat.reduceEqDiff, reduceCtorEq, ↓reduceIte]))
  refine Safe.keep [0, 1, 5, 6, 13, 14] ?_
  simp only [E1, Nat.reduceAdd, Nat.reduceEqDiff, reduceCtorEq, ↓reduceIte]
  exact key a.length 0 0 [] (by omega) rfl b9c (by omega) (by simp [val])
theorem c4m (a b : List Nat) (ha : Nt a) (hb : Nt b) (hv : val b ≤ val a) : a0d Pr c6k [natV a, natV b] (.tup [natV (limbs (val a - val b)), .int .i64 0]) := by
  refine a0d.intro d7P d7O (by simp only [List.length_cons, List.length_nil]; omega) (.tup _ (by intro c hc; simp at hc; rcases hc with rfl | rfl; exact a0T _; exact .int _ _)) fun H hH => ?_
  refine Safe.seq (Safe.region ?_)
  simp only [c7x, E1, seval]
  refine Safe.seq (Safe.seq (Safe.region ?_))
  simp only [c7w, E1, seval]
  refine (b4p a b ha hb).acall ?_
  have h0 : ¬ (cmpI (val a) (val b) < 0) := by unfold cmpI; split <;> (try split) <;> omega
  simp only [E1, seval, h0]
  refine Safe.cond ?_
  simp only [E1, seval]
  refine Safe.skip (Safe.seq (Safe.region ?_))
  simp only [c7v, E1, seval]
  refine (a0v a ha.lim ha.len).acall ?_
  try simp only [E1, seval]
  refine (a0v b hb.lim hb.len).acall ?_
  try simp only [E1, seval]
  have hlen : (limbs (val b)).length ≤ (limbs (val a)).length := by
    rcases Nat.lt_or_ge (limbs (val a)).length (limbs (val b)).length with h | h
    · have := b8u h; omega
    · exact h
  have := d2o (limbs (val a)) (limbs (val b)) (a0c _) (a0c _) ha.limbs.len hlen (by rw [a0b, a0b]; exact hv)
  rw [a0b, a0b] at this
  refine this.acall ?_
  try simp only [E1, seval]
  refine Safe.retn ?_
  simp only [E1, seval]
  first | exact ⟨rfl, _, rfl⟩ | exact ⟨_, rfl⟩ | exact ⟨trivial, _, rfl⟩
theorem d5K (w r : List Nat) (k d : Nat) (h : k < w.length) : (w ++ r).set k d = w.set k d ++ r := List.set_append_left _ _ h
theorem d2R (w r : List Nat) (k : Nat) (h : k < w.length) : (w ++ r).getD k 0 = w.getD k 0 := by
  simp [List.getElem?_append_left h]
theorem d4x (a b : List Nat) (ha : Nt a) (hb : Nt b) (hab : a.length + b.length ≤ 17592186044416) : a0d Pr a8s [natV a, natV b] (natV (limbs (val a * val b))) := by
  refine a0d.intro d7S d7R (by simp only [List.length_cons, List.length_nil]; omega) (a0T _) fun H hH => ?_
  refine Safe.seq (Safe.region ?_)
  have hLB : LB = 4294967296 := rfl
  simp only [c7F, E1, Nat.reduceAdd, Nat.reduceEqDiff, reduceCtorEq, ↓reduceIte]
  refine Safe.seq (Safe.region ?_)
  simp only [c7E, E1, Nat.reduceAdd, Nat.reduceEqDiff, reduceCtorEq, ↓reduceIte]
  refine (a0v a ha.lim ha.len).acall ?_
  try simp only [E1, Nat.reduceAdd, Nat.reduceEqDiff, reduceCtorEq, ↓reduceIte]
  refine (a0v b hb.lim hb.len).acall ?_
  try simp only [E1, Nat.reduceAdd, Nat.reduceEqDiff, reduceCtorEq, ↓reduceIte]
  have la := a0c (val a)
  have lb := a0c (val b)
  have va := a0b (val a)
  have vb := a0b (val b)
  have hA := a0U ha.lim
  have hB := a0U hb.lim
  generalize limbs (val a) = A at la va hA ⊢
  generalize limbs (val b) = B at lb vb hB ⊢
  refine Safe.keep [0, 1] (Safe.seq (Safe.region ?_))
  have hw : IntKind.wrap .i64 ((A.length : Int) + (B.length : Int)) = ((A.length + B.length : Nat) : Int) := by rw [a0a] <;> omega
  simp only [c7D, E1, Nat.reduceAdd, Nat.reduceEqDiff, reduceCtorEq, ↓reduceIte, hw, b2g _ H [] _ _ (A.length + B.length) (by omega)]
  refine Safe.seq (Safe.seq (Safe.region ?_))
  simp only [c7C, E1, Nat.reduceAdd, Nat.reduceEqDiff, reduceCtorEq, ↓reduceIte]
  refine Safe.block (Safe.loop ?_)
  -- the inner loop
  have inner : ∀ (todo : List AItem) (i x : Nat) (z vx : Nat), i < A.length → x = A.getD i 0 → 
      (∀ (w : List Nat) (c : Nat) (env : Env), w.length = i + B.length → Lim w → c < LB → val w + LB ^ (i + B.length) * c = vx + LB ^ i * (x * val B) →
        look env 0 = natV A → look env 1 = natV B → look env 5 = .mu (lid H 0) 0 (A.length + B.length) (some (A.length + B.length)) → look env 6 = .int .i64 i → look env 7 = .int .u64 c → look env 20 = .int .i64 A.length → look env 21 = .int .i64 i →
        Safe ⟨Pr, fun _ _ => false, a8s, 71, [.tmp 4], H.length⟩ todo env (hap H [some ⟨1, u32s (w ++ List.replicate z 0)⟩]) fun r' H' => r' = natV (limbs (val a * val b)) ∧ ∃ L, H' = hap H L) →
      ∀ (k j c : Nat) (w : List Nat), j + k = B.length → w.length = i + B.length → Lim w → c < LB → val w + LB ^ (i + j) * c = vx + LB ^ i * (x * val (B.take j)) →
        Safe ⟨Pr, fun _ _ => false, a8s, 71, [.tmp 4], H.length⟩ (.inLoop c7G :: .inBlock 2 :: todo)
          [(0, natV A), (1, natV B), (5, .mu (lid H 0) 0 (A.length + B.length) (some (A.length + B.length))), (6, .int .i64 i), (7, .int .u64 c), (20, .int .i64 A.length), (21, .int .i64 i), (25, .int .i64 B.length), (26, .int .i64 j)]
          (hap H [some ⟨1, u32s (w ++ List.replicate z 0)⟩]) fun r' H' => r' = natV (limbs (val a * val b)) ∧ ∃ L, H' = hap H L := by
    intro todo i x z vx hi hx hk k
    induction k with
    | zero =>
      intro j c w hjk hw lw hc hv
      have hj : j = B.length := by omega
      subst hj
      refine Safe.inLoop (Safe.seq (Safe.region ?_))
      simp only [b8P, E1, Nat.reduceAdd, Nat.reduceEqDiff, reduceCtorEq, ↓reduceIte]
      refine Safe.seq (Safe.cond ?_)
      simp only [E1, Nat.reduceAdd, Nat.reduceEqDiff, reduceCtorEq, ↓reduceIte, Int.lt_irrefl]
      refine Safe.exit rfl ?_
      rw [List.take_length] at hv
      exact hk w c _ hw lw hc hv (by simp only [E1, Nat.reduceAdd, Nat.reduceEqDiff, reduceCtorEq, ↓reduceIte]) (by simp only [E1, Nat.reduceAdd, Nat.reduceEqDiff, reduceCtorEq, ↓reduceIte]) (by simp only [E1, Nat.reduceAdd, Nat.reduceEqDiff, reduceCtorEq, ↓reduceIte]) (by simp only [E1, Nat.reduceAdd, Nat.reduceEqDiff, reduceCtorEq, ↓reduceIte]) (by simp only [E1, Nat.reduceAdd, Nat.reduceEqDiff, reduceCtorEq, ↓reduceIte]) (by simp only [E1, Nat.reduceAdd, Nat.reduceEqDiff, reduceCtorEq, ↓reduceIte]) (by simp only [E1, Nat.reduceAdd, Nat.reduceEqDiff, reduceCtorEq, ↓reduceIte])
    | succ k ih =>
      intro j c w hjk hw lw hc hv
      refine Safe.inLoop (Safe.seq (Safe.region ?_))
      simp only [b8P, E1, Nat.reduceAdd, Nat.reduceEqDiff, reduceCtorEq, ↓reduceIte]
      refine Safe.seq (Safe.cond ?_)
      have hlt : (j : Int) < (B.length : Int) := by omega
      simp only [E1, Nat.reduceAdd, Nat.reduceEqDiff, reduceCtorEq, ↓reduceIte, hlt]
      refine Safe.skip (Safe.seq (Safe.block (Safe.seq (Safe.region ?_))))
      simp only [c7y, E1, Nat.reduceAdd, Nat.reduceEqDiff, reduceCtorEq, ↓reduceIte]
      refine Safe.seq (Safe.regionD ?_)
      have xa := a0L la i
      have xb := a0L lb j
      have xw := a0L lw (i + j)
      have hfit := d5Y hc xa xb xw
      have hLL : LB * LB = 18446744073709551616 := by decide
      have h1w : IntKind.wrap .u64 ((A.getD i 0 : Nat) : Int) = ((A.getD i 0 : Nat) : Int) := a0F (by omega) (by omega)
      have h2w : IntKind.wrap .u64 ((B.getD j 0 : Nat) : Int) = ((B.getD j 0 : Nat) : Int) := a0F (by omega) (by omega)
      have h3w : IntKind.wrap .u64 ((w.getD (i + j) 0 : Nat) : Int) = ((w.getD (i + j) 0 : Nat) : Int) := a0F (by omega) (by omega)
      have h4w : IntKind.wrap .u64 (((A.getD i 0 : Nat) : Int) * ((B.getD j 0 : Nat) : Int)) = ((A.getD i 0 * B.getD j 0 : Nat) : Int) := by rw [← Int.natCast_mul, a0F] <;> omega
      have h5w : IntKind.wrap .u64 (((A.getD i 0 * B.getD j 0 : Nat) : Int) + ((w.getD (i + j) 0 : Nat) : Int)) = ((A.getD i 0 * B.getD j 0 + w.getD (i + j) 0 : Nat) : Int) := by rw [a0F] <;> omega
      have h6w : IntKind.wrap .u64 ((c : Int) + ((A.getD i 0 * B.getD j 0 + w.getD (i + j) 0 : Nat) : Int)) = ((c + A.getD i 0 * B.getD j 0 + w.getD (i + j) 0 : Nat) : Int) := by rw [a0F] <;> omega
      have h7w : IntKind.wrap .i64 ((i : Int) + (j : Int)) = ((i + j : Nat) : Int) := by rw [a0a] <;> omega
      simp only [c4L, E1, Nat.reduceAdd, Nat.reduceEqDiff, reduceCtorEq, ↓reduceIte, a0A _ A _ i hi, a0A _ B _ j (by omega), h1w, h2w, h3w, h4w, h7w, a9d _ _ _ _ _ _ (i + j) (show i + j < A.length + B.length by omega), e3N _ _ (i + j) (show i + j < (w ++ List.replicate z 0).length by simp [hw]; omega),
        d2R w _ (i + j) (show i + j < w.length by omega), h5w, h6w]
      refine Safe.seq (Safe.region ?_)
      have hcw : IntKind.wrap .u32 ((c + A.getD i 0 * B.getD j 0 + w.getD (i + j) 0 : Nat) : Int) = (((c + A.getD i 0 * B.getD j 0 + w.getD (i + j) 0) % LB : Nat) : Int) := a1X _
      simp only [c4K, E1, Nat.reduceAdd, Nat.reduceEqDiff, reduceCtorEq, ↓reduceIte, h7w, hcw, a9d _ _ _ _ _ _ (i + j) (show i + j < A.length + B.length by omega), c4i _ _ _ (i + j) _ (show i + j < (w ++ List.replicate z 0).length by simp [hw]; omega), d5K w _ (i + j) _ (show i + j < w.length by omega)]
      refine Safe.region ?_
      simp only [c4J, E1, Nat.reduceAdd, Nat.reduceEqDiff, reduceCtorEq, ↓reduceIte, a3A _ _ _ (show (0 : Int) ≤ 32 by decide), e4s]
      refine Safe.inBlock (Safe.region ?_)
      have hiw : IntKind.wrap .i64 ((j : Int) + 1) = ((j + 1 : Nat) : Int) := by rw [a0a] <;> omega
      simp only [c4I, E1, Nat.reduceAdd, Nat.reduceEqDiff, reduceCtorEq, ↓reduceIte, hiw]
      refine Safe.keep [0, 1, 5, 6, 7, 20, 21, 25, 26] ?_
      simp only [E1, Nat.reduceAdd, Nat.reduceEqDiff, reduceCtorEq, ↓reduceIte]
      refine ih (j + 1) _ _ (by omega) (by simp [hw]) (d9Z lw (Nat.mod_lt _ (by decide))) ?_ ?_
      · exact Nat.div_lt_of_lt_mul hfit
      · rw [a0i, show i + (j + 1) = (i + j) + 1 by omega, Nat.pow_succ]
        subst hx
        exact d5X (Nat.pow_add LB i j) hv (d8Q (by omega)) rfl
  have outer : ∀ (k i : Nat) (x : List Nat), i + k = A.length → x.length = i + B.length → Lim x → val x = val (A.take i) * val B →
        Safe ⟨Pr, fun _ _ => false, a8s, 71, [.tmp 4], H.length⟩ [.inLoop c7H, .inBlock 0, .code ((ACode.region b4z false).seq .ret)]
          [(0, natV A), (1, natV B), (5, .mu (lid H 0) 0 (A.length + B.length) (some (A.length + B.length))), (20, .int .i64 A.length), (21, .int .i64 i)]
          (hap H [some ⟨1, u32s (x ++ List.replicate k 0)⟩]) fun r' H' => r' = natV (limbs (val a * val b)) ∧ ∃ L, H' = hap H L := by
    intro k
    induction k with
    | zero =>
      intro i x hik hx lx hv
      have hi : i = A.length := by omega
      subst hi
      refine Safe.inLoop (Safe.seq (Safe.region ?_))
      simp only [b8Q, E1, Nat.reduceAdd, Nat.reduceEqDiff, reduceCtorEq, ↓reduceIte]
      refine Safe.seq (Safe.cond ?_)
      simp only [E1, Nat.reduceAdd, Nat.reduceEqDiff, reduceCtorEq, ↓reduceIte, Int.lt_irrefl]
      refine Safe.exit rfl ?_
      simp only [List.replicate_zero, List.append_nil]
      refine Safe.freeze 0 (b := ⟨1, u32s x⟩) hH rfl rfl (a0m _) ?_
      refine Safe.seq (Safe.region ?_)
      simp only [b4z, E1, Nat.reduceAdd, Nat.reduceEqDiff, reduceCtorEq, ↓reduceIte, ← hx]
      refine (a0v x lx (by omega)).acall ?_
      try simp only [E1, Nat.reduceAdd, Nat.reduceEqDiff, reduceCtorEq, ↓reduceIte]
      refine Safe.retn ?_
      simp only [E1, Nat.reduceAdd, Nat.reduceEqDiff, reduceCtorEq, ↓reduceIte]
      rw [List.take_length] at hv
      rw [hv, va, vb]
      first | exact ⟨rfl, _, rfl⟩ | exact ⟨_, rfl⟩ | exact ⟨trivial, _, rfl⟩
    | succ k ih =>
      intro i x hik hx lx hv
      refine Safe.inLoop (Safe.seq (Safe.region ?_))
      simp only [b8Q, E1, Nat.reduceAdd, Nat.reduceEqDiff, reduceCtorEq, ↓reduceIte]
      refine Safe.seq (Safe.cond ?_)
      have hlt : (i : Int) < (A.length : Int) := by omega
      simp only [E1, Nat.reduceAdd, Nat.reduceEqDiff, reduceCtorEq, ↓reduceIte, hlt]
      refine Safe.skip (Safe.seq (Safe.block (Safe.seq (Safe.region ?_))))
      simp only [c7B, E1, Nat.reduceAdd, Nat.reduceEqDiff, reduceCtorEq, ↓reduceIte]
      refine Safe.seq (Safe.region ?_)
      simp only [c7A, E1, Nat.reduceAdd, Nat.reduceEqDiff, reduceCtorEq, ↓reduceIte]
      refine Safe.seq (Safe.seq (Safe.region ?_))
      simp only [c7z, E1, Nat.reduceAdd, Nat.reduceEqDiff, reduceCtorEq, ↓reduceIte]
      refine Safe.block (Safe.loop ?_)
      refine Safe.keep [0, 1, 5, 6, 7, 20, 21, 25, 26] ?_
      simp only [E1, Nat.reduceAdd, Nat.reduceEqDiff, reduceCtorEq, ↓reduceIte]
      refine inner _ i _ (k + 1) (val x) (by omega) rfl ?_ B.length 0 0 x (by omega) hx lx (by decide) (by simp [val])
      intro w c env hw lw hc hv2 e0 e1 e5 e6 e7 e20 e21
      refine Safe.region ?_
      have h7w : IntKind.wrap .i64 ((i : Int) + (B.length : Int)) = ((i + B.length : Nat) : Int) := by rw [a0a] <;> omega
      have hcw : IntKind.wrap .u32 (c : Int) = (c : Int) := a3w (by omega) (by omega)
      simp only [c4H, E1, Nat.reduceAdd, Nat.reduceEqDiff, reduceCtorEq, ↓reduceIte, e0, e1, e5, e6, e7, h7w, hcw, a9d _ _ _ _ _ _ (i + B.length) (show i + B.length < A.length + B.length by omega), c4i _ _ _ (i + B.length) _ (show i + B.length < (w ++ List.replicate (k + 1) 0).length by simp [hw])]
      refine Safe.inBlock (Safe.region ?_)
      have hiw : IntKind.wrap .i64 ((i : Int) + 1) = ((i + 1 : Nat) : Int) := by rw [a0a] <;> omega
      simp only [c4G, E1, Nat.reduceAdd, Nat.reduceEqDiff, reduceCtorEq, ↓reduceIte, e21, hiw]
      refine Safe.keep [0, 1, 5, 20, 21] ?_
      simp only [E1, Nat.reduceAdd, Nat.reduceEqDiff, reduceCtorEq, ↓reduceIte, e0, e1, e5, e20]
      have hset : (w ++ List.replicate (k + 1) 0).set (i + B.length) c = (w ++ [c]) ++ List.replicate k 0 := by rw [← hw]; exact c3M _ _ _
      rw [hset]
      refine ih (i + 1) _ (by omega) (by simp [hw]; omega) (a1t lw hc) ?_
      rw [a2F, hw, hv2, a0i, hv, Nat.add_mul, Nat.mul_assoc]
  refine Safe.keep [0, 1, 5, 20, 21] ?_
  simp only [E1, Nat.reduceAdd, Nat.reduceEqDiff, reduceCtorEq, ↓reduceIte]
  have := outer A.length 0 (List.replicate B.length 0) (by omega) (by simp) (by intro d hd; simp at hd; omega) (by simp [b5m, val])
  rw [List.replicate_append_replicate, Nat.add_comm B.length] at this
  exact this
end Go.Abs
set_option linter.unusedVariables false
set_option linter.unusedSimpArgs false
namespace Go.Abs
theorem a0s (l : List Nat) (hl : Nt l) : a0d Pr a0z [natV l] (natV (limbs (val l))) := by
  refine a0d.intro c9z c9y (by simp only [List.length_cons, List.length_nil]; omega) (a0T _) fun H hH => ?_
  have hll := hl.len
  refine Safe.seq (Safe.region ?_)
  simp only [b6B, E1, seval]
  refine Safe.seq (Safe.region ?_)
  simp only [b6A, E1, seval]
  refine Safe.seq (Safe.block (Safe.loop ?_))
  -- the copy
  have copy : ∀ (n : Nat), n ≤ l.length → limbs (val l) = l.take n → ∀ env : Env, look env 0 = natV l → look env 3 = .int .i64 n →
      Safe ⟨Pr, fun _ _ => false, a0z, 33, [.tmp 2], H.length⟩ [.code ((ACode.region a5u false).seq (((ACode.region a5t false).seq (.block 2 (.loop a5v))).seq ((ACode.region a3I false).seq .ret)))]
        env (hap H []) fun r' H' => r' = natV (limbs (val l)) ∧ ∃ L, H' = hap H L := by
    intro n hn hlim env e0 e3
    refine Safe.seq (Safe.region ?_)
    simp only [a5u, E1, seval]
    refine Safe.seq (Safe.seq (Safe.region ?_))
    simp only [a5t, E1, seval]
    refine Safe.nilrow 4 1 (by decide) (by simp only [E1, seval]) ?_
    refine Safe.block (Safe.loop ?_)
    have key : ∀ (k i : Nat), i + k = n → Safe ⟨Pr, fun _ _ => false, a0z, 33, [.tmp 2], H.length⟩ [.inLoop a5v, .inBlock 2, .code ((ACode.region a3I false).seq .ret)]
        [(0, natV l), (3, .int .i64 n), (4, .mu (lid H 0) 0 (l.take i).length none), (5, .int .i64 i)] (hap H [some ⟨1, u32s (l.take i)⟩]) fun r' H' => r' = natV (limbs (val l)) ∧ ∃ L, H' = hap H L := by
      intro k
      induction k with
      | zero =>
        intro i hi
        have hi : i = n := by omega
        subst hi
        refine Safe.inLoop (Safe.seq (Safe.seq (Safe.region ?_)))
        simp only [a8N, E1, seval, Int.lt_irrefl]
        refine Safe.cond ?_
        simp only [E1, seval]
        refine Safe.exit rfl ?_
        refine Safe.freeze 0 (b := ⟨1, u32s (l.take i)⟩) hH rfl rfl (a0m _) ?_
        refine Safe.seq (Safe.region ?_)
        simp only [a3I, E1, seval]
        refine Safe.retn ?_
        simp only [E1, seval, hlim]
        first | exact ⟨rfl, _, rfl⟩ | exact ⟨_, rfl⟩ | exact ⟨trivial, _, rfl⟩
      | succ k ih =>
        intro i hi
        refine Safe.inLoop (Safe.seq (Safe.seq (Safe.region ?_)))
        have hlt : (i : Int) < (n : Int) := by omega
        simp only [a8N, E1, seval, hlt]
        refine Safe.cond ?_
        simp only [E1, seval]
        refine Safe.skip (Safe.seq (Safe.block (Safe.region ?_)))
        simp only [b6y, E1, seval, a0A _ l _ i (by omega), c4j H hH _ (a1v H 0) _ (l.take i) (l.getD i 0) (by rw [List.length_take]; omega)]
        refine Safe.inBlock (Safe.region ?_)
        have hiw : IntKind.wrap .i64 ((i : Int) + 1) = ((i + 1 : Nat) : Int) := by rw [a0a] <;> omega
        simp only [b6x, E1, seval, hiw]
        refine Safe.keep [0, 3, 4, 5] ?_
        simp only [E1, seval, d2v]
        have := ih (i + 1) (by omega)
        rw [a7P (by omega)] at this
        simpa only [List.length_append, List.length_cons, List.length_nil] using this
    refine Safe.keep [0, 3, 4, 5] ?_
    simp only [E1, seval, e0, e3]
    exact key n 0 (by omega)
  have key : ∀ (n : Nat), n ≤ l.length → val (l.take n) = val l → ∀ env : Env, look env 0 = natV l → look env 3 = .int .i64 n →
      Safe ⟨Pr, fun _ _ => false, a0z, 33, [.tmp 2], H.length⟩ [.inLoop b6C, .inBlock 0, .code ((ACode.region a5u false).seq (((ACode.region a5t false).seq (.block 2 (.loop a5v))).seq ((ACode.region a3I false).seq .ret)))]
        env (hap H []) fun r' H' => r' = natV (limbs (val l)) ∧ ∃ L, H' = hap H L := by
    intro n
    induction n with
    | zero =>
      intro hn hv env e0 e3
      refine Safe.inLoop (Safe.seq (Safe.seq (Safe.region ?_)))
      simp only [a8O, E1, seval, e0, e3, Int.natCast_zero, Int.lt_irrefl]
      refine Safe.cond ?_
      simp only [E1, seval]
      refine Safe.exit rfl (copy 0 hn ?_ _ (by simp only [E1, seval, e0]) (by simp only [E1, seval, e3] <;> rfl))
      rw [← hv]; simp [val, a0G]
    | succ n ih =>
      intro hn hv env e0 e3
      refine Safe.inLoop (Safe.seq (Safe.seq (Safe.region ?_)))
      have h0 : (0 : Int) < ((n + 1 : Nat) : Int) := by omega
      have hw : IntKind.wrap .i64 (((n + 1 : Nat) : Int) - 1) = (n : Int) := by rw [a0a] <;> omega
      simp only [a8O, E1, seval, e0, e3, h0, hw, a0A _ l _ n (by omega)]
      refine Safe.cond ?_
      simp only [E1, seval]
      by_cases hd : l.getD n 0 = 0
      · simp only [hd, Int.natCast_zero, E1, seval]
        refine Safe.skip (Safe.block (Safe.region ?_))
        simp only [b6z, E1, seval, e3, hw]
        refine Safe.inBlock (ih (by omega) ?_ _ (by simp only [E1, seval, e0]) (by simp only [E1, seval]))
        rw [← hv, a0i, hd]; simp
      · have hd' : ¬ (((l.getD n 0 : Nat) : Int) = 0) := by omega
        simp only [hd', E1, seval]
        refine Safe.exit rfl (copy (n + 1) hn ?_ _ (by simp only [E1, seval, e0]) (by simp only [E1, seval, e3]))
        rw [← hv, a8g (hl.lim.take _)]
        rw [a7P (by omega)]; simpa using hd
  exact key l.length (Nat.le_refl _) (by rw [List.take_length]) _ (by simp only [E1, seval]) (by simp only [E1, seval])
theorem a1o (l : List Nat) (i : Nat) (hl : Lim l) (hb : l.length ≤ 17592186044416) : a0d Pr a0P [natV l, .int .i64 i] (.int .u64 (l.getD i 0 : Nat)) := by
  refine a0d.intro c9v c9u (by simp only [List.length_cons, List.length_nil]; omega) (.int _ _) fun H hH => ?_
  have hd := a0L hl i
  have hLB : LB = 4294967296 := rfl
  refine Safe.seq (Safe.region ?_)
  simp only [b6l, E1, seval]
  refine Safe.seq (Safe.seq (Safe.region ?_))
  simp only [b6k, E1, seval]
  refine Safe.cond ?_
  simp only [E1, seval]
  by_cases h : i < l.length
  · have h' : (i : Int) < (l.length : Int) := by omega
    simp only [h', E1, seval]
    refine Safe.seq (Safe.region ?_)
    simp only [b6j, E1, seval, a0A _ l _ i h, a0F (n := ((l.getD i 0 : Nat) : Int)) (by omega) (by omega)]
    refine Safe.retn ?_
    simp only [E1, seval]
    first | exact ⟨rfl, _, rfl⟩ | exact ⟨_, rfl⟩ | exact ⟨trivial, _, rfl⟩
  · have h' : ¬ (i : Int) < (l.length : Int) := by omega
    simp only [h', E1, seval]
    refine Safe.skip (Safe.seq (Safe.region ?_))
    simp only [b6i, E1, seval]
    refine Safe.retn ?_
    simp only [E1, seval]
    rw [a7a (by omega)]
    first | exact ⟨rfl, _, rfl⟩ | exact ⟨_, rfl⟩ | exact ⟨trivial, _, rfl⟩
theorem c5d (a b : Nat) : a0d Pr a7h [.int .i64 a, .int .i64 b] (.int .i64 (max a b : Nat)) := by
  refine a0d.intro c9t c9s (by simp only [List.length_cons, List.length_nil]; omega) (.int _ _) fun H hH => ?_
  refine Safe.seq (Safe.region ?_)
  simp only [b6h, E1, seval]
  refine Safe.seq (Safe.seq (Safe.region ?_))
  simp only [b6g, E1, seval]
  refine Safe.cond ?_
  simp only [E1, seval]
  by_cases h : b < a
  · have h' : (b : Int) < (a : Int) := by omega
    simp only [h', E1, seval]
    refine Safe.seq (Safe.region ?_)
    simp only [b6f, E1, seval]
    refine Safe.retn ?_
    simp only [E1, seval]
    rw [Nat.max_eq_left (by omega)]
    first | exact ⟨rfl, _, rfl⟩ | exact ⟨_, rfl⟩ | exact ⟨trivial, _, rfl⟩
  · have h' : ¬ (b : Int) < (a : Int) := by omega
    simp only [h', E1, seval]
    refine Safe.skip (Safe.seq (Safe.region ?_))
    simp only [b6e, E1, seval]
    refine Safe.retn ?_
    simp only [E1, seval]
    rw [Nat.max_eq_right (by omega)]
    first | exact ⟨rfl, _, rfl⟩ | exact ⟨_, rfl⟩ | exact ⟨trivial, _, rfl⟩
theorem a8C (a b : List Nat) (ha : Nt a) (hb : Nt b) : a0d Pr a3m [natV a, natV b] (.int .i64 (cmpI (val a) (val b))) := by
  refine a0d.intro d2d d2c (by simp only [List.length_cons, List.length_nil]; omega) (.int _ _) fun H hH => ?_
  have hal := ha.len
  have hbl := hb.len
  refine Safe.seq (Safe.region ?_)
  simp only [c1r, E1, seval]
  refine Safe.seq (Safe.seq (Safe.region ?_))
  simp only [c1q, E1, seval]
  refine (c5d _ _).acall ?_
  have hm : max a.length b.length ≤ 17592186044416 := Nat.max_le.2 ⟨hal, hbl⟩
  simp only [E1, seval, a0a (n := ((max a.length b.length : Nat) : Int) - 1) (by omega) (by omega)]
  refine Safe.block (Safe.loop ?_)
  have key : ∀ (n : Nat), n ≤ max a.length b.length → (∀ j, n ≤ j → a.getD j 0 = b.getD j 0) → 
      Safe ⟨Pr, fun _ _ => false, a3m, 30, [.tmp 4], H.length⟩ [.inLoop c1s, .inBlock 0, .code ((ACode.region a8X false).seq .ret)]
        [(0, natV a), (1, natV b), (5, .int .i64 ((n : Int) - 1))] (hap H []) fun r' H' => r' = .int .i64 (cmpI (val a) (val b)) ∧ ∃ L, H' = hap H L := by
    intro n
    induction n with
    | zero =>
      intro hn hd
      refine Safe.inLoop (Safe.seq (Safe.seq (Safe.region ?_)))
      simp only [b1e, E1, seval, show ¬ ((0 : Int) ≤ ((0 : Nat) : Int) - 1) by omega]
      refine Safe.cond ?_
      simp only [E1, seval]
      refine Safe.exit rfl (Safe.seq (Safe.region ?_))
      simp only [a8X, E1, seval]
      refine Safe.retn ?_
      simp only [E1, seval]
      have : val a = val b := c3E fun i => hd i (Nat.zero_le _)
      exact ⟨by simp [cmpI, this], [], rfl⟩
    | succ n ih =>
      intro hn hd
      refine Safe.inLoop (Safe.seq (Safe.seq (Safe.region ?_)))
      have e1 : ((n + 1 : Nat) : Int) - 1 = (n : Int) := by omega
      simp only [b1e, E1, seval, e1, Int.natCast_nonneg]
      refine Safe.cond ?_
      simp only [E1, seval]
      refine Safe.skip (Safe.seq (Safe.block (Safe.seq (Safe.region ?_))))
      simp only [c1p, E1, seval]
      refine (a1o a n ha.lim hal).acall ?_
      try simp only [E1, seval]
      refine Safe.seq (Safe.region ?_)
      simp only [c1o, E1, seval]
      refine (a1o b n hb.lim hbl).acall ?_
      try simp only [E1, seval]
      refine Safe.seq (Safe.seq (Safe.region ?_))
      simp only [c1n, E1, seval]
      refine Safe.cond ?_
      simp only [E1, seval]
      by_cases h1 : a.getD n 0 < b.getD n 0
      · have h1' : ((a.getD n 0 : Nat) : Int) < ((b.getD n 0 : Nat) : Int) := by omega
        simp only [h1', E1, seval]
        refine Safe.seq (Safe.region ?_)
        simp only [c1m, E1, seval]
        refine Safe.retn ?_
        simp only [E1, seval]
        have := b0G ha.lim hb.lim (fun j hj => hd j (by omega)) h1
        exact ⟨by simp [cmpI, this], [], rfl⟩
      · have h1' : ¬ ((a.getD n 0 : Nat) : Int) < ((b.getD n 0 : Nat) : Int) := by omega
        simp only [h1', E1, seval]
        refine Safe.skip (Safe.seq (Safe.region ?_))
        simp only [c1l, E1, seval]
        refine Safe.cond ?_
        simp only [E1, seval]
        by_cases h2 : b.getD n 0 < a.getD n 0
        · have h2' : ((b.getD n 0 : Nat) : Int) < ((a.getD n 0 : Nat) : Int) := by omega
          simp only [h2', E1, seval]
          refine Safe.seq (Safe.region ?_)
          simp only [c1k, E1, seval]
          refine Safe.retn ?_
          simp only [E1, seval]
          have := b0G hb.lim ha.lim (fun j hj => (hd j (by omega)).symm) h2
          exact ⟨by simp [cmpI, this, Nat.lt_asymm this], [], rfl⟩
        · have h2' : ¬ ((b.getD n 0 : Nat) : Int) < ((a.getD n 0 : Nat) : Int) := by omega
          simp only [h2', E1, seval]
          refine Safe.skip (Safe.inBlock (Safe.region ?_))
          simp only [c1j, E1, seval, a0a (n := (n : Int) - 1) (by omega) (by omega)]
          refine Safe.keep [0, 1, 5] ?_
          simp only [E1, seval]
          refine ih (by omega) fun j hj => ?_
          rcases Nat.eq_or_lt_of_le hj with rfl | hj
          · omega
          · exact hd j hj
  refine Safe.keep [0, 1, 5] ?_
  simp only [E1, seval]
  refine key _ (Nat.le_refl _) fun j hj => ?_
  rw [a7a (by have := Nat.le_max_left a.length b.length; omega), a7a (by have := Nat.le_max_right a.length b.length; omega)]
theorem d3V (a b : List Nat) (la : Lim a) (lb : Lim b) (ha : a.length < 17592186044416) (hb : b.length < 17592186044416) : a0d Pr a9S [natV a, natV b] (natV (limbs (val a + val b))) := by
  refine a0d.intro d2g d2f (by simp only [List.length_cons, List.length_nil]; omega) (a0T _) fun H hH => ?_
  have hLB : LB = 4294967296 := rfl
  refine Safe.seq (Safe.region ?_)
  simp only [c1A, E1, seval]
  refine Safe.seq (Safe.region ?_)
  simp only [c1z, E1, seval]
  refine Safe.seq (Safe.region ?_)
  simp only [c1y, E1, seval]
  refine Safe.seq (Safe.seq (Safe.region ?_))
  simp only [c1x, E1, seval]
  refine Safe.nilrow 5 1 (by decide) (by simp only [E1, seval]) ?_
  refine Safe.block (Safe.loop ?_)
  have hm : max a.length b.length < 17592186044416 := Nat.max_lt.2 ⟨ha, hb⟩
  have m1 := Nat.le_max_left a.length b.length
  have m2 := Nat.le_max_right a.length b.length
  generalize hM : max a.length b.length = M at hm m1 m2
  have key : ∀ (k i c : Nat) (x : List Nat), i + k = M → x.length = i → Lim x → c ≤ 1 → val x + LB ^ i * c = val (a.take i) + val (b.take i) →
      Safe ⟨Pr, fun _ _ => false, a9S, 41, [.tmp 4], H.length⟩ [.inLoop c1B, .inBlock 0, .code ((ACode.region b1f false).seq ((ACode.region a9b false).seq .ret))]
        [(0, natV a), (1, natV b), (5, .mu (lid H 0) 0 x.length none), (6, .int .u64 c), (7, .int .i64 i)] (hap H [some ⟨1, u32s x⟩]) fun r' H' => r' = natV (limbs (val a + val b)) ∧ ∃ L, H' = hap H L := by
    intro k
    induction k with
    | zero =>
      intro i c x hik hx lx hc hv
      refine Safe.inLoop (Safe.seq (Safe.seq (Safe.region ?_)))
      simp only [b1g, E1, seval]
      refine (c5d _ _).acall ?_
      have : ¬ (i : Int) < (M : Int) := by omega
      rw [hM]
      simp only [E1, seval, this]
      refine Safe.cond ?_
      simp only [E1, seval]
      refine Safe.exit rfl (Safe.seq (Safe.region ?_))
      simp only [b1f, E1, seval, a3w (n := (c : Int)) (by omega) (by omega), c4j H hH _ (a1v H 0) _ x c (by omega)]
      have hlen : x.length + 1 = (x ++ [c]).length := by simp
      refine Safe.freeze 0 (b := ⟨1, u32s (x ++ [c])⟩) hH rfl rfl (a0m _) ?_
      refine Safe.seq (Safe.region ?_)
      simp only [a9b, E1, seval, hlen]
      refine (a0s (x ++ [c]) ⟨a1t lx (by omega), by simp; omega⟩).acall ?_
      try simp only [E1, seval]
      refine Safe.retn ?_
      simp only [E1, seval]
      rw [List.take_of_length_le (by omega), List.take_of_length_le (by omega)] at hv
      rw [a2F, hx, hv]
      first | exact ⟨rfl, _, rfl⟩ | exact ⟨_, rfl⟩ | exact ⟨trivial, _, rfl⟩
    | succ k ih =>
      intro i c x hik hx lx hc hv
      refine Safe.inLoop (Safe.seq (Safe.seq (Safe.region ?_)))
      simp only [b1g, E1, seval]
      refine (c5d _ _).acall ?_
      have : (i : Int) < (M : Int) := by omega
      rw [hM]
      simp only [E1, seval, this]
      refine Safe.cond ?_
      simp only [E1, seval]
      refine Safe.skip (Safe.seq (Safe.block (Safe.seq (Safe.region ?_))))
      simp only [c1w, E1, seval]
      have xa := a0L la i
      have xb := a0L lb i
      refine (a1o a i la (by omega)).acall ?_
      have w1 : IntKind.wrap .u64 ((c : Int) + ((a.getD i 0 : Nat) : Int)) = ((c + a.getD i 0 : Nat) : Int) := by rw [a0F] <;> omega
      simp only [E1, seval, w1]
      refine (a1o b i lb (by omega)).acall ?_
      have w2 : IntKind.wrap .u64 (((c + a.getD i 0 : Nat) : Int) + ((b.getD i 0 : Nat) : Int)) = ((c + a.getD i 0 + b.getD i 0 : Nat) : Int) := by rw [a0F] <;> omega
      simp only [E1, seval, w2]
      refine Safe.seq (Safe.region ?_)
      have hmod := Nat.mod_lt (c + a.getD i 0 + b.getD i 0) (show 0 < LB by decide)
      have w3 : IntKind.wrap .u32 (((c + a.getD i 0 + b.getD i 0) % LB : Nat) : Int) = (((c + a.getD i 0 + b.getD i 0) % LB : Nat) : Int) := a3w (by omega) (by omega)
      simp only [c1v, E1, seval, d9v, w3, c4j H hH _ (a1v H 0) _ x _ (show x.length < 35184372088832 by omega)]
      refine Safe.region ?_
      simp only [c1u, E1, seval, e3M _ (show c + a.getD i 0 + b.getD i 0 < 18446744073709551616 by omega)]
      refine Safe.inBlock (Safe.region ?_)
      have hiw : IntKind.wrap .i64 ((i : Int) + 1) = ((i + 1 : Nat) : Int) := by rw [a0a] <;> omega
      simp only [c1t, E1, seval, hiw]
      refine Safe.keep [0, 1, 5, 6, 7] ?_
      simp only [E1, seval]
      have hlen : x.length + 1 = (x ++ [(c + a.getD i 0 + b.getD i 0) % LB]).length := by simp
      rw [hlen]
      refine ih (i + 1) _ _ (by omega) (by simp [hx]) (a1t lx hmod) ?_ ?_
      · have : c + a.getD i 0 + b.getD i 0 < LB * 2 := by omega
        have := Nat.div_lt_of_lt_mul this
        omega
      · rw [a2F, hx, a0i, a0i, Nat.pow_succ]
        exact c8M (i := 0) hv
  refine Safe.keep [0, 1, 5, 6, 7] ?_
  simp only [E1, seval]
  exact key M 0 0 [] (by omega) rfl b9c (by omega) (by simp [val])
theorem a4P (a b : List Nat) (la : Lim a) (lb : Lim b) (ha : a.length ≤ 17592186044416) (hb : b.length ≤ 17592186044416) (hv : val b ≤ val a) : a0d Pr a2D [natV a, natV b] (natV (limbs (val a - val b))) := by
  refine a0d.intro c9x c9w (by simp only [List.length_cons, List.length_nil]; omega) (a0T _) fun H hH => ?_
  have hLB : LB = 4294967296 := rfl
  refine Safe.seq (Safe.region ?_)
  simp only [b6u, E1, seval]
  refine Safe.seq (Safe.region ?_)
  simp only [b6t, E1, seval]
  refine Safe.seq (Safe.region ?_)
  simp only [b6s, E1, seval]
  refine Safe.seq (Safe.seq (Safe.region ?_))
  simp only [b6r, E1, seval]
  refine Safe.nilrow 5 1 (by decide) (by simp only [E1, seval]) ?_
  refine Safe.block (Safe.loop ?_)
  have key : ∀ (k i c : Nat) (x : List Nat), i + k = a.length → x.length = i → Lim x → c ≤ 1 → val (a.take i) + LB ^ i * c = val x + val (b.take i) →
      Safe ⟨Pr, fun _ _ => false, a2D, 38, [.tmp 4], H.length⟩ [.inLoop a8M, .inBlock 0, .code ((ACode.region a4E false).seq .ret)]
        [(0, natV a), (1, natV b), (5, .mu (lid H 0) 0 x.length none), (6, .int .u64 c), (7, .int .i64 i)] (hap H [some ⟨1, u32s x⟩]) fun r' H' => r' = natV (limbs (val a - val b)) ∧ ∃ L, H' = hap H L := by
    intro k
    induction k with
    | zero =>
      intro i c x hik hx lx hc hv2
      refine Safe.inLoop (Safe.seq (Safe.seq (Safe.region ?_)))
      have : ¬ (i : Int) < (a.length : Int) := by omega
      simp only [a8L, E1, seval, this]
      refine Safe.cond ?_
      simp only [E1, seval]
      refine Safe.exit rfl ?_
      refine Safe.freeze 0 (b := ⟨1, u32s x⟩) hH rfl rfl (a0m _) ?_
      refine Safe.seq (Safe.region ?_)
      simp only [a4E, E1, seval]
      refine (a0s x ⟨lx, by omega⟩).acall ?_
      try simp only [E1, seval]
      refine Safe.retn ?_
      simp only [E1, seval]
      rw [List.take_of_length_le (by omega)] at hv2
      have h1 := a0Z lx
      rw [hx] at h1
      have h3 := a3x b i
      have hc0 : c = 0 ∧ val b = val (b.take i) := by
        rcases Nat.eq_zero_or_pos (val (b.drop i)) with h0 | h0
        · rw [h0, Nat.mul_zero] at h3
          rcases Nat.eq_zero_or_pos c with h | h
          · exact ⟨h, by omega⟩
          · have : c = 1 := by omega
            subst this
            omega
        · exfalso
          have h4 : LB ^ i * 1 ≤ LB ^ i * val (b.drop i) := Nat.mul_le_mul_left _ h0
          have h5 := a0Z la
          have : a.length = i := by omega
          rw [this] at h5
          omega
      obtain ⟨rfl, hb2⟩ := hc0
      have : val x = val a - val b := by omega
      rw [this]
      first | exact ⟨rfl, _, rfl⟩ | exact ⟨_, rfl⟩ | exact ⟨trivial, _, rfl⟩
    | succ k ih =>
      intro i c x hik hx lx hc hv2
      refine Safe.inLoop (Safe.seq (Safe.seq (Safe.region ?_)))
      have : (i : Int) < (a.length : Int) := by omega
      simp only [a8L, E1, seval, this]
      refine Safe.cond ?_
      simp only [E1, seval]
      refine Safe.skip (Safe.seq (Safe.block (Safe.seq (Safe.region ?_))))
      simp only [b6q, E1, seval]
      have xa := a0L la i
      have xb := a0L lb i
      refine (a1o a i la ha).acall ?_
      try simp only [E1, seval]
      refine Safe.seq (Safe.region ?_)
      simp only [b6p, E1, seval]
      refine (a1o b i lb hb).acall ?_
      have w1 : IntKind.wrap .u64 (((b.getD i 0 : Nat) : Int) + (c : Int)) = ((b.getD i 0 + c : Nat) : Int) := by rw [a0F] <;> omega
      simp only [E1, seval, w1]
      refine Safe.seq (Safe.region ?_)
      simp only [b6o, E1, seval]
      refine Safe.seq (Safe.seq (Safe.region ?_))
      simp only [b6n, E1, seval]
      refine Safe.cond ?_
      simp only [E1, seval]
      have rest : ∀ (X bo d : Nat) (env : Env), X = d + (b.getD i 0 + c) → X < 18446744073709551616 → bo ≤ 1 → d < LB → a.getD i 0 + LB * bo = d + c + b.getD i 0 → look env 0 = natV a → look env 1 = natV b → look env 5 = .mu (lid H 0) 0 x.length none → look env 6 = .int .u64 bo → look env 7 = .int .i64 i → look env 8 = .int .u64 X → look env 9 = .int .u64 (b.getD i 0 + c : Nat) →
          Safe ⟨Pr, fun _ _ => false, a2D, 38, [.tmp 4], H.length⟩ [.code (.region a7u false), .inBlock 1, .code (.region a7t false), .inLoop a8M, .inBlock 0, .code ((ACode.region a4E false).seq .ret)]
            env (hap H [some ⟨1, u32s x⟩]) fun r' H' => r' = natV (limbs (val a - val b)) ∧ ∃ L, H' = hap H L := by
        intro X bo d env hX hX64 hbo hd hdig e0 e1 e5 e6 e7 e8 e9
        refine Safe.region ?_
        have w2 : IntKind.wrap .u64 ((X : Int) - ((b.getD i 0 + c : Nat) : Int)) = (d : Int) := by rw [a0F] <;> omega
        have w3 : IntKind.wrap .u32 (d : Int) = (d : Int) := a3w (by omega) (by omega)
        simp only [a7u, E1, seval, e5, e8, e9, w2, w3, c4j H hH _ (a1v H 0) _ x _ (show x.length < 35184372088832 by omega)]
        refine Safe.inBlock (Safe.region ?_)
        have hiw : IntKind.wrap .i64 ((i : Int) + 1) = ((i + 1 : Nat) : Int) := by rw [a0a] <;> omega
        simp only [a7t, E1, seval, a1V, e7, hiw]
        refine Safe.keep [0, 1, 5, 6, 7] ?_
        simp only [E1, seval, a1V, e0, e1, e6]
        have hlen : x.length + 1 = (x ++ [d]).length := by simp
        rw [hlen]
        refine ih (i + 1) _ _ (by omega) (by simp [hx]) (a1t lx hd) hbo ?_
        rw [a2F, hx, a0i, a0i, Nat.pow_succ]
        exact d2C hv2 hdig
      by_cases hlt : a.getD i 0 < b.getD i 0 + c
      · have hlt' : ((a.getD i 0 : Nat) : Int) < ((b.getD i 0 + c : Nat) : Int) := by omega
        simp only [hlt', E1, seval]
        refine Safe.seq (Safe.region ?_)
        have w4 : IntKind.wrap .u64 (((a.getD i 0 : Nat) : Int) + 4294967296) = ((a.getD i 0 + 4294967296 : Nat) : Int) := by rw [a0F] <;> omega
        simp only [b6m, E1, seval, w4]
        refine Safe.region ?_
        simp only [b3g, E1, seval]
        exact rest (a.getD i 0 + 4294967296) 1 (a.getD i 0 + 4294967296 - (b.getD i 0 + c)) _ (by omega) (by omega) (by omega) (by omega) (by omega) (by simp only [E1, seval]) (by simp only [E1, seval]) (by simp only [E1, seval]) (by simp only [E1, seval] <;> rfl) (by simp only [E1, seval]) (by simp only [E1, seval]) (by simp only [E1, seval])
      · have hlt' : ¬ ((a.getD i 0 : Nat) : Int) < ((b.getD i 0 + c : Nat) : Int) := by omega
        simp only [hlt', E1, seval]
        exact Safe.skip (rest (a.getD i 0) 0 (a.getD i 0 - (b.getD i 0 + c)) _ (by omega) (by omega) (by omega) (by omega) (by omega) (by simp only [E1, seval]) (by simp only [E1, seval]) (by simp only [E1, seval]) (by simp only [E1, seval] <;> rfl) (by simp only [E1, seval]) (by simp only [E1, seval]) (by simp only [E1, seval]))
  refine Safe.keep [0, 1, 5, 6, 7] ?_
  simp only [E1, seval]
  exact key a.length 0 0 [] (by omega) rfl b9c (by omega) (by simp [val])
theorem c3Q (a b : List Nat) (ha : Nt a) (hb : Nt b) (hv : val b ≤ val a) : a0d Pr a9Q [natV a, natV b] (.tup [natV (limbs (val a - val b)), .int .i64 0]) := by
  refine a0d.intro d1O d1N (by simp only [List.length_cons, List.length_nil]; omega) (.tup _ (by intro c hc; simp at hc; rcases hc with rfl | rfl; exact a0T _; exact .int _ _)) fun H hH => ?_
  refine Safe.seq (Safe.region ?_)
  simp only [c0z, E1, seval]
  refine Safe.seq (Safe.seq (Safe.region ?_))
  simp only [c0y, E1, seval]
  refine (a8C a b ha hb).acall ?_
  have h0 : ¬ (cmpI (val a) (val b) < 0) := by unfold cmpI; split <;> (try split) <;> omega
  simp only [E1, seval, h0]
  refine Safe.cond ?_
  simp only [E1, seval]
  refine Safe.skip (Safe.seq (Safe.region ?_))
  simp only [c0x, E1, seval]
  refine (a4P a b ha.lim hb.lim ha.len hb.len hv).acall ?_
  try simp only [E1, seval]
  refine Safe.retn ?_
  simp only [E1, seval]
  first | exact ⟨rfl, _, rfl⟩ | exact ⟨_, rfl⟩ | exact ⟨trivial, _, rfl⟩
theorem a3i (A B : List Nat) (ha : Nt A) (hb : Nt B) (hab : A.length + B.length ≤ 17592186044416) : a0d Pr a2e [natV A, natV B] (natV (limbs (val A * val B))) := by
  refine a0d.intro d1V d1U (by simp only [List.length_cons, List.length_nil]; omega) (a0T _) fun H hH => ?_
  have la := ha.lim
  have lb := hb.lim
  refine Safe.seq (Safe.region ?_)
  have hLB : LB = 4294967296 := rfl
  simp only [c0P, E1, seval]
  refine Safe.seq (Safe.region ?_)
  have hw : IntKind.wrap .i64 ((A.length : Int) + (B.length : Int)) = ((A.length + B.length : Nat) : Int) := by rw [a0a] <;> omega
  simp only [c0O, E1, seval, hw, b2g _ H [] _ _ (A.length + B.length) (by omega)]
  refine Safe.seq (Safe.seq (Safe.region ?_))
  simp only [c0N, E1, seval]
  refine Safe.block (Safe.loop ?_)
  have inner : ∀ (todo : List AItem) (i x : Nat) (z vx : Nat), i < A.length → x = A.getD i 0 → 
      (∀ (w : List Nat) (c : Nat) (env : Env), w.length = i + B.length → Lim w → c < LB → val w + LB ^ (i + B.length) * c = vx + LB ^ i * (x * val B) →
        look env 0 = natV A → look env 1 = natV B → look env 5 = .mu (lid H 0) 0 (A.length + B.length) (some (A.length + B.length)) → look env 6 = .int .i64 i → look env 7 = .int .u64 c →
        Safe ⟨Pr, fun _ _ => false, a2e, 68, [.tmp 4], H.length⟩ todo env (hap H [some ⟨1, u32s (w ++ List.replicate z 0)⟩]) fun r' H' => r' = natV (limbs (val A * val B)) ∧ ∃ L, H' = hap H L) →
      ∀ (k j c : Nat) (w : List Nat), j + k = B.length → w.length = i + B.length → Lim w → c < LB → val w + LB ^ (i + j) * c = vx + LB ^ i * (x * val (B.take j)) →
        Safe ⟨Pr, fun _ _ => false, a2e, 68, [.tmp 4], H.length⟩ (.inLoop c0Q :: .inBlock 2 :: todo)
          [(0, natV A), (1, natV B), (5, .mu (lid H 0) 0 (A.length + B.length) (some (A.length + B.length))), (6, .int .i64 i), (7, .int .u64 c), (8, .int .i64 j)]
          (hap H [some ⟨1, u32s (w ++ List.replicate z 0)⟩]) fun r' H' => r' = natV (limbs (val A * val B)) ∧ ∃ L, H' = hap H L := by
    intro todo i x z vx hi hx hk k
    induction k with
    | zero =>
      intro j c w hjk hw lw hc hv
      have hj : j = B.length := by omega
      subst hj
      refine Safe.inLoop (Safe.seq (Safe.seq (Safe.region ?_)))
      simp only [b1a, E1, seval, Int.lt_irrefl]
      refine Safe.cond ?_
      simp only [E1, seval]
      refine Safe.exit rfl ?_
      rw [List.take_length] at hv
      exact hk w c _ hw lw hc hv (by simp only [E1, seval]) (by simp only [E1, seval]) (by simp only [E1, seval]) (by simp only [E1, seval]) (by simp only [E1, seval])
    | succ k ih =>
      intro j c w hjk hw lw hc hv
      refine Safe.inLoop (Safe.seq (Safe.seq (Safe.region ?_)))
      have hlt : (j : Int) < (B.length : Int) := by omega
      simp only [b1a, E1, seval, hlt]
      refine Safe.cond ?_
      simp only [E1, seval]
      refine Safe.skip (Safe.seq (Safe.block (Safe.seq (Safe.regionD ?_))))
      have xa := a0L la i
      have xb := a0L lb j
      have xw := a0L lw (i + j)
      have hfit := d5Y hc xa xb xw
      have hLL : LB * LB = 18446744073709551616 := by decide
      have h1w : IntKind.wrap .u64 ((A.getD i 0 : Nat) : Int) = ((A.getD i 0 : Nat) : Int) := a0F (by omega) (by omega)
      have h2w : IntKind.wrap .u64 ((B.getD j 0 : Nat) : Int) = ((B.getD j 0 : Nat) : Int) := a0F (by omega) (by omega)
      have h3w : IntKind.wrap .u64 ((w.getD (i + j) 0 : Nat) : Int) = ((w.getD (i + j) 0 : Nat) : Int) := a0F (by omega) (by omega)
      have h4w : IntKind.wrap .u64 (((A.getD i 0 : Nat) : Int) * ((B.getD j 0 : Nat) : Int)) = ((A.getD i 0 * B.getD j 0 : Nat) : Int) := by rw [← Int.natCast_mul, a0F] <;> omega
      have h5w : IntKind.wrap .u64 ((c : Int) + ((w.getD (i + j) 0 : Nat) : Int)) = ((c + w.getD (i + j) 0 : Nat) : Int) := by rw [a0F] <;> omega
      have h6w : IntKind.wrap .u64 (((c + w.getD (i + j) 0 : Nat) : Int) + ((A.getD i 0 * B.getD j 0 : Nat) : Int)) = ((c + A.getD i 0 * B.getD j 0 + w.getD (i + j) 0 : Nat) : Int) := by rw [a0F] <;> omega
      have h7w : IntKind.wrap .i64 ((i : Int) + (j : Int)) = ((i + j : Nat) : Int) := by rw [a0a] <;> omega
      simp only [c0K, E1, seval, a0A _ A _ i hi, a0A _ B _ j (by omega), h1w, h2w, h3w, h4w, h7w, a9d _ _ _ _ _ _ (i + j) (show i + j < A.length + B.length by omega), e3N _ _ (i + j) (show i + j < (w ++ List.replicate z 0).length by simp [hw]; omega),
        d2R w _ (i + j) (show i + j < w.length by omega), h5w, h6w]
      refine Safe.seq (Safe.region ?_)
      have hmod := Nat.mod_lt (c + A.getD i 0 * B.getD j 0 + w.getD (i + j) 0) (show 0 < LB by decide)
      have hcw : IntKind.wrap .u32 (((c + A.getD i 0 * B.getD j 0 + w.getD (i + j) 0) % LB : Nat) : Int) = (((c + A.getD i 0 * B.getD j 0 + w.getD (i + j) 0) % LB : Nat) : Int) := a3w (by omega) (by omega)
      simp only [c0J, E1, seval, h7w, d9v, hcw, a9d _ _ _ _ _ _ (i + j) (show i + j < A.length + B.length by omega), c4i _ _ _ (i + j) _ (show i + j < (w ++ List.replicate z 0).length by simp [hw]; omega), d5K w _ (i + j) _ (show i + j < w.length by omega)]
      refine Safe.region ?_
      simp only [c0I, E1, seval, e3M _ (show c + A.getD i 0 * B.getD j 0 + w.getD (i + j) 0 < 18446744073709551616 by omega)]
      refine Safe.inBlock (Safe.region ?_)
      have hiw : IntKind.wrap .i64 ((j : Int) + 1) = ((j + 1 : Nat) : Int) := by rw [a0a] <;> omega
      simp only [b6F, E1, seval, hiw]
      refine Safe.keep [0, 1, 5, 6, 7, 8] ?_
      simp only [E1, seval]
      refine ih (j + 1) _ _ (by omega) (by simp [hw]) (d9Z lw hmod) ?_ ?_
      · exact Nat.div_lt_of_lt_mul hfit
      · rw [a0i, show i + (j + 1) = (i + j) + 1 by omega, Nat.pow_succ]
        subst hx
        exact d5X (Nat.pow_add LB i j) hv (d8Q (by omega)) rfl
  have outer : ∀ (k i : Nat) (x : List Nat), i + k = A.length → x.length = i + B.length → Lim x → val x = val (A.take i) * val B →
        Safe ⟨Pr, fun _ _ => false, a2e, 68, [.tmp 4], H.length⟩ [.inLoop c0R, .inBlock 0, .code ((ACode.region a8P false).seq .ret)]
          [(0, natV A), (1, natV B), (5, .mu (lid H 0) 0 (A.length + B.length) (some (A.length + B.length))), (6, .int .i64 i)]
          (hap H [some ⟨1, u32s (x ++ List.replicate k 0)⟩]) fun r' H' => r' = natV (limbs (val A * val B)) ∧ ∃ L, H' = hap H L := by
    intro k
    induction k with
    | zero =>
      intro i x hik hx lx hv
      have hi : i = A.length := by omega
      subst hi
      refine Safe.inLoop (Safe.seq (Safe.seq (Safe.region ?_)))
      simp only [b1b, E1, seval, Int.lt_irrefl]
      refine Safe.cond ?_
      simp only [E1, seval]
      refine Safe.exit rfl ?_
      simp only [List.replicate_zero, List.append_nil]
      refine Safe.freeze 0 (b := ⟨1, u32s x⟩) hH rfl rfl (a0m _) ?_
      refine Safe.seq (Safe.region ?_)
      simp only [a8P, E1, seval, ← hx]
      refine (a0s x ⟨lx, by omega⟩).acall ?_
      try simp only [E1, seval]
      refine Safe.retn ?_
      simp only [E1, seval]
      rw [List.take_length] at hv
      rw [hv]
      first | exact ⟨rfl, _, rfl⟩ | exact ⟨_, rfl⟩ | exact ⟨trivial, _, rfl⟩
    | succ k ih =>
      intro i x hik hx lx hv
      refine Safe.inLoop (Safe.seq (Safe.seq (Safe.region ?_)))
      have hlt : (i : Int) < (A.length : Int) := by omega
      simp only [b1b, E1, seval, hlt]
      refine Safe.cond ?_
      simp only [E1, seval]
      refine Safe.skip (Safe.seq (Safe.block (Safe.seq (Safe.region ?_))))
      simp only [c0M, E1, seval]
      refine Safe.seq (Safe.seq (Safe.region ?_))
      simp only [c0L, E1, seval]
      refine Safe.block (Safe.loop ?_)
      refine Safe.keep [0, 1, 5, 6, 7, 8] ?_
      simp only [E1, seval]
      refine inner _ i _ (k + 1) (val x) (by omega) rfl ?_ B.length 0 0 x (by omega) hx lx (by decide) (by simp [val])
      intro w c env hw lw hc hv2 e0 e1 e5 e6 e7
      refine Safe.region ?_
      have h7w : IntKind.wrap .i64 ((i : Int) + (B.length : Int)) = ((i + B.length : Nat) : Int) := by rw [a0a] <;> omega
      have hcw : IntKind.wrap .u32 (c : Int) = (c : Int) := a3w (by omega) (by omega)
      simp only [b6E, E1, seval, e0, e1, e5, e6, e7, h7w, hcw, a9d _ _ _ _ _ _ (i + B.length) (show i + B.length < A.length + B.length by omega), c4i _ _ _ (i + B.length) _ (show i + B.length < (w ++ List.replicate (k + 1) 0).length by simp [hw])]
      refine Safe.inBlock (Safe.region ?_)
      have hiw : IntKind.wrap .i64 ((i : Int) + 1) = ((i + 1 : Nat) : Int) := by rw [a0a] <;> omega
      simp only [b6D, E1, seval, e6, hiw]
      refine Safe.keep [0, 1, 5, 6] ?_
      simp only [E1, seval, e0, e1, e5]
      have hset : (w ++ List.replicate (k + 1) 0).set (i + B.length) c = (w ++ [c]) ++ List.replicate k 0 := by rw [← hw]; exact c3M _ _ _
      rw [hset]
      refine ih (i + 1) _ (by omega) (by simp [hw]; omega) (a1t lw hc) ?_
      rw [a2F, hw, hv2, a0i, hv, Nat.add_mul, Nat.mul_assoc]
  refine Safe.keep [0, 1, 5, 6] ?_
  simp only [E1, seval]
  have := outer A.length 0 (List.replicate B.length 0) (by omega) (by simp) (by intro d hd; simp at hd; omega) (by simp [b5m, val])
  rw [List.replicate_append_replicate, Nat.add_comm B.length] at this
  exact this
theorem a4Q (l : List Nat) (hl : Nt l) : a0d Pr a2E [natV l] (.int .i64 (blen (val l))) := by
  refine a0d.intro c9B c9A (by simp only [List.length_cons, List.length_nil]; omega) (.int _ _) fun H hH => ?_
  have hll := hl.len
  refine Safe.seq (Safe.region ?_)
  simp only [b6W, E1, seval]
  refine Safe.seq (Safe.seq (Safe.region ?_))
  have hw : IntKind.wrap .i64 ((l.length : Int) - 1) = (l.length : Int) - 1 := a0a (by omega) (by omega)
  simp only [b6V, E1, seval, hw]
  refine Safe.block (Safe.loop ?_)
  have inner : ∀ (todo : List AItem) (m s : Nat), m < 4294967296 → s + blen m = blen (val l) → s + blen m ≤ 32 * l.length →
      Safe ⟨Pr, fun _ _ => false, a2E, 31, [.tmp 2], H.length⟩ (.inLoop b6X :: .inBlock 2 :: .code ((ACode.region a8Y false).seq .ret) :: todo)
        [(4, .int .i64 s), (5, .int .u32 m)] (hap H []) fun r' H' => r' = .int .i64 (blen (val l)) ∧ ∃ L, H' = hap H L := by
    intro todo m
    induction m using Nat.strongRecOn with
    | _ m ih =>
    intro s hm hs hb
    refine Safe.inLoop (Safe.seq (Safe.seq (Safe.region ?_)))
    by_cases h0 : m = 0
    · subst h0
      simp only [a8Z, E1, seval, Int.natCast_zero, Int.lt_irrefl]
      refine Safe.cond ?_
      simp only [E1, seval]
      refine Safe.exit rfl (Safe.seq (Safe.region ?_))
      simp only [a8Y, E1, seval]
      refine Safe.retn ?_
      simp only [E1, seval]
      rw [← hs]
      exact ⟨rfl, [], rfl⟩
    · have h0' : (0 : Int) < (m : Int) := by omega
      simp only [a8Z, E1, seval, h0']
      refine Safe.cond ?_
      simp only [E1, seval]
      refine Safe.skip (Safe.seq (Safe.block (Safe.region ?_)))
      have hbl : blen m = 1 + blen (m / 2) := by
        by_cases h1 : m = 1
        · subst h1; rfl
        · have := d0u (n := m) (k := 1) (by omega)
          simpa using this
      have w1 : IntKind.wrap .i64 ((s : Int) + 1) = ((s + 1 : Nat) : Int) := by rw [a0a] <;> omega
      simp only [b6R, E1, seval, w1]
      refine Safe.inBlock (Safe.region ?_)
      have w2 : binV .quo (.int .u32 (m : Int)) (.int .u32 2) = some (.int .u32 ((m / 2 : Nat) : Int)) := by
        rw [c3g _ _ _ (by decide), Int.tdiv_eq_ediv_of_nonneg (by omega)]
        have : (m : Int) / 2 = ((m / 2 : Nat) : Int) := rfl
        rw [this, a3w (by omega) (by omega)]
      simp only [b6Q, E1, seval, w2]
      refine Safe.keep [4, 5] ?_
      simp only [E1, seval]
      exact ih (m / 2) (by omega) (s + 1) (by omega) (by omega) (by omega)
  have key : ∀ (n : Nat), n ≤ l.length → val (l.take n) = val l → 
      Safe ⟨Pr, fun _ _ => false, a2E, 31, [.tmp 2], H.length⟩ [.inLoop b6Y, .inBlock 0, .code ((ACode.region a7v false).seq .ret)]
        [(0, natV l), (3, .int .i64 ((n : Int) - 1))] (hap H []) fun r' H' => r' = .int .i64 (blen (val l)) ∧ ∃ L, H' = hap H L := by
    intro n
    induction n with
    | zero =>
      intro hn hv
      refine Safe.inLoop (Safe.seq (Safe.seq (Safe.region ?_)))
      simp only [a9a, E1, seval, show ¬ ((0 : Int) ≤ ((0 : Nat) : Int) - 1) by omega]
      refine Safe.cond ?_
      simp only [E1, seval]
      refine Safe.exit rfl (Safe.seq (Safe.region ?_))
      simp only [a7v, E1, seval]
      refine Safe.retn ?_
      simp only [E1, seval]
      rw [← hv]
      exact ⟨rfl, [], rfl⟩
    | succ n ih =>
      intro hn hv
      refine Safe.inLoop (Safe.seq (Safe.seq (Safe.region ?_)))
      have e1 : ((n + 1 : Nat) : Int) - 1 = (n : Int) := by omega
      simp only [a9a, E1, seval, e1, Int.natCast_nonneg]
      refine Safe.cond ?_
      simp only [E1, seval]
      refine Safe.skip (Safe.seq (Safe.block (Safe.seq (Safe.region ?_))))
      simp only [b6U, E1, seval, a0A _ l _ n (by omega)]
      refine Safe.cond ?_
      simp only [E1, seval]
      by_cases hd : l.getD n 0 = 0
      · simp only [hd, Int.natCast_zero, E1, seval]
        refine Safe.skip (Safe.inBlock (Safe.region ?_))
        simp only [b3h, E1, seval, a0a (n := (n : Int) - 1) (by omega) (by omega)]
        refine Safe.keep [0, 3] ?_
        simp only [E1, seval]
        refine ih (by omega) ?_
        rw [← hv, a0i, hd]; simp
      · have hd' : ¬ (((l.getD n 0 : Nat) : Int) = 0) := by omega
        simp only [hd', E1, seval]
        refine Safe.seq (Safe.region ?_)
        have w1 : IntKind.wrap .i64 (32 * (n : Int)) = ((32 * n : Nat) : Int) := by rw [a0a] <;> omega
        simp only [b6T, E1, seval, w1]
        refine Safe.seq (Safe.seq (Safe.region ?_))
        simp only [b6S, E1, seval, a0A _ l _ n (by omega)]
        refine Safe.block (Safe.loop ?_)
        refine Safe.keep [4, 5] ?_
        simp only [E1, seval]
        have hlt : l.getD n 0 < 4294967296 := a0L hl.lim n
        have hbv : blen (val l) = 32 * n + blen (l.getD n 0) := by
          rw [← hv, a7P (by omega), b9v (hl.lim.take n) hd, List.length_take, Nat.min_eq_left (by omega)]
        refine inner _ _ (32 * n) hlt hbv.symm ?_
        rw [← hbv]
        have h1 := a0Z hl.lim
        rw [e0b] at h1
        rcases Nat.lt_or_ge (32 * l.length) (blen (val l)) with h | h
        · have h0 : val l ≠ 0 := by intro h0; rw [h0] at h; simp [blen] at h
          have h2 := b9w h0
          have h3 := Nat.pow_le_pow_right (show 0 < 2 by decide) (show 32 * l.length ≤ blen (val l) - 1 by omega)
          omega
        · exact h
  refine Safe.keep [0, 3] ?_
  simp only [E1, seval]
  exact key l.length (Nat.le_refl _) (by rw [List.take_length])
end Go.Abs
set_option linter.unusedVariables false
set_option linter.unusedSimpArgs false
namespace Go.Abs
theorem a1h (neg : Bool) (l : List Nat) (hl : Nt l) : a0d Pr a1j [.bool neg, natV l] (Z (sgn neg (val l))) := by
  refine a0d.intro c9l c9k (by simp only [List.length_cons, List.length_nil]; omega) (Z_cl _) fun H hH => ?_
  refine Safe.seq (Safe.region ?_)
  simp only [b5U, E2, seval]
  refine Safe.seq (Safe.region ?_)
  simp only [b5T, E2, seval]
  refine (a0s l hl).acall ?_
  try simp only [E2, seval]
  refine Safe.seq (Safe.region ?_)
  have e0 : decide ((0 : Int) < ((limbs (val l)).length : Int)) = decide (0 < val l) := by
    rcases Nat.eq_zero_or_pos (val l) with h | h
    · rw [h, a0G]; rfl
    · rw [a6i (by omega)]; simp [h] <;> omega
  cases neg
  · simp only [a8K, E2, seval]
    refine Safe.retn ?_
    simp only [E2, seval]
    rw [← e6b]
    simp only [Bool.false_and]
    first | exact ⟨rfl, _, rfl⟩ | exact ⟨_, rfl⟩ | exact ⟨trivial, _, rfl⟩
  · simp only [a8K, E2, seval, e0, d2l]
    refine Safe.retn ?_
    simp only [E2, seval]
    rw [← e6b]
    simp only [Bool.true_and]
    first | exact ⟨rfl, _, rfl⟩ | exact ⟨_, rfl⟩ | exact ⟨trivial, _, rfl⟩
theorem a1U (neg : Bool) (l : List Nat) (hl : Nt l) : a0d Pr a0X [.bool neg, natV l] (Z (sgn neg (val l))) := by
  refine a0d.introL d0A d0z (by simp only [List.length_cons, List.length_nil]; omega) (Z_cl _) fun H hH => ?_
  have hll := hl.len
  refine Safe.seq (Safe.region ?_)
  simp only [b9D, E2, seval]
  refine Safe.seq (Safe.region ?_)
  simp only [b9C, E2, seval]
  refine Safe.seq (Safe.block (Safe.loop ?_))
  have copy : ∀ (n : Nat), n ≤ l.length → limbs (val l) = l.take n → ∀ env : Env, look env 0 = .bool neg → look env 1 = natV l → look env 4 = .loc (lid H 0) 0 0 → look env 5 = .int .i64 n →
      Safe ⟨Pr, fun _ _ => false, a0X, 32, [.cell 4 (some 2)], H.length⟩ [.code (((ACode.region a6K false).seq (.cond (.t 22) ((ACode.region a6J false).seq .ret) .skip)).seq ((ACode.region a6I false).seq ((ACode.region a6H false).seq ((ACode.region a6G false).seq .ret))))]
        env (hap H [some ⟨2, [.agg [.bool false, .nil]]⟩]) fun r' H' => Le r' (Z (sgn neg (val l))) ∧ ∃ L, H' = hap H L := by
    intro n hn hlim env e0 e1 e4 e5
    refine Safe.seq (Safe.seq (Safe.region ?_))
    simp only [a6K, E2, seval, e5]
    refine Safe.cond ?_
    simp only [E2, seval]
    by_cases h0 : n = 0
    · subst h0
      simp only [Int.natCast_zero, E2, seval]
      refine Safe.seq (Safe.region ?_)
      simp only [a6J, E2, seval, e4]
      refine Safe.retn ?_
      simp only [E2, seval, e4]
      refine ⟨?_, _, rfl⟩
      have : val l = 0 := by
        have := a0b (val l)
        rw [hlim] at this
        simpa [val] using this.symm
      rw [this, a5s]
      exact le_zero
    · have h0' : ¬ ((n : Int) = 0) := by omega
      simp only [h0', E2, seval]
      refine Safe.skip (Safe.seq (Safe.region ?_))
      simp only [a6I, E2, seval, e5, b2g _ H [some ⟨2, [.agg [.bool false, .nil]]⟩] _ _ n (by omega)]
      refine Safe.seq (Safe.region ?_)
      have hc := d6w ((28, .int .i64 n) :: []) H [some ⟨2, [.agg [.bool false, .nil]]⟩, some ⟨1, u32s (List.replicate n 0)⟩] 1 1 n (some n) (natV l) (u32s (List.replicate n 0)) (u32s l) rfl (by simp [a0w]) (b7k _ l) (by rw [a0w]; exact hn)
      simp only [a6H, E2, seval, e1]
      rw [d6w _ H [some ⟨2, [.agg [.bool false, .nil]]⟩, some ⟨1, u32s (List.replicate n 0)⟩] 1 1 n (some n) (natV l) (u32s (List.replicate n 0)) (u32s l) rfl (by simp [a0w]) (b7k _ l) (by rw [a0w]; exact hn)]
      simp only [E2, seval, b5o]
      refine Safe.freeze 1 (b := ⟨1, u32s (l.take n)⟩) hH rfl rfl (a0m _) ?_
      have hlen : n = (l.take n).length := by rw [List.length_take]; omega
      have hfm : frz (lid H 1) ⟨1, u32s (l.take n)⟩ (.mu (lid H 1) 0 n (some n)) = natV (l.take n) := by
        have := a8k H 1 (l.take n) (some n)
        rwa [← hlen] at this
      refine Safe.keep [0, 4, 6] ?_
      simp only [E2, seval, d2A, e0, e4, hfm, a0N H 1 0 _ 0 0 (by decide)]
      refine Safe.seq (Safe.region ?_)
      simp only [a6G, E2, seval]
      refine Safe.retn ?_
      simp only [E2, seval]
      refine ⟨?_, _, rfl⟩
      rw [← e6b, hlim]
      have hp : 0 < val l := by
        rcases Nat.eq_zero_or_pos (val l) with h | h
        · rw [h, a0G] at hlim
          have := congrArg List.length hlim
          simp at this; omega
        · exact h
      simp only [hp, decide_true, Bool.and_true]
      exact Le.refl _
  have key : ∀ (n : Nat), n ≤ l.length → val (l.take n) = val l → ∀ env : Env, look env 0 = .bool neg → look env 1 = natV l → look env 4 = .loc (lid H 0) 0 0 → look env 5 = .int .i64 n →
      Safe ⟨Pr, fun _ _ => false, a0X, 32, [.cell 4 (some 2)], H.length⟩ [.inLoop b9E, .inBlock 0, .code (((ACode.region a6K false).seq (.cond (.t 22) ((ACode.region a6J false).seq .ret) .skip)).seq ((ACode.region a6I false).seq ((ACode.region a6H false).seq ((ACode.region a6G false).seq .ret))))]
        env (hap H [some ⟨2, [.agg [.bool false, .nil]]⟩]) fun r' H' => Le r' (Z (sgn neg (val l))) ∧ ∃ L, H' = hap H L := by
    intro n
    induction n with
    | zero =>
      intro hn hv env e0 e1 e4 e5
      refine Safe.inLoop (Safe.seq (Safe.seq (Safe.region ?_)))
      simp only [b0F, E2, seval, e1, e5, Int.natCast_zero, Int.lt_irrefl]
      refine Safe.cond ?_
      simp only [E2, seval]
      refine Safe.exit rfl (copy 0 hn ?_ _ (by simp only [E2, seval, e0]) (by simp only [E2, seval, e1]) (by simp only [E2, seval, e4]) (by simp only [E2, seval, e5] <;> rfl))
      rw [← hv]; simp [val, a0G]
    | succ n ih =>
      intro hn hv env e0 e1 e4 e5
      refine Safe.inLoop (Safe.seq (Safe.seq (Safe.region ?_)))
      have h0 : (0 : Int) < ((n + 1 : Nat) : Int) := by omega
      have hw : IntKind.wrap .i64 (((n + 1 : Nat) : Int) - 1) = (n : Int) := by rw [a0a] <;> omega
      simp only [b0F, E2, seval, e1, e5, h0, hw, a0A _ l _ n (by omega)]
      refine Safe.cond ?_
      simp only [E2, seval]
      by_cases hd : l.getD n 0 = 0
      · simp only [hd, Int.natCast_zero, E2, seval]
        refine Safe.skip (Safe.block (Safe.region ?_))
        simp only [b9B, E2, seval, e5, hw]
        refine Safe.inBlock (ih (by omega) ?_ _ (by simp only [E2, seval, e0]) (by simp only [E2, seval, e1]) (by simp only [E2, seval, e4]) (by simp only [E2, seval]))
        rw [← hv, a0i, hd]; simp
      · have hd' : ¬ (((l.getD n 0 : Nat) : Int) = 0) := by omega
        simp only [hd', E2, seval]
        refine Safe.exit rfl (copy (n + 1) hn ?_ _ (by simp only [E2, seval, e0]) (by simp only [E2, seval, e1]) (by simp only [E2, seval, e4]) (by simp only [E2, seval, e5]))
        rw [← hv, a8g (hl.lim.take _)]
        rw [a7P (by omega)]; simpa using hd
  exact key l.length (Nat.le_refl _) (by rw [List.take_length]) _ (by simp only [E2, seval]) (by simp only [E2, seval]) (by simp only [E2, seval]) (by simp only [E2, seval])
theorem d3R (n : Bool) (a b : Nat) : sgn n a + sgn n b = sgn n (a + b) := by cases n <;> simp [sgn] <;> omega
theorem d9f (m n : Bool) (a b : Nat) (h : m ≠ n) (hb : b ≤ a) : sgn m a + sgn n b = sgn m (a - b) := by
  cases m <;> cases n <;> simp [sgn] at h ⊢ <;> omega
theorem d5I (m n : Bool) (a b : Nat) (h : m ≠ n) (hb : a ≤ b) : sgn m a + sgn n b = sgn n (b - a) := by
  cases m <;> cases n <;> simp [sgn] at h ⊢ <;> omega
theorem c8P (m n : Bool) (a b : Nat) : sgn m a * sgn n b = sgn (!(m == n)) (a * b) := by
  cases m <;> cases n <;> simp [sgn, Int.neg_mul, Int.mul_neg]
theorem d9g (n : Bool) (a : Nat) : sgn (!n) a = - sgn n a := by cases n <;> simp [sgn]
theorem e0T (a b : Nat) : (0 ≤ cmpI a b) = (b ≤ a) := by unfold cmpI; split <;> (try split) <;> simp <;> omega
theorem b9r (a b : Nat) : (cmpI a b < 0) = (a < b) := by unfold cmpI; split <;> (try split) <;> simp <;> omega
theorem a3j (x : ZI) (hx : Zok 17592186044416 x) : a0d Pr a3u [x.av] (Z x.z) := by
  obtain ⟨n, m⟩ := x
  have hm : Nt m := ⟨hx.lim, hx.len⟩
  simp only [ZI.av, ZI.z]
  refine a0d.intro c9p c9o (by simp only [List.length_cons, List.length_nil]; omega) (Z_cl _) fun H hH => ?_
  refine Safe.seq (Safe.region ?_)
  simp only [b6d, E2, seval]
  refine Safe.seq (Safe.region ?_)
  simp only [b6c, E2, seval]
  refine (a1h n m hm).acall ?_
  simp only [Z, E2, seval]
  refine Safe.retn ?_
  simp only [E2, seval]
  first | exact ⟨rfl, _, rfl⟩ | exact ⟨_, rfl⟩ | exact ⟨trivial, _, rfl⟩
theorem b2d (x : ZI) (hx : Zok 17592186044416 x) : a0d Pr a4s [x.av] (Z (-x.z)) := by
  obtain ⟨n, m⟩ := x
  have hm : Nt m := ⟨hx.lim, hx.len⟩
  simp only [ZI.av, ZI.z]
  refine a0d.intro d1x d1w (by simp only [List.length_cons, List.length_nil]; omega) (Z_cl _) fun H hH => ?_
  refine Safe.seq (Safe.region ?_)
  simp only [c0f, E2, seval]
  refine Safe.seq (Safe.region ?_)
  simp only [c0e, E2, seval]
  refine (a1h (!n) m hm).acall ?_
  rw [d9g]
  simp only [Z, E2, seval]
  refine Safe.retn ?_
  simp only [E2, seval]
  first | exact ⟨rfl, _, rfl⟩ | exact ⟨_, rfl⟩ | exact ⟨trivial, _, rfl⟩
theorem a3p (x y : ZI) (k l : Nat) (hx : Zok k x) (hy : Zok l y) (hkl : k + l ≤ 17592186044416) : a0d Pr a1e [x.av, y.av] (Z (x.z * y.z)) := by
  obtain ⟨n, a⟩ := x
  obtain ⟨m, b⟩ := y
  have hal := hx.len
  have hbl := hy.len
  simp only at hal hbl
  have ha : Nt a := ⟨hx.lim, by omega⟩
  have hb : Nt b := ⟨hy.lim, by omega⟩
  simp only [ZI.av, ZI.z]
  refine a0d.intro d1z d1y (by simp only [List.length_cons, List.length_nil]; omega) (Z_cl _) fun H hH => ?_
  refine Safe.seq (Safe.region ?_)
  simp only [c0h, E2, seval]
  refine Safe.seq (Safe.regionD ?_)
  simp only [c0g, E2, seval]
  refine (a3i a b ha hb (by omega)).dcall ?_
  try simp only [E2, seval]
  have hn : Nt (limbs (val a * val b)) := ⟨a0c _, by
    have h1 := a0Z ha.lim
    have h2 := a0Z hb.lim
    have h3 : val a * val b < LB ^ (a.length + b.length) := by
      rw [Nat.pow_add]
      exact Nat.mul_lt_mul'' h1 h2
    exact Nat.le_trans (a0j h3) (by omega)⟩
  refine (a1h _ _ hn).dcall ?_
  rw [a0b, ← c8P]
  simp only [Z, E2, seval]
  refine Safe.retn ?_
  simp only [E2, seval]
  first | exact ⟨rfl, _, rfl⟩ | exact ⟨_, rfl⟩ | exact ⟨trivial, _, rfl⟩
theorem b8F (x y : ZI) (k : Nat) (hx : Zok k x) (hy : Zok k y) (hk : k < 17592186044416) : a0d Pr a4t [x.av, y.av] (Z (x.z + y.z)) := by
  obtain ⟨n, a⟩ := x
  obtain ⟨m, b⟩ := y
  have hal := hx.len
  have hbl := hy.len
  have hav := hx.lt
  have hbv := hy.lt
  simp only at hal hbl hav hbv
  have ha : Nt a := ⟨hx.lim, by omega⟩
  have hb : Nt b := ⟨hy.lim, by omega⟩
  have hle : ∀ v, v < LB ^ k → Nt (limbs v) := fun v hv => ⟨a0c _, Nat.le_trans (a0j hv) (by omega)⟩
  simp only [ZI.av, ZI.z]
  refine a0d.intro d1D d1C (by simp only [List.length_cons, List.length_nil]; omega) (Z_cl _) fun H hH => ?_
  refine Safe.seq (Safe.region ?_)
  simp only [c0r, E2, seval]
  refine Safe.seq (Safe.seq (Safe.region ?_))
  simp only [c0q, E2, seval]
  refine Safe.cond ?_
  simp only [E2, seval]
  by_cases hnm : n = m
  · subst hnm
    simp only [beq_self_eq_true, E2, seval]
    refine Safe.seq (Safe.regionD ?_)
    simp only [c0p, E2, seval]
    refine (d3V a b ha.lim hb.lim (by omega) (by omega)).dcall ?_
    try simp only [E2, seval]
    have hn : Nt (limbs (val a + val b)) := ⟨a0c _, by
      have h3 : val a + val b < LB ^ (k + 1) := by
        rw [Nat.pow_succ]
        have : LB ^ k * 2 ≤ LB ^ k * LB := Nat.mul_le_mul_left _ (by decide)
        omega
      exact Nat.le_trans (a0j h3) (by omega)⟩
    refine (a1h _ _ hn).dcall ?_
    rw [a0b, d3R]
    simp only [Z, E2, seval]
    refine Safe.retn ?_
    simp only [E2, seval]
    first | exact ⟨rfl, _, rfl⟩ | exact ⟨_, rfl⟩ | exact ⟨trivial, _, rfl⟩
  · have hnm' : (n == m) = false := by simpa using hnm
    simp only [hnm', E2, seval]
    refine Safe.skip (Safe.seq (Safe.seq (Safe.region ?_)))
    simp only [c0o, E2, seval]
    refine (a8C a b ha hb).acall ?_
    simp only [E2, seval, b9r, e0T]
    refine Safe.cond ?_
    simp only [E2, seval]
    by_cases hlt : val b ≤ val a
    · simp only [hlt, E2, seval]
      refine Safe.seq (Safe.region ?_)
      simp only [c0n, E2, seval]
      refine (c3Q a b ha hb (by omega)).acall ?_
      simp only [E2, seval]
      refine Safe.seq (Safe.region ?_)
      simp only [c0m, E2, seval]
      refine (a1h _ _ (hle (val a - val b) (by omega))).acall ?_
      rw [a0b, d9f n m _ _ hnm (by omega)]
      simp only [Z, E2, seval]
      refine Safe.retn ?_
      simp only [E2, seval]
      first | exact ⟨rfl, _, rfl⟩ | exact ⟨_, rfl⟩ | exact ⟨trivial, _, rfl⟩
    · simp only [hlt, E2, seval]
      refine Safe.skip (Safe.seq (Safe.region ?_))
      simp only [c0l, E2, seval]
      refine (c3Q b a hb ha (by omega)).acall ?_
      simp only [E2, seval]
      refine Safe.seq (Safe.region ?_)
      simp only [c0k, E2, seval]
      refine (a1h _ _ (hle (val b - val a) (by omega))).acall ?_
      rw [a0b, d5I n m _ _ hnm (by omega)]
      simp only [Z, E2, seval]
      refine Safe.retn ?_
      simp only [E2, seval]
      first | exact ⟨rfl, _, rfl⟩ | exact ⟨_, rfl⟩ | exact ⟨trivial, _, rfl⟩
theorem c7a (x y : ZI) (k : Nat) (hx : Zok k x) (hy : Zok k y) (hk : k < 17592186044416) : a0d Pr a6B [x.av, y.av] (Z (x.z - y.z)) := by
  have hadd := b8F x (canZ (-y.z)) k hx (a0l (by rw [Int.natAbs_neg]; exact hy.abs)) hk
  rw [a0p, a3k] at hadd
  have hneg := b2d y (hy.mono (by omega))
  obtain ⟨n, a⟩ := x
  obtain ⟨m, b⟩ := y
  simp only [ZI.av] at hadd hneg ⊢
  refine a0d.intro d1t d1s (by simp only [List.length_cons, List.length_nil]; omega) (Z_cl _) fun H hH => ?_
  refine Safe.seq (Safe.region ?_)
  simp only [c0d, E2, seval]
  refine Safe.seq (Safe.regionD ?_)
  simp only [c0c, E2, seval]
  refine hneg.dcall ?_
  try simp only [E2, seval]
  refine hadd.dcall ?_
  rw [← Int.sub_eq_add_neg]
  simp only [Z, E2, seval]
  refine Safe.retn ?_
  simp only [E2, seval]
  first | exact ⟨rfl, _, rfl⟩ | exact ⟨_, rfl⟩ | exact ⟨trivial, _, rfl⟩
theorem a3J (n : Int) (h0 : -9223372036854775808 ≤ n) (h1 : n < 9223372036854775808) : a0d Pr a3t [.int .i64 n] (Z n) := by
  refine a0d.intro d4g d4f (by simp only [List.length_cons, List.length_nil]; omega) (Z_cl _) fun H hH => ?_
  have hLB : LB = 4294967296 := rfl
  refine Safe.seq (Safe.region ?_)
  simp only [c4c, E2, Nat.reduceLeDiff, Nat.reduceSub, Nat.reduceAdd, Nat.reduceEqDiff, reduceCtorEq, ↓reduceIte]
  refine Safe.seq (Safe.region ?_)
  simp only [c4b, E2, Nat.reduceLeDiff, Nat.reduceSub, Nat.reduceAdd, Nat.reduceEqDiff, reduceCtorEq, ↓reduceIte]
  refine Safe.seq (Safe.seq (Safe.region ?_))
  simp only [c4a, E2, Nat.reduceLeDiff, Nat.reduceSub, Nat.reduceAdd, Nat.reduceEqDiff, reduceCtorEq, ↓reduceIte]
  refine Safe.cond ?_
  simp only [E2, Nat.reduceLeDiff, Nat.reduceSub, Nat.reduceAdd, Nat.reduceEqDiff, reduceCtorEq, ↓reduceIte]
  have rest : ∀ (env : Env), look env 0 = .int .i64 n → look env 2 = .loc (lid H 0) 0 0 → look env 3 = .int .u64 (n.natAbs : Nat) →
      Safe ⟨Pr, fun _ _ => false, a3t, 19, [.cell 2 (some 2)], H.length⟩ [.code ((ACode.region b4n false).seq .ret)] env (hap H [some ⟨2, [.agg [.bool false, .nil]]⟩]) fun r' H' => r' = Z n ∧ ∃ L, H' = hap H L := by
    intro env e0 e2 e3
    refine Safe.seq (Safe.region ?_)
    have w1 : IntKind.wrap .u32 ((n.natAbs : Nat) : Int) = ((n.natAbs % LB : Nat) : Int) := a1X _
    have hLL : LB * LB = 18446744073709551616 := by decide
    have hdiv : n.natAbs / LB < LB := Nat.div_lt_of_lt_mul (by omega)
    have w2 : IntKind.wrap .u32 ((n.natAbs / LB : Nat) : Int) = ((n.natAbs / LB : Nat) : Int) := a3w (Int.natCast_nonneg _) (by omega)
    simp only [b4n, E2, Nat.reduceLeDiff, Nat.reduceSub, Nat.reduceAdd, Nat.reduceEqDiff, reduceCtorEq, ↓reduceIte, e0, e3, e2, w1, a3A _ _ _ (show (0 : Int) ≤ 32 by decide), e4s, w2]
    have hm := Nat.mod_lt n.natAbs (show 0 < LB by decide)
    have := a1h (decide (n < 0)) [n.natAbs % LB, n.natAbs / LB] ⟨by intro d hd; simp at hd; omega, by simp⟩
    have hv : val [n.natAbs % LB, n.natAbs / LB] = n.natAbs := by
      simp only [val]; rw [Nat.mul_zero, Nat.add_zero, Nat.mod_add_div]
    rw [hv, show sgn (decide (n < 0)) n.natAbs = n by unfold sgn; by_cases h : n < 0 <;> simp [h] <;> omega] at this
    refine a0d.acall this ?_
    simp only [Z, E2, Nat.reduceLeDiff, Nat.reduceSub, Nat.reduceAdd, Nat.reduceEqDiff, reduceCtorEq, ↓reduceIte, e2]
    refine Safe.retn ?_
    simp only [E2, Nat.reduceLeDiff, Nat.reduceSub, Nat.reduceAdd, Nat.reduceEqDiff, reduceCtorEq, ↓reduceIte, e2]
    first | exact ⟨rfl, _, rfl⟩ | exact ⟨_, rfl⟩ | exact ⟨trivial, _, rfl⟩
  by_cases hn : n < 0
  · simp only [hn, E2, Nat.reduceLeDiff, Nat.reduceSub, Nat.reduceAdd, Nat.reduceEqDiff, reduceCtorEq, ↓reduceIte]
    refine Safe.region ?_
    have w : IntKind.wrap .u64 (0 - IntKind.wrap .u64 n) = ((n.natAbs : Nat) : Int) := by rw [a1f, a1f]; omega
    simp only [c3Z, E2, Nat.reduceLeDiff, Nat.reduceSub, Nat.reduceAdd, Nat.reduceEqDiff, reduceCtorEq, ↓reduceIte, w]
    exact rest _ (by simp only [E2, Nat.reduceLeDiff, Nat.reduceSub, Nat.reduceAdd, Nat.reduceEqDiff, reduceCtorEq, ↓reduceIte]) (by simp only [E2, Nat.reduceLeDiff, Nat.reduceSub, Nat.reduceAdd, Nat.reduceEqDiff, reduceCtorEq, ↓reduceIte]) (by simp only [E2, Nat.reduceLeDiff, Nat.reduceSub, Nat.reduceAdd, Nat.reduceEqDiff, reduceCtorEq, ↓reduceIte])
  · have w : IntKind.wrap .u64 n = ((n.natAbs : Nat) : Int) := by rw [a1f]; omega
    simp only [hn, E2, Nat.reduceLeDiff, Nat.reduceSub, Nat.reduceAdd, Nat.reduceEqDiff, reduceCtorEq, ↓reduceIte]
    exact Safe.skip (rest _ (by simp only [E2, Nat.reduceLeDiff, Nat.reduceSub, Nat.reduceAdd, Nat.reduceEqDiff, reduceCtorEq, ↓reduceIte]) (by simp only [E2, Nat.reduceLeDiff, Nat.reduceSub, Nat.reduceAdd, Nat.reduceEqDiff, reduceCtorEq, ↓reduceIte]) (by simp only [E2, Nat.reduceLeDiff, Nat.reduceSub, Nat.reduceAdd, Nat.reduceEqDiff, reduceCtorEq, ↓reduceIte, w]))
theorem d6T (x : ZI) (hx : Zok 17592186044416 x) : a0d Pr b4R [x.av] (Z x.z) := by
  obtain ⟨n, m⟩ := x
  have hm : Nt m := ⟨hx.lim, hx.len⟩
  simp only [ZI.av, ZI.z]
  refine a0d.intro d0E d0D (by simp only [List.length_cons, List.length_nil]; omega) (Z_cl _) fun H hH => ?_
  refine Safe.seq (Safe.region ?_)
  simp only [b9M, E2, seval]
  refine Safe.seq (Safe.region ?_)
  simp only [b9L, E2, seval]
  refine (a1U n m hm).acall ?_
  simp only [Z, E2, seval]
  refine Safe.retn ?_
  simp only [E2, seval]
  first | exact ⟨rfl, _, rfl⟩ | exact ⟨_, rfl⟩ | exact ⟨trivial, _, rfl⟩
theorem c3j (x : ZI) (hx : Zok 17592186044416 x) : a0d Pr a8o [x.av] (Z (-x.z)) := by
  obtain ⟨n, m⟩ := x
  have hm : Nt m := ⟨hx.lim, hx.len⟩
  simp only [ZI.av, ZI.z]
  refine a0d.intro d3D d3C (by simp only [List.length_cons, List.length_nil]; omega) (Z_cl _) fun H hH => ?_
  refine Safe.seq (Safe.region ?_)
  simp only [c3o, E2, seval]
  refine Safe.seq (Safe.region ?_)
  simp only [c3n, E2, seval]
  refine (a1U (!n) m hm).acall ?_
  rw [d9g]
  simp only [Z, E2, seval]
  refine Safe.retn ?_
  simp only [E2, seval]
  first | exact ⟨rfl, _, rfl⟩ | exact ⟨_, rfl⟩ | exact ⟨trivial, _, rfl⟩
theorem a7N (x y : ZI) (k l : Nat) (hx : Zok k x) (hy : Zok l y) (hkl : k + l ≤ 17592186044416) : a0d Pr a3s [x.av, y.av] (Z (x.z * y.z)) := by
  obtain ⟨n, a⟩ := x
  obtain ⟨m, b⟩ := y
  have hal := hx.len
  have hbl := hy.len
  simp only at hal hbl
  have ha : Nt a := ⟨hx.lim, by omega⟩
  have hb : Nt b := ⟨hy.lim, by omega⟩
  simp only [ZI.av, ZI.z]
  refine a0d.intro d3F d3E (by simp only [List.length_cons, List.length_nil]; omega) (Z_cl _) fun H hH => ?_
  refine Safe.seq (Safe.region ?_)
  simp only [c3q, E2, seval]
  refine Safe.seq (Safe.regionD ?_)
  simp only [c3p, E2, seval]
  refine (d4x a b ha hb (by omega)).dcall ?_
  try simp only [E2, seval]
  have hn : Nt (limbs (val a * val b)) := ⟨a0c _, by
    have h1 := a0Z ha.lim
    have h2 := a0Z hb.lim
    have h3 : val a * val b < LB ^ (a.length + b.length) := by
      rw [Nat.pow_add]
      exact Nat.mul_lt_mul'' h1 h2
    exact Nat.le_trans (a0j h3) (by omega)⟩
  refine (a1U _ _ hn).dcall ?_
  rw [a0b, ← c8P]
  simp only [Z, E2, seval]
  refine Safe.retn ?_
  simp only [E2, seval]
  first | exact ⟨rfl, _, rfl⟩ | exact ⟨_, rfl⟩ | exact ⟨trivial, _, rfl⟩
theorem d8K (x y : ZI) (k : Nat) (hx : Zok k x) (hy : Zok k y) (hk : k < 17592186044416) : a0d Pr b2t [x.av, y.av] (Z (x.z + y.z)) := by
  obtain ⟨n, a⟩ := x
  obtain ⟨m, b⟩ := y
  have hal := hx.len
  have hbl := hy.len
  have hav := hx.lt
  have hbv := hy.lt
  simp only at hal hbl hav hbv
  have ha : Nt a := ⟨hx.lim, by omega⟩
  have hb : Nt b := ⟨hy.lim, by omega⟩
  have hle : ∀ v, v < LB ^ k → Nt (limbs v) := fun v hv => ⟨a0c _, Nat.le_trans (a0j hv) (by omega)⟩
  simp only [ZI.av, ZI.z]
  refine a0d.intro d3K d3J (by simp only [List.length_cons, List.length_nil]; omega) (Z_cl _) fun H hH => ?_
  refine Safe.seq (Safe.region ?_)
  simp only [c3x, E2, seval]
  refine Safe.seq (Safe.seq (Safe.region ?_))
  simp only [c3w, E2, seval]
  refine Safe.cond ?_
  simp only [E2, seval]
  by_cases hnm : n = m
  · subst hnm
    simp only [beq_self_eq_true, E2, seval]
    refine Safe.seq (Safe.regionD ?_)
    simp only [c3v, E2, seval]
    refine (d4y a b ha.lim hb.lim (by omega) (by omega)).dcall ?_
    try simp only [E2, seval]
    have hn : Nt (limbs (val a + val b)) := ⟨a0c _, by
      have h3 : val a + val b < LB ^ (k + 1) := by
        rw [Nat.pow_succ]
        have : LB ^ k * 2 ≤ LB ^ k * LB := Nat.mul_le_mul_left _ (by decide)
        omega
      exact Nat.le_trans (a0j h3) (by omega)⟩
    refine (a1U _ _ hn).dcall ?_
    rw [a0b, d3R]
    simp only [Z, E2, seval]
    refine Safe.retn ?_
    simp only [E2, seval]
    first | exact ⟨rfl, _, rfl⟩ | exact ⟨_, rfl⟩ | exact ⟨trivial, _, rfl⟩
  · have hnm' : (n == m) = false := by simpa using hnm
    simp only [hnm', E2, seval]
    refine Safe.skip (Safe.seq (Safe.seq (Safe.region ?_)))
    simp only [c3u, E2, seval]
    refine (b4p a b ha hb).acall ?_
    simp only [E2, seval, b9r, e0T]
    refine Safe.cond ?_
    simp only [E2, seval]
    by_cases hlt : val a < val b
    · simp only [hlt, E2, seval]
      refine Safe.region ?_
      simp only [c3t, E2, seval]
      refine Safe.seq (Safe.region ?_)
      simp only [b4h, E2, seval]
      refine (c4m b a hb ha (by omega)).acall ?_
      simp only [E2, seval]
      refine Safe.seq (Safe.region ?_)
      simp only [b4g, E2, seval]
      refine (a1U _ _ (hle (val b - val a) (by omega))).acall ?_
      rw [a0b, d5I n m _ _ hnm (by omega)]
      simp only [Z, E2, seval]
      refine Safe.retn ?_
      simp only [E2, seval]
      first | exact ⟨rfl, _, rfl⟩ | exact ⟨_, rfl⟩ | exact ⟨trivial, _, rfl⟩
    · simp only [hlt, E2, seval]
      refine Safe.skip (Safe.seq (Safe.region ?_))
      simp only [b4h, E2, seval]
      refine (c4m a b ha hb (by omega)).acall ?_
      simp only [E2, seval]
      refine Safe.seq (Safe.region ?_)
      simp only [b4g, E2, seval]
      refine (a1U _ _ (hle (val a - val b) (by omega))).acall ?_
      rw [a0b, d9f n m _ _ hnm (by omega)]
      simp only [Z, E2, seval]
      refine Safe.retn ?_
      simp only [E2, seval]
      first | exact ⟨rfl, _, rfl⟩ | exact ⟨_, rfl⟩ | exact ⟨trivial, _, rfl⟩
theorem d8H (x y : ZI) (k : Nat) (hx : Zok k x) (hy : Zok k y) (hk : k < 17592186044416) : a0d Pr a5N [x.av, y.av] (Z (x.z - y.z)) := by
  have hadd := d8K x (canZ (-y.z)) k hx (a0l (by rw [Int.natAbs_neg]; exact hy.abs)) hk
  rw [a0p, a3k] at hadd
  have hneg := c3j y (hy.mono (by omega))
  obtain ⟨n, a⟩ := x
  obtain ⟨m, b⟩ := y
  simp only [ZI.av] at hadd hneg ⊢
  refine a0d.intro d3A d3z (by simp only [List.length_cons, List.length_nil]; omega) (Z_cl _) fun H hH => ?_
  refine Safe.seq (Safe.region ?_)
  simp only [c3m, E2, seval]
  refine Safe.seq (Safe.regionD ?_)
  simp only [c3l, E2, seval]
  refine hneg.dcall ?_
  try simp only [E2, seval]
  refine hadd.dcall ?_
  rw [← Int.sub_eq_add_neg]
  simp only [Z, E2, seval]
  refine Safe.retn ?_
  simp only [E2, seval]
  first | exact ⟨rfl, _, rfl⟩ | exact ⟨_, rfl⟩ | exact ⟨trivial, _, rfl⟩
theorem b1X (n : Int) (h0 : -9223372036854775808 ≤ n) (h1 : n < 9223372036854775808) : a0d Pr a6z [.int .i64 n] (Z n) := by
  refine a0d.intro d6N d6M (by simp only [List.length_cons, List.length_nil]; omega) (Z_cl _) fun H hH => ?_
  have hLB : LB = 4294967296 := rfl
  refine Safe.seq (Safe.region ?_)
  simp only [c6J, E2, Nat.reduceLeDiff, Nat.reduceSub, Nat.reduceAdd, Nat.reduceEqDiff, reduceCtorEq, ↓reduceIte]
  refine Safe.seq (Safe.region ?_)
  simp only [c6I, E2, Nat.reduceLeDiff, Nat.reduceSub, Nat.reduceAdd, Nat.reduceEqDiff, reduceCtorEq, ↓reduceIte]
  refine Safe.seq (Safe.seq (Safe.region ?_))
  simp only [c6H, E2, Nat.reduceLeDiff, Nat.reduceSub, Nat.reduceAdd, Nat.reduceEqDiff, reduceCtorEq, ↓reduceIte]
  refine Safe.cond ?_
  simp only [E2, Nat.reduceLeDiff, Nat.reduceSub, Nat.reduceAdd, Nat.reduceEqDiff, reduceCtorEq, ↓reduceIte]
  have rest : ∀ (env : Env), look env 0 = .int .i64 n → look env 2 = .loc (lid H 0) 0 0 → look env 3 = .int .u64 (n.natAbs : Nat) →
      Safe ⟨Pr, fun _ _ => false, a6z, 19, [.cell 2 (some 2)], H.length⟩ [.code ((ACode.region b8s false).seq .ret)] env (hap H [some ⟨2, [.agg [.bool false, .nil]]⟩]) fun r' H' => r' = Z n ∧ ∃ L, H' = hap H L := by
    intro env e0 e2 e3
    refine Safe.seq (Safe.region ?_)
    have w1 : IntKind.wrap .u32 ((n.natAbs : Nat) : Int) = ((n.natAbs % LB : Nat) : Int) := a1X _
    have hLL : LB * LB = 18446744073709551616 := by decide
    have hdiv : n.natAbs / LB < LB := Nat.div_lt_of_lt_mul (by omega)
    have w2 : IntKind.wrap .u32 ((n.natAbs / LB : Nat) : Int) = ((n.natAbs / LB : Nat) : Int) := a3w (Int.natCast_nonneg _) (by omega)
    simp only [b8s, E2, Nat.reduceLeDiff, Nat.reduceSub, Nat.reduceAdd, Nat.reduceEqDiff, reduceCtorEq, ↓reduceIte, e0, e3, e2, w1, a3A _ _ _ (show (0 : Int) ≤ 32 by decide), e4s, w2]
    have hm := Nat.mod_lt n.natAbs (show 0 < LB by decide)
    have := a1U (decide (n < 0)) [n.natAbs % LB, n.natAbs / LB] ⟨by intro d hd; simp at hd; omega, by simp⟩
    have hv : val [n.natAbs % LB, n.natAbs / LB] = n.natAbs := by
      simp only [val]; rw [Nat.mul_zero, Nat.add_zero, Nat.mod_add_div]
    rw [hv, show sgn (decide (n < 0)) n.natAbs = n by unfold sgn; by_cases h : n < 0 <;> simp [h] <;> omega] at this
    refine a0d.acall this ?_
    simp only [Z, E2, Nat.reduceLeDiff, Nat.reduceSub, Nat.reduceAdd, Nat.reduceEqDiff, reduceCtorEq, ↓reduceIte, e2]
    refine Safe.retn ?_
    simp only [E2, Nat.reduceLeDiff, Nat.reduceSub, Nat.reduceAdd, Nat.reduceEqDiff, reduceCtorEq, ↓reduceIte, e2]
    first | exact ⟨rfl, _, rfl⟩ | exact ⟨_, rfl⟩ | exact ⟨trivial, _, rfl⟩
  by_cases hn : n < 0
  · simp only [hn, E2, Nat.reduceLeDiff, Nat.reduceSub, Nat.reduceAdd, Nat.reduceEqDiff, reduceCtorEq, ↓reduceIte]
    refine Safe.region ?_
    have w : IntKind.wrap .u64 (0 - IntKind.wrap .u64 n) = ((n.natAbs : Nat) : Int) := by rw [a1f, a1f]; omega
    simp only [c6G, E2, Nat.reduceLeDiff, Nat.reduceSub, Nat.reduceAdd, Nat.reduceEqDiff, reduceCtorEq, ↓reduceIte, w]
    exact rest _ (by simp only [E2, Nat.reduceLeDiff, Nat.reduceSub, Nat.reduceAdd, Nat.reduceEqDiff, reduceCtorEq, ↓reduceIte]) (by simp only [E2, Nat.reduceLeDiff, Nat.reduceSub, Nat.reduceAdd, Nat.reduceEqDiff, reduceCtorEq, ↓reduceIte]) (by simp only [E2, Nat.reduceLeDiff, Nat.reduceSub, Nat.reduceAdd, Nat.reduceEqDiff, reduceCtorEq, ↓reduceIte])
  · have w : IntKind.wrap .u64 n = ((n.natAbs : Nat) : Int) := by rw [a1f]; omega
    simp only [hn, E2, Nat.reduceLeDiff, Nat.reduceSub, Nat.reduceAdd, Nat.reduceEqDiff, reduceCtorEq, ↓reduceIte]
    exact Safe.skip (rest _ (by simp only [E2, Nat.reduceLeDiff, Nat.reduceSub, Nat.reduceAdd, Nat.reduceEqDiff, reduceCtorEq, ↓reduceIte]) (by simp only [E2, Nat.reduceLeDiff, Nat.reduceSub, Nat.reduceAdd, Nat.reduceEqDiff, reduceCtorEq, ↓reduceIte]) (by simp only [E2, Nat.reduceLeDiff, Nat.reduceSub, Nat.reduceAdd, Nat.reduceEqDiff, reduceCtorEq, ↓reduceIte, w]))
theorem c2S (n : Bool) (a : Nat) : (sgn n a).sign = if a = 0 then 0 else if n then -1 else 1 := by
  rcases Nat.eq_zero_or_pos a with h | h
  · subst h; simp [a5s]
  · rw [if_neg (by omega)]
    cases n
    · simp only [sgn, Bool.false_eq_true, if_false]
      exact Int.sign_eq_one_of_pos (by omega)
    · simp only [sgn, if_true]
      exact Int.sign_eq_neg_one_of_neg (by omega)
theorem d3q (n : Nat) : ((blen n : Nat) : Int) = 0 ↔ n = 0 := by
  unfold blen
  split
  · rename_i h; simp [h]
  · rename_i h; simp [h]; omega
theorem b3i (n : Nat) : (((limbs n).length : Nat) : Int) = 0 ↔ n = 0 := by
  constructor
  · intro h
    have : limbs n = [] := List.length_eq_zero_iff.1 (by omega)
    have := congrArg val this
    rwa [a0b] at this
  · intro h; rw [h, a0G]; rfl
theorem a1w (x : ZI) (hx : Zok 17592186044416 x) : a0d Pr a1Q [x.av] (.int .i64 x.z.sign) := by
  obtain ⟨n, m⟩ := x
  have hm : Nt m := ⟨hx.lim, hx.len⟩
  simp only [ZI.av, ZI.z, c2S]
  refine a0d.intro d0C d0B (by simp only [List.length_cons, List.length_nil]; omega) (.int _ _) fun H hH => ?_
  refine Safe.seq (Safe.region ?_)
  simp only [b9K, E2, seval]
  refine Safe.seq (Safe.block (Safe.seq (Safe.region ?_)))
  simp only [b9J, E2, seval]
  refine (d2p m hm).acall ?_
  simp only [E2, seval, d3q]
  refine Safe.cond ?_
  simp only [E2, seval]
  by_cases h0 : val m = 0
  · simp only [h0, E2, seval]
    refine Safe.seq (Safe.region ?_)
    simp only [b9I, E2, seval]
    refine Safe.retn ?_
    simp only [E2, seval]
    first | exact ⟨rfl, _, rfl⟩ | exact ⟨_, rfl⟩ | exact ⟨trivial, _, rfl⟩
  · simp only [h0, E2, seval]
    refine Safe.seq (Safe.region ?_)
    simp only [b9H, E2, seval]
    refine Safe.cond ?_
    simp only [E2, seval]
    cases n
    · simp only [E2, seval]
      refine Safe.skip (Safe.inBlock (Safe.seq (Safe.region ?_)))
      simp only [b9F, E2, seval]
      refine Safe.retn ?_
      simp only [E2, seval]
      first | exact ⟨rfl, _, rfl⟩ | exact ⟨_, rfl⟩ | exact ⟨trivial, _, rfl⟩
    · simp only [E2, seval]
      refine Safe.seq (Safe.region ?_)
      simp only [b9G, E2, seval]
      refine Safe.retn ?_
      simp only [E2, seval]
      first | exact ⟨rfl, _, rfl⟩ | exact ⟨_, rfl⟩ | exact ⟨trivial, _, rfl⟩
theorem a5Y (x : ZI) (hx : Zok 17592186044416 x) : a0d Pr a2C [x.av] (.int .i64 x.z.sign) := by
  obtain ⟨n, m⟩ := x
  have hm : Nt m := ⟨hx.lim, hx.len⟩
  simp only [ZI.av, ZI.z, c2S]
  refine a0d.intro c9n c9m (by simp only [List.length_cons, List.length_nil]; omega) (.int _ _) fun H hH => ?_
  refine Safe.seq (Safe.region ?_)
  simp only [b6b, E2, seval]
  refine Safe.seq (Safe.region ?_)
  simp only [b6a, E2, seval]
  refine (a0s m hm).acall ?_
  try simp only [E2, seval]
  refine Safe.seq (Safe.block (Safe.seq (Safe.region ?_)))
  simp only [b5Z, E2, seval, b3i]
  refine Safe.cond ?_
  simp only [E2, seval]
  by_cases h0 : val m = 0
  · simp only [h0, E2, seval]
    refine Safe.seq (Safe.region ?_)
    simp only [b5Y, E2, seval]
    refine Safe.retn ?_
    simp only [E2, seval]
    first | exact ⟨rfl, _, rfl⟩ | exact ⟨_, rfl⟩ | exact ⟨trivial, _, rfl⟩
  · simp only [h0, E2, seval]
    refine Safe.seq (Safe.region ?_)
    simp only [b5X, E2, seval]
    refine Safe.cond ?_
    simp only [E2, seval]
    cases n
    · simp only [E2, seval]
      refine Safe.skip (Safe.inBlock (Safe.seq (Safe.region ?_)))
      simp only [b5V, E2, seval]
      refine Safe.retn ?_
      simp only [E2, seval]
      first | exact ⟨rfl, _, rfl⟩ | exact ⟨_, rfl⟩ | exact ⟨trivial, _, rfl⟩
    · simp only [E2, seval]
      refine Safe.seq (Safe.region ?_)
      simp only [b5W, E2, seval]
      refine Safe.retn ?_
      simp only [E2, seval]
      first | exact ⟨rfl, _, rfl⟩ | exact ⟨_, rfl⟩ | exact ⟨trivial, _, rfl⟩
end Go.Abs
set_option linter.unusedVariables false
set_option linter.unusedSimpArgs false
namespace Go.Abs
theorem e1V (x : ZI) (hx : Zok 17592186044416 x) : a0d Pr b5a [x.av] x.av := by
  obtain ⟨n, m⟩ := x
  have hm : Nt m := ⟨hx.lim, hx.len⟩
  have hml := hm.len
  simp only [ZI.av]
  refine a0d.intro d2H d2G (by simp only [List.length_cons, List.length_nil]; omega) (ZI.cl ⟨n, m⟩) fun H hH => ?_
  refine Safe.seq (Safe.region ?_)
  simp only [c2o, E2, Nat.reduceLeDiff, Nat.reduceSub, Nat.reduceAdd, Nat.reduceEqDiff, reduceCtorEq, ↓reduceIte]
  refine Safe.seq (Safe.region ?_)
  simp only [c2n, E2, Nat.reduceLeDiff, Nat.reduceSub, Nat.reduceAdd, Nat.reduceEqDiff, reduceCtorEq, ↓reduceIte]
  refine Safe.seq (Safe.region ?_)
  simp only [c2m, E2, Nat.reduceLeDiff, Nat.reduceSub, Nat.reduceAdd, Nat.reduceEqDiff, reduceCtorEq, ↓reduceIte, b4Q _ _ H [some ⟨2, [.agg [.bool n, natV m]]⟩, some ⟨2, [.agg [.bool false, .nil]]⟩] m hml]
  refine Safe.seq (Safe.region ?_)
  have happ : ∀ (n0 : Nat) (env : Env), n0 ≤ lid H 2 → appV n0 1 4 false (.mu (lid H 2) 0 m.length none) (.sl 1 [.int .u32 77, .int .u32 78, .int .u32 79, .int .u32 80, .int .u32 81, .int .u32 82, .int .u32 83, .int .u32 84, .int .u32 85]) env
      (hap H [some ⟨2, [.agg [.bool n, natV m]]⟩, some ⟨2, [.agg [.bool false, .nil]]⟩, some ⟨1, u32s m⟩]) = some (.mu (lid H 2) 0 (m.length + 9) none, scrub (lid H 2) env, hap H [some ⟨2, [.agg [.bool n, natV m]]⟩, some ⟨2, [.agg [.bool false, .nil]]⟩, some ⟨1, u32s (m ++ [77, 78, 79, 80, 81, 82, 83, 84, 85])⟩]) := by
    intro n0 env hn0
    have := c6h n0 env H [some ⟨2, [.agg [.bool n, natV m]]⟩, some ⟨2, [.agg [.bool false, .nil]]⟩, some ⟨1, u32s m⟩] 2 m.length none (.sl 1 [.int .u32 77, .int .u32 78, .int .u32 79, .int .u32 80, .int .u32 81, .int .u32 82, .int .u32 83, .int .u32 84, .int .u32 85]) m [77, 78, 79, 80, 81, 82, 83, 84, 85] hH rfl rfl hn0 (b2o fun b hb a ha => by
      simp only [List.mem_cons, Option.some.injEq, List.not_mem_nil, or_false] at hb
      rcases hb with rfl | rfl | rfl
      · exact b4O (ZI.cl ⟨n, m⟩) a (by simpa [Blk.flat, ZI.av] using ha)
      · simp [Blk.flat, AV.cells] at ha; rcases ha with rfl | rfl; exact .bool _; exact .nil
      · exact a0m m a ha) (a3z _ 1 _) (by simp; omega)
    exact this
  simp only [c2l, E2, Nat.reduceLeDiff, Nat.reduceSub, Nat.reduceAdd, Nat.reduceEqDiff, reduceCtorEq, ↓reduceIte, happ _ _ (a1v H 2)]
  refine Safe.seq (Safe.regionD ?_)
  have hslc : slcV (hap H [some ⟨2, [.agg [.bool n, natV m]]⟩, some ⟨2, [.agg [.bool false, .nil]]⟩, some ⟨1, u32s (m ++ [77, 78, 79, 80, 81, 82, 83, 84, 85])⟩]) 1 (.mu (lid H 2) 0 (m.length + 9) none) none (some (.int .i64 m.length)) none = some (.mu (lid H 2) 0 m.length none) := by
    simp only [slcV, a1p, E2, Nat.reduceLeDiff, Nat.reduceSub, Nat.reduceAdd, Nat.reduceEqDiff, reduceCtorEq, ↓reduceIte, a3R]
    rw [if_pos ⟨by omega, by omega, by omega⟩]
    simp
  simp only [c2k, E2, Nat.reduceLeDiff, Nat.reduceSub, Nat.reduceAdd, Nat.reduceEqDiff, reduceCtorEq, ↓reduceIte, hslc]
  refine Safe.freeze 2 (b := ⟨1, u32s (m ++ [77, 78, 79, 80, 81, 82, 83, 84, 85])⟩) hH rfl rfl (a0m _) ?_
  have hf : frz (lid H 2) ⟨1, u32s (m ++ [77, 78, 79, 80, 81, 82, 83, 84, 85])⟩ (.mu (lid H 2) 0 m.length none) = natV m := by
    rw [c5K _ _ _ _ _ _ (by simp [a0w])]
    simp [natV, b4j, List.take_append, a0w]
  refine Safe.keep [2] ?_
  simp only [E2, Nat.reduceLeDiff, Nat.reduceSub, Nat.reduceAdd, Nat.reduceEqDiff, reduceCtorEq, ↓reduceIte, hf, a0N H 2 1 _ 0 0 (by decide)]
  refine Safe.retn ?_
  simp only [E2, Nat.reduceLeDiff, Nat.reduceSub, Nat.reduceAdd, Nat.reduceEqDiff, reduceCtorEq, ↓reduceIte]
  first | exact ⟨rfl, _, rfl⟩ | exact ⟨_, rfl⟩ | exact ⟨trivial, _, rfl⟩
theorem c4g (v : List ZI) (hv : Vok 17592186044416 v) : a0d Pr a4Y [vecV v] (vecV v) := by
  have hvl := hv.len
  refine a0d.intro c9M c9L (by simp only [List.length_cons, List.length_nil]; omega) (a0e v) fun H hH => ?_
  refine Safe.seq (Safe.region ?_)
  simp only [b7u, E3, seval]
  refine Safe.seq (Safe.region ?_)
  simp only [b7t, E3, seval]
  refine Safe.seq (Safe.seq (Safe.region ?_))
  simp only [b7s, E3, seval]
  refine Safe.nilrow 3 2 (by decide) (by simp only [E3, seval]) ?_
  refine Safe.block (Safe.loop ?_)
  have key : ∀ (k i : Nat), i + k = v.length → Safe ⟨Pr, fun _ _ => false, a4Y, 20, [.tmp 2], H.length⟩ [.inLoop b7v, .inBlock 0, .code ((ACode.region a9r false).seq .ret)]
      [(0, vecV v), (3, .mu (lid H 0) 0 (v.take i).length none), (4, .int .i64 i)] (hap H [some ⟨2, (v.take i).map ZI.av⟩]) fun r' H' => r' = vecV v ∧ ∃ L, H' = hap H L := by
    intro k
    induction k with
    | zero =>
      intro i hi
      have hi' : i = v.length := by omega
      subst hi'
      refine Safe.inLoop (Safe.seq (Safe.seq (Safe.region ?_)))
      simp only [a9s, E3, seval, Int.lt_irrefl]
      refine Safe.cond ?_
      simp only [E3, seval]
      refine Safe.exit rfl ?_
      rw [List.take_length]
      refine Safe.freeze 0 (b := ⟨2, v.map ZI.av⟩) hH rfl rfl (a1E 2 ZI.av v ZI.cl) ?_
      refine Safe.seq (Safe.region ?_)
      simp only [a9r, E3, seval, a8l]
      refine Safe.retn ?_
      simp only [E3, seval]
      first | exact ⟨rfl, _, rfl⟩ | exact ⟨_, rfl⟩ | exact ⟨trivial, _, rfl⟩
    | succ k ih =>
      intro i hi
      refine Safe.inLoop (Safe.seq (Safe.seq (Safe.region ?_)))
      have hlt : (i : Int) < (v.length : Int) := by omega
      simp only [a9s, E3, seval, hlt]
      refine Safe.cond ?_
      simp only [E3, seval]
      refine Safe.skip (Safe.seq (Safe.block (Safe.region ?_)))
      simp only [b7r, E3, seval, a1g _ v _ i (by omega)]
      refine (e1V v[i] (hv.get (by omega))).acall ?_
      have hl : (v.take i).length = i := by rw [List.length_take]; omega
      simp only [E3, seval, d6F H hH _ (a1v H 0) _ 2 32 ZI.av ZI.cl (v.take i) v[i] (by omega) (by omega), b7l, b8n]
      refine Safe.inBlock (Safe.region ?_)
      have hiw : IntKind.wrap .i64 ((i : Int) + 1) = ((i + 1 : Nat) : Int) := by rw [a0a] <;> omega
      simp only [b7q, E3, seval, hiw]
      refine Safe.keep [0, 3, 4] ?_
      simp only [E3, seval]
      have := ih (i + 1) (by omega)
      rw [List.take_succ_eq_append_getElem (by omega)] at this
      simpa only [List.length_append, List.length_cons, List.length_nil] using this
  refine Safe.keep [0, 3, 4] ?_
  simp only [E3, seval]
  exact key v.length 0 (by omega)
theorem d2n (v : List (List ZI)) (hv : Mok 17592186044416 v) : a0d Pr a7i [matV v] (matV v) := by
  have hvl := hv.len
  refine a0d.intro c9O c9N (by simp only [List.length_cons, List.length_nil]; omega) (c5r v) fun H hH => ?_
  refine Safe.seq (Safe.region ?_)
  simp only [b7A, E3, seval]
  refine Safe.seq (Safe.region ?_)
  simp only [b7z, E3, seval]
  refine Safe.seq (Safe.seq (Safe.region ?_))
  simp only [b7y, E3, seval]
  refine Safe.nilrow 3 1 (by decide) (by simp only [E3, seval]) ?_
  refine Safe.block (Safe.loop ?_)
  have key : ∀ (k i : Nat), i + k = v.length → Safe ⟨Pr, fun _ _ => false, a7i, 20, [.tmp 2], H.length⟩ [.inLoop b7B, .inBlock 0, .code ((ACode.region a9t false).seq .ret)]
      [(0, matV v), (3, .mu (lid H 0) 0 (v.take i).length none), (4, .int .i64 i)] (hap H [some ⟨1, (v.take i).map vecV⟩]) fun r' H' => r' = matV v ∧ ∃ L, H' = hap H L := by
    intro k
    induction k with
    | zero =>
      intro i hi
      have hi' : i = v.length := by omega
      subst hi'
      refine Safe.inLoop (Safe.seq (Safe.seq (Safe.region ?_)))
      simp only [a9u, E3, seval, Int.lt_irrefl]
      refine Safe.cond ?_
      simp only [E3, seval]
      refine Safe.exit rfl ?_
      rw [List.take_length]
      refine Safe.freeze 0 (b := ⟨1, v.map vecV⟩) hH rfl rfl (a1E 1 vecV v a0e) ?_
      refine Safe.seq (Safe.region ?_)
      simp only [a9t, E3, seval, a8l]
      refine Safe.retn ?_
      simp only [E3, seval]
      first | exact ⟨rfl, _, rfl⟩ | exact ⟨_, rfl⟩ | exact ⟨trivial, _, rfl⟩
    | succ k ih =>
      intro i hi
      refine Safe.inLoop (Safe.seq (Safe.seq (Safe.region ?_)))
      have hlt : (i : Int) < (v.length : Int) := by omega
      simp only [a9u, E3, seval, hlt]
      refine Safe.cond ?_
      simp only [E3, seval]
      refine Safe.skip (Safe.seq (Safe.block (Safe.region ?_)))
      simp only [b7x, E3, seval, a2b _ v _ i (by omega)]
      refine (c4g v[i] (hv.get (by omega))).acall ?_
      have hl : (v.take i).length = i := by rw [List.length_take]; omega
      simp only [E3, seval, d6F H hH _ (a1v H 0) _ 1 24 vecV a0e (v.take i) v[i] (by omega) (by omega), b7l, b8n]
      refine Safe.inBlock (Safe.region ?_)
      have hiw : IntKind.wrap .i64 ((i : Int) + 1) = ((i + 1 : Nat) : Int) := by rw [a0a] <;> omega
      simp only [b7w, E3, seval, hiw]
      refine Safe.keep [0, 3, 4] ?_
      simp only [E3, seval]
      have := ih (i + 1) (by omega)
      rw [List.take_succ_eq_append_getElem (by omega)] at this
      simpa only [List.length_append, List.length_cons, List.length_nil] using this
  refine Safe.keep [0, 3, 4] ?_
  simp only [E3, seval]
  exact key v.length 0 (by omega)
end Go.Abs
set_option linter.unusedVariables false
set_option linter.unusedSimpArgs false
namespace Go.Abs
theorem d5k (x : ZI) (hx : Zok 17592186044416 x) : a0d Pr a8v [x.av, x.av] (.bool true) := by
  obtain ⟨n, m⟩ := x
  have hml : m.length ≤ 17592186044416 := hx.len
  simp only [ZI.av]
  refine a0d.intro d5a d4Y (Nat.le_of_ble_eq_true rfl) (.bool _) fun H hH => ?_
  refine Safe.rg rfl ?_
  simp only [c5D, E3, seval]
  refine Safe.rg rfl ?_
  simp only [c5C, beq_self_eq_true, E3, seval]
  refine Safe.cd rfl ?_
  simp only [E3, seval]
  refine Safe.rg rfl ?_
  simp only [c5B, E3, seval]
  refine Safe.lp rfl ?_
  refine Safe.keep [2, 3, 5] ?_
  try simp only [E3, seval]
  refine Safe.loopN (m.length) (fun i => [(2, .loc (lid H 0) 0 0), (3, .loc (lid H 1) 0 0), (5, .int .i64 i)]) (fun i => hap H [some ⟨2, [.agg [.bool n, natV m]]⟩, some ⟨2, [.agg [.bool n, natV m]]⟩]) rfl rfl (fun i hi ih => ?_) ?_
  · have hlt : (i : Int) < (m.length : Int) := by omega
    have hiw : IntKind.wrap .i64 ((i : Int) + 1) = ((i + 1 : Nat) : Int) := by rw [a0a] <;> omega
    refine Safe.inLoop ?_
    refine Safe.rg rfl ?_
    simp only [b4I, hlt, E3, seval]
    refine Safe.cd rfl ?_
    simp only [E3, seval]
    refine Safe.rg rfl ?_
    simp only [c5A, a0A _ m _ i (by omega), E3, seval]
    refine Safe.cd rfl ?_
    simp only [E3, seval]
    refine Safe.rg rfl ?_
    simp only [c5z, hiw, E3, seval]
    refine Safe.keep [2, 3, 5] ?_
    simp only [E3, seval]
    exact ih
  · refine Safe.inLoop ?_
    refine Safe.rg rfl ?_
    simp only [b4I, Int.lt_irrefl, E3, seval]
    refine Safe.cd rfl ?_
    simp only [E3, seval]
    refine Safe.rg rfl ?_
    simp only [c5y, E3, seval]
    refine Safe.rt rfl ?_
    simp only [E3, seval]
    first | exact ⟨rfl, _, rfl⟩ | exact ⟨_, rfl⟩ | exact ⟨trivial, _, rfl⟩
section
variable {a b : Int} {k l : Nat} (ha : a.natAbs < LB ^ k)
include ha
theorem d5w (hb : b.natAbs < LB ^ k) (hk : k < 17592186044416) : a0d Pr a5N [Z a, Z b] (Z (a - b)) := by
  have := d8H (canZ a) (canZ b) k (a0l ha) (a0l hb) hk
  rwa [a0p, a0p] at this
theorem d9y (hb : b.natAbs < LB ^ k) (hk : k < 17592186044416) : a0d Pr a4t [Z a, Z b] (Z (a + b)) := by
  have := b8F (canZ a) (canZ b) k (a0l ha) (a0l hb) hk
  rwa [a0p, a0p] at this
theorem d9x (hb : b.natAbs < LB ^ k) (hk : k < 17592186044416) : a0d Pr a6B [Z a, Z b] (Z (a - b)) := by
  have := c7a (canZ a) (canZ b) k (a0l ha) (a0l hb) hk
  rwa [a0p, a0p] at this
theorem c4e (hb : b.natAbs < LB ^ l) (hk : k + l ≤ 17592186044416) : a0d Pr a1e [Z a, Z b] (Z (a * b)) := by
  have := a3p (canZ a) (canZ b) k l (a0l ha) (a0l hb) hk
  rwa [a0p, a0p] at this
end
theorem b1Q {a b : AV} (ha : Cl a) (hb : Cl b) : Cl (.tup [a, b]) := .tup _ (by
  intro c hc
  simp only [List.mem_cons, List.not_mem_nil, or_false] at hc
  rcases hc with rfl | rfl
  · exact ha
  · exact hb)
theorem c6d {a b d : AV} (ha : Cl a) (hb : Cl b) (hd : Cl d) : Cl (.tup [a, b, d]) := .tup _ (by
  intro c hc
  simp only [List.mem_cons, List.not_mem_nil, or_false] at hc
  rcases hc with rfl | rfl | rfl
  · exact ha
  · exact hb
  · exact hd)
theorem d6t (v : List ZI) (hv : Vok 17592186044416 v) : a0d Pr b5b [vecV v, vecV v] (.bool true) := by
  have hvl := hv.len
  refine a0d.intro d2M d2K (Nat.le_of_ble_eq_true rfl) (.bool _) fun H hH => ?_
  refine Safe.rg rfl ?_
  simp only [c2u, E3, seval]
  refine Safe.rg rfl ?_
  simp only [c2t, E3, seval]
  refine Safe.cd rfl ?_
  simp only [E3, seval]
  refine Safe.rg rfl ?_
  simp only [c2s, E3, seval]
  refine Safe.lp rfl ?_
  refine Safe.keep [0, 1, 5] ?_
  try simp only [E3, seval]
  refine Safe.loopN (v.length) (fun i => [(0, vecV v), (1, vecV v), (5, .int .i64 i)]) (fun i => hap H []) rfl rfl (fun i hi ih => ?_) ?_
  · have hlt : (i : Int) < (v.length : Int) := by omega
    have hiw : IntKind.wrap .i64 ((i : Int) + 1) = ((i + 1 : Nat) : Int) := by rw [a0a] <;> omega
    refine Safe.inLoop ?_
    refine Safe.rg rfl ?_
    simp only [b1u, hlt, E3, seval]
    refine Safe.cd rfl ?_
    simp only [E3, seval]
    refine Safe.rg rfl ?_
    simp only [c2r, a1g _ v _ i (by omega), E3, seval]
    first | refine (d5k v[i] (hv.get hi)).acall ?_ | refine (d5k v[i] (hv.get hi)).dcall ?_
    try simp only [E3, seval]
    refine Safe.cd rfl ?_
    simp only [E3, seval]
    refine Safe.rg rfl ?_
    simp only [c2q, hiw, E3, seval]
    refine Safe.keep [0, 1, 5] ?_
    simp only [E3, seval]
    exact ih
  · refine Safe.inLoop ?_
    refine Safe.rg rfl ?_
    simp only [b1u, Int.lt_irrefl, E3, seval]
    refine Safe.cd rfl ?_
    simp only [E3, seval]
    refine Safe.rg rfl ?_
    simp only [c2p, E3, seval]
    refine Safe.rt rfl ?_
    simp only [E3, seval]
    first | exact ⟨rfl, _, rfl⟩ | exact ⟨_, rfl⟩ | exact ⟨trivial, _, rfl⟩
theorem c8G (k : Nat) : Vok k [] := ⟨by simp, by simp⟩
end Go.Abs
set_option linter.unusedVariables false
set_option linter.unusedSimpArgs false
namespace Go.Abs
theorem sign_zero {z : Int} (h : z = 0) : z.sign = 0 := by rw [h]; rfl
theorem e4q {z : Int} (h : z ≠ 0) : ¬ z.sign = 0 := fun e => h (Int.sign_eq_zero_iff_zero.1 e)
theorem a5L (v : List ZI) (hv : Vok 17592186044416 v) : a0d Pr b2u [vecV v] (.int .i64 (c5x v)) := by
  have hvl := hv.len
  refine a0d.intro d4Q d4O (Nat.le_of_ble_eq_true rfl) (.int _ _) fun H hH => ?_
  refine Safe.rg rfl ?_
  simp only [c5q, E3, seval]
  refine Safe.rg rfl ?_
  simp only [c5p, E3, seval]
  rcases b2h v with ⟨m, hm, h0, hz, hl, _⟩ | ⟨hz, hl, _⟩
  · rw [hl]
    refine Safe.lp rfl ?_
    refine Safe.keep [5, 6, 7] ?_
    try simp only [E3, seval]
    refine Safe.loopN (m) (fun i => [(5, vecV v), (6, .int .i64 v.length), (7, .int .i64 i)]) (fun i => hap H []) rfl rfl (fun i hi ih => ?_) ?_
    · have hlt : (i : Int) < (v.length : Int) := by omega
      have hs : v[i].z.sign = 0 := sign_zero (by rw [← c2E (by omega)]; exact hz i hi)
      have hiw : IntKind.wrap .i64 ((i : Int) + 1) = ((i + 1 : Nat) : Int) := by rw [a0a] <;> omega
      refine Safe.inLoop ?_
      refine Safe.rg rfl ?_
      simp only [a6g, hlt, E3, seval]
      refine Safe.cd rfl ?_
      simp only [E3, seval]
      refine Safe.rg rfl ?_
      simp only [a9q, a1g _ v _ i (by omega), E3, seval]
      refine Safe.rg rfl ?_
      simp only [a9p, E3, seval]
      first | refine (a1w v[i] (hv.get (by omega))).acall ?_ | refine (a1w v[i] (hv.get (by omega))).dcall ?_
      try simp only [E3, seval]
      refine Safe.cd rfl ?_
      simp only [hs, E3, seval]
      refine Safe.rg rfl ?_
      simp only [b4H, hiw, E3, seval]
      refine Safe.keep [5, 6, 7] ?_
      simp only [E3, seval]
      refine Safe.drop0 hH rfl (by simp only [List.all_cons, List.all_nil, E3, seval]) (by repeat (first | exact RC.nil | refine RC.none ?_ | refine RC.row ZI.cl ?_ | refine RC.cons (a0m _) ?_ | refine RC.row a0e ?_ | refine RC.emp ?_ | refine RC.zero ?_ | refine RC.one (Z_cl _) ?_ | refine RC.one (ZI.cl _) ?_ | refine RC.one (a0e _) ?_)) ?_
      exact ih
    · have hlt : (m : Int) < (v.length : Int) := by omega
      have hs : ¬ v[m].z.sign = 0 := e4q (by rw [← c2E (by omega)]; exact h0)
      refine Safe.inLoop ?_
      refine Safe.rg rfl ?_
      simp only [a6g, hlt, E3, seval]
      refine Safe.cd rfl ?_
      simp only [E3, seval]
      refine Safe.rg rfl ?_
      simp only [a9q, a1g _ v _ m (by omega), E3, seval]
      refine Safe.rg rfl ?_
      simp only [a9p, E3, seval]
      first | refine (a1w v[m] (hv.get (by omega))).acall ?_ | refine (a1w v[m] (hv.get (by omega))).dcall ?_
      try simp only [E3, seval]
      refine Safe.cd rfl ?_
      simp only [hs, E3, seval]
      refine Safe.rg rfl ?_
      simp only [c5o, E3, seval]
      refine Safe.rt rfl ?_
      simp only [E3, seval]
      first | exact ⟨rfl, _, rfl⟩ | exact ⟨_, rfl⟩ | exact ⟨trivial, _, rfl⟩
  · rw [hl]
    refine Safe.lp rfl ?_
    refine Safe.keep [5, 6, 7] ?_
    try simp only [E3, seval]
    refine Safe.loopN (v.length) (fun i => [(5, vecV v), (6, .int .i64 v.length), (7, .int .i64 i)]) (fun i => hap H []) rfl rfl (fun i hi ih => ?_) ?_
    · have hlt : (i : Int) < (v.length : Int) := by omega
      have hs : v[i].z.sign = 0 := sign_zero (by rw [← c2E (by omega)]; exact hz i hi)
      have hiw : IntKind.wrap .i64 ((i : Int) + 1) = ((i + 1 : Nat) : Int) := by rw [a0a] <;> omega
      refine Safe.inLoop ?_
      refine Safe.rg rfl ?_
      simp only [a6g, hlt, E3, seval]
      refine Safe.cd rfl ?_
      simp only [E3, seval]
      refine Safe.rg rfl ?_
      simp only [a9q, a1g _ v _ i (by omega), E3, seval]
      refine Safe.rg rfl ?_
      simp only [a9p, E3, seval]
      first | refine (a1w v[i] (hv.get (by omega))).acall ?_ | refine (a1w v[i] (hv.get (by omega))).dcall ?_
      try simp only [E3, seval]
      refine Safe.cd rfl ?_
      simp only [hs, E3, seval]
      refine Safe.rg rfl ?_
      simp only [b4H, hiw, E3, seval]
      refine Safe.keep [5, 6, 7] ?_
      simp only [E3, seval]
      refine Safe.drop0 hH rfl (by simp only [List.all_cons, List.all_nil, E3, seval]) (by repeat (first | exact RC.nil | refine RC.none ?_ | refine RC.row ZI.cl ?_ | refine RC.cons (a0m _) ?_ | refine RC.row a0e ?_ | refine RC.emp ?_ | refine RC.zero ?_ | refine RC.one (Z_cl _) ?_ | refine RC.one (ZI.cl _) ?_ | refine RC.one (a0e _) ?_)) ?_
      exact ih
    · refine Safe.inLoop ?_
      refine Safe.rg rfl ?_
      simp only [a6g, Int.lt_irrefl, E3, seval]
      refine Safe.cd rfl ?_
      simp only [E3, seval]
      refine Safe.rg rfl ?_
      simp only [c5n, E3, seval]
      refine Safe.rt rfl ?_
      simp only [E3, seval]
      first | exact ⟨rfl, _, rfl⟩ | exact ⟨_, rfl⟩ | exact ⟨trivial, _, rfl⟩
theorem one3 (a b c : AV) : c2O [a, b, c] = .tup [a, b, c] := rfl
theorem cl3i (a b c : Int) : Cl (.tup [.int .i64 a, .int .i64 b, .int .i64 c]) := c6d (.int _ _) (.int _ _) (.int _ _)
theorem d9w {b : List (List ZI)} (hr : Rect b) {i : Nat} (hi : i < b.length) : (b[i].length : Int) = (b[0].length : Int) := by
  have := hr i hi
  rw [a3T hi, a3T (by omega)] at this
  omega
theorem e3F {b : List (List ZI)} (h : 0 < b.length) : wid b = b[0].length := by rw [wid, a3T h]
theorem a8f (b : List (List ZI)) (k : Nat) (hb : Mok k b) (hr : Rect b) : a0d Pr a6C [matV b] (.tup [.int .i64 b.length, .int .i64 (wid b), .int .i64 0]) := by
  have hbl := hb.len
  refine a0d.intro c2j c2i (Nat.le_of_ble_eq_true rfl) (cl3i _ _ _) fun H hH => ?_
  refine Safe.rg rfl ?_
  simp only [b1s, E3, seval]
  refine Safe.rg rfl ?_
  simp only [b1r, E3, seval]
  refine Safe.cd rfl ?_
  simp only [E3, seval]
  by_cases h0 : b.length = 0
  · have h0' : (b.length : Int) = 0 := by omega
    have hw : wid b = 0 := by simp [wid, mg, List.length_eq_zero_iff.1 h0]
    simp only [h0', E3, seval]
    refine Safe.rg rfl ?_
    simp only [c2h, E3, seval]
    refine Safe.rt rfl ?_
    simp only [one3, h0', hw, Int.natCast_zero, E3, seval]
    first | exact ⟨rfl, _, rfl⟩ | exact ⟨_, rfl⟩ | exact ⟨trivial, _, rfl⟩
  · have h0' : ¬ (b.length : Int) = 0 := by omega
    simp only [h0', E3, seval]
    refine Safe.rg rfl ?_
    simp only [b1q, E3, seval]
    refine Safe.lp rfl ?_
    refine Safe.keep [0, 10, 11, 12] ?_
    try simp only [E3, seval]
    refine Safe.loopN (b.length) (fun i => [(0, matV b), (10, matV b), (11, .int .i64 b.length), (12, .int .i64 i)]) (fun i => hap H []) rfl rfl (fun i hi ih => ?_) ?_
    · have hlt : (i : Int) < (b.length : Int) := by omega
      have hiw : IntKind.wrap .i64 ((i : Int) + 1) = ((i + 1 : Nat) : Int) := by rw [a0a] <;> omega
      refine Safe.inLoop ?_
      refine Safe.rg rfl ?_
      simp only [a4S, hlt, E3, seval]
      refine Safe.cd rfl ?_
      simp only [E3, seval]
      refine Safe.rg rfl ?_
      simp only [a6X, a2b _ b _ i hi, E3, seval]
      refine Safe.rg rfl ?_
      simp only [a6W, a6V _ b _ (show 0 < b.length by omega), d9w hr hi, E3, seval]
      refine Safe.cd rfl ?_
      simp only [E3, seval]
      refine Safe.rg rfl ?_
      simp only [b1p, hiw, E3, seval]
      refine Safe.keep [0, 10, 11, 12] ?_
      simp only [E3, seval]
      exact ih
    · refine Safe.inLoop ?_
      refine Safe.rg rfl ?_
      simp only [a4S, Int.lt_irrefl, E3, seval]
      refine Safe.cd rfl ?_
      simp only [E3, seval]
      refine Safe.rg rfl ?_
      simp only [c2f, a6V _ b _ (show 0 < b.length by omega), E3, seval]
      refine Safe.rt rfl ?_
      simp only [one3, e3F (show 0 < b.length by omega), E3, seval]
      first | exact ⟨rfl, _, rfl⟩ | exact ⟨_, rfl⟩ | exact ⟨trivial, _, rfl⟩
theorem c8l (b : List (List ZI)) (k : Nat) (hb : Mok k b) (hr : ¬ Rect b) : a0d Pr a6C [matV b] (.tup [.int .i64 0, .int .i64 0, .int .i64 8]) := by
  have hbl := hb.len
  rcases c6V b with h | ⟨m, hm, h1, h2⟩
  · exact absurd h hr
  have h0' : ¬ (b.length : Int) = 0 := by omega
  refine a0d.intro c2j c2i (Nat.le_of_ble_eq_true rfl) (cl3i _ _ _) fun H hH => ?_
  refine Safe.rg rfl ?_
  simp only [b1s, E3, seval]
  refine Safe.rg rfl ?_
  simp only [b1r, h0', E3, seval]
  refine Safe.cd rfl ?_
  simp only [E3, seval]
  refine Safe.rg rfl ?_
  simp only [b1q, E3, seval]
  refine Safe.lp rfl ?_
  refine Safe.keep [0, 10, 11, 12] ?_
  try simp only [E3, seval]
  refine Safe.loopN (m) (fun i => [(0, matV b), (10, matV b), (11, .int .i64 b.length), (12, .int .i64 i)]) (fun i => hap H []) rfl rfl (fun i hi ih => ?_) ?_
  · have hlt : (i : Int) < (b.length : Int) := by omega
    have he : (b[i].length : Int) = (b[0].length : Int) := by
      have := h2 i hi
      rw [a3T (by omega), a3T (by omega)] at this
      omega
    have hiw : IntKind.wrap .i64 ((i : Int) + 1) = ((i + 1 : Nat) : Int) := by rw [a0a] <;> omega
    refine Safe.inLoop ?_
    refine Safe.rg rfl ?_
    simp only [a4S, hlt, E3, seval]
    refine Safe.cd rfl ?_
    simp only [E3, seval]
    refine Safe.rg rfl ?_
    simp only [a6X, a2b _ b _ i (by omega), E3, seval]
    refine Safe.rg rfl ?_
    simp only [a6W, a6V _ b _ (show 0 < b.length by omega), he, E3, seval]
    refine Safe.cd rfl ?_
    simp only [E3, seval]
    refine Safe.rg rfl ?_
    simp only [b1p, hiw, E3, seval]
    refine Safe.keep [0, 10, 11, 12] ?_
    simp only [E3, seval]
    exact ih
  · have hlt : (m : Int) < (b.length : Int) := by omega
    have he : ¬ (b[m].length : Int) = (b[0].length : Int) := by
      rw [a3T hm, a3T (by omega)] at h1
      omega
    refine Safe.inLoop ?_
    refine Safe.rg rfl ?_
    simp only [a4S, hlt, E3, seval]
    refine Safe.cd rfl ?_
    simp only [E3, seval]
    refine Safe.rg rfl ?_
    simp only [a6X, a2b _ b _ m hm, E3, seval]
    refine Safe.rg rfl ?_
    simp only [a6W, a6V _ b _ (show 0 < b.length by omega), he, E3, seval]
    refine Safe.cd rfl ?_
    simp only [E3, seval]
    refine Safe.rg rfl ?_
    simp only [c2g, E3, seval]
    refine Safe.rt rfl ?_
    simp only [one3, E3, seval]
    first | exact ⟨rfl, _, rfl⟩ | exact ⟨_, rfl⟩ | exact ⟨trivial, _, rfl⟩
theorem a7Q (b : List (List ZI)) (k : Nat) (hb : Mok k b) (hr : Rect b) : a0d Pr a3S [matV b] (.tup [.int .i64 b.length, .int .i64 (wid b), .int .i64 0]) := by
  have hbl := hb.len
  refine a0d.intro b2P b2O (Nat.le_of_ble_eq_true rfl) (cl3i _ _ _) fun H hH => ?_
  refine Safe.rg rfl ?_
  simp only [a7r, E3, seval]
  refine Safe.rg rfl ?_
  simp only [a7q, E3, seval]
  refine Safe.lp rfl ?_
  refine Safe.keep [0, 5] ?_
  try simp only [E3, seval]
  refine Safe.loopN (b.length) (fun i => [(0, matV b), (5, .int .i64 i)]) (fun i => hap H []) rfl rfl (fun i hi ih => ?_) ?_
  · have hlt : (i : Int) < (b.length : Int) := by omega
    have hiw : IntKind.wrap .i64 ((i : Int) + 1) = ((i + 1 : Nat) : Int) := by rw [a0a] <;> omega
    refine Safe.inLoop ?_
    refine Safe.rg rfl ?_
    simp only [a2S, hlt, E3, seval]
    refine Safe.cd rfl ?_
    simp only [E3, seval]
    refine Safe.rg rfl ?_
    simp only [a4C, a2b _ b _ i hi, a6V _ b _ (show 0 < b.length by omega), d9w hr hi, E3, seval]
    refine Safe.cd rfl ?_
    simp only [E3, seval]
    refine Safe.rg rfl ?_
    simp only [a7p, hiw, E3, seval]
    refine Safe.keep [0, 5] ?_
    simp only [E3, seval]
    exact ih
  · refine Safe.inLoop ?_
    refine Safe.rg rfl ?_
    simp only [a2S, Int.lt_irrefl, E3, seval]
    refine Safe.cd rfl ?_
    simp only [E3, seval]
    refine Safe.rg rfl ?_
    simp only [b2M, E3, seval]
    refine Safe.cd rfl ?_
    simp only [E3, seval]
    by_cases h0 : b.length = 0
    · have h0' : (b.length : Int) = 0 := by omega
      have hw : wid b = 0 := by simp [wid, mg, List.length_eq_zero_iff.1 h0]
      simp only [h0', E3, seval]
      refine Safe.rg rfl ?_
      simp only [b2L, E3, seval]
      refine Safe.rt rfl ?_
      simp only [one3, h0', hw, Int.natCast_zero, E3, seval]
      first | exact ⟨rfl, _, rfl⟩ | exact ⟨_, rfl⟩ | exact ⟨trivial, _, rfl⟩
    · have h0' : ¬ (b.length : Int) = 0 := by omega
      simp only [h0', E3, seval]
      refine Safe.rg rfl ?_
      simp only [b2K, a6V _ b _ (show 0 < b.length by omega), E3, seval]
      refine Safe.rt rfl ?_
      simp only [one3, e3F (show 0 < b.length by omega), E3, seval]
      first | exact ⟨rfl, _, rfl⟩ | exact ⟨_, rfl⟩ | exact ⟨trivial, _, rfl⟩
theorem c6T (b : List (List ZI)) (k : Nat) (hb : Mok k b) (hr : ¬ Rect b) : a0d Pr a3S [matV b] (.tup [.int .i64 0, .int .i64 0, .int .i64 8]) := by
  have hbl := hb.len
  rcases c6V b with h | ⟨m, hm, h1, h2⟩
  · exact absurd h hr
  have h0' : ¬ (b.length : Int) = 0 := by omega
  refine a0d.intro b2P b2O (Nat.le_of_ble_eq_true rfl) (cl3i _ _ _) fun H hH => ?_
  refine Safe.rg rfl ?_
  simp only [a7r, E3, seval]
  refine Safe.rg rfl ?_
  simp only [a7q, E3, seval]
  refine Safe.lp rfl ?_
  refine Safe.keep [0, 5] ?_
  try simp only [E3, seval]
  refine Safe.loopN (m) (fun i => [(0, matV b), (5, .int .i64 i)]) (fun i => hap H []) rfl rfl (fun i hi ih => ?_) ?_
  · have hlt : (i : Int) < (b.length : Int) := by omega
    have he : (b[i].length : Int) = (b[0].length : Int) := by
      have := h2 i hi
      rw [a3T (by omega), a3T (by omega)] at this
      omega
    have hiw : IntKind.wrap .i64 ((i : Int) + 1) = ((i + 1 : Nat) : Int) := by rw [a0a] <;> omega
    refine Safe.inLoop ?_
    refine Safe.rg rfl ?_
    simp only [a2S, hlt, E3, seval]
    refine Safe.cd rfl ?_
    simp only [E3, seval]
    refine Safe.rg rfl ?_
    simp only [a4C, a2b _ b _ i (by omega), a6V _ b _ (show 0 < b.length by omega), he, E3, seval]
    refine Safe.cd rfl ?_
    simp only [E3, seval]
    refine Safe.rg rfl ?_
    simp only [a7p, hiw, E3, seval]
    refine Safe.keep [0, 5] ?_
    simp only [E3, seval]
    exact ih
  · have hlt : (m : Int) < (b.length : Int) := by omega
    have he : ¬ (b[m].length : Int) = (b[0].length : Int) := by
      rw [a3T hm, a3T (by omega)] at h1
      omega
    refine Safe.inLoop ?_
    refine Safe.rg rfl ?_
    simp only [a2S, hlt, E3, seval]
    refine Safe.cd rfl ?_
    simp only [E3, seval]
    refine Safe.rg rfl ?_
    simp only [a4C, a2b _ b _ m hm, a6V _ b _ (show 0 < b.length by omega), he, E3, seval]
    refine Safe.cd rfl ?_
    simp only [E3, seval]
    refine Safe.rg rfl ?_
    simp only [b2N, E3, seval]
    refine Safe.rt rfl ?_
    simp only [one3, E3, seval]
    first | exact ⟨rfl, _, rfl⟩ | exact ⟨_, rfl⟩ | exact ⟨trivial, _, rfl⟩
end Go.Abs
set_option linter.unusedVariables false
set_option linter.unusedSimpArgs false
namespace Go.Abs
theorem e6v {H L : Heap} {wd len lo hi mx : Nat} {X : List AV} {oc : Option Nat} {k k' k2 : IntKind} (h1 : lo ≤ hi) (h2 : hi ≤ mx) (h3 : mx ≤ len) :
    slcV (hap H (some ⟨wd, X⟩ :: L)) wd (.mu (lid H 0) 0 len oc) (some (.int k lo)) (some (.int k' hi)) (some (.int k2 mx)) = some (.mu (lid H 0) lo (hi - lo) (some (mx - lo))) := by
  simp only [slcV, a1p, a3R, List.getElem?_cons_zero, Option.join_some, Option.bind_some]
  rw [if_pos ⟨trivial, rfl, by omega, by omega, by omega, by omega⟩]
  simp
theorem Safe.drop2n {x : Cx} {todo : List AItem} {env : Env} {R : AV → Heap → Prop} {H : Heap} {a b c : Option Blk} (hH : a0E H) (hx : x.n0 = H.length) (he : env.all (fun p => nref (lid H 2) p.2) = true)
    (hL : ∀ r, some r ∈ [a, b] → ∀ v ∈ r.flat, nref (lid H 2) v = true) (h : Safe x todo env (hap H [a, b]) R) : Safe x todo env (hap H [a, b, c]) R := Safe.drop (L := [a, b]) hH hx he hL h
/-- The entries as they come, column after column. -/
def colF (b : List (List ZI)) (t : Nat) : Int := zg (mg b (t % b.length)) (t / b.length)
theorem e0R (b : List (List ZI)) {k i : Nat} (hi : i < b.length) : colF b (k * b.length + i) = zg (mg b i) k := by
  unfold colF
  rw [Nat.add_comm, Nat.add_mul_mod_self_right, Nat.mod_eq_of_lt hi, Nat.add_mul_div_right _ _ (by omega), Nat.div_eq_of_lt hi, Nat.zero_add]
def a0S (H : Heap) (n k : Nat) : List AV := (List.range k).map fun j => .mu (lid H 0) (j * n) n (some n)
theorem d7B (H : Heap) (n k : Nat) : a0S H n (k + 1) = a0S H n k ++ [.mu (lid H 0) (k * n) n (some n)] := by simp [a0S, List.range_succ]
theorem c7d (H : Heap) (n k : Nat) : (a0S H n k).flatMap AV.cells = a0S H n k := by
  unfold a0S
  induction (List.range k) with
  | nil => rfl
  | cons j l ih => rw [List.map_cons, List.flatMap_cons, ih]; rfl
theorem d2m {H : Heap} {n k : Nat} {a : AV} (h : a ∈ a0S H n k) : ∃ j, a = .mu (lid H 0) (j * n) n (some n) := by
  obtain ⟨j, _, rfl⟩ := List.mem_map.1 h; exact ⟨j, rfl⟩
end Go.Abs
set_option linter.unusedVariables false
set_option linter.unusedSimpArgs false
namespace Go.Abs
theorem b8g {n : Nat} (M : Nat) : (fl n fun j => if n ≤ j then dig M j else 0) = fl n fun _ => 0 := a3d fun i hi => if_neg (by omega)
theorem b8h {n i : Nat} (M : Nat) : (fl n fun j => if j = i then dig M i else if i + 1 ≤ j then dig M j else 0) = fl n fun j => if i ≤ j then dig M j else 0 := a3d fun j _ => by
  by_cases h : j = i
  · subst h; rw [if_pos rfl, if_pos (Nat.le_refl _)]
  · rw [if_neg h]
    by_cases h2 : i + 1 ≤ j
    · rw [if_pos h2, if_pos (by omega)]
    · rw [if_neg h2, if_neg (by omega)]
theorem c3e {n : Nat} (M : Nat) : (fl n fun j => if 0 ≤ j then dig M j else 0) = fl n (dig M) := a3d fun j _ => if_pos (Nat.zero_le _)
theorem b2k {A n d : Nat} (h : A < LB ^ n) : A / d < LB ^ n := Nat.lt_of_le_of_lt (Nat.div_le_self _ _) h
theorem c6P (a : List Nat) (d : Nat) (ha : Nt a) (hd : 0 < d) (hd2 : d < LB) : a0d Pr b4Z [natV a, .int .u32 d] (.tup [natV (limbs (val a / d)), .int .u32 (val a % d : Nat)]) := by
  have hLB : LB = 4294967296 := rfl
  have hlen := ha.len
  have hv := a0Z ha.lim
  refine a0d.intro d2s d2q (Nat.le_of_ble_eq_true rfl) (b1Q (a0T _) (.int _ _)) fun H hH => ?_
  refine Safe.rg rfl ?_
  simp only [c1P, E3, seval]
  refine Safe.rg rfl ?_
  simp only [c1O, b8Y (H := H) (L := []) (n := a.length) (by omega), E3, seval]
  refine Safe.rg rfl ?_
  simp only [c1N, E3, seval]
  refine Safe.rg rfl ?_
  simp only [c1M, a0a (n := (a.length : Int) - 1) (by omega) (by omega), E3, seval]
  refine Safe.lp rfl ?_
  refine Safe.keep [0, 1, 6, 7, 8] ?_
  simp only [E3, seval]
  refine Safe.loopD a.length (fun i => [(0, natV a), (1, .int .u32 d), (6, .mu (lid H 0) 0 a.length (some a.length)), (7, .int .u64 (val a / LB ^ i % d : Nat)), (8, .int .i64 ((i : Int) - 1))])
    (fun i => hap H [some ⟨1, u32s (fl a.length fun j => if i ≤ j then dig (val a / d) j else 0)⟩]) ?_ ?_ (fun i hi ih => ?_) ?_
  · rw [Nat.div_eq_of_lt hv]; rfl
  · rw [b8g]
  · have e1 : ((i + 1 : Nat) : Int) - 1 = (i : Int) := by omega
    rw [e1]
    refine Safe.inLoop ?_
    refine Safe.rg rfl ?_
    simp only [b1j, Int.natCast_nonneg i, E3, seval]
    refine Safe.cd rfl ?_
    simp only [E3, seval]
    have hr : val a / LB ^ (i + 1) % d < LB := Nat.lt_trans (Nat.mod_lt _ hd) hd2
    have hai : a.getD i 0 < LB := a0L ha.lim i
    refine Safe.rg rfl ?_
    simp only [c1L, a0A _ a _ i hi, e4t hr, a2l (x := a.getD i 0) (by omega), c3C hr hai, E3, seval]
    rw [← d0m ha.lim i]
    have hs := c3K (val a) d i
    have hq := c3L (val a) d i
    have hb : val a / LB ^ (i + 1) % d * LB + dig (val a) i < 18446744073709551616 := by
      have := b8i (val a) i
      have : val a / LB ^ (i + 1) % d * LB ≤ 4294967295 * LB := Nat.mul_le_mul_right _ (by omega)
      omega
    refine Safe.rg rfl ?_
    simp only [c1K, a2l (x := d) (by omega), c9D hd hb, hq, a9V (b8i _ _), d8v hi, fst0 hi, E3, seval]
    refine Safe.rg rfl ?_
    simp only [c1J, a2l (x := d) (by omega), d9u hd, hs, E3, seval]
    refine Safe.rg rfl ?_
    simp only [c1I, a0a (n := (i : Int) - 1) (by omega) (by omega), E3, seval]
    refine Safe.keep [0, 1, 6, 7, 8] ?_
    simp only [E3, seval]
    rw [b8h]
    exact ih
  · refine Safe.inLoop ?_
    refine Safe.rg rfl ?_
    simp only [b1j, show (0 ≤ ((0 : Nat) : Int) - 1) = False by simp, E3, seval]
    refine Safe.cd rfl ?_
    simp only [E3, seval]
    refine Safe.freeze 0 hH rfl rfl (a0m _) ?_
    refine Safe.keep [6, 7] ?_
    simp only [d2V, E3, seval]
    rw [c3e]
    have hr : val a % d < LB := Nat.lt_trans (Nat.mod_lt _ hd) hd2
    refine Safe.rg rfl ?_
    simp only [c1H, E3, seval]
    first | refine (a0v _ (a2M _ _) (by rw [a1c]; exact hlen)).acall ?_ | refine (a0v _ (a2M _ _) (by rw [a1c]; exact hlen)).dcall ?_
    try simp only [E3, seval]
    simp only [a1S (b2k hv (d := d)), Nat.pow_zero, Nat.div_one, a9V hr, E3, seval]
    refine Safe.rt rfl ?_
    simp only [E3, seval]
    first | exact ⟨rfl, _, rfl⟩ | exact ⟨_, rfl⟩ | exact ⟨trivial, _, rfl⟩
theorem d6x (n : Nat) (h : n < LB) : a0d Pr a1H [.int .u32 n] (.int .i64 ((32 - blen n : Nat) : Int)) := by
  have hLB : LB = 4294967296 := rfl
  have hb : blen n ≤ 32 := by
    rcases Nat.lt_or_ge 32 (blen n) with hc | hc
    · exfalso
      have h0 : n ≠ 0 := by rintro rfl; simp [d3o] at hc
      have := b9w h0
      have h2 : 2 ^ 32 ≤ 2 ^ (blen n - 1) := Nat.pow_le_pow_right (by decide) (by omega)
      have : (2 : Nat) ^ 32 = LB := by decide
      omega
    · exact hc
  refine a0d.intro a6e a6d (Nat.le_of_ble_eq_true rfl) (.int _ _) fun H hH => ?_
  refine Safe.rg rfl ?_
  simp only [a2w, E3, seval]
  refine Safe.rg rfl ?_
  simp only [a2v, E3, seval]
  first | refine (b9g n (by omega)).acall ?_ | refine (b9g n (by omega)).dcall ?_
  try simp only [E3, seval]
  have hw : IntKind.wrap .i64 ((32 : Int) - ((blen n : Nat) : Int)) = ((32 - blen n : Nat) : Int) := by rw [a0a] <;> omega
  simp only [hw, E3, seval]
  refine Safe.rt rfl ?_
  simp only [E3, seval]
  first | exact ⟨rfl, _, rfl⟩ | exact ⟨_, rfl⟩ | exact ⟨trivial, _, rfl⟩
section
variable {H L : Heap} {id : Nat} {b : Blk}
theorem lrow (h : H[id]? = some (some b)) : hrow (hap H L) id = some b := by
  have hlt := a0k h
  rw [a6Z _ _ _ hlt]
  unfold hrow; rw [h]; rfl
theorem llen (h : H[id]? = some (some b)) (off len : Nat) (oc : Option Nat) : lenV (hap H L) (.mu id off len oc) = some (.int .i64 len) := by rw [c5w, lrow h]; rfl
theorem lidx (h : H[id]? = some (some b)) {wd off len j : Nat} (hw : b.wd = wd) (oc : Option Nat) (k : IntKind) (hj : j < len) : idxV (hap H L) wd (.mu id off len oc) (.int k j) = some (.loc id (off + j) 0) := by
  rw [b4M _ _ _ _ _ _ _ _ (by omega) (by omega), lrow h]; simp [hw]
theorem lat (h : H[id]? = some (some b)) {j : Nat} (hj : j < b.xs.length) : atV (hap H L) (.loc id j 0) = some (b.xs.getD j .top).cells := by rw [a9M, lrow h]; simp [hj]
theorem lslc (h : H[id]? = some (some b)) {wd off len n : Nat} (hw : b.wd = wd) (oc : Option Nat) (k : IntKind) (hn : n ≤ len) : slcV (hap H L) wd (.mu id off len oc) none (some (.int k n)) none = some (.mu id off n oc) := by
  simp only [slcV, lrow h, Option.bind_some, a3R]
  rw [if_pos ⟨hw, by omega, by omega, by omega⟩]
  cases oc <;> simp
theorem e0t {i : Nat} (h : L[i]? = some (some b)) : (hap H L)[lid H i]? = some (some b) := by
  unfold hap lid
  rw [List.getElem?_append_right (by omega), Nat.add_sub_cancel_left]; exact h
end
theorem e4l (X : List Nat) (hX : Lim X) (hb : X.length ≤ 17592186044416) {H : Heap} {id : Nat} (h : H[id]? = some (some ⟨1, u32s X⟩)) (n : Nat) (hn : n = X.length) (oc : Option Nat) :
    a0n Pr a0r [.mu id 0 n oc] H fun r' H' => r' = .mu id 0 (limbs (val X)).length oc ∧ H' = H := by
  subst hn
  have hid := a0k h
  refine a0n.eff c4q c4o (Nat.le_of_ble_eq_true rfl) fun hH => ?_
  have kk : ∀ k : Nat, k ≤ X.length → val (X.take k) = val X → Safe ⟨Pr, fun _ _ => false, a0r, 21, [.tmp 2], H.length⟩ [.inLoop c4p, .inBlock 0, .code ((ACode.region a4k false).seq ACode.ret)] [(0, .mu id 0 k oc)] (hap H [])
      fun r' H' => ∃ H1 L, H' = hap H1 L ∧ H1.length = H.length ∧ a0E H1 ∧ Ref (· < H.length) r' ∧ r' = .mu id 0 (limbs (val X)).length oc ∧ H1 = H := by
    have stop : ∀ (k : Nat) (env : Env), k ≤ X.length → val (X.take k) = val X → ((X.take k).getLast?).getD 1 ≠ 0 → look env 0 = .mu id 0 k oc → Safe ⟨Pr, fun _ _ => false, a0r, 21, [.tmp 2], H.length⟩ [.code ((ACode.region a4k false).seq ACode.ret)] env (hap H [])
        fun r' H' => ∃ H1 L, H' = hap H1 L ∧ H1.length = H.length ∧ a0E H1 ∧ Ref (· < H.length) r' ∧ r' = .mu id 0 (limbs (val X)).length oc ∧ H1 = H := by
      intro k env hk hv hl h0
      refine Safe.rg rfl ?_
      simp only [a4k, h0, E3, seval]
      refine Safe.rt rfl ?_
      simp only [E3, seval]
      refine ⟨H, [], rfl, rfl, hH, .mu _ _ _ _ hid, ?_, rfl⟩
      rw [← hv, a8g (hX.take k) hl, List.length_take, Nat.min_eq_left hk]
    intro k
    induction k with
    | zero =>
      intro hk hv
      refine Safe.inLoop ?_
      refine Safe.rg rfl ?_
      simp only [a5Z, llen h, show ((0 : Int) < ((0 : Nat) : Int)) = False by simp, E3, seval]
      refine Safe.cd rfl ?_
      simp only [E3, seval]
      refine Safe.exit rfl ?_
      exact stop 0 _ hk hv (by simp) (by simp only [E3, seval])
    | succ k ih =>
      intro hk hv
      refine Safe.inLoop ?_
      have hw : IntKind.i64.wrap (((k + 1 : Nat) : Int) - 1) = (k : Int) := by rw [a0a] <;> omega
      have hp : (0 < ((k + 1 : Nat) : Int)) = True := eq_true (by omega)
      have hat := lat (L := []) h (j := k) (by rw [a0w]; omega)
      rw [b0H (by omega)] at hat
      refine Safe.rg rfl ?_
      simp only [a5Z, llen h, hw, hp, lidx h rfl oc .i64 (Nat.lt_succ_self k), hat, E3, seval]
      have hlast : ((X.take (k + 1)).getLast?).getD 1 = X.getD k 0 := by rw [a7P (by omega)]; simp
      by_cases hd : X.getD k 0 = 0
      · have e : (((X.getD k 0 : Nat) : Int) = 0) = True := eq_true (by omega)
        refine Safe.cd rfl ?_
        simp only [e, E3, seval]
        refine Safe.rg rfl ?_
        simp only [b4q, llen h, hw, lslc h rfl oc .i64 (Nat.le_succ k), E3, seval]
        refine Safe.inBlock ?_
        refine Safe.keep [0] ?_
        simp only [E3, seval]
        refine ih (by omega) ?_
        rw [← hv, a0i, hd]; simp
      · have e : (((X.getD k 0 : Nat) : Int) = 0) = False := eq_false (by omega)
        refine Safe.cd rfl ?_
        simp only [e, E3, seval]
        refine Safe.exit rfl ?_
        exact stop (k + 1) _ hk hv (by rw [hlast]; exact hd) (by simp only [E3, seval])
  refine Safe.rg rfl ?_
  simp only [b4r, E3, seval]
  refine Safe.lp rfl ?_
  refine Safe.keep [0] ?_
  simp only [E3, seval]
  exact kk X.length (Nat.le_refl _) (by rw [List.take_length])
theorem e1F {l : List Nat} (hl : Lim l) {i n : Nat} (hi : i < l.length) (hn : n < 32) (j : Nat) :
    (if j = i + 1 then l.getD i 0 * 2 ^ n / LB else if j = i then l.getD i 0 % 2 ^ (32 - n) * 2 ^ n + dig (val (l.take i) * 2 ^ n) i else dig (val (l.take i) * 2 ^ n) j) = dig (val (l.take (i + 1)) * 2 ^ n) j := by
  have hLB : LB = 2 ^ (32 - n) * 2 ^ n := by rw [← Nat.pow_add, show 32 - n + n = 32 by omega]
  have hp : 0 < 2 ^ n := Nat.pow_pos (by decide)
  have hai := a0L hl i
  have hM := a3g hl i
  rw [a0i, Nat.add_mul]
  have e : LB ^ i * l.getD i 0 * 2 ^ n = LB ^ i * (l.getD i 0 * 2 ^ n) := Nat.mul_assoc _ _ _
  rw [e]
  generalize l.getD i 0 = a at *
  generalize hV : val (l.take i) = V at *
  have hy : V * 2 ^ n / LB ^ i < 2 ^ n := by
    rw [Nat.div_lt_iff_lt_mul (a5y i), Nat.mul_comm]
    exact Nat.mul_lt_mul_of_pos_left hM hp
  have h2n : 2 ^ n ≤ LB := by rw [hLB]; exact Nat.le_mul_of_pos_left _ (Nat.pow_pos (by decide))
  have hmod : a * 2 ^ n % LB = a % 2 ^ (32 - n) * 2 ^ n := by rw [hLB, Nat.mul_mod_mul_right]
  have hx : a % 2 ^ (32 - n) * 2 ^ n + V * 2 ^ n / LB ^ i < LB := by
    have h1 : (a % 2 ^ (32 - n) + 1) * 2 ^ n ≤ 2 ^ (32 - n) * 2 ^ n := Nat.mul_le_mul_right _ (Nat.mod_lt _ (Nat.pow_pos (by decide)))
    rw [← hLB, Nat.add_mul] at h1
    omega
  have hs : (V * 2 ^ n + LB ^ i * (a * 2 ^ n)) / LB ^ i = V * 2 ^ n / LB ^ i + a * 2 ^ n := Nat.add_mul_div_left _ _ (a5y i)
  have hdm := Nat.mod_add_div (a * 2 ^ n) LB
  rw [hmod] at hdm
  by_cases h1 : j = i + 1
  · rw [if_pos h1, h1]
    unfold dig
    rw [b1M, hs]
    have h3 : (V * 2 ^ n / LB ^ i + a * 2 ^ n) / LB = a * 2 ^ n / LB := by
      conv => lhs; rw [← hdm, ← Nat.add_assoc, Nat.add_mul_div_left _ _ (show 0 < LB by decide)]
      rw [Nat.div_eq_of_lt (by omega), Nat.zero_add]
    rw [h3, Nat.mod_eq_of_lt]
    rw [Nat.div_lt_iff_lt_mul (by decide)]
    exact Nat.lt_of_lt_of_le (Nat.mul_lt_mul_of_pos_right hai hp) (Nat.mul_le_mul_left _ h2n)
  · rw [if_neg h1]
    by_cases h2 : j = i
    · rw [if_pos h2, h2]
      have h5 : (V * 2 ^ n / LB ^ i + a * 2 ^ n) % LB = V * 2 ^ n / LB ^ i + a % 2 ^ (32 - n) * 2 ^ n := by
        have : V * 2 ^ n / LB ^ i + a * 2 ^ n = (V * 2 ^ n / LB ^ i + a % 2 ^ (32 - n) * 2 ^ n) + LB * (a * 2 ^ n / LB) := by omega
        rw [this, Nat.add_mul_mod_self_left, Nat.mod_eq_of_lt (by omega)]
      unfold dig
      rw [hs, h5, Nat.mod_eq_of_lt (show V * 2 ^ n / LB ^ i < LB by omega), Nat.add_comm]
    · rw [if_neg h2]
      rcases Nat.lt_or_ge j i with h3 | h3
      · exact (c5V _ h3).symm
      · have hbig : LB ^ (i + 1) * LB ≤ LB ^ j := by
          rw [← Nat.pow_succ]; exact Nat.pow_le_pow_right (by decide) (by omega)
        have hlow : V * 2 ^ n < LB ^ (i + 1) := by
          rw [Nat.pow_succ]
          exact Nat.lt_of_lt_of_le (Nat.mul_lt_mul_of_pos_right hM hp) (Nat.mul_le_mul_left _ h2n)
        have hall : V * 2 ^ n + LB ^ i * (a * 2 ^ n) < LB ^ (i + 1) * LB := by
          have q1 : V * 2 ^ n + LB ^ i * (a * 2 ^ n) = (V + LB ^ i * a) * 2 ^ n := by rw [Nat.add_mul, Nat.mul_assoc]
          have q2 : LB ^ i * (a + 1) ≤ LB ^ (i + 1) := by rw [Nat.pow_succ]; exact Nat.mul_le_mul_left _ hai
          rw [Nat.mul_add, Nat.mul_one] at q2
          rw [q1]
          exact Nat.lt_of_lt_of_le (Nat.mul_lt_mul_of_pos_right (show V + LB ^ i * a < LB ^ (i + 1) by omega) hp) (Nat.mul_le_mul_left _ h2n)
        have hL1 : LB ^ (i + 1) ≤ LB ^ (i + 1) * LB := Nat.le_mul_of_pos_right _ (by decide)
        rw [b2l (by omega), b2l (by omega)]
theorem a0n.introH {P : Program} {mu : Nat → Nat → Bool} {f : FuncId} {fn : Func} (hf : P.funcs[f]? = some fn) {ac : ACode} {rs : List ResV} {nt : Nat} (hc : fchk P mu fn = some (ac, rs, nt))
    {args : List AV} {H : Heap} {R : AV → Heap → Prop} (ha : args.length ≤ nt) (h : a0E H → Safe ⟨P, mu, f, nt, rs, H.length⟩ [.code ac] (c2P 0 args) (hap H []) R) : a0n P f args H R := a0n.intro hf hc ha fun hH => by
  have := h hH
  rw [a1W] at this
  exact this
theorem d0N (a : List Nat) (n : Nat) (ha : Nt a) (hal : a.length < 17592186044416) (hv : val a ≠ 0) (hn : n < 32) (H : Heap) : a0n Pr b8q [natV a, .int .i64 n] H fun r' H' =>
    r' = .mu (lid H 0) 0 (limbs (val a * 2 ^ n)).length (some ((limbs (val a)).length + 1)) ∧ H' = hap H [some ⟨1, u32s (fl ((limbs (val a)).length + 1) (dig (val a * 2 ^ n)))⟩] := by
  have hlb : (limbs (val a)).length < 17592186044416 := Nat.lt_of_le_of_lt (a0U ha.lim) hal
  have hlim := a0c (val a)
  have hval := a0b (val a)
  have hne : (limbs (val a)).length ≠ 0 := by
    intro h0
    have := List.length_eq_zero_iff.1 h0
    rw [this] at hval
    exact hv hval.symm
  have hLB : LB = 4294967296 := rfl
  refine a0n.introH d7L d7J (Nat.le_of_ble_eq_true rfl) fun hH => ?_
  refine Safe.rg rfl ?_
  simp only [c7u, E3, seval]
  refine Safe.rg rfl ?_
  simp only [c7t, E3, seval]
  first | refine (a0v a ha.lim ha.len).acall ?_ | refine (a0v a ha.lim ha.len).dcall ?_
  try simp only [E3, seval]
  generalize limbs (val a) = l at *
  generalize val a = A at *
  subst hval
  have h0 : ((l.length : Int) = 0) = False := eq_false (by omega)
  refine Safe.rg rfl ?_
  simp only [c7s, h0, E3, seval]
  refine Safe.cd rfl ?_
  simp only [E3, seval]
  have hq : binV .quo (.int .i64 (n : Int)) (.int .i64 32) = some (.int .i64 0) := by
    have := e1N (x := n) (y := 32) (by decide) (by omega)
    rw [Nat.div_eq_of_lt hn] at this; exact this
  have hr : binV .rem (.int .i64 (n : Int)) (.int .i64 32) = some (.int .i64 (n : Int)) := by
    have := e1M (x := n) (y := 32) (by decide)
    rw [Nat.mod_eq_of_lt hn] at this; exact this
  refine Safe.rg rfl ?_
  simp only [c7r, hq, hr, a2l (x := n) (by omega), E3, seval]
  have w1 : IntKind.wrap .i64 ((l.length : Int) + 0) = (l.length : Int) := by rw [Int.add_zero]; exact d0J (by omega)
  have w2 : IntKind.wrap .i64 ((l.length : Int) + 1) = ((l.length + 1 : Nat) : Int) := by rw [a0a] <;> omega
  refine Safe.rg rfl ?_
  simp only [c7q, w1, w2, b8Y (H := H) (L := []) (n := l.length + 1) (by omega), E3, seval]
  refine Safe.rg rfl ?_
  simp only [c7p, E3, seval]
  refine Safe.lp rfl ?_
  refine Safe.keep [0, 5, 6, 7, 27, 28] ?_
  simp only [E3, seval]
  refine Safe.loopN l.length (fun i => [(0, natV l), (5, .int .i64 0), (6, .int .u64 (n : Int)), (7, .mu (lid H 0) 0 (l.length + 1) (some (l.length + 1))), (27, .int .i64 l.length), (28, .int .i64 i)])
    (fun i => hap H [some ⟨1, u32s (fl (l.length + 1) (dig (val (l.take i) * 2 ^ n)))⟩]) rfl ?_ (fun i hi ih => ?_) ?_
  · congr 5
    refine a3d fun j _ => ?_
    simp [dig, val]
  · have hlt : ((i : Int) < (l.length : Int)) = True := eq_true (by omega)
    refine Safe.inLoop ?_
    refine Safe.rg rfl ?_
    simp only [b8O, hlt, E3, seval]
    refine Safe.cd rfl ?_
    simp only [E3, seval]
    have hai := a0L hlim i
    refine Safe.rg rfl ?_
    simp only [c7o, E3, seval]
    refine Safe.rg rfl ?_
    simp only [c7n, a0A _ l _ i hi, a2l (x := l.getD i 0) (by omega), e6w hai (show n < 33 by omega), E3, seval]
    have w3 : IntKind.wrap .i64 ((i : Int) + 0) = (i : Int) := by rw [Int.add_zero]; exact d0J (by omega)
    have w4 : IntKind.wrap .i64 ((i : Int) + 1) = ((i + 1 : Nat) : Int) := by rw [a0a] <;> omega
    have hLB2 : LB = 2 ^ (32 - n) * 2 ^ n := by rw [← Nat.pow_add, show 32 - n + n = 32 by omega]
    have w5 : IntKind.wrap .u32 ((l.getD i 0 * 2 ^ n : Nat) : Int) = ((l.getD i 0 % 2 ^ (32 - n) * 2 ^ n : Nat) : Int) := by
      rw [a1X]; congr 1
      rw [hLB2, Nat.mul_mod_mul_right]
    have hy : dig (val (l.take i) * 2 ^ n) i < 2 ^ n := by
      unfold dig
      refine Nat.lt_of_le_of_lt (Nat.mod_le _ _) ?_
      rw [Nat.div_lt_iff_lt_mul (a5y i), Nat.mul_comm]
      exact Nat.mul_lt_mul_of_pos_left (a3g hlim i) (Nat.pow_pos (by decide))
    have w6 := d8N (x := l.getD i 0 % 2 ^ (32 - n)) n (Nat.mod_lt _ (Nat.pow_pos (by decide))) (by omega) hy
    refine Safe.rg rfl ?_
    simp only [c4v, w3, d8v (show i < l.length + 1 by omega), fat0 (show i < l.length + 1 by omega), w5, w6, fst0 (show i < l.length + 1 by omega), E3, seval]
    have hq2 : l.getD i 0 * 2 ^ n / LB < LB := by
      rw [Nat.div_lt_iff_lt_mul (by decide)]
      have h2n : 2 ^ n ≤ LB := by rw [hLB2]; exact Nat.le_mul_of_pos_left _ (Nat.pow_pos (by decide))
      exact Nat.lt_of_lt_of_le (Nat.mul_lt_mul_of_pos_right hai (Nat.pow_pos (by decide))) (Nat.mul_le_mul_left _ h2n)
    refine Safe.rg rfl ?_
    simp only [c4u, w3, w4, d9e, a9V hq2, d8v (show i + 1 < l.length + 1 by omega), fst0 (show i + 1 < l.length + 1 by omega), E3, seval]
    refine Safe.rg rfl ?_
    simp only [c4t, w4, E3, seval]
    refine Safe.keep [0, 5, 6, 7, 27, 28] ?_
    simp only [E3, seval]
    rw [a3d fun j _ => e1F hlim hi hn j]
    exact ih
  · refine Safe.inLoop ?_
    refine Safe.rg rfl ?_
    simp only [b8O, Int.lt_irrefl, E3, seval]
    refine Safe.cd rfl ?_
    simp only [E3, seval]
    rw [List.take_length]
    refine Safe.rg rfl ?_
    simp only [c4s, E3, seval]
    have hb : val l * 2 ^ n < LB ^ (l.length + 1) := by
      rw [Nat.pow_succ]
      have h2n : 2 ^ n ≤ LB := by
        have : LB = 2 ^ (32 - n) * 2 ^ n := by rw [← Nat.pow_add, show 32 - n + n = 32 by omega]
        rw [this]; exact Nat.le_mul_of_pos_left _ (Nat.pow_pos (by decide))
      exact Nat.lt_of_lt_of_le (Nat.mul_lt_mul_of_pos_right (a0Z hlim) (Nat.pow_pos (by decide))) (Nat.mul_le_mul_left _ h2n)
    refine a0n.mono (e4l _ (a2M _ _) (by rw [a1c]; omega) (e0t rfl) (l.length + 1) (a1c _ _).symm (some (l.length + 1))) ?_
    rintro r' H' ⟨rfl, rfl⟩
    rw [a1S hb]
    simp only [E3, seval]
    refine Safe.rt rfl ?_
    simp only [E3, seval]
theorem a2G (l : List Nat) (i : Nat) : val (l.drop i) = l.getD i 0 + LB * val (l.drop (i + 1)) := by
  rcases Nat.lt_or_ge i l.length with h | h
  · rw [List.drop_eq_getElem_cons h, List.getD_eq_getElem?_getD, List.getElem?_eq_getElem h]; rfl
  · rw [List.drop_eq_nil_of_le h, List.drop_eq_nil_of_le (by omega), a7a h]; rfl
theorem d3N {l : List Nat} (hl : Lim l) (i : Nat) : val l / LB ^ i = val (l.drop i) := by
  rw [a3x l i, Nat.add_mul_div_left _ _ (a5y i), Nat.div_eq_of_lt (a3g hl i), Nat.zero_add]
theorem d5G {l : List Nat} (hl : Lim l) (i : Nat) {n : Nat} (hn : n < 32) : (l.getD (i + 1) 0 * LB + l.getD i 0) / 2 ^ n % LB = dig (val l / 2 ^ n) i := by
  have hLB : LB = 2 ^ (32 - n) * 2 ^ n := by rw [← Nat.pow_add, show 32 - n + n = 32 by omega]
  unfold dig
  rw [Nat.div_div_eq_div_mul, Nat.mul_comm (2 ^ n), ← Nat.div_div_eq_div_mul, d3N hl, a2G, a2G l (i + 1)]
  have e : l.getD i 0 + LB * (l.getD (i + 1) 0 + LB * val (l.drop (i + 1 + 1))) = (l.getD (i + 1) 0 * LB + l.getD i 0) + 2 ^ n * (LB * (2 ^ (32 - n) * val (l.drop (i + 1 + 1)))) := by
    have h1 : LB * (LB * val (l.drop (i + 1 + 1))) = 2 ^ n * (LB * (2 ^ (32 - n) * val (l.drop (i + 1 + 1)))) := by
      conv => lhs; rw [Nat.mul_left_comm]; lhs; rw [hLB]
      rw [Nat.mul_comm (2 ^ (32 - n)), Nat.mul_assoc]
      congr 1
      rw [Nat.mul_left_comm]
    rw [Nat.mul_add, h1, Nat.mul_comm LB (l.getD (i + 1) 0)]
    omega
  rw [e, Nat.add_mul_div_left _ _ (Nat.pow_pos (by decide)), Nat.add_mul_mod_self_left]
theorem d5H (a : List Nat) (n : Nat) (ha : Nt a) (hn : n < 32) : a0d Pr b8p [natV a, .int .i64 n] (natV (limbs (val a / 2 ^ n))) := by
  have hlb := ha.limbs.len
  have hlim := a0c (val a)
  have hval := a0b (val a)
  have hLB : LB = 4294967296 := rfl
  refine a0d.introL d7H d7G (Nat.le_of_ble_eq_true rfl) (a0T _) fun H hH => ?_
  refine Safe.rg rfl ?_
  simp only [c7l, E3, seval]
  refine Safe.rg rfl ?_
  simp only [c7k, E3, seval]
  first | refine (a0v a ha.lim ha.len).acall ?_ | refine (a0v a ha.lim ha.len).dcall ?_
  try simp only [E3, seval]
  generalize limbs (val a) = l at *
  generalize val a = A at *
  subst hval
  have hq : binV .quo (.int .i64 (n : Int)) (.int .i64 32) = some (.int .i64 0) := by
    have := e1N (x := n) (y := 32) (by decide) (by omega)
    rw [Nat.div_eq_of_lt hn] at this; exact this
  have hr : binV .rem (.int .i64 (n : Int)) (.int .i64 32) = some (.int .i64 (n : Int)) := by
    have := e1M (x := n) (y := 32) (by decide)
    rw [Nat.mod_eq_of_lt hn] at this; exact this
  refine Safe.rg rfl ?_
  simp only [c7j, hq, hr, a2l (x := n) (by omega), E3, seval]
  by_cases h0 : l.length = 0
  · have hc : ((l.length : Int) ≤ 0) = True := eq_true (by omega)
    refine Safe.rg rfl ?_
    simp only [b8N, hc, E3, seval]
    refine Safe.cd rfl ?_
    simp only [E3, seval]
    refine Safe.rg rfl ?_
    simp only [c7i, E3, seval]
    have : l = [] := List.length_eq_zero_iff.1 h0
    subst this
    refine Safe.rt rfl ?_
    simp only [E3, seval]
    refine ⟨?_, [], rfl⟩
    have : limbs (val [] / 2 ^ n) = [] := by simp [val, a0G]
    rw [this]
    exact Le.nil 1 (by decide)
  · have hc : ((l.length : Int) ≤ 0) = False := eq_false (by omega)
    refine Safe.rg rfl ?_
    simp only [b8N, hc, E3, seval]
    refine Safe.cd rfl ?_
    simp only [E3, seval]
    have w1 : IntKind.wrap .i64 ((l.length : Int) - 0) = (l.length : Int) := by rw [Int.sub_zero]; exact d0J (by omega)
    refine Safe.rg rfl ?_
    simp only [c7h, w1, b8Y (H := H) (L := []) (n := l.length) (by omega), E3, seval]
    refine Safe.rg rfl ?_
    simp only [c7g, e4K, E3, seval]
    refine Safe.lp rfl ?_
    refine Safe.keep [0, 5, 6, 7, 27, 28] ?_
    simp only [E3, seval]
    refine Safe.loopN l.length (fun i => [(0, natV l), (5, .int .i64 0), (6, .int .u64 (n : Int)), (7, .mu (lid H 0) 0 l.length (some l.length)), (27, .int .i64 l.length), (28, .int .i64 i)])
      (fun i => hap H [some ⟨1, u32s (fl l.length fun j => if j < i then dig (val l / 2 ^ n) j else 0)⟩]) rfl ?_ (fun i hi ih => ?_) ?_
    · congr 5
    · have hlt : ((i : Int) < (l.length : Int)) = True := eq_true (by omega)
      refine Safe.inLoop ?_
      refine Safe.rg rfl ?_
      simp only [b8M, hlt, E3, seval]
      refine Safe.cd rfl ?_
      simp only [E3, seval]
      have hai := a0L hlim i
      have hai1 := a0L hlim (i + 1)
      have w3 : IntKind.wrap .i64 ((i : Int) + 0) = (i : Int) := by rw [Int.add_zero]; exact d0J (by omega)
      have w4 : IntKind.wrap .i64 ((i : Int) + 1) = ((i + 1 : Nat) : Int) := by rw [a0a] <;> omega
      refine Safe.rg rfl ?_
      simp only [c7f, E3, seval]
      refine Safe.rg rfl ?_
      simp only [c7e, a0A _ l _ i hi, a2l (x := l.getD i 0) (by omega), w3, E3, seval]
      have rest : ∀ env : Env, look env 0 = natV l → look env 5 = .int .i64 0 → look env 6 = .int .u64 (n : Int) → look env 7 = .mu (lid H 0) 0 l.length (some l.length) → look env 27 = .int .i64 l.length → look env 28 = .int .i64 i → look env 8 = .int .i64 i →
          look env 9 = .int .u64 (l.getD (i + 1) 0 * LB + l.getD i 0 : Nat) → Safe ⟨Pr, fun _ _ => false, b8p, 66, [.tmp 4], H.length⟩ [.code (.region b4u false), .inBlock 1, .code (.region b4t false), .inLoop c7m, .inBlock 0, .code ((ACode.region b4s false).seq .ret)]
            env (hap H [some ⟨1, u32s (fl l.length fun j => if j < i then dig (val l / 2 ^ n) j else 0)⟩]) fun r' H' => Le r' (natV (limbs (val l / 2 ^ n))) ∧ ∃ L, H' = hap H L := by
        intro env e0 e5 e6 e7 e27 e28 e8 e9
        have w5 := a1X ((l.getD (i + 1) 0 * LB + l.getD i 0) / 2 ^ n)
        rw [d5G hlim i hn] at w5
        refine Safe.rg rfl ?_
        simp only [b4u, e7, e8, e9, e6, e4r (show n ≤ 64 by omega), w5, d8v hi, fst0 hi, E3, seval]
        refine Safe.inBlock ?_
        refine Safe.rg rfl ?_
        simp only [b4t, e28, w4, E3, seval]
        refine Safe.keep [0, 5, 6, 7, 27, 28] ?_
        simp only [E3, seval]
        simp only [e0, e5, e6, e7, e27]
        rw [show (fl l.length fun j => if j = i then dig (val l / 2 ^ n) i else if j < i then dig (val l / 2 ^ n) j else 0) = fl l.length fun j => if j < i + 1 then dig (val l / 2 ^ n) j else 0 from a3d fun j _ => by
          by_cases h : j = i
          · subst h; rw [if_pos rfl, if_pos (by omega)]
          · rw [if_neg h]
            by_cases h2 : j < i
            · rw [if_pos h2, if_pos (by omega)]
            · rw [if_neg h2, if_neg (by omega)]]
        exact ih
      by_cases h1 : i + 1 < l.length
      · have hlt1 : (((i + 1 : Nat) : Int) < (l.length : Int)) = True := eq_true (by omega)
        refine Safe.rg rfl ?_
        simp only [b4v, w3, w4, hlt1, E3, seval]
        refine Safe.cd rfl ?_
        simp only [E3, seval]
        refine Safe.rg rfl ?_
        simp only [c4r, w3, w4, a0A _ l _ (i + 1) h1, a2l (x := l.getD (i + 1) 0) (by omega), e4t hai1, d6U hai1 hai, E3, seval]
        exact rest _ (by simp only [E3, seval]) (by simp only [E3, seval]) (by simp only [E3, seval]) (by simp only [E3, seval]) (by simp only [E3, seval]) (by simp only [E3, seval]) (by simp only [E3, seval]) (by simp only [E3, seval])
      · have hlt1 : (((i + 1 : Nat) : Int) < (l.length : Int)) = False := eq_false (by omega)
        refine Safe.rg rfl ?_
        simp only [b4v, w3, w4, hlt1, E3, seval]
        refine Safe.cd rfl ?_
        simp only [E3, seval]
        have hz : l.getD (i + 1) 0 * LB + l.getD i 0 = l.getD i 0 := by rw [a7a (a := l) (i := i + 1) (by omega)]; omega
        refine Safe.skip (rest _ (by simp only [E3, seval]) (by simp only [E3, seval]) (by simp only [E3, seval]) (by simp only [E3, seval]) (by simp only [E3, seval]) (by simp only [E3, seval]) (by simp only [E3, seval]) (by rw [hz]; simp only [E3, seval]))
    · refine Safe.inLoop ?_
      refine Safe.rg rfl ?_
      simp only [b8M, Int.lt_irrefl, E3, seval]
      refine Safe.cd rfl ?_
      simp only [E3, seval]
      refine Safe.freeze 0 hH rfl rfl (a0m _) ?_
      refine Safe.keep [7] ?_
      simp only [d2V, E3, seval]
      rw [show (fl l.length fun j => if j < l.length then dig (val l / 2 ^ n) j else 0) = fl l.length (dig (val l / 2 ^ n)) from a3d fun j hj => if_pos hj]
      refine Safe.rg rfl ?_
      simp only [b4s, E3, seval]
      first | refine (a0v _ (a2M _ _) (by rw [a1c]; omega)).acall ?_ | refine (a0v _ (a2M _ _) (by rw [a1c]; omega)).dcall ?_
      try simp only [E3, seval]
      simp only [a1S (b2k (a0Z hlim) (d := 2 ^ n)), E3, seval]
      refine Safe.rt rfl ?_
      simp only [E3, seval]
      exact ⟨Le.refl _, _, rfl⟩
def xr (g : Nat → Nat) (off : Nat) (x : List Nat) : Nat → Nat := fun j => if off ≤ j ∧ j < off + x.length then x.getD (j - off) 0 else g j
section
variable {g : Nat → Nat} {off N : Nat} {x y : List Nat}
theorem e3E : xr g off [] = g := by funext j; unfold xr; rw [if_neg (by simp)]
theorem d8M (d : Nat) : (fun j => if j = off + x.length then d else xr g off x j) = xr g off (x ++ [d]) := by
  funext j; unfold xr
  rw [List.length_append, List.length_singleton]
  by_cases h : j = off + x.length
  · subst h; rw [if_pos rfl, if_pos (by omega), Nat.add_sub_cancel_left]; simp
  · rw [if_neg h]
    by_cases h2 : off ≤ j ∧ j < off + x.length
    · rw [if_pos h2, if_pos (by omega)]
      simp only [List.getD_eq_getElem?_getD]
      rw [List.getElem?_append_left (by omega)]
    · rw [if_neg h2, if_neg (by omega)]
theorem e6r : xr g off x (off + x.length) = g (off + x.length) := by unfold xr; rw [if_neg (by omega)]
theorem e7F (hg : ∀ i, i < N → g i < LB) (hx : Lim x) : ∀ i, i < N → xr g off x i < LB := by
  intro i hi; unfold xr; split
  · exact a0L hx _
  · exact hg i hi
theorem e6q : fl x.length (fun i => xr g off x (off + i)) = x := by
  refine Eq.trans ?_ (e5m (l := x) rfl).symm
  refine a3d fun i hi => ?_
  unfold xr; rw [if_pos (by omega), Nat.add_sub_cancel_left]
theorem e7E (h : x.length = y.length) : xr (xr g off x) off y = xr g off y := by
  funext j; unfold xr; rw [h]
  split
  · rfl
  · rfl
end
section
variable {H L : Heap} {id N : Nat} {f : Nat → Nat} (hid : id < H.length)
include hid
theorem ofat {j : Nat} (h : j < N) : atV (hap (H.set id (some ⟨1, u32s (fl N f)⟩)) L) (.loc id j 0) = some [.int .u32 (f j : Nat)] := by
  rw [e6R hid _ j (by rw [a0w, a1c]; exact h)]
  simp only [b0H (l := fl N f) (i := j) (by rw [a1c]; exact h), b7K h, AV.cells]
theorem ofst {env : Env} {j : Nat} (h : j < N) (d : Nat) : a1T 1 (.loc id j 0) (.int .u32 (d : Int)) env (hap (H.set id (some ⟨1, u32s (fl N f)⟩)) L) = some (.top, env, hap (H.set id (some ⟨1, u32s (fl N fun i => if i = j then d else f i)⟩)) L) := by
  rw [e6Q hid env _ 1 j _ (by rw [a0w, a1c]; exact h) rfl rfl (Nat.le_refl 1)]
  simp only [a2p, c2R, e0D]
end
noncomputable abbrev digX (n0 : Nat) : Cx := ⟨Pr, fun _ _ => false, a9T, 117, [.tmp 4], n0⟩
theorem e0K {H : Heap} {id off N n : Nat} {oc : Option Nat} {v : List Nat} {g : Nat → Nat} {todo : List AItem} {R : AV → Heap → Prop} {q b : Nat} (hid : id < H.length) (hv : Lim v) (hn : v.length = n) (hoff : off + n + 1 ≤ N) (hN : N ≤ 17592186044416) (hg : ∀ i, i < N → g i < LB)
    (k : ∀ y c, y.length = n + 1 → Lim y → c ≤ 1 → val y + LB ^ (n + 1) * c = val (fl (n + 1) fun i => g (off + i)) + val v →
      Safe (digX H.length) todo [(0, .mu id off (n + 1) oc), (1, natV v), (5, .int .i64 n), (7, .int .u64 q), (9, .int .u64 b), (13, .int .u64 c)] (hap (H.set id (some ⟨1, u32s (fl N (xr g off y))⟩)) []) R) :
    Safe (digX H.length) (.inLoop a6N :: .inBlock 4 :: todo) [(0, .mu id off (n + 1) oc), (1, natV v), (5, .int .i64 n), (7, .int .u64 q), (9, .int .u64 b), (13, .int .u64 0), (83, .int .i64 ((n + 1 : Nat) : Int)), (84, .int .i64 0)] (hap (H.set id (some ⟨1, u32s (fl N g)⟩)) []) R := by
  have hLB : LB = 4294967296 := rfl
  have key : ∀ (m i c : Nat) (y : List Nat), i + m = n + 1 → y.length = i → Lim y → c ≤ 1 → val y + LB ^ i * c = val ((fl (n + 1) fun i => g (off + i)).take i) + val (v.take i) →
      Safe (digX H.length) (.inLoop a6N :: .inBlock 4 :: todo) [(0, .mu id off (n + 1) oc), (1, natV v), (5, .int .i64 n), (7, .int .u64 q), (9, .int .u64 b), (13, .int .u64 c), (83, .int .i64 ((n + 1 : Nat) : Int)), (84, .int .i64 i)] (hap (H.set id (some ⟨1, u32s (fl N (xr g off y))⟩)) []) R := by
    intro m
    induction m with
    | zero =>
      intro i c y him hy ly hc hval
      have hi : i = n + 1 := by omega
      subst hi
      refine Safe.inLoop ?_
      refine Safe.rg rfl ?_
      simp only [a9j, Int.lt_irrefl, E3, seval]
      refine Safe.cd rfl ?_
      simp only [E3, seval]
      refine Safe.exit rfl ?_
      refine Safe.keep [0, 1, 5, 7, 9, 13] ?_
      simp only [E3, seval]
      refine k y c hy ly hc ?_
      rw [hval, List.take_of_length_le (l := fl _ _) (by rw [a1c]; omega), List.take_of_length_le (l := v) (by omega)]
    | succ m ih =>
      intro i c y him hy ly hc hval
      have hlt : ((i : Int) < ((n + 1 : Nat) : Int)) = True := eq_true (by omega)
      refine Safe.inLoop ?_
      refine Safe.rg rfl ?_
      simp only [a9j, hlt, E3, seval]
      refine Safe.cd rfl ?_
      simp only [E3, seval]
      have hgi : g (off + i) < LB := hg _ (by omega)
      have hxi : xr g off y (off + i) = g (off + i) := by subst hy; exact e6r
      have hvi := a0L hv i
      refine Safe.rg rfl ?_
      simp only [b7f, E3, seval]
      refine Safe.rg rfl ?_
      simp only [b7e, b8J hid 1 _ off (n + 1) i oc .i64 (show i < n + 1 by omega), ofat hid (show off + i < N by omega), hxi, a2l (x := g (off + i)) (by omega), a5K (x := c) (y := g (off + i)) (by omega), E3, seval]
      have rest : ∀ env : Env, look env 0 = .mu id off (n + 1) oc → look env 1 = natV v → look env 5 = .int .i64 n → look env 7 = .int .u64 q → look env 9 = .int .u64 b → look env 83 = .int .i64 ((n + 1 : Nat) : Int) → look env 84 = .int .i64 i → look env 14 = .int .i64 i → look env 13 = .int .u64 (c + g (off + i) + v.getD i 0 : Nat) →
          Safe (digX H.length) (.code (.seq (.region a9h false) (.region a9g false)) :: .inBlock 5 :: .code (.region a9f false) :: .inLoop a6N :: .inBlock 4 :: todo) env (hap (H.set id (some ⟨1, u32s (fl N (xr g off y))⟩)) []) R := by
        intro env e0 e1 e5 e7 e9 e83 e84 e14 e13
        have w5 := a1X (c + g (off + i) + v.getD i 0)
        refine Safe.rg rfl ?_
        simp only [a9h, e0, e14, e13, w5, b8J hid 1 _ off (n + 1) i oc .i64 (show i < n + 1 by omega), ofst hid (show off + i < N by omega), E3, seval]
        refine Safe.rg rfl ?_
        simp only [a9g, e13, d9e, E3, seval]
        refine Safe.inBlock ?_
        have w4 : IntKind.wrap .i64 ((i : Int) + 1) = ((i + 1 : Nat) : Int) := by rw [a0a] <;> omega
        refine Safe.rg rfl ?_
        simp only [a9f, e84, w4, E3, seval]
        refine Safe.keep [0, 1, 5, 7, 9, 13, 83, 84] ?_
        simp only [E3, seval]
        simp only [e0, e1, e5, e7, e9, e83]
        rw [← hy, d8M, hy]
        refine ih (i + 1) _ _ (by omega) (by simp [hy]) (a1t ly (Nat.mod_lt _ (by decide))) ?_ ?_
        · have : c + g (off + i) + v.getD i 0 < LB * 2 := by omega
          have := Nat.div_lt_of_lt_mul this
          omega
        · rw [a2F, hy, a0i, a0i, Nat.pow_succ, b7K (by omega)]
          exact c8M (i := 0) hval
      by_cases hin : i < n
      · have hl2 : ((i : Int) < (n : Int)) = True := eq_true (by omega)
        refine Safe.rg rfl ?_
        simp only [a9i, hl2, E3, seval]
        refine Safe.cd rfl ?_
        simp only [E3, seval]
        refine Safe.rg rfl ?_
        simp only [b7d, a0A _ v _ i (by omega), a2l (x := v.getD i 0) (by omega), a5K (x := c + g (off + i)) (y := v.getD i 0) (by omega), E3, seval]
        exact rest _ (by simp only [E3, seval]) (by simp only [E3, seval]) (by simp only [E3, seval]) (by simp only [E3, seval]) (by simp only [E3, seval]) (by simp only [E3, seval]) (by simp only [E3, seval]) (by simp only [E3, seval]) (by simp only [E3, seval])
      · have hl2 : ((i : Int) < (n : Int)) = False := eq_false (by omega)
        refine Safe.rg rfl ?_
        simp only [a9i, hl2, E3, seval]
        refine Safe.cd rfl ?_
        simp only [E3, seval]
        have hz : c + g (off + i) + v.getD i 0 = c + g (off + i) := by rw [a7a (a := v) (by omega), Nat.add_zero]
        exact Safe.skip (rest _ (by simp only [E3, seval]) (by simp only [E3, seval]) (by simp only [E3, seval]) (by simp only [E3, seval]) (by simp only [E3, seval]) (by simp only [E3, seval]) (by simp only [E3, seval]) (by simp only [E3, seval]) (by rw [hz]; simp only [E3, seval]))
  have := key (n + 1) 0 0 [] (by omega) rfl b9c (by omega) (by simp [val])
  rw [e3E] at this
  exact this
theorem e1C {vx qv vu B b c q vi lo d bo c' u : Nat} (h : vx + qv = vu + B * (b + c)) (hd : u + LB * bo = d + lo + b) (hl : lo + LB * c' = c + q * vi) : (vx + B * d) + (qv + B * (q * vi)) = (vu + B * u) + (B * LB) * (bo + c') := by
  have e1 : B * (u + LB * bo) = B * (d + lo + b) := by rw [hd]
  have e2 : B * (lo + LB * c') = B * (c + q * vi) := by rw [hl]
  simp only [Nat.mul_add, ← Nat.mul_assoc] at *
  omega
theorem e0J {H : Heap} {id off N n : Nat} {oc : Option Nat} {v : List Nat} {g : Nat → Nat} {todo : List AItem} {R : AV → Heap → Prop} {q : Nat} (hid : id < H.length) (hv : Lim v) (hn : v.length = n) (hoff : off + n + 1 ≤ N) (hN : N ≤ 17592186044416) (hg : ∀ i, i < N → g i < LB) (hq : q < LB)
    (k : ∀ y b, y.length = n + 1 → Lim y → b ≤ 1 → val y + q * val v = val (fl (n + 1) fun i => g (off + i)) + LB ^ (n + 1) * b →
      Safe (digX H.length) todo [(0, .mu id off (n + 1) oc), (1, natV v), (5, .int .i64 n), (7, .int .u64 q), (9, .int .u64 b)] (hap (H.set id (some ⟨1, u32s (fl N (xr g off y))⟩)) []) R) :
    Safe (digX H.length) (.inLoop a6O :: .inBlock 0 :: todo) [(0, .mu id off (n + 1) oc), (1, natV v), (5, .int .i64 n), (7, .int .u64 q), (8, .int .u64 0), (9, .int .u64 0), (40, .int .i64 ((n + 1 : Nat) : Int)), (41, .int .i64 0)] (hap (H.set id (some ⟨1, u32s (fl N g)⟩)) []) R := by
  have hLB : LB = 4294967296 := rfl
  have key : ∀ (m i b c : Nat) (y : List Nat), i + m = n + 1 → y.length = i → Lim y → b ≤ 1 → c < LB → val y + q * val (v.take i) = val ((fl (n + 1) fun i => g (off + i)).take i) + LB ^ i * (b + c) → LB ^ i * c ≤ q * val (v.take i) →
      Safe (digX H.length) (.inLoop a6O :: .inBlock 0 :: todo) [(0, .mu id off (n + 1) oc), (1, natV v), (5, .int .i64 n), (7, .int .u64 q), (8, .int .u64 c), (9, .int .u64 b), (40, .int .i64 ((n + 1 : Nat) : Int)), (41, .int .i64 i)] (hap (H.set id (some ⟨1, u32s (fl N (xr g off y))⟩)) []) R := by
    intro m
    induction m with
    | zero =>
      intro i b c y him hy ly hb hc hval hcl
      have hi : i = n + 1 := by omega
      subst hi
      refine Safe.inLoop ?_
      refine Safe.rg rfl ?_
      simp only [b1n, Int.lt_irrefl, E3, Nat.reduceLeDiff, Nat.reduceSub, Nat.reduceAdd, Nat.reduceEqDiff, reduceCtorEq, ↓reduceIte]
      refine Safe.cd rfl ?_
      simp only [E3, Nat.reduceLeDiff, Nat.reduceSub, Nat.reduceAdd, Nat.reduceEqDiff, reduceCtorEq, ↓reduceIte]
      refine Safe.exit rfl ?_
      refine Safe.keep [0, 1, 5, 7, 9] ?_
      simp only [E3, Nat.reduceLeDiff, Nat.reduceSub, Nat.reduceAdd, Nat.reduceEqDiff, reduceCtorEq, ↓reduceIte]
      refine k y b hy ly hb ?_
      rw [List.take_of_length_le (l := v) (by omega)] at hval hcl
      rw [List.take_of_length_le (l := fl _ _) (by rw [a1c]; omega)] at hval
      have hc0 : c = 0 := by
        have h1 := a0Z hv
        rw [hn] at h1
        have h2 : q * val v < LB * LB ^ n := Nat.mul_lt_mul'' hq h1
        rw [← Nat.pow_succ'] at h2
        have h3 : LB ^ (n + 1) * c < LB ^ (n + 1) * 1 := by rw [Nat.mul_one]; exact Nat.lt_of_le_of_lt hcl h2
        have := Nat.lt_of_mul_lt_mul_left h3
        omega
      rw [hval, hc0, show b + 0 = b from rfl]
    | succ m ih =>
      intro i b c y him hy ly hb hc hval hcl
      have hlt : ((i : Int) < ((n + 1 : Nat) : Int)) = True := eq_true (by omega)
      refine Safe.inLoop ?_
      refine Safe.rg rfl ?_
      simp only [b1n, hlt, E3, Nat.reduceLeDiff, Nat.reduceSub, Nat.reduceAdd, Nat.reduceEqDiff, reduceCtorEq, ↓reduceIte]
      refine Safe.cd rfl ?_
      simp only [E3, Nat.reduceLeDiff, Nat.reduceSub, Nat.reduceAdd, Nat.reduceEqDiff, reduceCtorEq, ↓reduceIte]
      have hgi : g (off + i) < LB := hg _ (by omega)
      have hxi : xr g off y (off + i) = g (off + i) := by subst hy; exact e6r
      have hvi := a0L hv i
      have hqv : c + q * v.getD i 0 < LB * LB := by
        have h1 : q * v.getD i 0 ≤ (LB - 1) * (LB - 1) := Nat.mul_le_mul (by omega) (by omega)
        have h2 : (LB - 1) * (LB - 1) + (LB - 1) < LB * LB := by decide
        omega
      have hqv2 : LB * LB = 18446744073709551616 := by decide
      refine Safe.rg rfl ?_
      simp only [c1R, E3, Nat.reduceLeDiff, Nat.reduceSub, Nat.reduceAdd, Nat.reduceEqDiff, reduceCtorEq, ↓reduceIte]
      refine Safe.rg rfl ?_
      simp only [c1Q, E3, Nat.reduceLeDiff, Nat.reduceSub, Nat.reduceAdd, Nat.reduceEqDiff, reduceCtorEq, ↓reduceIte]
      have rest : ∀ env : Env, look env 0 = .mu id off (n + 1) oc → look env 1 = natV v → look env 5 = .int .i64 n → look env 7 = .int .u64 q → look env 9 = .int .u64 b → look env 40 = .int .i64 ((n + 1 : Nat) : Int) → look env 41 = .int .i64 i → look env 10 = .int .i64 i → look env 11 = .int .u64 (c + q * v.getD i 0 : Nat) →
          Safe (digX H.length) (.code (.seq (.region a9o false) (.seq (.region a9n false) (.seq (.region a9m false) (.region a9l false)))) :: .inBlock 1 :: .code (.region a9k false) :: .inLoop a6O :: .inBlock 0 :: todo) env (hap (H.set id (some ⟨1, u32s (fl N (xr g off y))⟩)) []) R := by
        intro env e0 e1 e5 e7 e9 e40 e41 e10 e11
        have w5 := a1X (c + q * v.getD i 0)
        have htl : (c + q * v.getD i 0) % LB < LB := Nat.mod_lt _ (by decide)
        have htm := Nat.mod_add_div (c + q * v.getD i 0) LB
        have htd : (c + q * v.getD i 0) / LB < LB := by rw [Nat.div_lt_iff_lt_mul (by decide)]; exact hqv
        have h4w : IntKind.wrap .u64 (IntKind.wrap .u64 (((g (off + i) : Nat) : Int) - (((c + q * v.getD i 0) % LB : Nat) : Int)) - (b : Int)) = (((g (off + i) : Nat) : Int) - (((c + q * v.getD i 0) % LB : Nat) : Int) - (b : Int)) % 18446744073709551616 := by
          rw [a1f, a1f]; omega
        refine Safe.rg rfl ?_
        simp only [a9o, e11, d9e, E3, Nat.reduceLeDiff, Nat.reduceSub, Nat.reduceAdd, Nat.reduceEqDiff, reduceCtorEq, ↓reduceIte]
        refine Safe.rg rfl ?_
        simp only [a9n, e0, e10, e11, e9, b8J hid 1 _ off (n + 1) i oc .i64 (show i < n + 1 by omega), ofat hid (show off + i < N by omega), hxi, a2l (x := g (off + i)) (by omega), w5, a2l (x := (c + q * v.getD i 0) % LB) (by omega), h4w, E3, Nat.reduceLeDiff, Nat.reduceSub, Nat.reduceAdd, Nat.reduceEqDiff, reduceCtorEq, ↓reduceIte]
        obtain ⟨d, bo, hd, hbo, hdl, hD, hB⟩ : ∃ d bo : Nat, g (off + i) + LB * bo = d + (c + q * v.getD i 0) % LB + b ∧ bo ≤ 1 ∧ d < LB ∧ ((((g (off + i) : Nat) : Int) - (((c + q * v.getD i 0) % LB : Nat) : Int) - (b : Int)) % 18446744073709551616) % 4294967296 = (d : Int) ∧ ((((g (off + i) : Nat) : Int) - (((c + q * v.getD i 0) % LB : Nat) : Int) - (b : Int)) % 18446744073709551616) / 9223372036854775808 = (bo : Int) := by
          generalize (c + q * v.getD i 0) % LB = lo at *
          by_cases hlt : g (off + i) < lo + b
          · exact ⟨g (off + i) + LB - lo - b, 1, by omega, by omega, by omega, by omega, by omega⟩
          · exact ⟨g (off + i) - lo - b, 0, by omega, by omega, by omega, by omega, by omega⟩
        refine Safe.rg rfl ?_
        simp only [a9m, e0, e10, b5l, hD, b8J hid 1 _ off (n + 1) i oc .i64 (show i < n + 1 by omega), ofst hid (show off + i < N by omega), E3, Nat.reduceLeDiff, Nat.reduceSub, Nat.reduceAdd, Nat.reduceEqDiff, reduceCtorEq, ↓reduceIte]
        have hs63 : ∀ n : Int, Int.fdiv n (2 ^ min (Int.toNat 63) IntKind.u64.bits) = n / 9223372036854775808 := by
          intro n
          rw [show (2 : Int) ^ min (Int.toNat 63) IntKind.u64.bits = 9223372036854775808 by decide, Int.fdiv_eq_ediv_of_nonneg _ (by decide)]
        refine Safe.rg rfl ?_
        simp only [a9l, a3A _ _ _ (show (0 : Int) ≤ 63 by decide), hs63, hB, E3, Nat.reduceLeDiff, Nat.reduceSub, Nat.reduceAdd, Nat.reduceEqDiff, reduceCtorEq, ↓reduceIte]
        refine Safe.inBlock ?_
        have w4 : IntKind.wrap .i64 ((i : Int) + 1) = ((i + 1 : Nat) : Int) := by rw [a0a] <;> omega
        refine Safe.rg rfl ?_
        simp only [a9k, e41, w4, E3, Nat.reduceLeDiff, Nat.reduceSub, Nat.reduceAdd, Nat.reduceEqDiff, reduceCtorEq, ↓reduceIte]
        refine Safe.keep [0, 1, 5, 7, 8, 9, 40, 41] ?_
        simp only [E3, Nat.reduceLeDiff, Nat.reduceSub, Nat.reduceAdd, Nat.reduceEqDiff, reduceCtorEq, ↓reduceIte]
        simp only [e0, e1, e5, e7, e40]
        rw [← hy, d8M, hy]
        refine ih (i + 1) bo _ _ (by omega) (by simp [hy]) (a1t ly hdl) hbo htd ?_ ?_
        · rw [a2F, hy, a0i, a0i, Nat.pow_succ, b7K (by omega), Nat.mul_add, Nat.mul_left_comm]
          exact e1C hval hd htm
        · rw [a0i, Nat.mul_add, Nat.mul_left_comm q, Nat.pow_succ, Nat.mul_assoc]
          have h1 : LB ^ i * (LB * ((c + q * v.getD i 0) / LB)) ≤ LB ^ i * (c + q * v.getD i 0) := Nat.mul_le_mul_left _ (Nat.mul_div_le _ _)
          rw [Nat.mul_add] at h1
          omega
      by_cases hin : i < n
      · have hl2 : ((i : Int) < (n : Int)) = True := eq_true (by omega)
        refine Safe.rg rfl ?_
        simp only [b1m, hl2, E3, Nat.reduceLeDiff, Nat.reduceSub, Nat.reduceAdd, Nat.reduceEqDiff, reduceCtorEq, ↓reduceIte]
        refine Safe.cd rfl ?_
        simp only [E3, Nat.reduceLeDiff, Nat.reduceSub, Nat.reduceAdd, Nat.reduceEqDiff, reduceCtorEq, ↓reduceIte]
        refine Safe.rg rfl ?_
        simp only [b7j, a0A _ v _ i (by omega), a2l (x := v.getD i 0) (by omega), b8t (x := q) (y := v.getD i 0) (by omega), a5K (x := c) (y := q * v.getD i 0) (by omega), E3, Nat.reduceLeDiff, Nat.reduceSub, Nat.reduceAdd, Nat.reduceEqDiff, reduceCtorEq, ↓reduceIte]
        exact rest _ (by simp only [E3, Nat.reduceLeDiff, Nat.reduceSub, Nat.reduceAdd, Nat.reduceEqDiff, reduceCtorEq, ↓reduceIte]) (by simp only [E3, Nat.reduceLeDiff, Nat.reduceSub, Nat.reduceAdd, Nat.reduceEqDiff, reduceCtorEq, ↓reduceIte]) (by simp only [E3, Nat.reduceLeDiff, Nat.reduceSub, Nat.reduceAdd, Nat.reduceEqDiff, reduceCtorEq, ↓reduceIte]) (by simp only [E3, Nat.reduceLeDiff, Nat.reduceSub, Nat.reduceAdd, Nat.reduceEqDiff, reduceCtorEq, ↓reduceIte]) (by simp only [E3, Nat.reduceLeDiff, Nat.reduceSub, Nat.reduceAdd, Nat.reduceEqDiff, reduceCtorEq, ↓reduceIte]) (by simp only [E3, Nat.reduceLeDiff, Nat.reduceSub, Nat.reduceAdd, Nat.reduceEqDiff, reduceCtorEq, ↓reduceIte]) (by simp only [E3, Nat.reduceLeDiff, Nat.reduceSub, Nat.reduceAdd, Nat.reduceEqDiff, reduceCtorEq, ↓reduceIte]) (by simp only [E3, Nat.reduceLeDiff, Nat.reduceSub, Nat.reduceAdd, Nat.reduceEqDiff, reduceCtorEq, ↓reduceIte]) (by simp only [E3, Nat.reduceLeDiff, Nat.reduceSub, Nat.reduceAdd, Nat.reduceEqDiff, reduceCtorEq, ↓reduceIte])
      · have hl2 : ((i : Int) < (n : Int)) = False := eq_false (by omega)
        refine Safe.rg rfl ?_
        simp only [b1m, hl2, E3, Nat.reduceLeDiff, Nat.reduceSub, Nat.reduceAdd, Nat.reduceEqDiff, reduceCtorEq, ↓reduceIte]
        refine Safe.cd rfl ?_
        simp only [E3, Nat.reduceLeDiff, Nat.reduceSub, Nat.reduceAdd, Nat.reduceEqDiff, reduceCtorEq, ↓reduceIte]
        have hz : c + q * v.getD i 0 = c := by rw [a7a (a := v) (by omega)]; omega
        exact Safe.skip (rest _ (by simp only [E3, Nat.reduceLeDiff, Nat.reduceSub, Nat.reduceAdd, Nat.reduceEqDiff, reduceCtorEq, ↓reduceIte]) (by simp only [E3, Nat.reduceLeDiff, Nat.reduceSub, Nat.reduceAdd, Nat.reduceEqDiff, reduceCtorEq, ↓reduceIte]) (by simp only [E3, Nat.reduceLeDiff, Nat.reduceSub, Nat.reduceAdd, Nat.reduceEqDiff, reduceCtorEq, ↓reduceIte]) (by simp only [E3, Nat.reduceLeDiff, Nat.reduceSub, Nat.reduceAdd, Nat.reduceEqDiff, reduceCtorEq, ↓reduceIte]) (by simp only [E3, Nat.reduceLeDiff, Nat.reduceSub, Nat.reduceAdd, Nat.reduceEqDiff, reduceCtorEq, ↓reduceIte]) (by simp only [E3, Nat.reduceLeDiff, Nat.reduceSub, Nat.reduceAdd, Nat.reduceEqDiff, reduceCtorEq, ↓reduceIte]) (by simp only [E3, Nat.reduceLeDiff, Nat.reduceSub, Nat.reduceAdd, Nat.reduceEqDiff, reduceCtorEq, ↓reduceIte]) (by simp only [E3, Nat.reduceLeDiff, Nat.reduceSub, Nat.reduceAdd, Nat.reduceEqDiff, reduceCtorEq, ↓reduceIte]) (by rw [hz]; simp only [E3, Nat.reduceLeDiff, Nat.reduceSub, Nat.reduceAdd, Nat.reduceEqDiff, reduceCtorEq, ↓reduceIte]))
  have := key (n + 1) 0 0 0 [] (by omega) rfl b9c (by omega) (by decide) (by simp [val]) (by simp)
  rw [e3E] at this
  exact this
theorem d5n {H : Heap} {id off N n : Nat} {oc : Option Nat} {v : List Nat} {f : Nat → Nat} (hl : H[id]? = some (some ⟨1, u32s (fl N f)⟩)) (hv : Lim v) (hn : v.length = n) (hn0 : 0 < n) (ht : 0 < v.getD (n - 1) 0) (hoff : off + n + 1 ≤ N) (hN : N ≤ 17592186044416) (hf : ∀ i, i < N → f i < LB)
    {S : Nat} (hS : val (fl (n + 1) fun i => f (off + i)) = S) (hlt : S < LB * val v) : a0n Pr a9T [.mu id off (n + 1) oc, natV v] H fun r' H' => r' = .int .u32 (S / val v : Nat) ∧ H' = H.set id (some ⟨1, u32s (fl N (xr f off (fl (n + 1) (dig (S % val v)))))⟩) := by
  have hLB : LB = 4294967296 := rfl
  have hid := a0k hl
  have hv0 : 0 < val v := by
    have := a3x v (n - 1)
    have h2 : val (v.drop (n - 1)) ≠ 0 := by
      rw [a2G]; rw [show n - 1 + 1 = n by omega]; omega
    have h3 : 0 < LB ^ (n - 1) * val (v.drop (n - 1)) := Nat.mul_pos (a5y _) (by omega)
    omega
  have hUl : (fl (n + 1) fun i => f (off + i)).length = n + 1 := a1c _ _
  have hU : Lim (fl (n + 1) fun i => f (off + i)) := e3V fun i hi => hf _ (by omega)
  have hguess := d6i hU hv hUl hn hn0 hv0 (by rw [hS]; exact hlt) ht
  rw [hS, b7K (by omega), b7K (by omega)] at hguess
  have hSl : S < LB ^ (n + 1) := by have := a0Z hU; rw [hS, hUl] at this; exact this
  have hvl := a0Z hv
  rw [hn] at hvl
  have hvle : val v ≤ LB ^ (n + 1) := by
    have : LB ^ n ≤ LB ^ (n + 1) := Nat.pow_le_pow_right (by decide) (by omega)
    omega
  have hvt : v.getD (n - 1) 0 < LB := a0L hv _
  have hfn : f (off + n) < LB := hf _ (by omega)
  have hfn1 : f (off + (n - 1)) < LB := hf _ (by omega)
  refine a0n.eff d2u d2t (Nat.le_of_ble_eq_true rfl) fun hH => ?_
  have h0 : hap H [] = hap (H.set id (some ⟨1, u32s (fl N f)⟩)) [] := by rw [e1H hl]
  rw [h0]
  refine Safe.rg rfl ?_
  simp only [c1X, E3, Nat.reduceLeDiff, Nat.reduceSub, Nat.reduceAdd, Nat.reduceEqDiff, reduceCtorEq, ↓reduceIte]
  refine Safe.rg rfl ?_
  simp only [c1W, a6P, E3, Nat.reduceLeDiff, Nat.reduceSub, Nat.reduceAdd, Nat.reduceEqDiff, reduceCtorEq, ↓reduceIte]
  have w1 : IntKind.wrap .i64 ((n : Int) - 1) = ((n - 1 : Nat) : Int) := by rw [a0a] <;> omega
  refine Safe.rg rfl ?_
  simp only [c1V, hn, w1, b8J hid 1 _ off (n + 1) n oc .i64 (Nat.lt_succ_self n), b8J hid 1 _ off (n + 1) (n - 1) oc .i64 (show n - 1 < n + 1 by omega), ofat hid (show off + n < N by omega), ofat hid (show off + (n - 1) < N by omega), a2l (x := f (off + n)) (by omega), a2l (x := f (off + (n - 1))) (by omega), e4t hfn, c3C hfn hfn1, E3, Nat.reduceLeDiff, Nat.reduceSub, Nat.reduceAdd, Nat.reduceEqDiff, reduceCtorEq, ↓reduceIte]
  have htop : f (off + n) * LB + f (off + (n - 1)) < 18446744073709551616 := by
    have : f (off + n) * LB ≤ 4294967295 * LB := Nat.mul_le_mul_right _ (by omega)
    omega
  have hmin : (if (4294967295 : Int) < (((f (off + n) * LB + f (off + (n - 1))) / v.getD (n - 1) 0 : Nat) : Int) then (4294967295 : Int) else (((f (off + n) * LB + f (off + (n - 1))) / v.getD (n - 1) 0 : Nat) : Int)) = ((min ((f (off + n) * LB + f (off + (n - 1))) / v.getD (n - 1) 0) (LB - 1) : Nat) : Int) := by
    generalize (f (off + n) * LB + f (off + (n - 1))) / v.getD (n - 1) 0 = z
    split
    · rw [Nat.min_eq_right (by omega)]; rfl
    · rw [Nat.min_eq_left (by omega)]
  refine Safe.rg rfl ?_
  simp only [c1U, hn, w1, a0A _ v _ (n - 1) (by omega), a2l (x := v.getD (n - 1) 0) (by omega), c9D ht htop, d5Z, hmin, E3, Nat.reduceLeDiff, Nat.reduceSub, Nat.reduceAdd, Nat.reduceEqDiff, reduceCtorEq, ↓reduceIte]
  have hq0l : min ((f (off + n) * LB + f (off + (n - 1))) / v.getD (n - 1) 0) (LB - 1) < LB := Nat.lt_of_le_of_lt (Nat.min_le_right _ _) (by decide)
  generalize hq0 : min ((f (off + n) * LB + f (off + (n - 1))) / v.getD (n - 1) 0) (LB - 1) = q0 at *
  refine Safe.rg rfl ?_
  simp only [c1T, E3, Nat.reduceLeDiff, Nat.reduceSub, Nat.reduceAdd, Nat.reduceEqDiff, reduceCtorEq, ↓reduceIte]
  have w2 : IntKind.wrap .i64 ((n : Int) + 1) = ((n + 1 : Nat) : Int) := by rw [a0a] <;> omega
  refine Safe.rg rfl ?_
  simp only [c1S, w2, hn, E3, Nat.reduceLeDiff, Nat.reduceSub, Nat.reduceAdd, Nat.reduceEqDiff, reduceCtorEq, ↓reduceIte]
  refine Safe.lp rfl ?_
  refine Safe.keep [0, 1, 5, 7, 8, 9, 40, 41] ?_
  simp only [hn, E3, Nat.reduceLeDiff, Nat.reduceSub, Nat.reduceAdd, Nat.reduceEqDiff, reduceCtorEq, ↓reduceIte]
  refine e0J hid hv hn hoff hN hf hq0l fun y b hy ly hb hval => ?_
  rw [hS] at hval
  refine Safe.lp rfl ?_
  -- the rows put back
  have key : ∀ (q b : Nat) (y : List Nat), y.length = n + 1 → Lim y → b ≤ 1 → val y + q * val v = S + LB ^ (n + 1) * b → S / val v ≤ q → q < LB →
      Safe (digX H.length) [.inLoop c1Y, .inBlock 2, .code (.seq (.region a5z false) .ret)] [(0, .mu id off (n + 1) oc), (1, natV v), (5, .int .i64 n), (7, .int .u64 q), (9, .int .u64 b)] (hap (H.set id (some ⟨1, u32s (fl N (xr f off y))⟩)) [])
        fun r' H' => ∃ H1 L, H' = hap H1 L ∧ H1.length = H.length ∧ a0E H1 ∧ Ref (· < H.length) r' ∧ r' = .int .u32 (S / val v : Nat) ∧ H1 = H.set id (some ⟨1, u32s (fl N (xr f off (fl (n + 1) (dig (S % val v)))))⟩) := by
    intro q
    induction q with
    | zero =>
      intro b y hy ly hb hval hq hql
      have hyl := a0Z ly
      rw [hy] at hyl
      have hb0 : b = 0 := by
        rcases Nat.eq_zero_or_pos b with h | h
        · exact h
        · have : b = 1 := by omega
          subst this; omega
      subst hb0
      refine Safe.inLoop ?_
      refine Safe.rg rfl ?_
      simp only [a5A, show ((0 : Int) < ((0 : Nat) : Int)) = False by simp, E3, Nat.reduceLeDiff, Nat.reduceSub, Nat.reduceAdd, Nat.reduceEqDiff, reduceCtorEq, ↓reduceIte]
      refine Safe.cd rfl ?_
      simp only [E3, Nat.reduceLeDiff, Nat.reduceSub, Nat.reduceAdd, Nat.reduceEqDiff, reduceCtorEq, ↓reduceIte]
      refine Safe.exit rfl ?_
      refine Safe.rg rfl ?_
      simp only [a5z, a9V (x := 0) (by decide), E3, Nat.reduceLeDiff, Nat.reduceSub, Nat.reduceAdd, Nat.reduceEqDiff, reduceCtorEq, ↓reduceIte]
      refine Safe.rt rfl ?_
      simp only [E3, Nat.reduceLeDiff, Nat.reduceSub, Nat.reduceAdd, Nat.reduceEqDiff, reduceCtorEq, ↓reduceIte]
      have e1 : S / val v = 0 := Nat.le_zero.1 hq
      have e2 : S % val v = val y := by
        have := Nat.mod_add_div S (val v)
        rw [e1] at this
        omega
      refine ⟨_, [], rfl, by simp, a0E.set hH id fun a ha => (a0m _ a ha).ref, .int _ _, by rw [e1], ?_⟩
      rw [e2, ← b9d ly hy]
    | succ q ih =>
      intro b y hy ly hb hval hq hql
      have hyl := a0Z ly
      rw [hy] at hyl
      refine Safe.inLoop ?_
      by_cases hb0 : b = 0
      · subst hb0
        refine Safe.rg rfl ?_
        simp only [a5A, show ((0 : Int) < ((0 : Nat) : Int)) = False by simp, E3, Nat.reduceLeDiff, Nat.reduceSub, Nat.reduceAdd, Nat.reduceEqDiff, reduceCtorEq, ↓reduceIte]
        refine Safe.cd rfl ?_
        simp only [E3, Nat.reduceLeDiff, Nat.reduceSub, Nat.reduceAdd, Nat.reduceEqDiff, reduceCtorEq, ↓reduceIte]
        refine Safe.exit rfl ?_
        refine Safe.rg rfl ?_
        simp only [a5z, a9V (x := q + 1) (by omega), E3, Nat.reduceLeDiff, Nat.reduceSub, Nat.reduceAdd, Nat.reduceEqDiff, reduceCtorEq, ↓reduceIte]
        refine Safe.rt rfl ?_
        simp only [E3, Nat.reduceLeDiff, Nat.reduceSub, Nat.reduceAdd, Nat.reduceEqDiff, reduceCtorEq, ↓reduceIte]
        have e1 : S / val v = q + 1 := by
          have : (q + 1) ≤ S / val v := by rw [Nat.le_div_iff_mul_le hv0]; omega
          omega
        have e2 : S % val v = val y := by
          have := Nat.mod_add_div S (val v)
          rw [e1, Nat.mul_comm (val v)] at this
          omega
        refine ⟨_, [], rfl, by simp, a0E.set hH id fun a ha => (a0m _ a ha).ref, .int _ _, by rw [e1], ?_⟩
        rw [e2, ← b9d ly hy]
      · have hb1 : b = 1 := by omega
        subst hb1
        have hlq : S / val v ≤ q := by
          have h1 : S < (q + 1) * val v := by omega
          have := (Nat.div_lt_iff_lt_mul hv0).2 h1
          omega
        have w3 : IntKind.wrap .u64 (((q + 1 : Nat) : Int) - 1) = (q : Int) := by rw [a0F] <;> omega
        refine Safe.rg rfl ?_
        simp only [a5A, show ((0 : Int) < ((1 : Nat) : Int)) = True by simp, E3, Nat.reduceLeDiff, Nat.reduceSub, Nat.reduceAdd, Nat.reduceEqDiff, reduceCtorEq, ↓reduceIte]
        refine Safe.cd rfl ?_
        simp only [E3, Nat.reduceLeDiff, Nat.reduceSub, Nat.reduceAdd, Nat.reduceEqDiff, reduceCtorEq, ↓reduceIte]
        refine Safe.rg rfl ?_
        simp only [b7i, w3, E3, Nat.reduceLeDiff, Nat.reduceSub, Nat.reduceAdd, Nat.reduceEqDiff, reduceCtorEq, ↓reduceIte]
        refine Safe.rg rfl ?_
        simp only [b7h, E3, Nat.reduceLeDiff, Nat.reduceSub, Nat.reduceAdd, Nat.reduceEqDiff, reduceCtorEq, ↓reduceIte]
        refine Safe.rg rfl ?_
        simp only [b7g, w2, E3, Nat.reduceLeDiff, Nat.reduceSub, Nat.reduceAdd, Nat.reduceEqDiff, reduceCtorEq, ↓reduceIte]
        refine Safe.lp rfl ?_
        refine Safe.keep [0, 1, 5, 7, 9, 13, 83, 84] ?_
        simp only [E3, Nat.reduceLeDiff, Nat.reduceSub, Nat.reduceAdd, Nat.reduceEqDiff, reduceCtorEq, ↓reduceIte]
        refine e0K (b := 1) hid hv hn hoff hN (e7F hf ly) fun z c hz lz hc hzv => ?_
        have hseg := e6q (g := f) (off := off) (x := y)
        rw [hy] at hseg
        rw [hseg] at hzv
        rw [e7E (by rw [hy, hz])]
        have w4 : IntKind.wrap .u64 (((1 : Nat) : Int) - (c : Int)) = ((1 - c : Nat) : Int) := by rw [a0F] <;> omega
        refine Safe.rg rfl ?_
        simp only [b7c, w4, E3, Nat.reduceLeDiff, Nat.reduceSub, Nat.reduceAdd, Nat.reduceEqDiff, reduceCtorEq, ↓reduceIte]
        refine Safe.inBlock ?_
        refine Safe.keep [0, 1, 5, 7, 9] ?_
        simp only [E3, Nat.reduceLeDiff, Nat.reduceSub, Nat.reduceAdd, Nat.reduceEqDiff, reduceCtorEq, ↓reduceIte]
        have hexp : (q + 1) * val v = q * val v + val v := by rw [Nat.add_mul, Nat.one_mul]
        refine ih (1 - c) z hz lz (by omega) ?_ hlq (by omega)
        rcases Nat.eq_zero_or_pos c with h | h
        · subst h; omega
        · have : c = 1 := by omega
          subst this; omega
  exact key q0 b y hy ly hb hval hguess hq0l
end Go.Abs

/- Part 6 of the proof of ElimGoes: W1, W3, W4, W5, W6, W7, W8, W9, W10, W11, W14, W15, W16, W18, W19. -/
import Derived.Test.YtkljokmnimblnaaElimGoesK5
set_option linter.unusedVariables false
set_option linter.unusedSimpArgs false
namespace Go.Abs
theorem a0r (l : List Nat) (hl : Lim l) (hb : l.length ≤ 17592186044416) : a0f Pr a0n [natV l] (natV (limbs (val l))) := by
  refine a0f.intro b8C b8A (by simp only [List.length_cons, List.length_nil]; omega) (a2I _) fun H hH => ?_
  refine Safe.seq (Safe.region ?_)
  simp only [b2f, E1, seval]
  refine Safe.seq (Safe.block (Safe.loop ?_))
  refine Safe.keep [0] ?_
  simp only [E1, seval]
  generalize hv : val l = v
  have stop : ∀ (l : List Nat) (ts : Env), Lim l → val l = v → (l.getLast?).getD 1 ≠ 0 → look ts 0 = natV l → Safe ⟨Pr, fun _ _ => false, a0n, 21, [.tmp 2], H.length⟩ [.code ((ACode.region a3G false).seq ACode.ret)] ts (hap H []) fun r' H' => r' = natV (limbs v) ∧ ∃ L, H' = hap H L := by
    intro l ts hl hv hn h0
    refine Safe.seq (Safe.region ?_)
    simp only [a3G, E1, seval, h0]
    refine Safe.retn ?_
    simp only [E1, seval]
    rw [← hv, a9q hl hn]
    exact ⟨rfl, [], rfl⟩
  induction hn : l.length using Nat.strongRecOn generalizing l with
  | _ n ih =>
  refine Safe.inLoop (Safe.seq (Safe.seq (Safe.region ?_)))
  rcases List.eq_nil_or_concat l with rfl | ⟨l', d, rfl⟩
  · simp only [a4Z, E1, seval, a5M, Int.natCast_zero, Int.lt_irrefl]
    refine Safe.cond ?_
    simp only [E1, seval]
    refine Safe.exit rfl ?_
    exact stop [] _ hl hv (by simp) (by simp only [E1, seval])
  · simp only [List.concat_eq_append] at *
    have hlen : (l' ++ [d]).length = l'.length + 1 := by simp
    have h0 : (0 : Int) < ((l' ++ [d]).length : Int) := by omega
    have hw : IntKind.i64.wrap (((l' ++ [d]).length : Int) - 1) = (l'.length : Int) := by rw [hlen, a0b] <;> omega
    have hg : (l' ++ [d]).getD l'.length 0 = d := by simp
    simp only [a4Z, E1, seval, a5M, h0, hw, a0Q _ (l' ++ [d]) _ l'.length (by omega), hg]
    refine Safe.cond ?_
    simp only [E1, seval]
    by_cases hd : d = 0
    · subst hd
      simp only [Int.natCast_zero, E1, seval]
      refine Safe.skip (Safe.block (Safe.region ?_))
      simp only [b2e, E1, seval, a5M, hw, d6d _ (l' ++ [0]) _ l'.length (by omega)]
      refine Safe.inBlock (Safe.keep [0] ?_)
      simp only [E1, seval, List.take_left']
      exact ih l'.length (by omega) l' (b5g.1 hl).1 (by omega) (by rw [← hv, d1S]) rfl
    · have : ¬ ((d : Int) = 0) := by omega
      simp only [this, E1, seval]
      refine Safe.exit rfl ?_
      exact stop (l' ++ [d]) _ hl hv (by simpa using hd) (by simp only [E1, seval])
theorem a6N (l : List Nat) (hl : Nt l) : a0f Pr a7a [natV l] (natV (limbs (val l))) := by
  refine a0f.intro c7q c7p (by simp only [List.length_cons, List.length_nil]; omega) (a2I _) fun H hH => ?_
  refine Safe.seq (Safe.region ?_)
  simp only [b8R, E1, seval]
  refine Safe.seq (Safe.region ?_)
  simp only [b8Q, E1, seval]
  refine (a0r l hl.lim hl.len).acall ?_
  simp only [E1, seval, c8q _ _ H [] _ hl.limbs.len]
  refine Safe.freeze 0 (b := ⟨1, u32s (limbs (val l))⟩) hH rfl rfl (a0t _) ?_
  refine Safe.retn ?_
  simp only [E1, seval]
  first | exact ⟨rfl, _, rfl⟩ | exact ⟨_, rfl⟩ | exact ⟨trivial, _, rfl⟩
def cmpI (a b : Nat) : Int := if a < b then -1 else if b < a then 1 else 0
theorem b4E {a b : Nat} (h : (limbs a).length < (limbs b).length) : a < b := by
  have h1 : limbs b ≠ [] := by intro h0; rw [h0] at h; simp at h
  have := c5G h1
  have h2 := a1P (a0w a)
  rw [a0i] at h2
  have h3 : LB ^ (limbs a).length ≤ LB ^ ((limbs b).length - 1) := Nat.pow_le_pow_right (by decide) (by omega)
  omega
theorem a7o (a b : List Nat) (ha : Nt a) (hb : Nt b) : a0f Pr a5y [natV a, natV b] (.int .i64 (cmpI (val a) (val b))) := by
  refine a0f.intro d1b d1a (by simp only [List.length_cons, List.length_nil]; omega) (.int _ _) fun H hH => ?_
  refine Safe.seq (Safe.region ?_)
  simp only [c2t, E1, seval]
  refine Safe.seq (Safe.region ?_)
  simp only [c2s, E1, seval]
  refine (a0r a ha.lim ha.len).acall ?_
  try simp only [E1, seval]
  refine (a0r b hb.lim hb.len).acall ?_
  try simp only [E1, seval]
  have na := ha.limbs
  have nb := hb.limbs
  have va := a0i (val a)
  have vb := a0i (val b)
  generalize hA : limbs (val a) = A at na va ⊢
  generalize hB : limbs (val b) = B at nb vb ⊢
  refine Safe.keep [0, 1] (Safe.seq (Safe.seq (Safe.region ?_)))
  simp only [c2r, E1, seval, a5M]
  refine Safe.cond ?_
  simp only [E1, seval]
  by_cases hlen : A.length = B.length
  · have : ((A.length : Int) = B.length) := by omega
    simp only [this, E1, seval]
    refine Safe.skip (Safe.seq (Safe.seq (Safe.region ?_)))
    simp only [c2n, E1, seval, a5M]
    refine Safe.block (Safe.loop ?_)
    have key : ∀ n, n ≤ A.length → A.drop n = B.drop n → Safe ⟨Pr, fun _ _ => false, a5y, 45, [.tmp 4], H.length⟩ [.inLoop c2u, .inBlock 0, .code ((ACode.region b2p false).seq .ret)]
        [(0, natV A), (1, natV B), (5, .int .i64 ((n : Int) - 1))] (hap H []) fun r' H' => r' = .int .i64 (cmpI (val a) (val b)) ∧ ∃ L, H' = hap H L := by
      intro n
      induction n with
      | zero =>
        intro _ hd
        refine Safe.inLoop (Safe.seq (Safe.seq (Safe.region ?_)))
        simp only [b4W, E1, seval]
        refine Safe.cond ?_
        simp only [E1, seval, show ¬ ((0 : Int) ≤ ((0 : Nat) : Int) - 1) by omega]
        refine Safe.exit rfl (Safe.seq (Safe.region ?_))
        simp only [b2p, E1, seval]
        refine Safe.retn ?_
        simp only [E1, seval]
        have : val a = val b := by
          simp only [List.drop_zero] at hd
          rw [← va, ← vb, hd]
        refine ⟨?_, [], rfl⟩
        simp [cmpI, this]
      | succ m ih =>
        intro hm hd
        refine Safe.inLoop (Safe.seq (Safe.seq (Safe.region ?_)))
        simp only [b4W, E1, seval]
        refine Safe.cond ?_
        have e1 : ((m + 1 : Nat) : Int) - 1 = (m : Int) := by omega
        simp only [E1, seval, e1, Int.natCast_nonneg]
        refine Safe.skip (Safe.seq (Safe.block (Safe.seq (Safe.regionD ?_))))
        simp only [c2m, E1, seval, a0Q _ A _ m (by omega), a0Q _ B _ m (by omega)]
        refine Safe.cond ?_
        simp only [E1, seval]
        by_cases hq : A.getD m 0 = B.getD m 0
        · simp only [hq, E1, seval]
          refine Safe.skip (Safe.inBlock (Safe.region ?_))
          simp only [b9f, E1, seval]
          refine Safe.keep [0, 1, 5] ?_
          have := na.len
          simp only [E1, seval, a0b (n := (m : Int) - 1) (by omega) (by omega)]
          refine ih (by omega) ?_
          rw [List.drop_eq_getElem_cons (by omega), List.drop_eq_getElem_cons (l := B) (by omega), hd]
          simp only [List.getD_eq_getElem?_getD, List.getElem?_eq_getElem (show m < A.length by omega), List.getElem?_eq_getElem (show m < B.length by omega), Option.getD_some] at hq
          rw [hq]
        · have hq' : ¬ ((A.getD m 0 : Nat) : Int) = ((B.getD m 0 : Nat) : Int) := by omega
          simp only [hq', E1, seval]
          refine Safe.seq (Safe.seq (Safe.regionD ?_))
          simp only [c2l, E1, seval, a0Q _ A _ m (by omega), a0Q _ B _ m (by omega)]
          refine Safe.cond ?_
          simp only [E1, seval]
          by_cases hlt : A.getD m 0 < B.getD m 0
          · have hlt' : ((A.getD m 0 : Nat) : Int) < ((B.getD m 0 : Nat) : Int) := by omega
            simp only [hlt', E1, seval]
            refine Safe.seq (Safe.region ?_)
            simp only [b9h, E1, seval]
            refine Safe.retn ?_
            simp only [E1, seval]
            have := b2X na.lim nb.lim hd (by omega) (by omega) hlen hlt
            refine ⟨?_, [], rfl⟩
            rw [← va, ← vb]; simp [cmpI, this]
          · have hlt' : ¬ ((A.getD m 0 : Nat) : Int) < ((B.getD m 0 : Nat) : Int) := by omega
            simp only [hlt', E1, seval]
            refine Safe.skip (Safe.seq (Safe.region ?_))
            simp only [b9g, E1, seval]
            refine Safe.retn ?_
            simp only [E1, seval]
            have := b2X nb.lim na.lim hd.symm (by omega) (by omega) hlen.symm (show B.getD m 0 < A.getD m 0 by omega)
            refine ⟨?_, [], rfl⟩
            rw [← va, ← vb]; simp [cmpI, this, Nat.lt_asymm this]
    refine Safe.keep [0, 1, 5] ?_
    have := na.len
    have hk := key A.length (Nat.le_refl _) (by rw [List.drop_length, hlen, List.drop_length])
    simp only [E1, seval, ← hlen, a0b (n := (A.length : Int) - 1) (by omega) (by omega)]
    exact hk
  · have : ¬ ((A.length : Int) = B.length) := by omega
    simp only [this, E1, seval]
    refine Safe.seq (Safe.seq (Safe.region ?_))
    simp only [c2q, E1, seval, a5M]
    refine Safe.cond ?_
    simp only [E1, seval]
    by_cases hlt : A.length < B.length
    · have hlt' : ((A.length : Int) < B.length) := by omega
      simp only [hlt', E1, seval]
      refine Safe.seq (Safe.region ?_)
      simp only [c2p, E1, seval]
      refine Safe.retn ?_
      simp only [E1, seval]
      have : val a < val b := b4E (by rw [hA, hB]; exact hlt)
      refine ⟨?_, [], rfl⟩
      simp [cmpI, this]
    · have hlt' : ¬ ((A.length : Int) < B.length) := by omega
      simp only [hlt', E1, seval]
      refine Safe.skip (Safe.seq (Safe.region ?_))
      simp only [c2o, E1, seval]
      refine Safe.retn ?_
      simp only [E1, seval]
      have : val b < val a := b4E (by rw [hA, hB]; omega)
      refine ⟨?_, [], rfl⟩
      simp [cmpI, this, Nat.lt_asymm this]
theorem b5i (n : Nat) (h : n < 4294967296) : a0f Pr a1n [.int .u32 n] (.int .i64 (blen n)) := by
  refine a0f.intro b3p b3o (by simp only [List.length_cons, List.length_nil]; omega) (.int _ _) fun H hH => ?_
  refine Safe.seq (Safe.region ?_)
  simp only [a5R, E1, Nat.reduceAdd, Nat.reduceEqDiff, reduceCtorEq, ↓reduceIte]
  have stop : ∀ (m s : Nat) (env : Env), m < 256 → s ≤ 24 → look env 0 = .int .u32 m → look env 2 = .int .i64 s → s + blen m = blen n → Safe ⟨Pr, fun _ _ => false, a1n, 19, [.tmp 2], H.length⟩ [.code ((ACode.region a2j false).seq .ret)] env (hap H [])
      fun r' H' => r' = .int .i64 (blen n) ∧ ∃ L, H' = hap H L := by
    intro m s env hm hs h0 h2 hb
    refine Safe.seq (Safe.region ?_)
    have hw : IntKind.wrap .u8 (m : Int) = m := by simp [IntKind.wrap, IntKind.bits, IntKind.signed]; omega
    simp only [a2j, E1, Nat.reduceAdd, Nat.reduceEqDiff, reduceCtorEq, ↓reduceIte, h0, h2, hw, c9I]
    have tab : ∀ m : Fin 256, d5o.data.toList.getD m.val 0 = UInt8.ofNat (blen m.val) ∧ blen m.val ≤ 8 := by decide +kernel
    have ht : d5o.data.toList.getD m 0 = UInt8.ofNat (blen m) ∧ blen m ≤ 8 := tab ⟨m, hm⟩
    have hsz : d5o.size = 256 := by decide +kernel
    rw [if_pos (by rw [hsz]; omega)]
    simp only [Int.toNat_natCast, ht.1, E1, Nat.reduceAdd, Nat.reduceEqDiff, reduceCtorEq, ↓reduceIte]
    have h8 : ((UInt8.ofNat (blen m)).toNat : Nat) = blen m := by
      have := ht.2
      simp [UInt8.toNat_ofNat']; omega
    refine Safe.retn ?_
    have := ht.2
    simp only [E1, Nat.reduceAdd, Nat.reduceEqDiff, reduceCtorEq, ↓reduceIte, h8, a0b (n := (blen m : Int)) (by omega) (by omega)]
    rw [a0b (by omega) (by omega)]
    exact ⟨by rw [← hb]; rfl, [], rfl⟩
  have mid : ∀ (m s : Nat) (env : Env), m < 65536 → s ≤ 16 → look env 0 = .int .u32 m → look env 2 = .int .i64 s → s + blen m = blen n → Safe ⟨Pr, fun _ _ => false, a1n, 19, [.tmp 2], H.length⟩
      [.code ((((ACode.region a3n false).seq (.cond (.t 8) ((ACode.region a3m false).seq (.region a3l false)) .skip)).seq ((ACode.region a2j false).seq .ret)))] env (hap H [])
      fun r' H' => r' = .int .i64 (blen n) ∧ ∃ L, H' = hap H L := by
    intro m s env hm hs h0 h2 hb
    refine Safe.seq (Safe.seq (Safe.region ?_))
    simp only [a3n, E1, Nat.reduceAdd, Nat.reduceEqDiff, reduceCtorEq, ↓reduceIte, h0]
    refine Safe.cond ?_
    simp only [E1, Nat.reduceAdd, Nat.reduceEqDiff, reduceCtorEq, ↓reduceIte]
    by_cases hc : 256 ≤ m
    · have hc' : (256 : Int) ≤ (m : Int) := by omega
      simp only [hc', E1, Nat.reduceAdd, Nat.reduceEqDiff, reduceCtorEq, ↓reduceIte]
      refine Safe.seq (Safe.region ?_)
      simp only [a3m, E1, Nat.reduceAdd, Nat.reduceEqDiff, reduceCtorEq, ↓reduceIte, h0, a4e _ _ _ (show (0 : Int) ≤ 8 by decide)]
      refine Safe.region ?_
      simp only [a3l, E1, Nat.reduceAdd, Nat.reduceEqDiff, reduceCtorEq, ↓reduceIte, h2]
      have e1 : Int.fdiv (m : Int) (2 ^ min (Int.toNat 8) IntKind.u32.bits) = ((m / 256 : Nat) : Int) := by
        rw [show (2 : Int) ^ min (Int.toNat 8) IntKind.u32.bits = 256 by decide, Int.fdiv_eq_ediv_of_nonneg _ (by decide)]; omega
      have e2 : IntKind.wrap .i64 ((s : Int) + 8) = ((s + 8 : Nat) : Int) := by rw [a0b] <;> omega
      refine stop (m / 256) (s + 8) _ (by omega) (by omega) (by simp only [E1, Nat.reduceAdd, Nat.reduceEqDiff, reduceCtorEq, ↓reduceIte, e1]) (by simp only [E1, Nat.reduceAdd, Nat.reduceEqDiff, reduceCtorEq, ↓reduceIte, e2]) ?_
      have := c9E (n := m) (k := 8) (by omega)
      simp only [Nat.reducePow] at this
      omega
    · have hc' : ¬ (256 : Int) ≤ (m : Int) := by omega
      simp only [hc', E1, Nat.reduceAdd, Nat.reduceEqDiff, reduceCtorEq, ↓reduceIte]
      exact Safe.skip (stop m s _ (by omega) (by omega) (by simp only [E1, Nat.reduceAdd, Nat.reduceEqDiff, reduceCtorEq, ↓reduceIte, h0]) (by simp only [E1, Nat.reduceAdd, Nat.reduceEqDiff, reduceCtorEq, ↓reduceIte, h2]) hb)
  refine Safe.seq (Safe.seq (Safe.region ?_))
  simp only [a5Q, E1, Nat.reduceAdd, Nat.reduceEqDiff, reduceCtorEq, ↓reduceIte]
  refine Safe.cond ?_
  simp only [E1, Nat.reduceAdd, Nat.reduceEqDiff, reduceCtorEq, ↓reduceIte]
  by_cases hc : 65536 ≤ n
  · have hc' : (65536 : Int) ≤ (n : Int) := by omega
    simp only [hc', E1, Nat.reduceAdd, Nat.reduceEqDiff, reduceCtorEq, ↓reduceIte]
    refine Safe.seq (Safe.region ?_)
    simp only [a5P, E1, Nat.reduceAdd, Nat.reduceEqDiff, reduceCtorEq, ↓reduceIte, a4e _ _ _ (show (0 : Int) ≤ 16 by decide)]
    refine Safe.region ?_
    simp only [a5O, E1, Nat.reduceAdd, Nat.reduceEqDiff, reduceCtorEq, ↓reduceIte]
    have e1 : Int.fdiv (n : Int) (2 ^ min (Int.toNat 16) IntKind.u32.bits) = ((n / 65536 : Nat) : Int) := by
      rw [show (2 : Int) ^ min (Int.toNat 16) IntKind.u32.bits = 65536 by decide, Int.fdiv_eq_ediv_of_nonneg _ (by decide)]; omega
    refine mid (n / 65536) 16 _ (by omega) (by omega) (by simp only [E1, Nat.reduceAdd, Nat.reduceEqDiff, reduceCtorEq, ↓reduceIte, e1]) (by simp only [E1, Nat.reduceAdd, Nat.reduceEqDiff, reduceCtorEq, ↓reduceIte]; rfl) ?_
    have := c9E (n := n) (k := 16) (by omega)
    simp only [Nat.reducePow] at this
    omega
  · have hc' : ¬ (65536 : Int) ≤ (n : Int) := by omega
    simp only [hc', E1, Nat.reduceAdd, Nat.reduceEqDiff, reduceCtorEq, ↓reduceIte]
    exact Safe.skip (mid n 0 _ (by omega) (by omega) (by simp only [E1, Nat.reduceAdd, Nat.reduceEqDiff, reduceCtorEq, ↓reduceIte]) (by simp only [E1, Nat.reduceAdd, Nat.reduceEqDiff, reduceCtorEq, ↓reduceIte]; rfl) (by omega))
theorem c5q (l : List Nat) (hl : Nt l) : a0f Pr b5I [natV l] (.int .i64 (blen (val l))) := by
  refine a0f.intro c7s c7r (by simp only [List.length_cons, List.length_nil]; omega) (.int _ _) fun H hH => ?_
  refine Safe.seq (Safe.region ?_)
  simp only [b9m, E1, seval]
  refine Safe.seq (Safe.region ?_)
  simp only [b9l, E1, seval]
  refine (a0r l hl.lim hl.len).acall ?_
  try simp only [E1, seval]
  have nl := hl.limbs
  have vl := a0i (val l)
  have hlast := b0g (val l)
  generalize hA : limbs (val l) = A at nl vl hlast ⊢
  refine Safe.keep [0] (Safe.seq (Safe.seq (Safe.region ?_)))
  simp only [b9k, E1, seval]
  refine Safe.cond ?_
  simp only [E1, seval]
  rcases List.eq_nil_or_concat A with rfl | ⟨A', d, rfl⟩
  · simp only [E1, seval, Int.natCast_zero]
    refine Safe.seq (Safe.region ?_)
    simp only [b9j, E1, seval]
    refine Safe.retn ?_
    simp only [E1, seval]
    rw [← vl]
    exact ⟨rfl, [], rfl⟩
  · simp only [List.concat_eq_append] at *
    have hlen : (A' ++ [d]).length = A'.length + 1 := by simp
    have hn0 : ¬ (((A' ++ [d]).length : Int) = 0) := by omega
    have hg : (A' ++ [d]).getD A'.length 0 = d := by simp
    have hd : d ≠ 0 := by simpa using hlast
    have hlt : d < 4294967296 := nl.lim d (by simp)
    have := nl.len
    have hw : IntKind.i64.wrap (((A' ++ [d]).length : Int) - 1) = (A'.length : Int) := by rw [hlen, a0b] <;> omega
    simp only [hn0, E1, seval]
    refine Safe.skip (Safe.seq (Safe.region ?_))
    simp only [b9i, E1, seval, hw, a0Q _ (A' ++ [d]) _ A'.length (by omega), hg]
    refine (b5i d hlt).acall ?_
    simp only [E1, seval]
    refine Safe.retn ?_
    simp only [E1, seval]
    have hb : blen d ≤ 32 := by
      rcases Nat.lt_or_ge 32 (blen d) with h | h
      · have := c0z hd
        have := Nat.pow_le_pow_right (show 0 < 2 by decide) (show 32 ≤ blen d - 1 by omega)
        omega
      · exact h
    rw [a0b (n := 32 * (A'.length : Int)) (by omega) (by omega), a0b (by omega) (by omega)]
    refine ⟨?_, [], rfl⟩
    rw [← vl, d1G (b5g.1 nl.lim).1 hd]
    congr 1
theorem c7k (a b : List Nat) (la : Lim a) (lb : Lim b) (ha : a.length < 17592186044416) (hb : b.length < 17592186044416) : a0f Pr a7c [natV a, natV b] (natV (limbs (val a + val b))) := by
  refine a0f.intro d1e d1d (by simp only [List.length_cons, List.length_nil]; omega) (a2I _) fun H hH => ?_
  refine Safe.seq (Safe.region ?_)
  have hLB : LB = 4294967296 := rfl
  simp only [c2A, E1, Nat.reduceAdd, Nat.reduceEqDiff, reduceCtorEq, ↓reduceIte]
  have main : ∀ (a b : List Nat) (env : Env) (s : Nat), Lim a → Lim b → b.length ≤ a.length → a.length < 17592186044416 → val a + val b = s → look env 0 = natV a → look env 1 = natV b →
      Safe ⟨Pr, fun _ _ => false, a7c, 58, [.tmp 4], H.length⟩ [.code ((ACode.region b5a false).seq ((ACode.region b4Z false).seq (((ACode.region b4Y false).seq (.block 0 (.loop b0f))).seq ((ACode.region a5b false).seq ((ACode.region a5a false).seq .ret)))))]
        env (hap H []) fun r' H' => r' = natV (limbs s) ∧ ∃ L, H' = hap H L := by
    intro a b env s la lb hle ha hs h0 h1
    refine Safe.seq (Safe.region ?_)
    have hw : IntKind.wrap .i64 ((a.length : Int) + 1) = ((a.length + 1 : Nat) : Int) := by rw [a0b] <;> omega
    simp only [b5a, E1, Nat.reduceAdd, Nat.reduceEqDiff, reduceCtorEq, ↓reduceIte, h0, hw, b3n _ H [] _ _ (a.length + 1) (by omega)]
    refine Safe.seq (Safe.region ?_)
    simp only [b4Z, E1, Nat.reduceAdd, Nat.reduceEqDiff, reduceCtorEq, ↓reduceIte]
    refine Safe.seq (Safe.seq (Safe.region ?_))
    simp only [b4Y, E1, Nat.reduceAdd, Nat.reduceEqDiff, reduceCtorEq, ↓reduceIte, h0]
    refine Safe.block (Safe.loop ?_)
    have key : ∀ (k i c : Nat) (x : List Nat), i + k = a.length → x.length = i → Lim x → c ≤ 1 → val x + LB ^ i * c = val (a.take i) + val (b.take i) →
        Safe ⟨Pr, fun _ _ => false, a7c, 58, [.tmp 4], H.length⟩ [.inLoop b0f, .inBlock 0, .code ((ACode.region a5b false).seq ((ACode.region a5a false).seq .ret))]
          [(0, natV a), (1, natV b), (5, .mu (lid H 0) 0 (a.length + 1) (some (a.length + 1))), (6, .int .u64 c), (20, .int .i64 a.length), (21, .int .i64 i)]
          (hap H [some ⟨1, u32s (x ++ List.replicate (k + 1) 0)⟩]) fun r' H' => r' = natV (limbs s) ∧ ∃ L, H' = hap H L := by
      intro k
      induction k with
      | zero =>
        intro i c x hik hx lx hc hv
        have hi : i = a.length := by omega
        subst hi
        refine Safe.inLoop (Safe.seq (Safe.region ?_))
        simp only [b4X, E1, Nat.reduceAdd, Nat.reduceEqDiff, reduceCtorEq, ↓reduceIte]
        refine Safe.seq (Safe.cond ?_)
        simp only [E1, Nat.reduceAdd, Nat.reduceEqDiff, reduceCtorEq, ↓reduceIte, Int.lt_irrefl]
        refine Safe.exit rfl (Safe.seq (Safe.region ?_))
        have hcw : IntKind.wrap .u32 (c : Int) = (c : Int) := b7q (by omega) (by omega)
        simp only [a5b, E1, Nat.reduceAdd, Nat.reduceEqDiff, reduceCtorEq, ↓reduceIte, b4M _ _ _ _ _ _ a.length (Nat.lt_succ_self _), hcw, c5n _ _ _ a.length c (show a.length < (x ++ List.replicate (0 + 1) 0).length by simp [hx])]
        rw [← hx, c3n, hx]
        simp only [List.replicate_zero, List.append_nil]
        have hlen : a.length + 1 = (x ++ [c]).length := by simp [hx]
        refine Safe.freeze 0 (b := ⟨1, u32s (x ++ [c])⟩) hH rfl rfl (a0t _) ?_
        refine Safe.seq (Safe.region ?_)
        simp only [a5a, E1, Nat.reduceAdd, Nat.reduceEqDiff, reduceCtorEq, ↓reduceIte, hlen]
        refine (a0r (x ++ [c]) (a3b lx (by omega)) (by omega)).acall ?_
        try simp only [E1, Nat.reduceAdd, Nat.reduceEqDiff, reduceCtorEq, ↓reduceIte]
        refine Safe.retn ?_
        simp only [E1, Nat.reduceAdd, Nat.reduceEqDiff, reduceCtorEq, ↓reduceIte]
        rw [List.take_length, List.take_of_length_le hle] at hv
        rw [a4A, hx, hv, hs]
        first | exact ⟨rfl, _, rfl⟩ | exact ⟨_, rfl⟩ | exact ⟨trivial, _, rfl⟩
      | succ k ih =>
        intro i c x hik hx lx hc hv
        refine Safe.inLoop (Safe.seq (Safe.region ?_))
        simp only [b4X, E1, Nat.reduceAdd, Nat.reduceEqDiff, reduceCtorEq, ↓reduceIte]
        refine Safe.seq (Safe.cond ?_)
        have hlt : (i : Int) < (a.length : Int) := by omega
        simp only [E1, Nat.reduceAdd, Nat.reduceEqDiff, reduceCtorEq, ↓reduceIte, hlt]
        refine Safe.skip (Safe.seq (Safe.block (Safe.seq (Safe.region ?_))))
        simp only [c2x, E1, Nat.reduceAdd, Nat.reduceEqDiff, reduceCtorEq, ↓reduceIte]
        refine Safe.seq (Safe.region ?_)
        have xa := a1W la i
        have xb := a1W lb i
        have h1w : IntKind.wrap .u64 ((a.getD i 0 : Nat) : Int) = ((a.getD i 0 : Nat) : Int) := a1I (by omega) (by omega)
        have h2w : IntKind.wrap .u64 ((c : Int) + ((a.getD i 0 : Nat) : Int)) = ((c + a.getD i 0 : Nat) : Int) := by rw [a1I] <;> omega
        simp only [c2w, E1, Nat.reduceAdd, Nat.reduceEqDiff, reduceCtorEq, ↓reduceIte, a0Q _ a _ i (by omega), h1w, h2w]
        refine Safe.seq (Safe.seq (Safe.region ?_))
        simp only [c2v, E1, Nat.reduceAdd, Nat.reduceEqDiff, reduceCtorEq, ↓reduceIte]
        refine Safe.cond ?_
        simp only [E1, Nat.reduceAdd, Nat.reduceEqDiff, reduceCtorEq, ↓reduceIte]
        have rest : ∀ env : Env, look env 0 = natV a → look env 1 = natV b → look env 5 = .mu (lid H 0) 0 (a.length + 1) (some (a.length + 1)) → look env 6 = .int .u64 (c + a.getD i 0 + b.getD i 0 : Nat) → look env 7 = .int .i64 i → look env 20 = .int .i64 a.length → look env 21 = .int .i64 i →
            Safe ⟨Pr, fun _ _ => false, a7c, 58, [.tmp 4], H.length⟩ [.code ((ACode.region b2t false).seq (.region b2r false)), .inBlock 1, .code (.region b2q false), .inLoop b0f, .inBlock 0, .code ((ACode.region a5b false).seq ((ACode.region a5a false).seq .ret))]
              env (hap H [some ⟨1, u32s (x ++ List.replicate (k + 1 + 1) 0)⟩]) fun r' H' => r' = natV (limbs s) ∧ ∃ L, H' = hap H L := by
          intro env e0 e1 e5 e6 e7 e20 e21
          refine Safe.seq (Safe.region ?_)
          have hcw : IntKind.wrap .u32 ((c + a.getD i 0 + b.getD i 0 : Nat) : Int) = (((c + a.getD i 0 + b.getD i 0) % LB : Nat) : Int) := a2m _
          simp only [b2t, E1, Nat.reduceAdd, Nat.reduceEqDiff, reduceCtorEq, ↓reduceIte, e5, e6, e7, b4M _ _ _ _ _ _ i (show i < a.length + 1 by omega), hcw, c5n _ _ _ i _ (show i < (x ++ List.replicate (k + 1 + 1) 0).length by simp [hx] <;> omega)]
          refine Safe.region ?_
          have hs32 : Int.fdiv ((c + a.getD i 0 + b.getD i 0 : Nat) : Int) (2 ^ min (Int.toNat 32) IntKind.u64.bits) = (((c + a.getD i 0 + b.getD i 0) / LB : Nat) : Int) := by
            rw [show (2 : Int) ^ min (Int.toNat 32) IntKind.u64.bits = (LB : Int) by decide, Int.fdiv_eq_ediv_of_nonneg _ (by decide)]; rfl
          simp only [b2r, E1, Nat.reduceAdd, Nat.reduceEqDiff, reduceCtorEq, ↓reduceIte, e6, a4e _ _ _ (show (0 : Int) ≤ 32 by decide), hs32]
          refine Safe.inBlock (Safe.region ?_)
          have hiw : IntKind.wrap .i64 ((i : Int) + 1) = ((i + 1 : Nat) : Int) := by rw [a0b] <;> omega
          simp only [b2q, E1, Nat.reduceAdd, Nat.reduceEqDiff, reduceCtorEq, ↓reduceIte, e21, hiw]
          refine Safe.keep [0, 1, 5, 6, 20, 21] ?_
          simp only [E1, Nat.reduceAdd, Nat.reduceEqDiff, reduceCtorEq, ↓reduceIte, e0, e1, e5, e20]
          have hset : (x ++ List.replicate (k + 1 + 1) 0).set i ((c + a.getD i 0 + b.getD i 0) % LB) = (x ++ [(c + a.getD i 0 + b.getD i 0) % LB]) ++ List.replicate (k + 1) 0 := by subst hx; exact c3n _ _ _
          rw [hset]
          refine ih (i + 1) _ _ (by omega) (by simp [hx]) (a3b lx (Nat.mod_lt _ (by decide))) ?_ ?_
          · have : c + a.getD i 0 + b.getD i 0 < LB * 2 := by omega
            have := Nat.div_lt_of_lt_mul this
            omega
          · rw [a4A, hx, a0u, a0u, Nat.pow_succ]
            exact c8D (i := 0) hv
        by_cases hib : i < b.length
        · have hib' : (i : Int) < (b.length : Int) := by omega
          simp only [hib', E1, Nat.reduceAdd, Nat.reduceEqDiff, reduceCtorEq, ↓reduceIte]
          refine Safe.region ?_
          have h3w : IntKind.wrap .u64 ((b.getD i 0 : Nat) : Int) = ((b.getD i 0 : Nat) : Int) := a1I (by omega) (by omega)
          have h4w : IntKind.wrap .u64 (((c + a.getD i 0 : Nat) : Int) + ((b.getD i 0 : Nat) : Int)) = ((c + a.getD i 0 + b.getD i 0 : Nat) : Int) := by rw [a1I] <;> omega
          simp only [b9n, E1, Nat.reduceAdd, Nat.reduceEqDiff, reduceCtorEq, ↓reduceIte, a0Q _ b _ i hib, h3w, h4w]
          exact rest _ (by simp only [E1, Nat.reduceAdd, Nat.reduceEqDiff, reduceCtorEq, ↓reduceIte]) (by simp only [E1, Nat.reduceAdd, Nat.reduceEqDiff, reduceCtorEq, ↓reduceIte]) (by simp only [E1, Nat.reduceAdd, Nat.reduceEqDiff, reduceCtorEq, ↓reduceIte]) (by simp only [E1, Nat.reduceAdd, Nat.reduceEqDiff, reduceCtorEq, ↓reduceIte]) (by simp only [E1, Nat.reduceAdd, Nat.reduceEqDiff, reduceCtorEq, ↓reduceIte]) (by simp only [E1, Nat.reduceAdd, Nat.reduceEqDiff, reduceCtorEq, ↓reduceIte]) (by simp only [E1, Nat.reduceAdd, Nat.reduceEqDiff, reduceCtorEq, ↓reduceIte])
        · have hib' : ¬ (i : Int) < (b.length : Int) := by omega
          simp only [hib', E1, Nat.reduceAdd, Nat.reduceEqDiff, reduceCtorEq, ↓reduceIte]
          have hz : b.getD i 0 = 0 := by rw [List.getD_eq_getElem?_getD, List.getElem?_eq_none (by omega)]; rfl
          refine Safe.skip (rest _ (by simp only [E1, Nat.reduceAdd, Nat.reduceEqDiff, reduceCtorEq, ↓reduceIte]) (by simp only [E1, Nat.reduceAdd, Nat.reduceEqDiff, reduceCtorEq, ↓reduceIte]) (by simp only [E1, Nat.reduceAdd, Nat.reduceEqDiff, reduceCtorEq, ↓reduceIte]) (by simp only [E1, Nat.reduceAdd, Nat.reduceEqDiff, reduceCtorEq, ↓reduceIte, hz]) (by simp only [E1, Nat.reduceAdd, Nat.reduceEqDiff, reduceCtorEq, ↓reduceIte]) (by simp only [E1, Nat.reduceAdd, Nat.reduceEqDiff, reduceCtorEq, ↓reduceIte]) (by simp only [E1, Nat.reduceAdd, Nat.reduceEqDiff, reduceCtorEq, ↓reduceIte]))
    refine Safe.keep [0, 1, 5, 6, 20, 21] ?_
    simp only [E1, Nat.reduceAdd, Nat.reduceEqDiff, reduceCtorEq, ↓reduceIte, h0, h1]
    exact key a.length 0 0 [] (by omega) rfl c3F (by omega) (by simp [val])
  refine Safe.seq (Safe.seq (Safe.region ?_))
  simp only [c2z, E1, Nat.reduceAdd, Nat.reduceEqDiff, reduceCtorEq, ↓reduceIte]
  refine Safe.cond ?_
  simp only [E1, Nat.reduceAdd, Nat.reduceEqDiff, reduceCtorEq, ↓reduceIte]
  by_cases hlt : a.length < b.length
  · have hlt' : (a.length : Int) < (b.length : Int) := by omega
    simp only [hlt', E1, Nat.reduceAdd, Nat.reduceEqDiff, reduceCtorEq, ↓reduceIte]
    refine Safe.region ?_
    simp only [c2y, E1, Nat.reduceAdd, Nat.reduceEqDiff, reduceCtorEq, ↓reduceIte]
    exact main b a _ _ lb la (by omega) hb (Nat.add_comm _ _) (by simp only [E1, Nat.reduceAdd, Nat.reduceEqDiff, reduceCtorEq, ↓reduceIte]) (by simp only [E1, Nat.reduceAdd, Nat.reduceEqDiff, reduceCtorEq, ↓reduceIte])
  · have hlt' : ¬ (a.length : Int) < (b.length : Int) := by omega
    simp only [hlt', E1, Nat.reduceAdd, Nat.reduceEqDiff, reduceCtorEq, ↓reduceIte]
    exact Safe.skip (main a b _ _ la lb (by omega) ha rfl (by simp only [E1, Nat.reduceAdd, Nat.reduceEqDiff, reduceCtorEq, ↓reduceIte]) (by simp only [E1, Nat.reduceAdd, Nat.reduceEqDiff, reduceCtorEq, ↓reduceIte]))
theorem c5p (a b : List Nat) (la : Lim a) (lb : Lim b) (ha : a.length ≤ 17592186044416) (hb : b.length ≤ a.length) (hv : val b ≤ val a) : a0f Pr a6Z [natV a, natV b] (natV (limbs (val a - val b))) := by
  refine a0f.intro c7n c7m (by simp only [List.length_cons, List.length_nil]; omega) (a2I _) fun H hH => ?_
  refine Safe.seq (Safe.region ?_)
  have hLB : LB = 4294967296 := rfl
  simp only [b8P, E1, Nat.reduceAdd, Nat.reduceEqDiff, reduceCtorEq, ↓reduceIte]
  refine Safe.seq (Safe.region ?_)
  simp only [b8O, E1, Nat.reduceAdd, Nat.reduceEqDiff, reduceCtorEq, ↓reduceIte, b3n _ H [] _ _ a.length (by omega)]
  refine Safe.seq (Safe.region ?_)
  simp only [b8N, E1, Nat.reduceAdd, Nat.reduceEqDiff, reduceCtorEq, ↓reduceIte]
  refine Safe.seq (Safe.seq (Safe.region ?_))
  simp only [b8M, E1, Nat.reduceAdd, Nat.reduceEqDiff, reduceCtorEq, ↓reduceIte]
  refine Safe.block (Safe.loop ?_)
  have key : ∀ (k i c : Nat) (x : List Nat), i + k = a.length → x.length = i → Lim x → c ≤ 1 → val (a.take i) + LB ^ i * c = val x + val (b.take i) →
        Safe ⟨Pr, fun _ _ => false, a6Z, 45, [.tmp 4], H.length⟩ [.inLoop b2m, .inBlock 0, .code ((ACode.region a5J false).seq .ret)]
          [(0, natV a), (1, natV b), (5, .mu (lid H 0) 0 a.length (some a.length)), (6, .int .u64 c), (13, .int .i64 a.length), (14, .int .i64 i)]
          (hap H [some ⟨1, u32s (x ++ List.replicate k 0)⟩]) fun r' H' => r' = natV (limbs (val a - val b)) ∧ ∃ L, H' = hap H L := by
    intro k
    induction k with
    | zero =>
      intro i c x hik hx lx hc hv2
      have hi : i = a.length := by omega
      subst hi
      refine Safe.inLoop (Safe.seq (Safe.region ?_))
      simp only [b2l, E1, Nat.reduceAdd, Nat.reduceEqDiff, reduceCtorEq, ↓reduceIte]
      refine Safe.seq (Safe.cond ?_)
      simp only [E1, Nat.reduceAdd, Nat.reduceEqDiff, reduceCtorEq, ↓reduceIte, Int.lt_irrefl]
      refine Safe.exit rfl ?_
      simp only [List.replicate_zero, List.append_nil]
      refine Safe.freeze 0 (b := ⟨1, u32s x⟩) hH rfl rfl (a0t _) ?_
      refine Safe.seq (Safe.region ?_)
      simp only [a5J, E1, Nat.reduceAdd, Nat.reduceEqDiff, reduceCtorEq, ↓reduceIte, ← hx]
      refine (a0r x lx (by omega)).acall ?_
      try simp only [E1, Nat.reduceAdd, Nat.reduceEqDiff, reduceCtorEq, ↓reduceIte]
      refine Safe.retn ?_
      simp only [E1, Nat.reduceAdd, Nat.reduceEqDiff, reduceCtorEq, ↓reduceIte]
      rw [List.take_length, List.take_of_length_le hb] at hv2
      have h1 := a1P lx
      rw [hx] at h1
      have hc0 : c = 0 := by
        rcases Nat.eq_zero_or_pos c with h | h
        · exact h
        · have : c = 1 := by omega
          subst this
          omega
      subst hc0
      have : val x = val a - val b := by omega
      rw [this]
      first | exact ⟨rfl, _, rfl⟩ | exact ⟨_, rfl⟩ | exact ⟨trivial, _, rfl⟩
    | succ k ih =>
      intro i c x hik hx lx hc hv2
      refine Safe.inLoop (Safe.seq (Safe.region ?_))
      simp only [b2l, E1, Nat.reduceAdd, Nat.reduceEqDiff, reduceCtorEq, ↓reduceIte]
      refine Safe.seq (Safe.cond ?_)
      have hlt : (i : Int) < (a.length : Int) := by omega
      simp only [E1, Nat.reduceAdd, Nat.reduceEqDiff, reduceCtorEq, ↓reduceIte, hlt]
      refine Safe.skip (Safe.seq (Safe.block (Safe.seq (Safe.region ?_))))
      simp only [b8L, E1, Nat.reduceAdd, Nat.reduceEqDiff, reduceCtorEq, ↓reduceIte]
      refine Safe.seq (Safe.region ?_)
      have xa := a1W la i
      have xb := a1W lb i
      have h1w : IntKind.wrap .u64 ((a.getD i 0 : Nat) : Int) = ((a.getD i 0 : Nat) : Int) := a1I (by omega) (by omega)
      simp only [b8K, E1, Nat.reduceAdd, Nat.reduceEqDiff, reduceCtorEq, ↓reduceIte, a0Q _ a _ i (by omega), h1w]
      refine Safe.seq (Safe.seq (Safe.region ?_))
      simp only [b8J, E1, Nat.reduceAdd, Nat.reduceEqDiff, reduceCtorEq, ↓reduceIte]
      refine Safe.cond ?_
      simp only [E1, Nat.reduceAdd, Nat.reduceEqDiff, reduceCtorEq, ↓reduceIte]
      have rest : ∀ env : Env, look env 0 = natV a → look env 1 = natV b → look env 5 = .mu (lid H 0) 0 a.length (some a.length) → look env 8 = .int .u64 (((a.getD i 0 : Nat) - (c : Int) - (b.getD i 0 : Nat)) % 18446744073709551616) → look env 7 = .int .i64 i → look env 13 = .int .i64 a.length → look env 14 = .int .i64 i →
            Safe ⟨Pr, fun _ _ => false, a6Z, 45, [.tmp 4], H.length⟩ [.code ((ACode.region b2k false).seq (.region a8M false)), .inBlock 1, .code (.region a8L false), .inLoop b2m, .inBlock 0, .code ((ACode.region a5J false).seq .ret)]
              env (hap H [some ⟨1, u32s (x ++ List.replicate (k + 1) 0)⟩]) fun r' H' => r' = natV (limbs (val a - val b)) ∧ ∃ L, H' = hap H L := by
        intro env e0 e1 e5 e8 e7 e13 e14
        refine Safe.seq (Safe.region ?_)
        obtain ⟨d, bo, hd, hbo, hdl, hD, hB⟩ : ∃ d bo : Nat, a.getD i 0 + LB * bo = d + c + b.getD i 0 ∧ bo ≤ 1 ∧ d < LB ∧ (((a.getD i 0 : Nat) - (c : Int) - (b.getD i 0 : Nat)) % 18446744073709551616) % 4294967296 = (d : Int) ∧ (((a.getD i 0 : Nat) - (c : Int) - (b.getD i 0 : Nat)) % 18446744073709551616) / 9223372036854775808 = (bo : Int) := by
          by_cases hlt : a.getD i 0 < c + b.getD i 0
          · exact ⟨a.getD i 0 + LB - c - b.getD i 0, 1, by omega, by omega, by omega, by omega, by omega⟩
          · exact ⟨a.getD i 0 - c - b.getD i 0, 0, by omega, by omega, by omega, by omega, by omega⟩
        simp only [b2k, E1, Nat.reduceAdd, Nat.reduceEqDiff, reduceCtorEq, ↓reduceIte, e5, e8, e7, b4M _ _ _ _ _ _ i (show i < a.length by omega), b2W, hD, c5n _ _ _ i _ (show i < (x ++ List.replicate (k + 1) 0).length by simp [hx])]
        refine Safe.region ?_
        have hs63 : ∀ n : Int, Int.fdiv n (2 ^ min (Int.toNat 63) IntKind.u64.bits) = n / 9223372036854775808 := by
          intro n
          rw [show (2 : Int) ^ min (Int.toNat 63) IntKind.u64.bits = 9223372036854775808 by decide, Int.fdiv_eq_ediv_of_nonneg _ (by decide)]
        simp only [a8M, E1, Nat.reduceAdd, Nat.reduceEqDiff, reduceCtorEq, ↓reduceIte, e8, a4e _ _ _ (show (0 : Int) ≤ 63 by decide), hs63, hB]
        refine Safe.inBlock (Safe.region ?_)
        have hiw : IntKind.wrap .i64 ((i : Int) + 1) = ((i + 1 : Nat) : Int) := by rw [a0b] <;> omega
        simp only [a8L, E1, Nat.reduceAdd, Nat.reduceEqDiff, reduceCtorEq, ↓reduceIte, e14, hiw]
        refine Safe.keep [0, 1, 5, 6, 13, 14] ?_
        simp only [E1, Nat.reduceAdd, Nat.reduceEqDiff, reduceCtorEq, ↓reduceIte, e0, e1, e5, e13]
        have hset : (x ++ List.replicate (k + 1) 0).set i d = (x ++ [d]) ++ List.replicate k 0 := by subst hx; exact c3n _ _ _
        rw [hset]
        refine ih (i + 1) bo _ (by omega) (by simp [hx]) (a3b lx hdl) hbo ?_
        rw [a4A, hx, a0u, a0u, Nat.pow_succ]
        exact d3v hv2 hd
      by_cases hib : i < b.length
      · have hib' : (i : Int) < (b.length : Int) := by omega
        simp only [hib', E1, Nat.reduceAdd, Nat.reduceEqDiff, reduceCtorEq, ↓reduceIte]
        refine Safe.region ?_
        have h3w : IntKind.wrap .u64 ((b.getD i 0 : Nat) : Int) = ((b.getD i 0 : Nat) : Int) := a1I (by omega) (by omega)
        have h4w : IntKind.wrap .u64 (IntKind.wrap .u64 (((a.getD i 0 : Nat) : Int) - c) - ((b.getD i 0 : Nat) : Int)) = ((a.getD i 0 : Nat) - (c : Int) - (b.getD i 0 : Nat)) % 18446744073709551616 := by
          rw [a1O, a1O]; omega
        simp only [b8I, E1, Nat.reduceAdd, Nat.reduceEqDiff, reduceCtorEq, ↓reduceIte, a0Q _ b _ i hib, h3w, h4w]
        exact rest _ (by simp only [E1, Nat.reduceAdd, Nat.reduceEqDiff, reduceCtorEq, ↓reduceIte]) (by simp only [E1, Nat.reduceAdd, Nat.reduceEqDiff, reduceCtorEq, ↓reduceIte]) (by simp only [E1, Nat.reduceAdd, Nat.reduceEqDiff, reduceCtorEq, ↓reduceIte]) (by simp only [E1, Nat.reduceAdd, Nat.reduceEqDiff, reduceCtorEq, ↓reduceIte]) (by simp only [E1, Nat.reduceAdd, Nat.reduceEqDiff, reduceCtorEq, ↓reduceIte]) (by simp only [E1, Nat.reduceAdd, Nat.reduceEqDiff, reduceCtorEq, ↓reduceIte]) (by simp only [E1, Nat.reduceAdd, Nat.reduceEqDiff, reduceCtorEq, ↓reduceIte])
      · have hib' : ¬ (i : Int) < (b.length : Int) := by omega
        simp only [hib', E1, Nat.reduceAdd, Nat.reduceEqDiff, reduceCtorEq, ↓reduceIte]
        have hz : b.getD i 0 = 0 := by rw [List.getD_eq_getElem?_getD, List.getElem?_eq_none (by omega)]; rfl
        refine Safe.skip (rest _ (by simp only [E1, Nat.reduceAdd, Nat.reduceEqDiff, reduceCtorEq, ↓reduceIte]) (by simp only [E1, Nat.reduceAdd, Nat.reduceEqDiff, reduceCtorEq, ↓reduceIte]) (by simp only [E1, Nat.reduceAdd, Nat.reduceEqDiff, reduceCtorEq, ↓reduceIte]) (by simp only [E1, Nat.reduceAdd, Nat.reduceEqDiff, reduceCtorEq, ↓reduceIte, hz, a1O]; simp) (by simp only [E1, Nat.reduceAdd, Nat.reduceEqDiff, reduceCtorEq, ↓reduceIte]) (by simp only [E1, Nat.reduceAdd, Nat.reduceEqDiff, reduceCtorEq, ↓reduceIte]) (by simp only [E1, Nat.reduceAdd, Nat.reduceEqDiff, reduceCtorEq, ↓reduceIte]))
  refine Safe.keep [0, 1, 5, 6, 13, 14] ?_
  simp only [E1, Nat.reduceAdd, Nat.reduceEqDiff, reduceCtorEq, ↓reduceIte]
  exact key a.length 0 0 [] (by omega) rfl c3F (by omega) (by simp [val])
theorem b8y (a b : List Nat) (ha : Nt a) (hb : Nt b) (hv : val b ≤ val a) : a0f Pr c0D [natV a, natV b] (.tup [natV (limbs (val a - val b)), .int .i64 0]) := by
  refine a0f.intro d0P d0O (by simp only [List.length_cons, List.length_nil]; omega) (.tup _ (by intro c hc; simp at hc; rcases hc with rfl | rfl; exact a2I _; exact .int _ _)) fun H hH => ?_
  refine Safe.seq (Safe.region ?_)
  simp only [c1N, E1, seval]
  refine Safe.seq (Safe.seq (Safe.region ?_))
  simp only [c1M, E1, seval]
  refine (a7o a b ha hb).acall ?_
  have h0 : ¬ (cmpI (val a) (val b) < 0) := by unfold cmpI; split <;> (try split) <;> omega
  simp only [E1, seval, h0]
  refine Safe.cond ?_
  simp only [E1, seval]
  refine Safe.skip (Safe.seq (Safe.region ?_))
  simp only [c1L, E1, seval]
  refine (a0r a ha.lim ha.len).acall ?_
  try simp only [E1, seval]
  refine (a0r b hb.lim hb.len).acall ?_
  try simp only [E1, seval]
  have hlen : (limbs (val b)).length ≤ (limbs (val a)).length := by
    rcases Nat.lt_or_ge (limbs (val a)).length (limbs (val b)).length with h | h
    · have := b4E h; omega
    · exact h
  have := c5p (limbs (val a)) (limbs (val b)) (a0w _) (a0w _) ha.limbs.len hlen (by rw [a0i, a0i]; exact hv)
  rw [a0i, a0i] at this
  refine this.acall ?_
  try simp only [E1, seval]
  refine Safe.retn ?_
  simp only [E1, seval]
  first | exact ⟨rfl, _, rfl⟩ | exact ⟨_, rfl⟩ | exact ⟨trivial, _, rfl⟩
theorem d5w (w r : List Nat) (k d : Nat) (h : k < w.length) : (w ++ r).set k d = w.set k d ++ r := List.set_append_left _ _ h
theorem d3U (w r : List Nat) (k : Nat) (h : k < w.length) : (w ++ r).getD k 0 = w.getD k 0 := by
  simp [List.getElem?_append_left h]
theorem c7j (a b : List Nat) (ha : Nt a) (hb : Nt b) (hab : a.length + b.length ≤ 17592186044416) : a0f Pr a7b [natV a, natV b] (natV (limbs (val a * val b))) := by
  refine a0f.intro d0S d0R (by simp only [List.length_cons, List.length_nil]; omega) (a2I _) fun H hH => ?_
  refine Safe.seq (Safe.region ?_)
  have hLB : LB = 4294967296 := rfl
  simp only [c1V, E1, Nat.reduceAdd, Nat.reduceEqDiff, reduceCtorEq, ↓reduceIte]
  refine Safe.seq (Safe.region ?_)
  simp only [c1U, E1, Nat.reduceAdd, Nat.reduceEqDiff, reduceCtorEq, ↓reduceIte]
  refine (a0r a ha.lim ha.len).acall ?_
  try simp only [E1, Nat.reduceAdd, Nat.reduceEqDiff, reduceCtorEq, ↓reduceIte]
  refine (a0r b hb.lim hb.len).acall ?_
  try simp only [E1, Nat.reduceAdd, Nat.reduceEqDiff, reduceCtorEq, ↓reduceIte]
  have la := a0w (val a)
  have lb := a0w (val b)
  have va := a0i (val a)
  have vb := a0i (val b)
  have hA := a1z ha.lim
  have hB := a1z hb.lim
  generalize limbs (val a) = A at la va hA ⊢
  generalize limbs (val b) = B at lb vb hB ⊢
  refine Safe.keep [0, 1] (Safe.seq (Safe.region ?_))
  have hw : IntKind.wrap .i64 ((A.length : Int) + (B.length : Int)) = ((A.length + B.length : Nat) : Int) := by rw [a0b] <;> omega
  simp only [c1T, E1, Nat.reduceAdd, Nat.reduceEqDiff, reduceCtorEq, ↓reduceIte, hw, b3n _ H [] _ _ (A.length + B.length) (by omega)]
  refine Safe.seq (Safe.seq (Safe.region ?_))
  simp only [c1S, E1, Nat.reduceAdd, Nat.reduceEqDiff, reduceCtorEq, ↓reduceIte]
  refine Safe.block (Safe.loop ?_)
  -- the inner loop
  have inner : ∀ (todo : List AItem) (i x : Nat) (z vx : Nat), i < A.length → x = A.getD i 0 → 
      (∀ (w : List Nat) (c : Nat) (env : Env), w.length = i + B.length → Lim w → c < LB → val w + LB ^ (i + B.length) * c = vx + LB ^ i * (x * val B) →
        look env 0 = natV A → look env 1 = natV B → look env 5 = .mu (lid H 0) 0 (A.length + B.length) (some (A.length + B.length)) → look env 6 = .int .i64 i → look env 7 = .int .u64 c → look env 20 = .int .i64 A.length → look env 21 = .int .i64 i →
        Safe ⟨Pr, fun _ _ => false, a7b, 71, [.tmp 4], H.length⟩ todo env (hap H [some ⟨1, u32s (w ++ List.replicate z 0)⟩]) fun r' H' => r' = natV (limbs (val a * val b)) ∧ ∃ L, H' = hap H L) →
      ∀ (k j c : Nat) (w : List Nat), j + k = B.length → w.length = i + B.length → Lim w → c < LB → val w + LB ^ (i + j) * c = vx + LB ^ i * (x * val (B.take j)) →
        Safe ⟨Pr, fun _ _ => false, a7b, 71, [.tmp 4], H.length⟩ (.inLoop c1W :: .inBlock 2 :: todo)
          [(0, natV A), (1, natV B), (5, .mu (lid H 0) 0 (A.length + B.length) (some (A.length + B.length))), (6, .int .i64 i), (7, .int .u64 c), (20, .int .i64 A.length), (21, .int .i64 i), (25, .int .i64 B.length), (26, .int .i64 j)]
          (hap H [some ⟨1, u32s (w ++ List.replicate z 0)⟩]) fun r' H' => r' = natV (limbs (val a * val b)) ∧ ∃ L, H' = hap H L := by
    intro todo i x z vx hi hx hk k
    induction k with
    | zero =>
      intro j c w hjk hw lw hc hv
      have hj : j = B.length := by omega
      subst hj
      refine Safe.inLoop (Safe.seq (Safe.region ?_))
      simp only [b4S, E1, Nat.reduceAdd, Nat.reduceEqDiff, reduceCtorEq, ↓reduceIte]
      refine Safe.seq (Safe.cond ?_)
      simp only [E1, Nat.reduceAdd, Nat.reduceEqDiff, reduceCtorEq, ↓reduceIte, Int.lt_irrefl]
      refine Safe.exit rfl ?_
      rw [List.take_length] at hv
      exact hk w c _ hw lw hc hv (by simp only [E1, Nat.reduceAdd, Nat.reduceEqDiff, reduceCtorEq, ↓reduceIte]) (by simp only [E1, Nat.reduceAdd, Nat.reduceEqDiff, reduceCtorEq, ↓reduceIte]) (by simp only [E1, Nat.reduceAdd, Nat.reduceEqDiff, reduceCtorEq, ↓reduceIte]) (by simp only [E1, Nat.reduceAdd, Nat.reduceEqDiff, reduceCtorEq, ↓reduceIte]) (by simp only [E1, Nat.reduceAdd, Nat.reduceEqDiff, reduceCtorEq, ↓reduceIte]) (by simp only [E1, Nat.reduceAdd, Nat.reduceEqDiff, reduceCtorEq, ↓reduceIte]) (by simp only [E1, Nat.reduceAdd, Nat.reduceEqDiff, reduceCtorEq, ↓reduceIte])
    | succ k ih =>
      intro j c w hjk hw lw hc hv
      refine Safe.inLoop (Safe.seq (Safe.region ?_))
      simp only [b4S, E1, Nat.reduceAdd, Nat.reduceEqDiff, reduceCtorEq, ↓reduceIte]
      refine Safe.seq (Safe.cond ?_)
      have hlt : (j : Int) < (B.length : Int) := by omega
      simp only [E1, Nat.reduceAdd, Nat.reduceEqDiff, reduceCtorEq, ↓reduceIte, hlt]
      refine Safe.skip (Safe.seq (Safe.block (Safe.seq (Safe.region ?_))))
      simp only [c1O, E1, Nat.reduceAdd, Nat.reduceEqDiff, reduceCtorEq, ↓reduceIte]
      refine Safe.seq (Safe.regionD ?_)
      have xa := a1W la i
      have xb := a1W lb j
      have xw := a1W lw (i + j)
      have hfit := d6j hc xa xb xw
      have hLL : LB * LB = 18446744073709551616 := by decide
      have h1w : IntKind.wrap .u64 ((A.getD i 0 : Nat) : Int) = ((A.getD i 0 : Nat) : Int) := a1I (by omega) (by omega)
      have h2w : IntKind.wrap .u64 ((B.getD j 0 : Nat) : Int) = ((B.getD j 0 : Nat) : Int) := a1I (by omega) (by omega)
      have h3w : IntKind.wrap .u64 ((w.getD (i + j) 0 : Nat) : Int) = ((w.getD (i + j) 0 : Nat) : Int) := a1I (by omega) (by omega)
      have h4w : IntKind.wrap .u64 (((A.getD i 0 : Nat) : Int) * ((B.getD j 0 : Nat) : Int)) = ((A.getD i 0 * B.getD j 0 : Nat) : Int) := by rw [← Int.natCast_mul, a1I] <;> omega
      have h5w : IntKind.wrap .u64 (((A.getD i 0 * B.getD j 0 : Nat) : Int) + ((w.getD (i + j) 0 : Nat) : Int)) = ((A.getD i 0 * B.getD j 0 + w.getD (i + j) 0 : Nat) : Int) := by rw [a1I] <;> omega
      have h6w : IntKind.wrap .u64 ((c : Int) + ((A.getD i 0 * B.getD j 0 + w.getD (i + j) 0 : Nat) : Int)) = ((c + A.getD i 0 * B.getD j 0 + w.getD (i + j) 0 : Nat) : Int) := by rw [a1I] <;> omega
      have h7w : IntKind.wrap .i64 ((i : Int) + (j : Int)) = ((i + j : Nat) : Int) := by rw [a0b] <;> omega
      simp only [b8X, E1, Nat.reduceAdd, Nat.reduceEqDiff, reduceCtorEq, ↓reduceIte, a0Q _ A _ i hi, a0Q _ B _ j (by omega), h1w, h2w, h3w, h4w, h7w, b4M _ _ _ _ _ _ (i + j) (show i + j < A.length + B.length by omega), e1u _ _ (i + j) (show i + j < (w ++ List.replicate z 0).length by simp [hw]; omega),
        d3U w _ (i + j) (show i + j < w.length by omega), h5w, h6w]
      refine Safe.seq (Safe.region ?_)
      have hcw : IntKind.wrap .u32 ((c + A.getD i 0 * B.getD j 0 + w.getD (i + j) 0 : Nat) : Int) = (((c + A.getD i 0 * B.getD j 0 + w.getD (i + j) 0) % LB : Nat) : Int) := a2m _
      simp only [b8W, E1, Nat.reduceAdd, Nat.reduceEqDiff, reduceCtorEq, ↓reduceIte, h7w, hcw, b4M _ _ _ _ _ _ (i + j) (show i + j < A.length + B.length by omega), c5n _ _ _ (i + j) _ (show i + j < (w ++ List.replicate z 0).length by simp [hw]; omega), d5w w _ (i + j) _ (show i + j < w.length by omega)]
      refine Safe.region ?_
      simp only [b8V, E1, Nat.reduceAdd, Nat.reduceEqDiff, reduceCtorEq, ↓reduceIte, a4e _ _ _ (show (0 : Int) ≤ 32 by decide), e0V]
      refine Safe.inBlock (Safe.region ?_)
      have hiw : IntKind.wrap .i64 ((j : Int) + 1) = ((j + 1 : Nat) : Int) := by rw [a0b] <;> omega
      simp only [b8U, E1, Nat.reduceAdd, Nat.reduceEqDiff, reduceCtorEq, ↓reduceIte, hiw]
      refine Safe.keep [0, 1, 5, 6, 7, 20, 21, 25, 26] ?_
      simp only [E1, Nat.reduceAdd, Nat.reduceEqDiff, reduceCtorEq, ↓reduceIte]
      refine ih (j + 1) _ _ (by omega) (by simp [hw]) (d9j lw (Nat.mod_lt _ (by decide))) ?_ ?_
      · exact Nat.div_lt_of_lt_mul hfit
      · rw [a0u, show i + (j + 1) = (i + j) + 1 by omega, Nat.pow_succ]
        subst hx
        exact d6i (Nat.pow_add LB i j) hv (d8r (by omega)) rfl
  have outer : ∀ (k i : Nat) (x : List Nat), i + k = A.length → x.length = i + B.length → Lim x → val x = val (A.take i) * val B →
        Safe ⟨Pr, fun _ _ => false, a7b, 71, [.tmp 4], H.length⟩ [.inLoop c1X, .inBlock 0, .code ((ACode.region b2n false).seq .ret)]
          [(0, natV A), (1, natV B), (5, .mu (lid H 0) 0 (A.length + B.length) (some (A.length + B.length))), (20, .int .i64 A.length), (21, .int .i64 i)]
          (hap H [some ⟨1, u32s (x ++ List.replicate k 0)⟩]) fun r' H' => r' = natV (limbs (val a * val b)) ∧ ∃ L, H' = hap H L := by
    intro k
    induction k with
    | zero =>
      intro i x hik hx lx hv
      have hi : i = A.length := by omega
      subst hi
      refine Safe.inLoop (Safe.seq (Safe.region ?_))
      simp only [b4T, E1, Nat.reduceAdd, Nat.reduceEqDiff, reduceCtorEq, ↓reduceIte]
      refine Safe.seq (Safe.cond ?_)
      simp only [E1, Nat.reduceAdd, Nat.reduceEqDiff, reduceCtorEq, ↓reduceIte, Int.lt_irrefl]
      refine Safe.exit rfl ?_
      simp only [List.replicate_zero, List.append_nil]
      refine Safe.freeze 0 (b := ⟨1, u32s x⟩) hH rfl rfl (a0t _) ?_
      refine Safe.seq (Safe.region ?_)
      simp only [b2n, E1, Nat.reduceAdd, Nat.reduceEqDiff, reduceCtorEq, ↓reduceIte, ← hx]
      refine (a0r x lx (by omega)).acall ?_
      try simp only [E1, Nat.reduceAdd, Nat.reduceEqDiff, reduceCtorEq, ↓reduceIte]
      refine Safe.retn ?_
      simp only [E1, Nat.reduceAdd, Nat.reduceEqDiff, reduceCtorEq, ↓reduceIte]
      rw [List.take_length] at hv
      rw [hv, va, vb]
      first | exact ⟨rfl, _, rfl⟩ | exact ⟨_, rfl⟩ | exact ⟨trivial, _, rfl⟩
    | succ k ih =>
      intro i x hik hx lx hv
      refine Safe.inLoop (Safe.seq (Safe.region ?_))
      simp only [b4T, E1, Nat.reduceAdd, Nat.reduceEqDiff, reduceCtorEq, ↓reduceIte]
      refine Safe.seq (Safe.cond ?_)
      have hlt : (i : Int) < (A.length : Int) := by omega
      simp only [E1, Nat.reduceAdd, Nat.reduceEqDiff, reduceCtorEq, ↓reduceIte, hlt]
      refine Safe.skip (Safe.seq (Safe.block (Safe.seq (Safe.region ?_))))
      simp only [c1R, E1, Nat.reduceAdd, Nat.reduceEqDiff, reduceCtorEq, ↓reduceIte]
      refine Safe.seq (Safe.region ?_)
      simp only [c1Q, E1, Nat.reduceAdd, Nat.reduceEqDiff, reduceCtorEq, ↓reduceIte]
      refine Safe.seq (Safe.seq (Safe.region ?_))
      simp only [c1P, E1, Nat.reduceAdd, Nat.reduceEqDiff, reduceCtorEq, ↓reduceIte]
      refine Safe.block (Safe.loop ?_)
      refine Safe.keep [0, 1, 5, 6, 7, 20, 21, 25, 26] ?_
      simp only [E1, Nat.reduceAdd, Nat.reduceEqDiff, reduceCtorEq, ↓reduceIte]
      refine inner _ i _ (k + 1) (val x) (by omega) rfl ?_ B.length 0 0 x (by omega) hx lx (by decide) (by simp [val])
      intro w c env hw lw hc hv2 e0 e1 e5 e6 e7 e20 e21
      refine Safe.region ?_
      have h7w : IntKind.wrap .i64 ((i : Int) + (B.length : Int)) = ((i + B.length : Nat) : Int) := by rw [a0b] <;> omega
      have hcw : IntKind.wrap .u32 (c : Int) = (c : Int) := b7q (by omega) (by omega)
      simp only [b8T, E1, Nat.reduceAdd, Nat.reduceEqDiff, reduceCtorEq, ↓reduceIte, e0, e1, e5, e6, e7, h7w, hcw, b4M _ _ _ _ _ _ (i + B.length) (show i + B.length < A.length + B.length by omega), c5n _ _ _ (i + B.length) _ (show i + B.length < (w ++ List.replicate (k + 1) 0).length by simp [hw])]
      refine Safe.inBlock (Safe.region ?_)
      have hiw : IntKind.wrap .i64 ((i : Int) + 1) = ((i + 1 : Nat) : Int) := by rw [a0b] <;> omega
      simp only [b8S, E1, Nat.reduceAdd, Nat.reduceEqDiff, reduceCtorEq, ↓reduceIte, e21, hiw]
      refine Safe.keep [0, 1, 5, 20, 21] ?_
      simp only [E1, Nat.reduceAdd, Nat.reduceEqDiff, reduceCtorEq, ↓reduceIte, e0, e1, e5, e20]
      have hset : (w ++ List.replicate (k + 1) 0).set (i + B.length) c = (w ++ [c]) ++ List.replicate k 0 := by rw [← hw]; exact c3n _ _ _
      rw [hset]
      refine ih (i + 1) _ (by omega) (by simp [hw]; omega) (a3b lw hc) ?_
      rw [a4A, hw, hv2, a0u, hv, Nat.add_mul, Nat.mul_assoc]
  refine Safe.keep [0, 1, 5, 20, 21] ?_
  simp only [E1, Nat.reduceAdd, Nat.reduceEqDiff, reduceCtorEq, ↓reduceIte]
  have := outer A.length 0 (List.replicate B.length 0) (by omega) (by simp) (by intro d hd; simp at hd; omega) (by simp [c3i, val])
  rw [List.replicate_append_replicate, Nat.add_comm B.length] at this
  exact this
end Go.Abs
namespace Go.Abs
theorem a1K (neg : Bool) (l : List Nat) (hl : Nt l) : a0f Pr a0T [.bool neg, natV l] (Z (sgn neg (val l))) := by
  refine a0f.introL c4z c4y (by simp only [List.length_cons, List.length_nil]; omega) (Z_cl _) fun H hH => ?_
  have hll := hl.len
  refine Safe.seq (Safe.region ?_)
  simp only [b5O, E2, seval]
  refine Safe.seq (Safe.region ?_)
  simp only [b5N, E2, seval]
  refine Safe.seq (Safe.block (Safe.loop ?_))
  have copy : ∀ (n : Nat), n ≤ l.length → limbs (val l) = l.take n → ∀ env : Env, look env 0 = .bool neg → look env 1 = natV l → look env 4 = .loc (lid H 0) 0 0 → look env 5 = .int .i64 n →
      Safe ⟨Pr, fun _ _ => false, a0T, 32, [.cell 4 (some 2)], H.length⟩ [.code (((ACode.region a5H false).seq (.cond (.t 22) ((ACode.region a5G false).seq .ret) .skip)).seq ((ACode.region a5F false).seq ((ACode.region a5E false).seq ((ACode.region a5D false).seq .ret))))]
        env (hap H [some ⟨2, [.agg [.bool false, .nil]]⟩]) fun r' H' => Le r' (Z (sgn neg (val l))) ∧ ∃ L, H' = hap H L := by
    intro n hn hlim env e0 e1 e4 e5
    refine Safe.seq (Safe.seq (Safe.region ?_))
    simp only [a5H, E2, seval, e5]
    refine Safe.cond ?_
    simp only [E2, seval]
    by_cases h0 : n = 0
    · subst h0
      simp only [Int.natCast_zero, E2, seval]
      refine Safe.seq (Safe.region ?_)
      simp only [a5G, E2, seval, e4]
      refine Safe.retn ?_
      simp only [E2, seval, e4]
      refine ⟨?_, _, rfl⟩
      have : val l = 0 := by
        have := a0i (val l)
        rw [hlim] at this
        simpa [val] using this.symm
      rw [this, b7u]
      exact le_zero
    · have h0' : ¬ ((n : Int) = 0) := by omega
      simp only [h0', E2, seval]
      refine Safe.skip (Safe.seq (Safe.region ?_))
      simp only [a5F, E2, seval, e5, b3n _ H [some ⟨2, [.agg [.bool false, .nil]]⟩] _ _ n (by omega)]
      refine Safe.seq (Safe.region ?_)
      have hc := c9y ((28, .int .i64 n) :: []) H [some ⟨2, [.agg [.bool false, .nil]]⟩, some ⟨1, u32s (List.replicate n 0)⟩] 1 1 n (some n) (natV l) (u32s (List.replicate n 0)) (u32s l) rfl (by simp [a0M]) (b7z _ l) (by rw [a0M]; exact hn)
      simp only [a5E, E2, seval, e1]
      rw [c9y _ H [some ⟨2, [.agg [.bool false, .nil]]⟩, some ⟨1, u32s (List.replicate n 0)⟩] 1 1 n (some n) (natV l) (u32s (List.replicate n 0)) (u32s l) rfl (by simp [a0M]) (b7z _ l) (by rw [a0M]; exact hn)]
      simp only [E2, seval, b2Y]
      refine Safe.freeze 1 (b := ⟨1, u32s (l.take n)⟩) hH rfl rfl (a0t _) ?_
      have hlen : n = (l.take n).length := by rw [List.length_take]; omega
      have hfm : frz (lid H 1) ⟨1, u32s (l.take n)⟩ (.mu (lid H 1) 0 n (some n)) = natV (l.take n) := by
        have := b5y H 1 (l.take n) (some n)
        rwa [← hlen] at this
      refine Safe.keep [0, 4, 6] ?_
      simp only [E2, seval, c5F, e0, e4, hfm, a0E H 1 0 _ 0 0 (by decide)]
      refine Safe.seq (Safe.region ?_)
      simp only [a5D, E2, seval]
      refine Safe.retn ?_
      simp only [E2, seval]
      refine ⟨?_, _, rfl⟩
      rw [← e2C, hlim]
      have hp : 0 < val l := by
        rcases Nat.eq_zero_or_pos (val l) with h | h
        · rw [h, a0V] at hlim
          have := congrArg List.length hlim
          simp at this; omega
        · exact h
      simp only [hp, decide_true, Bool.and_true]
      exact Le.refl _
  have key : ∀ (n : Nat), n ≤ l.length → val (l.take n) = val l → ∀ env : Env, look env 0 = .bool neg → look env 1 = natV l → look env 4 = .loc (lid H 0) 0 0 → look env 5 = .int .i64 n →
      Safe ⟨Pr, fun _ _ => false, a0T, 32, [.cell 4 (some 2)], H.length⟩ [.inLoop b5P, .inBlock 0, .code (((ACode.region a5H false).seq (.cond (.t 22) ((ACode.region a5G false).seq .ret) .skip)).seq ((ACode.region a5F false).seq ((ACode.region a5E false).seq ((ACode.region a5D false).seq .ret))))]
        env (hap H [some ⟨2, [.agg [.bool false, .nil]]⟩]) fun r' H' => Le r' (Z (sgn neg (val l))) ∧ ∃ L, H' = hap H L := by
    intro n
    induction n with
    | zero =>
      intro hn hv env e0 e1 e4 e5
      refine Safe.inLoop (Safe.seq (Safe.seq (Safe.region ?_)))
      simp only [a8s, E2, seval, e1, e5, Int.natCast_zero, Int.lt_irrefl]
      refine Safe.cond ?_
      simp only [E2, seval]
      refine Safe.exit rfl (copy 0 hn ?_ _ (by simp only [E2, seval, e0]) (by simp only [E2, seval, e1]) (by simp only [E2, seval, e4]) (by simp only [E2, seval, e5] <;> rfl))
      rw [← hv]; simp [val, a0V]
    | succ n ih =>
      intro hn hv env e0 e1 e4 e5
      refine Safe.inLoop (Safe.seq (Safe.seq (Safe.region ?_)))
      have h0 : (0 : Int) < ((n + 1 : Nat) : Int) := by omega
      have hw : IntKind.wrap .i64 (((n + 1 : Nat) : Int) - 1) = (n : Int) := by rw [a0b] <;> omega
      simp only [a8s, E2, seval, e1, e5, h0, hw, a0Q _ l _ n (by omega)]
      refine Safe.cond ?_
      simp only [E2, seval]
      by_cases hd : l.getD n 0 = 0
      · simp only [hd, Int.natCast_zero, E2, seval]
        refine Safe.skip (Safe.block (Safe.region ?_))
        simp only [b5M, E2, seval, e5, hw]
        refine Safe.inBlock (ih (by omega) ?_ _ (by simp only [E2, seval, e0]) (by simp only [E2, seval, e1]) (by simp only [E2, seval, e4]) (by simp only [E2, seval]))
        rw [← hv, a0u, hd]; simp
      · have hd' : ¬ (((l.getD n 0 : Nat) : Int) = 0) := by omega
        simp only [hd', E2, seval]
        refine Safe.exit rfl (copy (n + 1) hn ?_ _ (by simp only [E2, seval, e0]) (by simp only [E2, seval, e1]) (by simp only [E2, seval, e4]) (by simp only [E2, seval, e5]))
        rw [← hv, a9q (hl.lim.take _)]
        rw [c4P (by omega)]; simpa using hd
  exact key l.length (Nat.le_refl _) (by rw [List.take_length]) _ (by simp only [E2, seval]) (by simp only [E2, seval]) (by simp only [E2, seval]) (by simp only [E2, seval])
theorem d8F (n : Bool) (a b : Nat) : sgn n a + sgn n b = sgn n (a + b) := by cases n <;> simp [sgn] <;> omega
theorem d8C (m n : Bool) (a b : Nat) (h : m ≠ n) (hb : b ≤ a) : sgn m a + sgn n b = sgn m (a - b) := by
  cases m <;> cases n <;> simp [sgn] at h ⊢ <;> omega
theorem d5u (m n : Bool) (a b : Nat) (h : m ≠ n) (hb : a ≤ b) : sgn m a + sgn n b = sgn n (b - a) := by
  cases m <;> cases n <;> simp [sgn] at h ⊢ <;> omega
theorem d2q (m n : Bool) (a b : Nat) : sgn m a * sgn n b = sgn (!(m == n)) (a * b) := by
  cases m <;> cases n <;> simp [sgn, Int.neg_mul, Int.mul_neg]
theorem d8E (n : Bool) (a : Nat) : sgn (!n) a = - sgn n a := by cases n <;> simp [sgn]
theorem e0d (a b : Nat) : (0 ≤ cmpI a b) = (b ≤ a) := by unfold cmpI; split <;> (try split) <;> simp <;> omega
theorem c8n (a b : Nat) : (cmpI a b < 0) = (a < b) := by unfold cmpI; split <;> (try split) <;> simp <;> omega
theorem b4B (x : ZI) (hx : Zok 17592186044416 x) : a0f Pr a8b [x.av] (Z x.z) := by
  obtain ⟨n, m⟩ := x
  have hm : Nt m := ⟨hx.lim, hx.len⟩
  simp only [ZI.av, ZI.z]
  refine a0f.intro c4D c4C (by simp only [List.length_cons, List.length_nil]; omega) (Z_cl _) fun H hH => ?_
  refine Safe.seq (Safe.region ?_)
  simp only [b5X, E2, seval]
  refine Safe.seq (Safe.region ?_)
  simp only [b5W, E2, seval]
  refine (a1K n m hm).acall ?_
  simp only [Z, E2, seval]
  refine Safe.retn ?_
  simp only [E2, seval]
  first | exact ⟨rfl, _, rfl⟩ | exact ⟨_, rfl⟩ | exact ⟨trivial, _, rfl⟩
theorem a8r (x : ZI) (hx : Zok 17592186044416 x) : a0f Pr a3N [x.av] (Z (-x.z)) := by
  obtain ⟨n, m⟩ := x
  have hm : Nt m := ⟨hx.lim, hx.len⟩
  simp only [ZI.av, ZI.z]
  refine a0f.intro c6G c6F (by simp only [List.length_cons, List.length_nil]; omega) (Z_cl _) fun H hH => ?_
  refine Safe.seq (Safe.region ?_)
  simp only [b7Q, E2, seval]
  refine Safe.seq (Safe.region ?_)
  simp only [b7P, E2, seval]
  refine (a1K (!n) m hm).acall ?_
  rw [d8E]
  simp only [Z, E2, seval]
  refine Safe.retn ?_
  simp only [E2, seval]
  first | exact ⟨rfl, _, rfl⟩ | exact ⟨_, rfl⟩ | exact ⟨trivial, _, rfl⟩
theorem a2a (x y : ZI) (k l : Nat) (hx : Zok k x) (hy : Zok l y) (hkl : k + l ≤ 17592186044416) : a0f Pr a1f [x.av, y.av] (Z (x.z * y.z)) := by
  obtain ⟨n, a⟩ := x
  obtain ⟨m, b⟩ := y
  have hal := hx.len
  have hbl := hy.len
  simp only at hal hbl
  have ha : Nt a := ⟨hx.lim, by omega⟩
  have hb : Nt b := ⟨hy.lim, by omega⟩
  simp only [ZI.av, ZI.z]
  refine a0f.intro c6I c6H (by simp only [List.length_cons, List.length_nil]; omega) (Z_cl _) fun H hH => ?_
  refine Safe.seq (Safe.region ?_)
  simp only [b7S, E2, seval]
  refine Safe.seq (Safe.regionD ?_)
  simp only [b7R, E2, seval]
  refine (c7j a b ha hb (by omega)).dcall ?_
  try simp only [E2, seval]
  have hn : Nt (limbs (val a * val b)) := ⟨a0w _, by
    have h1 := a1P ha.lim
    have h2 := a1P hb.lim
    have h3 : val a * val b < LB ^ (a.length + b.length) := by
      rw [Nat.pow_add]
      exact Nat.mul_lt_mul'' h1 h2
    exact Nat.le_trans (a0W h3) (by omega)⟩
  refine (a1K _ _ hn).dcall ?_
  rw [a0i, ← d2q]
  simp only [Z, E2, seval]
  refine Safe.retn ?_
  simp only [E2, seval]
  first | exact ⟨rfl, _, rfl⟩ | exact ⟨_, rfl⟩ | exact ⟨trivial, _, rfl⟩
theorem c4I (x y : ZI) (k : Nat) (hx : Zok k x) (hy : Zok k y) (hk : k < 17592186044416) : a0f Pr a4T [x.av, y.av] (Z (x.z + y.z)) := by
  obtain ⟨n, a⟩ := x
  obtain ⟨m, b⟩ := y
  have hal := hx.len
  have hbl := hy.len
  have hav := hx.lt
  have hbv := hy.lt
  simp only at hal hbl hav hbv
  have ha : Nt a := ⟨hx.lim, by omega⟩
  have hb : Nt b := ⟨hy.lim, by omega⟩
  have hle : ∀ v, v < LB ^ k → Nt (limbs v) := fun v hv => ⟨a0w _, Nat.le_trans (a0W hv) (by omega)⟩
  simp only [ZI.av, ZI.z]
  refine a0f.intro c6N c6M (by simp only [List.length_cons, List.length_nil]; omega) (Z_cl _) fun H hH => ?_
  refine Safe.seq (Safe.region ?_)
  simp only [b8b, E2, seval]
  refine Safe.seq (Safe.seq (Safe.region ?_))
  simp only [b8a, E2, seval]
  refine Safe.cond ?_
  simp only [E2, seval]
  by_cases hnm : n = m
  · subst hnm
    simp only [beq_self_eq_true, E2, seval]
    refine Safe.seq (Safe.regionD ?_)
    simp only [b7Z, E2, seval]
    refine (c7k a b ha.lim hb.lim (by omega) (by omega)).dcall ?_
    try simp only [E2, seval]
    have hn : Nt (limbs (val a + val b)) := ⟨a0w _, by
      have h3 : val a + val b < LB ^ (k + 1) := by
        rw [Nat.pow_succ]
        have : LB ^ k * 2 ≤ LB ^ k * LB := Nat.mul_le_mul_left _ (by decide)
        omega
      exact Nat.le_trans (a0W h3) (by omega)⟩
    refine (a1K _ _ hn).dcall ?_
    rw [a0i, d8F]
    simp only [Z, E2, seval]
    refine Safe.retn ?_
    simp only [E2, seval]
    first | exact ⟨rfl, _, rfl⟩ | exact ⟨_, rfl⟩ | exact ⟨trivial, _, rfl⟩
  · have hnm' : (n == m) = false := by simpa using hnm
    simp only [hnm', E2, seval]
    refine Safe.skip (Safe.seq (Safe.seq (Safe.region ?_)))
    simp only [b7Y, E2, seval]
    refine (a7o a b ha hb).acall ?_
    simp only [E2, seval, c8n, e0d]
    refine Safe.cond ?_
    simp only [E2, seval]
    by_cases hlt : val a < val b
    · simp only [hlt, E2, seval]
      refine Safe.region ?_
      simp only [b7X, E2, seval]
      refine Safe.seq (Safe.region ?_)
      simp only [b1W, E2, seval]
      refine (b8y b a hb ha (by omega)).acall ?_
      simp only [E2, seval]
      refine Safe.seq (Safe.region ?_)
      simp only [b1V, E2, seval]
      refine (a1K _ _ (hle (val b - val a) (by omega))).acall ?_
      rw [a0i, d5u n m _ _ hnm (by omega)]
      simp only [Z, E2, seval]
      refine Safe.retn ?_
      simp only [E2, seval]
      first | exact ⟨rfl, _, rfl⟩ | exact ⟨_, rfl⟩ | exact ⟨trivial, _, rfl⟩
    · simp only [hlt, E2, seval]
      refine Safe.skip (Safe.seq (Safe.region ?_))
      simp only [b1W, E2, seval]
      refine (b8y a b ha hb (by omega)).acall ?_
      simp only [E2, seval]
      refine Safe.seq (Safe.region ?_)
      simp only [b1V, E2, seval]
      refine (a1K _ _ (hle (val a - val b) (by omega))).acall ?_
      rw [a0i, d8C n m _ _ hnm (by omega)]
      simp only [Z, E2, seval]
      refine Safe.retn ?_
      simp only [E2, seval]
      first | exact ⟨rfl, _, rfl⟩ | exact ⟨_, rfl⟩ | exact ⟨trivial, _, rfl⟩
theorem d1J (x y : ZI) (k : Nat) (hx : Zok k x) (hy : Zok k y) (hk : k < 17592186044416) : a0f Pr a4S [x.av, y.av] (Z (x.z - y.z)) := by
  have hadd := c4I x (canZ (-y.z)) k hx (a0z (by rw [Int.natAbs_neg]; exact hy.abs)) hk
  rw [a0y, b5C] at hadd
  have hneg := a8r y (hy.mono (by omega))
  obtain ⟨n, a⟩ := x
  obtain ⟨m, b⟩ := y
  simp only [ZI.av] at hadd hneg ⊢
  refine a0f.intro c6D c6C (by simp only [List.length_cons, List.length_nil]; omega) (Z_cl _) fun H hH => ?_
  refine Safe.seq (Safe.region ?_)
  simp only [b7O, E2, seval]
  refine Safe.seq (Safe.regionD ?_)
  simp only [b7N, E2, seval]
  refine hneg.dcall ?_
  try simp only [E2, seval]
  refine hadd.dcall ?_
  rw [← Int.sub_eq_add_neg]
  simp only [Z, E2, seval]
  refine Safe.retn ?_
  simp only [E2, seval]
  first | exact ⟨rfl, _, rfl⟩ | exact ⟨_, rfl⟩ | exact ⟨trivial, _, rfl⟩
theorem a3i (n : Int) (h0 : -9223372036854775808 ≤ n) (h1 : n < 9223372036854775808) : a0f Pr a2Q [.int .i64 n] (Z n) := by
  refine a0f.intro c9S c9R (by simp only [List.length_cons, List.length_nil]; omega) (Z_cl _) fun H hH => ?_
  have hLB : LB = 4294967296 := rfl
  refine Safe.seq (Safe.region ?_)
  simp only [c1i, E2, Nat.reduceLeDiff, Nat.reduceSub, Nat.reduceAdd, Nat.reduceEqDiff, reduceCtorEq, ↓reduceIte]
  refine Safe.seq (Safe.region ?_)
  simp only [c1h, E2, Nat.reduceLeDiff, Nat.reduceSub, Nat.reduceAdd, Nat.reduceEqDiff, reduceCtorEq, ↓reduceIte]
  refine Safe.seq (Safe.seq (Safe.region ?_))
  simp only [c1g, E2, Nat.reduceLeDiff, Nat.reduceSub, Nat.reduceAdd, Nat.reduceEqDiff, reduceCtorEq, ↓reduceIte]
  refine Safe.cond ?_
  simp only [E2, Nat.reduceLeDiff, Nat.reduceSub, Nat.reduceAdd, Nat.reduceEqDiff, reduceCtorEq, ↓reduceIte]
  have rest : ∀ (env : Env), look env 0 = .int .i64 n → look env 2 = .loc (lid H 0) 0 0 → look env 3 = .int .u64 (n.natAbs : Nat) →
      Safe ⟨Pr, fun _ _ => false, a2Q, 19, [.cell 2 (some 2)], H.length⟩ [.code ((ACode.region b4A false).seq .ret)] env (hap H [some ⟨2, [.agg [.bool false, .nil]]⟩]) fun r' H' => r' = Z n ∧ ∃ L, H' = hap H L := by
    intro env e0 e2 e3
    refine Safe.seq (Safe.region ?_)
    have w1 : IntKind.wrap .u32 ((n.natAbs : Nat) : Int) = ((n.natAbs % LB : Nat) : Int) := a2m _
    have hLL : LB * LB = 18446744073709551616 := by decide
    have hdiv : n.natAbs / LB < LB := Nat.div_lt_of_lt_mul (by omega)
    have w2 : IntKind.wrap .u32 ((n.natAbs / LB : Nat) : Int) = ((n.natAbs / LB : Nat) : Int) := b7q (Int.natCast_nonneg _) (by omega)
    simp only [b4A, E2, Nat.reduceLeDiff, Nat.reduceSub, Nat.reduceAdd, Nat.reduceEqDiff, reduceCtorEq, ↓reduceIte, e0, e3, e2, w1, a4e _ _ _ (show (0 : Int) ≤ 32 by decide), e0V, w2]
    have hm := Nat.mod_lt n.natAbs (show 0 < LB by decide)
    have := a1K (decide (n < 0)) [n.natAbs % LB, n.natAbs / LB] ⟨by intro d hd; simp at hd; omega, by simp⟩
    have hv : val [n.natAbs % LB, n.natAbs / LB] = n.natAbs := by
      simp only [val]; rw [Nat.mul_zero, Nat.add_zero, Nat.mod_add_div]
    rw [hv, show sgn (decide (n < 0)) n.natAbs = n by unfold sgn; by_cases h : n < 0 <;> simp [h] <;> omega] at this
    refine a0f.acall this ?_
    simp only [Z, E2, Nat.reduceLeDiff, Nat.reduceSub, Nat.reduceAdd, Nat.reduceEqDiff, reduceCtorEq, ↓reduceIte, e2]
    refine Safe.retn ?_
    simp only [E2, Nat.reduceLeDiff, Nat.reduceSub, Nat.reduceAdd, Nat.reduceEqDiff, reduceCtorEq, ↓reduceIte, e2]
    first | exact ⟨rfl, _, rfl⟩ | exact ⟨_, rfl⟩ | exact ⟨trivial, _, rfl⟩
  by_cases hn : n < 0
  · simp only [hn, E2, Nat.reduceLeDiff, Nat.reduceSub, Nat.reduceAdd, Nat.reduceEqDiff, reduceCtorEq, ↓reduceIte]
    refine Safe.region ?_
    have w : IntKind.wrap .u64 (0 - IntKind.wrap .u64 n) = ((n.natAbs : Nat) : Int) := by rw [a1O, a1O]; omega
    simp only [c1f, E2, Nat.reduceLeDiff, Nat.reduceSub, Nat.reduceAdd, Nat.reduceEqDiff, reduceCtorEq, ↓reduceIte, w]
    exact rest _ (by simp only [E2, Nat.reduceLeDiff, Nat.reduceSub, Nat.reduceAdd, Nat.reduceEqDiff, reduceCtorEq, ↓reduceIte]) (by simp only [E2, Nat.reduceLeDiff, Nat.reduceSub, Nat.reduceAdd, Nat.reduceEqDiff, reduceCtorEq, ↓reduceIte]) (by simp only [E2, Nat.reduceLeDiff, Nat.reduceSub, Nat.reduceAdd, Nat.reduceEqDiff, reduceCtorEq, ↓reduceIte])
  · have w : IntKind.wrap .u64 n = ((n.natAbs : Nat) : Int) := by rw [a1O]; omega
    simp only [hn, E2, Nat.reduceLeDiff, Nat.reduceSub, Nat.reduceAdd, Nat.reduceEqDiff, reduceCtorEq, ↓reduceIte]
    exact Safe.skip (rest _ (by simp only [E2, Nat.reduceLeDiff, Nat.reduceSub, Nat.reduceAdd, Nat.reduceEqDiff, reduceCtorEq, ↓reduceIte]) (by simp only [E2, Nat.reduceLeDiff, Nat.reduceSub, Nat.reduceAdd, Nat.reduceEqDiff, reduceCtorEq, ↓reduceIte]) (by simp only [E2, Nat.reduceLeDiff, Nat.reduceSub, Nat.reduceAdd, Nat.reduceEqDiff, reduceCtorEq, ↓reduceIte, w]))
theorem d5r (n : Bool) (a : Nat) : (sgn n a).sign = if a = 0 then 0 else if n then -1 else 1 := by
  rcases Nat.eq_zero_or_pos a with h | h
  · subst h; simp [b7u]
  · rw [if_neg (by omega)]
    cases n
    · simp only [sgn, Bool.false_eq_true, if_false]
      exact Int.sign_eq_one_of_pos (by omega)
    · simp only [sgn, if_true]
      exact Int.sign_eq_neg_one_of_neg (by omega)
theorem c6r (n : Nat) : ((blen n : Nat) : Int) = 0 ↔ n = 0 := by
  unfold blen
  split
  · rename_i h; simp [h]
  · rename_i h; simp [h]; omega
theorem c0R (n : Nat) : (((limbs n).length : Nat) : Int) = 0 ↔ n = 0 := by
  constructor
  · intro h
    have : limbs n = [] := List.length_eq_zero_iff.1 (by omega)
    have := congrArg val this
    rwa [a0i] at this
  · intro h; rw [h, a0V]; rfl
theorem a0K (x : ZI) (hx : Zok 17592186044416 x) : a0f Pr a0U [x.av] (.int .i64 x.z.sign) := by
  obtain ⟨n, m⟩ := x
  have hm : Nt m := ⟨hx.lim, hx.len⟩
  simp only [ZI.av, ZI.z, d5r]
  refine a0f.intro c4B c4A (by simp only [List.length_cons, List.length_nil]; omega) (.int _ _) fun H hH => ?_
  refine Safe.seq (Safe.region ?_)
  simp only [b5V, E2, seval]
  refine Safe.seq (Safe.block (Safe.seq (Safe.region ?_)))
  simp only [b5U, E2, seval]
  refine (c5q m hm).acall ?_
  simp only [E2, seval, c6r]
  refine Safe.cond ?_
  simp only [E2, seval]
  by_cases h0 : val m = 0
  · simp only [h0, E2, seval]
    refine Safe.seq (Safe.region ?_)
    simp only [b5T, E2, seval]
    refine Safe.retn ?_
    simp only [E2, seval]
    first | exact ⟨rfl, _, rfl⟩ | exact ⟨_, rfl⟩ | exact ⟨trivial, _, rfl⟩
  · simp only [h0, E2, seval]
    refine Safe.seq (Safe.region ?_)
    simp only [b5S, E2, seval]
    refine Safe.cond ?_
    simp only [E2, seval]
    cases n
    · simp only [E2, seval]
      refine Safe.skip (Safe.inBlock (Safe.seq (Safe.region ?_)))
      simp only [b5Q, E2, seval]
      refine Safe.retn ?_
      simp only [E2, seval]
      first | exact ⟨rfl, _, rfl⟩ | exact ⟨_, rfl⟩ | exact ⟨trivial, _, rfl⟩
    · simp only [E2, seval]
      refine Safe.seq (Safe.region ?_)
      simp only [b5R, E2, seval]
      refine Safe.retn ?_
      simp only [E2, seval]
      first | exact ⟨rfl, _, rfl⟩ | exact ⟨_, rfl⟩ | exact ⟨trivial, _, rfl⟩
theorem d2o {n : Bool} {a : Nat} (h : 0 < sgn n a) : sgn n a = a := by
  cases n
  · rfl
  · exfalso; simp only [sgn, if_true] at h; omega
theorem d2p {n : Bool} {a : Nat} (h : sgn n a < 0) : sgn n a = -(a : Int) := by
  cases n
  · exfalso; simp only [sgn, Bool.false_eq_true, if_false] at h; omega
  · rfl
theorem d1L (x y : ZI) (hx : Zok 17592186044416 x) (hy : Zok 17592186044416 y) : a0f Pr a6G [x.av, y.av] (.int .i64 (x.z - y.z).sign) := by
  have sx := a0K x hx
  have sy := a0K y hy
  obtain ⟨n, a⟩ := x
  obtain ⟨m, b⟩ := y
  have ha : Nt a := ⟨hx.lim, hx.len⟩
  have hb : Nt b := ⟨hy.lim, hy.len⟩
  simp only [ZI.av] at sx sy ⊢
  refine a0f.intro b7W b7V (by simp only [List.length_cons, List.length_nil]; omega) (.int _ _) fun H hH => ?_
  refine Safe.seq (Safe.region ?_)
  simp only [a8z, E2, seval]
  refine Safe.seq (Safe.regionD ?_)
  simp only [a8y, E2, seval]
  refine sx.dcall ?_
  try simp only [E2, seval]
  refine sy.dcall ?_
  try simp only [E2, seval]
  refine Safe.seq (Safe.block (Safe.seq (Safe.region ?_)))
  simp only [a8x, E2, seval]
  refine Safe.cond ?_
  simp only [E2, seval]
  simp only [ZI.z]
  have dx : (sgn n (val a)).sign = 0 ∧ sgn n (val a) = 0 ∨ (sgn n (val a)).sign = 1 ∧ 0 < sgn n (val a) ∨ (sgn n (val a)).sign = -1 ∧ sgn n (val a) < 0 := by
    rcases Int.lt_trichotomy (sgn n (val a)) 0 with h | h | h
    · exact .inr (.inr ⟨Int.sign_eq_neg_one_of_neg h, h⟩)
    · exact .inl ⟨by rw [h]; rfl, h⟩
    · exact .inr (.inl ⟨Int.sign_eq_one_of_pos h, h⟩)
  have dy : (sgn m (val b)).sign = 0 ∧ sgn m (val b) = 0 ∨ (sgn m (val b)).sign = 1 ∧ 0 < sgn m (val b) ∨ (sgn m (val b)).sign = -1 ∧ sgn m (val b) < 0 := by
    rcases Int.lt_trichotomy (sgn m (val b)) 0 with h | h | h
    · exact .inr (.inr ⟨Int.sign_eq_neg_one_of_neg h, h⟩)
    · exact .inl ⟨by rw [h]; rfl, h⟩
    · exact .inr (.inl ⟨Int.sign_eq_one_of_pos h, h⟩)
  by_cases h1 : (sgn n (val a)).sign < (sgn m (val b)).sign
  · simp only [h1, E2, seval]
    refine Safe.seq (Safe.region ?_)
    simp only [a8w, E2, seval]
    refine Safe.retn ?_
    simp only [E2, seval]
    refine ⟨?_, _, rfl⟩
    rw [Int.sign_eq_neg_one_of_neg (by omega)]
  · simp only [h1, E2, seval]
    refine Safe.seq (Safe.region ?_)
    simp only [a8v, E2, seval]
    refine Safe.cond ?_
    simp only [E2, seval]
    by_cases h2 : (sgn m (val b)).sign < (sgn n (val a)).sign
    · simp only [h2, E2, seval]
      refine Safe.seq (Safe.region ?_)
      simp only [a8u, E2, seval]
      refine Safe.retn ?_
      simp only [E2, seval]
      refine ⟨?_, _, rfl⟩
      rw [Int.sign_eq_one_of_pos (by omega)]
    · simp only [h2, E2, seval]
      refine Safe.skip (Safe.inBlock (Safe.seq (Safe.region ?_)))
      simp only [a8t, E2, seval]
      refine (a7o a b ha hb).acall ?_
      have hs : (sgn n (val a)).sign = (sgn m (val b)).sign := by omega
      have key : IntKind.wrap .i64 ((sgn n (val a)).sign * cmpI (val a) (val b)) = (sgn n (val a) - sgn m (val b)).sign := by
        have hc : cmpI (val a) (val b) = -1 ∧ val a < val b ∨ cmpI (val a) (val b) = 1 ∧ val b < val a ∨ cmpI (val a) (val b) = 0 ∧ val a = val b := by
          unfold cmpI
          split
          · exact .inl ⟨rfl, by assumption⟩
          · split
            · exact .inr (.inl ⟨rfl, by assumption⟩)
            · exact .inr (.inr ⟨rfl, by omega⟩)
        rcases dx with ⟨e1, e2⟩ | ⟨e1, e2⟩ | ⟨e1, e2⟩ <;> rcases dy with ⟨f1, f2⟩ | ⟨f1, f2⟩ | ⟨f1, f2⟩ <;> try omega
        · rw [e1, e2, f2, Int.zero_mul]; rfl
        · have hx1 : sgn n (val a) = val a := d2o e2
          have hy1 : sgn m (val b) = val b := d2o f2
          rw [e1, hx1, hy1]
          rcases hc with ⟨c1, c2⟩ | ⟨c1, c2⟩ | ⟨c1, c2⟩
          · rw [c1, Int.sign_eq_neg_one_of_neg (by omega)]; rfl
          · rw [c1, Int.sign_eq_one_of_pos (by omega)]; rfl
          · rw [c1, c2, Int.sub_self]; rfl
        · have hx1 : sgn n (val a) = -(val a : Int) := d2p e2
          have hy1 : sgn m (val b) = -(val b : Int) := d2p f2
          rw [e1, hx1, hy1]
          rcases hc with ⟨c1, c2⟩ | ⟨c1, c2⟩ | ⟨c1, c2⟩
          · rw [c1, Int.sign_eq_one_of_pos (by omega)]; rfl
          · rw [c1, Int.sign_eq_neg_one_of_neg (by omega)]; rfl
          · rw [c1, c2, Int.sub_self]; rfl
      simp only [E2, seval, key]
      refine Safe.retn ?_
      simp only [E2, seval]
      first | exact ⟨rfl, _, rfl⟩ | exact ⟨_, rfl⟩ | exact ⟨trivial, _, rfl⟩
end Go.Abs
namespace Go.Abs
theorem d5L {u v : List ZI} {i : Nat} (hu : i < u.length) (hv : i < v.length) : ordZ (zs (u.drop i)) (zs (v.drop i)) = if (u[i].z - v[i].z).sign = 0 then ordZ (zs (u.drop (i + 1))) (zs (v.drop (i + 1))) else (u[i].z - v[i].z).sign := by
  rw [List.drop_eq_getElem_cons hu, List.drop_eq_getElem_cons hv]; rfl
theorem d8Y {u v : List ZI} {i : Nat} (h : i = min u.length v.length) : ordZ (zs (u.drop i)) (zs (v.drop i)) = if u.length < v.length then -1 else if v.length < u.length then 1 else 0 := by
  subst h
  rcases Nat.lt_trichotomy u.length v.length with h | h | h
  · rw [if_pos h, Nat.min_eq_left (by omega), List.drop_length, List.drop_eq_getElem_cons h]; rfl
  · rw [if_neg (by omega), if_neg (by omega), Nat.min_eq_left (by omega), List.drop_length, h, List.drop_length]; rfl
  · rw [if_neg (by omega), if_pos h, Nat.min_eq_right (by omega), List.drop_length, List.drop_eq_getElem_cons h]; rfl
theorem d0z (u v : List ZI) (hu : Vok 17592186044416 u) (hv : Vok 17592186044416 v) : a0f Pr a8e [vecV u, vecV v] (.int .i64 (ordZ (zs u) (zs v))) := by
  have hul := hu.len
  have hvl := hv.len
  refine a0f.intro c5C c5B (by simp only [List.length_cons, List.length_nil]; omega) (.int _ _) fun H hH => ?_
  refine Safe.seq (Safe.region ?_)
  simp only [b6L, E3, seval]
  refine Safe.seq (Safe.seq (Safe.region ?_))
  have hmin : (if (v.length : Int) < (u.length : Int) then (v.length : Int) else (u.length : Int)) = ((min u.length v.length : Nat) : Int) := by
    split
    · rw [Nat.min_eq_right (by omega)]
    · rw [Nat.min_eq_left (by omega)]
  simp only [b6K, E3, seval, hmin]
  have m1 := Nat.min_le_left u.length v.length
  have m2 := Nat.min_le_right u.length v.length
  generalize hm : min u.length v.length = m at m1 m2 ⊢
  refine Safe.block (Safe.loop ?_)
  have key : ∀ (k i : Nat), i + k = m → ordZ (zs u) (zs v) = ordZ (zs (u.drop i)) (zs (v.drop i)) → Safe ⟨Pr, fun _ _ => false, a8e, 40, [.tmp 4], H.length⟩ [.inLoop b6M, .inBlock 0, .code ((ACode.block 2 ((ACode.region a9m false).seq (.cond (.t 28) ((ACode.region a9l false).seq .ret) ((ACode.region a7B false).seq (.cond (.t 34) ((ACode.region a7A false).seq .ret) .skip))))).seq ((ACode.region a7z false).seq .ret))]
      [(0, vecV u), (1, vecV v), (11, .int .i64 m), (12, .int .i64 i)] (hap H []) fun r' H' => r' = .int .i64 (ordZ (zs u) (zs v)) ∧ ∃ L, H' = hap H L := by
    intro k
    induction k with
    | zero =>
      intro i hi ho
      have hi' : i = m := by omega
      subst hi'
      refine Safe.inLoop (Safe.seq (Safe.region ?_))
      simp only [a9n, E3, seval, Int.lt_irrefl]
      refine Safe.seq (Safe.cond ?_)
      simp only [E3, seval]
      refine Safe.exit rfl ?_
      rw [d8Y hm.symm] at ho
      refine Safe.seq (Safe.block (Safe.seq (Safe.region ?_)))
      simp only [a9m, E3, seval]
      refine Safe.cond ?_
      simp only [E3, seval]
      by_cases h1 : u.length < v.length
      · have h1' : (u.length : Int) < (v.length : Int) := by omega
        simp only [h1', E3, seval]
        refine Safe.seq (Safe.region ?_)
        simp only [a9l, E3, seval]
        refine Safe.retn ?_
        rw [ho, if_pos h1]
        simp only [E3, seval]
        first | exact ⟨rfl, _, rfl⟩ | exact ⟨_, rfl⟩ | exact ⟨trivial, _, rfl⟩
      · have h1' : ¬ (u.length : Int) < (v.length : Int) := by omega
        simp only [h1', E3, seval]
        refine Safe.seq (Safe.region ?_)
        simp only [a7B, E3, seval]
        refine Safe.cond ?_
        simp only [E3, seval]
        by_cases h2 : v.length < u.length
        · have h2' : (v.length : Int) < (u.length : Int) := by omega
          simp only [h2', E3, seval]
          refine Safe.seq (Safe.region ?_)
          simp only [a7A, E3, seval]
          refine Safe.retn ?_
          rw [ho, if_neg h1, if_pos h2]
          simp only [E3, seval]
          first | exact ⟨rfl, _, rfl⟩ | exact ⟨_, rfl⟩ | exact ⟨trivial, _, rfl⟩
        · have h2' : ¬ (v.length : Int) < (u.length : Int) := by omega
          simp only [h2', E3, seval]
          refine Safe.skip (Safe.inBlock (Safe.seq (Safe.region ?_)))
          simp only [a7z, E3, seval]
          refine Safe.retn ?_
          rw [ho, if_neg h1, if_neg h2]
          simp only [E3, seval]
          first | exact ⟨rfl, _, rfl⟩ | exact ⟨_, rfl⟩ | exact ⟨trivial, _, rfl⟩
    | succ k ih =>
      intro i hi ho
      refine Safe.inLoop (Safe.seq (Safe.region ?_))
      have hlt : (i : Int) < (m : Int) := by omega
      simp only [a9n, E3, seval, hlt]
      refine Safe.seq (Safe.cond ?_)
      simp only [E3, seval]
      refine Safe.skip (Safe.seq (Safe.block (Safe.seq (Safe.region ?_))))
      simp only [b6J, E3, seval]
      refine Safe.seq (Safe.regionD ?_)
      simp only [b6I, E3, seval, a0B _ u _ i (by omega), a0B _ v _ i (by omega)]
      refine (d1L u[i] v[i] (hu.get (by omega)) (hv.get (by omega))).dcall ?_
      try simp only [E3, seval]
      refine Safe.seq (Safe.region ?_)
      simp only [b6H, E3, seval]
      refine Safe.cond ?_
      simp only [E3, seval]
      rw [d5L (by omega) (by omega)] at ho
      by_cases h0 : (u[i].z - v[i].z).sign = 0
      · rw [if_pos h0] at ho
        simp only [h0, E3, seval]
        refine Safe.skip (Safe.inBlock (Safe.region ?_))
        have hiw : IntKind.wrap .i64 ((i : Int) + 1) = ((i + 1 : Nat) : Int) := by rw [a0b] <;> omega
        simp only [b6F, E3, seval, hiw]
        refine Safe.keep [0, 1, 11, 12] ?_
        simp only [E3, seval]
        exact ih (i + 1) (by omega) ho
      · rw [if_neg h0] at ho
        simp only [h0, E3, seval]
        refine Safe.seq (Safe.region ?_)
        simp only [b6G, E3, seval]
        refine Safe.retn ?_
        rw [ho]
        simp only [E3, seval]
        first | exact ⟨rfl, _, rfl⟩ | exact ⟨_, rfl⟩ | exact ⟨trivial, _, rfl⟩
  refine Safe.keep [0, 1, 11, 12] ?_
  simp only [E3, seval]
  exact key m 0 (by omega) rfl
end Go.Abs
namespace Go.Abs
theorem d9P (x : ZI) (hx : Zok 17592186044416 x) : a0f Pr a7e [x.av, x.av] (.bool true) := by
  obtain ⟨n, m⟩ := x
  have hml : m.length ≤ 17592186044416 := hx.len
  simp only [ZI.av]
  refine a0f.intro c7O c7M (Nat.le_of_ble_eq_true rfl) (.bool _) fun H hH => ?_
  refine Safe.rg rfl ?_
  simp only [b9P, E3, seval]
  refine Safe.rg rfl ?_
  simp only [b9O, beq_self_eq_true, E3, seval]
  refine Safe.cd rfl ?_
  simp only [E3, seval]
  refine Safe.rg rfl ?_
  simp only [b9N, E3, seval]
  refine Safe.lp rfl ?_
  refine Safe.keep [2, 3, 5] ?_
  try simp only [E3, seval]
  refine Safe.loopN (m.length) (fun i => [(2, .loc (lid H 0) 0 0), (3, .loc (lid H 1) 0 0), (5, .int .i64 i)]) (fun i => hap H [some ⟨2, [.agg [.bool n, natV m]]⟩, some ⟨2, [.agg [.bool n, natV m]]⟩]) rfl rfl (fun i hi ih => ?_) ?_
  · have hlt : (i : Int) < (m.length : Int) := by omega
    have hiw : IntKind.wrap .i64 ((i : Int) + 1) = ((i + 1 : Nat) : Int) := by rw [a0b] <;> omega
    refine Safe.inLoop ?_
    refine Safe.rg rfl ?_
    simp only [b2F, hlt, E3, seval]
    refine Safe.cd rfl ?_
    simp only [E3, seval]
    refine Safe.rg rfl ?_
    simp only [b9M, a0Q _ m _ i (by omega), E3, seval]
    refine Safe.cd rfl ?_
    simp only [E3, seval]
    refine Safe.rg rfl ?_
    simp only [b9L, hiw, E3, seval]
    refine Safe.keep [2, 3, 5] ?_
    simp only [E3, seval]
    exact ih
  · refine Safe.inLoop ?_
    refine Safe.rg rfl ?_
    simp only [b2F, Int.lt_irrefl, E3, seval]
    refine Safe.cd rfl ?_
    simp only [E3, seval]
    refine Safe.rg rfl ?_
    simp only [b9K, E3, seval]
    refine Safe.rt rfl ?_
    simp only [E3, seval]
    first | exact ⟨rfl, _, rfl⟩ | exact ⟨_, rfl⟩ | exact ⟨trivial, _, rfl⟩
theorem d9S (g : FuncId) (caps : List AV) (v : List ZI) (f : Nat → Int) (hv : v.length ≤ 2097152) (hc : ∀ c ∈ caps, Cl c) (hf : ∀ (i : Nat) (h : i < v.length), a0f Pr g (v[i].av :: caps) (Z (f i))) : a0f Pr a6H [vecV v, .fn g caps] (vecV (vec v.length f)) := by
  have hcl : ∀ id, caps.all (nref id) = true := fun id => List.all_eq_true.2 fun c h => a1o (hc c h)
  refine a0f.intro b9s b9q (Nat.le_of_ble_eq_true rfl) (a0d _) fun H hH => ?_
  refine Safe.rg rfl ?_
  simp only [a8W, E3, seval]
  refine Safe.rg rfl ?_
  simp only [a8V, c3z _ _ 2 32 _ _ _ v.length (by decide) (by omega) (by omega), E3, seval]
  refine Safe.rg rfl ?_
  simp only [a8U, E3, seval]
  refine Safe.lp rfl ?_
  refine Safe.keep [1, 5, 11, 12, 13] ?_
  try simp only [E3, seval]
  refine Safe.loopN (v.length) (fun i => [(1, .fn g caps), (5, .mu (lid H 0) 0 i (some v.length)), (11, vecV v), (12, .int .i64 v.length), (13, .int .i64 i)]) (fun i => hap H [some ⟨2, (vec i f).map ZI.av⟩]) rfl rfl (fun i hi ih => ?_) ?_
  · have hlt : (i : Int) < (v.length : Int) := by omega
    have hiw : IntKind.wrap .i64 ((i : Int) + 1) = ((i + 1 : Nat) : Int) := by rw [a0b] <;> omega
    refine Safe.inLoop ?_
    refine Safe.rg rfl ?_
    simp only [a5e, hlt, E3, seval]
    refine Safe.cd rfl ?_
    simp only [E3, seval]
    refine Safe.rg rfl ?_
    simp only [a8T, a0B _ v _ i (by omega), E3, seval]
    refine Safe.rg rfl ?_
    simp only [a8S, E3, seval]
    first | refine (hf i hi).acall ?_ | refine (hf i hi).dcall ?_
    try simp only [E3, seval]
    rw [c4v (H := H) 0 (a4h H 0) (f := ZI.av) (vec i f) (canZ (f i)) (vec (i + 1) f) ?hlen ?hl ?hy ?hl2 ?hc]
    case hlen => first | rfl | (simp only [a0a, a0c, List.length_map, List.length_take]; done) | (simp only [a0a, a0c, List.length_map, List.length_take]; omega)
    case hl => rfl
    case hy => rfl
    case hl2 => first | exact a4z _ _ | exact a5S _ _ | exact a4d _ (by omega) | exact a1x _ _ (by omega)
    case hc => omega
    simp only [hcl, E3, seval]
    refine Safe.rg rfl ?_
    simp only [a8R, hiw, E3, seval]
    refine Safe.keep [1, 5, 11, 12, 13] ?_
    simp only [E3, seval]
    refine Safe.drop1 hH rfl (by simp only [List.all_cons, List.all_nil, hcl, E3, seval]) (by repeat (first | exact RC.nil | refine RC.none ?_ | refine RC.mo ?_ | refine RC.io ?_ | refine RC.row ZI.cl ?_ | refine RC.cons (a0t _) ?_ | refine RC.row a0d ?_ | refine RC.emp ?_ | refine RC.zero ?_ | refine RC.one (Z_cl _) ?_ | refine RC.one (ZI.cl _) ?_ | refine RC.one (a0d _) ?_)) ?_
    exact ih
  · refine Safe.inLoop ?_
    refine Safe.rg rfl ?_
    simp only [a5e, Int.lt_irrefl, E3, seval]
    refine Safe.cd rfl ?_
    simp only [E3, seval]
    refine Safe.freeze 0 hH rfl rfl (a1j 2 ZI.av _ ZI.cl) ?_
    refine Safe.keep [5] ?_
    simp only [c3Q 0 2 ZI.av (vec v.length f) v.length (some v.length) (a0a _ _).symm, E3, seval]
    refine Safe.rg rfl ?_
    simp only [a8Q, E3, seval]
    refine Safe.rt rfl ?_
    simp only [E3, seval]
    first | exact ⟨rfl, _, rfl⟩ | exact ⟨_, rfl⟩ | exact ⟨trivial, _, rfl⟩
section
variable {a b : Int} {k l : Nat} (ha : a.natAbs < LB ^ k)
include ha
theorem d5c (hb : b.natAbs < LB ^ k) (hk : k < 17592186044416) : a0f Pr a4T [Z a, Z b] (Z (a + b)) := by
  have := c4I (canZ a) (canZ b) k (a0z ha) (a0z hb) hk
  rwa [a0y, a0y] at this
theorem c8y (hb : b.natAbs < LB ^ k) (hk : k < 17592186044416) : a0f Pr a4S [Z a, Z b] (Z (a - b)) := by
  have := d1J (canZ a) (canZ b) k (a0z ha) (a0z hb) hk
  rwa [a0y, a0y] at this
end
theorem c6W (k x : ZI) (p q : Nat) (hk : Zok p k) (hx : Zok q x) (hpq : p + q ≤ 17592186044416) : a0f Pr a4N [x.av, .ro k.av 0] (Z (k.z * x.z)) := by
  have hm := a2a k x p q hk hx hpq
  obtain ⟨n, m⟩ := k
  obtain ⟨n', m'⟩ := x
  simp only [ZI.av] at hm ⊢
  refine a0f.intro c0N c0M (Nat.le_of_ble_eq_true rfl) (Z_cl _) fun H hH => ?_
  refine Safe.rg rfl ?_
  simp only [b0H, E3, seval]
  refine Safe.rg rfl ?_
  simp only [b0G, E3, seval]
  first | refine (hm).acall ?_ | refine (hm).dcall ?_
  try simp only [E3, seval]
  refine Safe.rt rfl ?_
  simp only [E3, seval]
  first | exact ⟨rfl, _, rfl⟩ | exact ⟨_, rfl⟩ | exact ⟨trivial, _, rfl⟩
theorem a6F {a b : AV} (ha : Cl a) (hb : Cl b) : Cl (.tup [a, b]) := .tup _ (by
  intro c hc
  simp only [List.mem_cons, List.not_mem_nil, or_false] at hc
  rcases hc with rfl | rfl
  · exact ha
  · exact hb)
theorem c4r {a b d : AV} (ha : Cl a) (hb : Cl b) (hd : Cl d) : Cl (.tup [a, b, d]) := .tup _ (by
  intro c hc
  simp only [List.mem_cons, List.not_mem_nil, or_false] at hc
  rcases hc with rfl | rfl | rfl
  · exact ha
  · exact hb
  · exact hd)
theorem e2a {a : AV} (ha : Cl a) : ∀ c ∈ [a], Cl c := by
  intro c hc
  simp only [List.mem_cons, List.not_mem_nil, or_false] at hc
  subst hc; exact ha
theorem c7t (k : ZI) (v : List ZI) (p q : Nat) (hk : Zok p k) (hv : Vok q v) (hpq : p + q ≤ 17592186044416) : a0f Pr b2M [k.av, vecV v] (vecV (vec v.length fun i => k.z * zg v i)) := by
  have hvl := hv.len
  have hcl := ZI.cl k
  have he := d9S a4N [.ro k.av 0] v (fun i => k.z * zg v i) hv.len (e2a (.ro _ _ (b2I hcl))) fun i h => by
    have := c6W k v[i] p q hk (hv.get h) hpq
    rwa [← b2T h] at this
  obtain ⟨n, m⟩ := k
  simp only [ZI.av] at he hcl ⊢
  refine a0f.intro c5z c5y (Nat.le_of_ble_eq_true rfl) (a0d _) fun H hH => ?_
  refine Safe.rg rfl ?_
  simp only [b6z, E3, seval]
  refine Safe.freeze 0 (b := ⟨2, [.agg [.bool n, natV m]]⟩) hH rfl rfl (by simpa only [Blk.flat, List.flatMap_cons, List.flatMap_nil, List.append_nil] using b2I hcl) ?_
  simp only [c5S, E3, seval]
  refine Safe.rg rfl ?_
  simp only [b6y, E3, seval]
  first | refine (he).acall ?_ | refine (he).dcall ?_
  try simp only [E3, seval]
  refine Safe.rt rfl ?_
  simp only [E3, seval]
  first | exact ⟨rfl, _, rfl⟩ | exact ⟨_, rfl⟩ | exact ⟨trivial, _, rfl⟩
theorem Le.nilvec : Le .nil (vecV []) := Le.nil 2 (by decide)
theorem b4D (k : Nat) : Vok k [] := ⟨by simp, by simp⟩
end Go.Abs
namespace Go.Abs
theorem sign_zero {z : Int} (h : z = 0) : z.sign = 0 := by rw [h]; rfl
theorem d8A {z : Int} (h : z ≠ 0) : ¬ z.sign = 0 := fun e => h (Int.sign_eq_zero_iff_zero.1 e)
theorem a3f (v : List ZI) (hv : Vok 17592186044416 v) : a0f Pr a4U [vecV v] (.int .i64 (b3s v)) := by
  have hvl := hv.len
  refine a0f.intro c7H c7F (Nat.le_of_ble_eq_true rfl) (.int _ _) fun H hH => ?_
  refine Safe.rg rfl ?_
  simp only [b9F, E3, seval]
  refine Safe.rg rfl ?_
  simp only [b9E, E3, seval]
  rcases a4R v with ⟨m, hm, h0, hz, hl, _⟩ | ⟨hz, hl, _⟩
  · rw [hl]
    refine Safe.lp rfl ?_
    refine Safe.keep [5, 6, 7] ?_
    try simp only [E3, seval]
    refine Safe.loopN (m) (fun i => [(5, vecV v), (6, .int .i64 v.length), (7, .int .i64 i)]) (fun i => hap H []) rfl rfl (fun i hi ih => ?_) ?_
    · have hlt : (i : Int) < (v.length : Int) := by omega
      have hs : v[i].z.sign = 0 := sign_zero (by rw [← b2T (by omega)]; exact hz i hi)
      have hiw : IntKind.wrap .i64 ((i : Int) + 1) = ((i + 1 : Nat) : Int) := by rw [a0b] <;> omega
      refine Safe.inLoop ?_
      refine Safe.rg rfl ?_
      simp only [a5g, hlt, E3, seval]
      refine Safe.cd rfl ?_
      simp only [E3, seval]
      refine Safe.rg rfl ?_
      simp only [a7D, a0B _ v _ i (by omega), E3, seval]
      refine Safe.rg rfl ?_
      simp only [a7C, E3, seval]
      first | refine (a0K v[i] (hv.get (by omega))).acall ?_ | refine (a0K v[i] (hv.get (by omega))).dcall ?_
      try simp only [E3, seval]
      refine Safe.cd rfl ?_
      simp only [hs, E3, seval]
      refine Safe.rg rfl ?_
      simp only [b2E, hiw, E3, seval]
      refine Safe.keep [5, 6, 7] ?_
      simp only [E3, seval]
      refine Safe.drop0 hH rfl (by simp only [List.all_cons, List.all_nil, E3, seval]) (by repeat (first | exact RC.nil | refine RC.none ?_ | refine RC.mo ?_ | refine RC.io ?_ | refine RC.row ZI.cl ?_ | refine RC.cons (a0t _) ?_ | refine RC.row a0d ?_ | refine RC.emp ?_ | refine RC.zero ?_ | refine RC.one (Z_cl _) ?_ | refine RC.one (ZI.cl _) ?_ | refine RC.one (a0d _) ?_)) ?_
      exact ih
    · have hlt : (m : Int) < (v.length : Int) := by omega
      have hs : ¬ v[m].z.sign = 0 := d8A (by rw [← b2T (by omega)]; exact h0)
      refine Safe.inLoop ?_
      refine Safe.rg rfl ?_
      simp only [a5g, hlt, E3, seval]
      refine Safe.cd rfl ?_
      simp only [E3, seval]
      refine Safe.rg rfl ?_
      simp only [a7D, a0B _ v _ m (by omega), E3, seval]
      refine Safe.rg rfl ?_
      simp only [a7C, E3, seval]
      first | refine (a0K v[m] (hv.get (by omega))).acall ?_ | refine (a0K v[m] (hv.get (by omega))).dcall ?_
      try simp only [E3, seval]
      refine Safe.cd rfl ?_
      simp only [hs, E3, seval]
      refine Safe.rg rfl ?_
      simp only [b9D, E3, seval]
      refine Safe.rt rfl ?_
      simp only [E3, seval]
      first | exact ⟨rfl, _, rfl⟩ | exact ⟨_, rfl⟩ | exact ⟨trivial, _, rfl⟩
  · rw [hl]
    refine Safe.lp rfl ?_
    refine Safe.keep [5, 6, 7] ?_
    try simp only [E3, seval]
    refine Safe.loopN (v.length) (fun i => [(5, vecV v), (6, .int .i64 v.length), (7, .int .i64 i)]) (fun i => hap H []) rfl rfl (fun i hi ih => ?_) ?_
    · have hlt : (i : Int) < (v.length : Int) := by omega
      have hs : v[i].z.sign = 0 := sign_zero (by rw [← b2T (by omega)]; exact hz i hi)
      have hiw : IntKind.wrap .i64 ((i : Int) + 1) = ((i + 1 : Nat) : Int) := by rw [a0b] <;> omega
      refine Safe.inLoop ?_
      refine Safe.rg rfl ?_
      simp only [a5g, hlt, E3, seval]
      refine Safe.cd rfl ?_
      simp only [E3, seval]
      refine Safe.rg rfl ?_
      simp only [a7D, a0B _ v _ i (by omega), E3, seval]
      refine Safe.rg rfl ?_
      simp only [a7C, E3, seval]
      first | refine (a0K v[i] (hv.get (by omega))).acall ?_ | refine (a0K v[i] (hv.get (by omega))).dcall ?_
      try simp only [E3, seval]
      refine Safe.cd rfl ?_
      simp only [hs, E3, seval]
      refine Safe.rg rfl ?_
      simp only [b2E, hiw, E3, seval]
      refine Safe.keep [5, 6, 7] ?_
      simp only [E3, seval]
      refine Safe.drop0 hH rfl (by simp only [List.all_cons, List.all_nil, E3, seval]) (by repeat (first | exact RC.nil | refine RC.none ?_ | refine RC.mo ?_ | refine RC.io ?_ | refine RC.row ZI.cl ?_ | refine RC.cons (a0t _) ?_ | refine RC.row a0d ?_ | refine RC.emp ?_ | refine RC.zero ?_ | refine RC.one (Z_cl _) ?_ | refine RC.one (ZI.cl _) ?_ | refine RC.one (a0d _) ?_)) ?_
      exact ih
    · refine Safe.inLoop ?_
      refine Safe.rg rfl ?_
      simp only [a5g, Int.lt_irrefl, E3, seval]
      refine Safe.cd rfl ?_
      simp only [E3, seval]
      refine Safe.rg rfl ?_
      simp only [b9C, E3, seval]
      refine Safe.rt rfl ?_
      simp only [E3, seval]
      first | exact ⟨rfl, _, rfl⟩ | exact ⟨_, rfl⟩ | exact ⟨trivial, _, rfl⟩
theorem one3 (a b c : AV) : b7l [a, b, c] = .tup [a, b, c] := rfl
theorem cl3i (a b c : Int) : Cl (.tup [.int .i64 a, .int .i64 b, .int .i64 c]) := c4r (.int _ _) (.int _ _) (.int _ _)
theorem d8J {b : List (List ZI)} (hr : Rect b) {i : Nat} (hi : i < b.length) : (b[i].length : Int) = (b[0].length : Int) := by
  have := hr i hi
  rw [a5A hi, a5A (by omega)] at this
  omega
theorem d7Q {b : List (List ZI)} (h : 0 < b.length) : wid b = b[0].length := by rw [wid, a5A h]
theorem a2K (b : List (List ZI)) (k : Nat) (hb : Mok k b) (hr : Rect b) : a0f Pr a3O [matV b] (.tup [.int .i64 b.length, .int .i64 (wid b), .int .i64 0]) := by
  have hbl := hb.len
  refine a0f.intro b6E b6D (Nat.le_of_ble_eq_true rfl) (cl3i _ _ _) fun H hH => ?_
  refine Safe.rg rfl ?_
  simp only [a9k, E3, seval]
  refine Safe.rg rfl ?_
  simp only [a9j, E3, seval]
  refine Safe.cd rfl ?_
  simp only [E3, seval]
  by_cases h0 : b.length = 0
  · have h0' : (b.length : Int) = 0 := by omega
    have hw : wid b = 0 := by simp [wid, mg, List.length_eq_zero_iff.1 h0]
    simp only [h0', E3, seval]
    refine Safe.rg rfl ?_
    simp only [b6C, E3, seval]
    refine Safe.rt rfl ?_
    simp only [one3, h0', hw, Int.natCast_zero, E3, seval]
    first | exact ⟨rfl, _, rfl⟩ | exact ⟨_, rfl⟩ | exact ⟨trivial, _, rfl⟩
  · have h0' : ¬ (b.length : Int) = 0 := by omega
    simp only [h0', E3, seval]
    refine Safe.rg rfl ?_
    simp only [a9i, E3, seval]
    refine Safe.lp rfl ?_
    refine Safe.keep [0, 10, 11, 12] ?_
    try simp only [E3, seval]
    refine Safe.loopN (b.length) (fun i => [(0, matV b), (10, matV b), (11, .int .i64 b.length), (12, .int .i64 i)]) (fun i => hap H []) rfl rfl (fun i hi ih => ?_) ?_
    · have hlt : (i : Int) < (b.length : Int) := by omega
      have hiw : IntKind.wrap .i64 ((i : Int) + 1) = ((i + 1 : Nat) : Int) := by rw [a0b] <;> omega
      refine Safe.inLoop ?_
      refine Safe.rg rfl ?_
      simp only [a4g, hlt, E3, seval]
      refine Safe.cd rfl ?_
      simp only [E3, seval]
      refine Safe.rg rfl ?_
      simp only [a5U, a2g _ b _ i hi, E3, seval]
      refine Safe.rg rfl ?_
      simp only [a5T, b3q _ b _ (show 0 < b.length by omega), d8J hr hi, E3, seval]
      refine Safe.cd rfl ?_
      simp only [E3, seval]
      refine Safe.rg rfl ?_
      simp only [a9h, hiw, E3, seval]
      refine Safe.keep [0, 10, 11, 12] ?_
      simp only [E3, seval]
      exact ih
    · refine Safe.inLoop ?_
      refine Safe.rg rfl ?_
      simp only [a4g, Int.lt_irrefl, E3, seval]
      refine Safe.cd rfl ?_
      simp only [E3, seval]
      refine Safe.rg rfl ?_
      simp only [b6A, b3q _ b _ (show 0 < b.length by omega), E3, seval]
      refine Safe.rt rfl ?_
      simp only [one3, d7Q (show 0 < b.length by omega), E3, seval]
      first | exact ⟨rfl, _, rfl⟩ | exact ⟨_, rfl⟩ | exact ⟨trivial, _, rfl⟩
theorem c2B (b : List (List ZI)) (k : Nat) (hb : Mok k b) (hr : ¬ Rect b) : a0f Pr a3O [matV b] (.tup [.int .i64 0, .int .i64 0, .int .i64 8]) := by
  have hbl := hb.len
  rcases d0t b with h | ⟨m, hm, h1, h2⟩
  · exact absurd h hr
  have h0' : ¬ (b.length : Int) = 0 := by omega
  refine a0f.intro b6E b6D (Nat.le_of_ble_eq_true rfl) (cl3i _ _ _) fun H hH => ?_
  refine Safe.rg rfl ?_
  simp only [a9k, E3, seval]
  refine Safe.rg rfl ?_
  simp only [a9j, h0', E3, seval]
  refine Safe.cd rfl ?_
  simp only [E3, seval]
  refine Safe.rg rfl ?_
  simp only [a9i, E3, seval]
  refine Safe.lp rfl ?_
  refine Safe.keep [0, 10, 11, 12] ?_
  try simp only [E3, seval]
  refine Safe.loopN (m) (fun i => [(0, matV b), (10, matV b), (11, .int .i64 b.length), (12, .int .i64 i)]) (fun i => hap H []) rfl rfl (fun i hi ih => ?_) ?_
  · have hlt : (i : Int) < (b.length : Int) := by omega
    have he : (b[i].length : Int) = (b[0].length : Int) := by
      have := h2 i hi
      rw [a5A (by omega), a5A (by omega)] at this
      omega
    have hiw : IntKind.wrap .i64 ((i : Int) + 1) = ((i + 1 : Nat) : Int) := by rw [a0b] <;> omega
    refine Safe.inLoop ?_
    refine Safe.rg rfl ?_
    simp only [a4g, hlt, E3, seval]
    refine Safe.cd rfl ?_
    simp only [E3, seval]
    refine Safe.rg rfl ?_
    simp only [a5U, a2g _ b _ i (by omega), E3, seval]
    refine Safe.rg rfl ?_
    simp only [a5T, b3q _ b _ (show 0 < b.length by omega), he, E3, seval]
    refine Safe.cd rfl ?_
    simp only [E3, seval]
    refine Safe.rg rfl ?_
    simp only [a9h, hiw, E3, seval]
    refine Safe.keep [0, 10, 11, 12] ?_
    simp only [E3, seval]
    exact ih
  · have hlt : (m : Int) < (b.length : Int) := by omega
    have he : ¬ (b[m].length : Int) = (b[0].length : Int) := by
      rw [a5A hm, a5A (by omega)] at h1
      omega
    refine Safe.inLoop ?_
    refine Safe.rg rfl ?_
    simp only [a4g, hlt, E3, seval]
    refine Safe.cd rfl ?_
    simp only [E3, seval]
    refine Safe.rg rfl ?_
    simp only [a5U, a2g _ b _ m hm, E3, seval]
    refine Safe.rg rfl ?_
    simp only [a5T, b3q _ b _ (show 0 < b.length by omega), he, E3, seval]
    refine Safe.cd rfl ?_
    simp only [E3, seval]
    refine Safe.rg rfl ?_
    simp only [b6B, E3, seval]
    refine Safe.rt rfl ?_
    simp only [one3, E3, seval]
    first | exact ⟨rfl, _, rfl⟩ | exact ⟨_, rfl⟩ | exact ⟨trivial, _, rfl⟩
def c4M (m : Nat) : List (List ZI) := mat m fun i => vec m (updF (fun _ => 0) i 1)
theorem c8T (m : Nat) (hm : m ≤ 64) : a0f Pr b5J [.int .i64 m] (.tup [matV (c4M m), .int .i64 0]) := by
  have hn : ¬ (m : Int) < 0 := by omega
  have h64 : ¬ (m : Int) > 64 := by omega
  refine a0f.intro c7y c7w (Nat.le_of_ble_eq_true rfl) (a6F (a9o _) (.int _ _)) fun H hH => ?_
  refine Safe.rg rfl ?_
  simp only [b9z, E3, seval]
  refine Safe.rg rfl ?_
  simp only [b9y, hn, E3, seval]
  refine Safe.cd rfl ?_
  simp only [E3, seval]
  refine Safe.rg rfl ?_
  simp only [b9x, h64, E3, seval]
  refine Safe.cd rfl ?_
  simp only [E3, seval]
  refine Safe.rg rfl ?_
  simp only [b9w, E3, seval]
  refine Safe.rg rfl ?_
  simp only [b9v, E3, seval]
  refine Safe.nilrow 4 1 (by decide) (by simp only [E3, seval]) ?_
  refine Safe.lp rfl ?_
  refine Safe.keep [0, 4, 13, 14] ?_
  try simp only [E3, seval]
  refine Safe.loopN (m) (fun i => [(0, .int .i64 m), (4, .mu (lid H 0) 0 i none), (13, .int .i64 m), (14, .int .i64 i)]) (fun i => hap H [some ⟨1, (mat i fun i => vec m (updF (fun _ => 0) i 1)).map vecV⟩]) rfl rfl (fun i hi ih => ?_) ?_
  · have hlt : (i : Int) < (m : Int) := by omega
    have hiw : IntKind.wrap .i64 ((i : Int) + 1) = ((i + 1 : Nat) : Int) := by rw [a0b] <;> omega
    refine Safe.inLoop ?_
    refine Safe.rg rfl ?_
    simp only [b2v, hlt, E3, seval]
    refine Safe.cd rfl ?_
    simp only [E3, seval]
    refine Safe.rg rfl ?_
    simp only [b9u, E3, seval]
    refine Safe.rg rfl ?_
    simp only [b9t, a8P _ H [some ⟨1, (mat i fun i => vec m (updF (fun _ => 0) i 1)).map vecV⟩] 2 32 (.agg [.bool false, .nil]) .i64 .i64 m m (by decide) (Nat.le_refl _) (by omega) (by omega), E3, seval]
    refine Safe.toldRep 1 m rfl ?_
    simp only [E3, seval]
    refine Safe.rg rfl ?_
    simp only [b6x, E3, seval]
    first | refine (a3i 1 (by omega) (by omega)).acall ?_ | refine (a3i 1 (by omega) (by omega)).dcall ?_
    try simp only [E3, seval]
    simp only [b3m H [some ⟨1, (mat i fun i => vec m (updF (fun _ => 0) i 1)).map vecV⟩, some ⟨2, (vec m fun _ => 0).map ZI.av⟩] 2 1 0 m (some m) .i64 i rfl rfl hi, a3d _ H [some ⟨1, (mat i fun i => vec m (updF (fun _ => 0) i 1)).map vecV⟩, some ⟨2, (vec m fun _ => 0).map ZI.av⟩] 2 1 i 0 (Z 1) rfl (by rw [List.length_map, a0a]; exact hi) rfl rfl (Nat.le_refl 2), c6R, E3, seval]
    refine Safe.freeze 1 hH rfl rfl (a1j 2 ZI.av _ ZI.cl) ?_
    refine Safe.keep [0, 4, 6, 13, 14] ?_
    simp only [a7I H 1 (vec m (updF (fun _ => 0) i 1)) (m) (some m) (by simp only [a0a, a0c]), a0X, a0E, a1p, a1V, E3, seval]
    refine Safe.rg rfl ?_
    simp only [b6w, E3, seval]
    rw [a9Y hH 0 (a4h H 0) a0d (mat i fun i => vec m (updF (fun _ => 0) i 1)) (vec m (updF (fun _ => 0) i 1)) (mat (i + 1) fun i => vec m (updF (fun _ => 0) i 1)) ?hlen ?hl ?hL ?hy ?hl2 ?hb ?hbb]
    case hlen => first | rfl | (simp only [a0a, a0c, List.length_map, List.length_take]; done) | (simp only [a0a, a0c, List.length_map, List.length_take]; omega)
    case hl => rfl
    case hL => repeat (first | exact RC.nil | refine RC.none ?_ | refine RC.mo ?_ | refine RC.io ?_ | refine RC.row ZI.cl ?_ | refine RC.cons (a0t _) ?_ | refine RC.row a0d ?_ | refine RC.emp ?_ | refine RC.zero ?_ | refine RC.one (Z_cl _) ?_ | refine RC.one (ZI.cl _) ?_ | refine RC.one (a0d _) ?_)
    case hy => rfl
    case hl2 => first | exact a4z _ _ | exact a5S _ _ | exact a4d _ (by omega) | exact a1x _ _ (by omega)
    case hb => omega
    case hbb => omega
    simp only [E3, seval]
    refine Safe.rg rfl ?_
    simp only [b6v, hiw, E3, seval]
    refine Safe.keep [0, 4, 13, 14] ?_
    simp only [E3, seval]
    refine Safe.drop1 hH rfl (by simp only [List.all_cons, List.all_nil, E3, seval]) (by repeat (first | exact RC.nil | refine RC.none ?_ | refine RC.mo ?_ | refine RC.io ?_ | refine RC.row ZI.cl ?_ | refine RC.cons (a0t _) ?_ | refine RC.row a0d ?_ | refine RC.emp ?_ | refine RC.zero ?_ | refine RC.one (Z_cl _) ?_ | refine RC.one (ZI.cl _) ?_ | refine RC.one (a0d _) ?_)) ?_
    exact ih
  · refine Safe.inLoop ?_
    refine Safe.rg rfl ?_
    simp only [b2v, Int.lt_irrefl, E3, seval]
    refine Safe.cd rfl ?_
    simp only [E3, seval]
    refine Safe.freeze 0 hH rfl rfl (a1j 1 vecV _ a0d) ?_
    refine Safe.keep [4] ?_
    simp only [c3Q 0 1 vecV (mat m fun i => vec m (updF (fun _ => 0) i 1)) m none (a0c _ _).symm, E3, seval]
    refine Safe.rg rfl ?_
    simp only [b6u, E3, seval]
    refine Safe.rt rfl ?_
    simp only [E3, seval]
    first | exact ⟨rfl, _, rfl⟩ | exact ⟨_, rfl⟩ | exact ⟨trivial, _, rfl⟩
theorem c3w (m : Nat) (hm : m ≤ 64) : Mok 1 (c4M m) := c3y (by omega) fun i hi => a4V (by omega) fun j _ => by
  simp only [updF]; split <;> decide
end Go.Abs
namespace Go.Abs
theorem b7e (x : List ZI) (b : List (List ZI)) (p q : Nat) (hx : Vok p x) (hb : Mok q b) (hp : p + q + 2 < 17592186044416) (hr : Rect b) (hl : x.length = b.length) : a0f Pr a8d [vecV x, matV b] (vecV (c4p x b)) := by
  have hbl := hb.len
  refine a0f.introL c0L c0I (Nat.le_of_ble_eq_true rfl) (a0d _) fun H hH => ?_
  refine Safe.rg rfl ?_
  simp only [b0F, E3, seval]
  refine Safe.rg rfl ?_
  simp only [b0E, E3, seval]
  refine Safe.cd rfl ?_
  simp only [E3, seval]
  by_cases h0 : b.length = 0
  · have h0' : (b.length : Int) = 0 := by omega
    have hw : c4p x b = [] := by simp [c4p, wid, mg, List.length_eq_zero_iff.1 h0, vec]
    simp only [h0', E3, seval]
    refine Safe.rg rfl ?_
    simp only [b0D, E3, seval]
    refine Safe.rt rfl ?_
    simp only [E3, seval]
    rw [hw]
    exact ⟨Le.nilvec, _, rfl⟩
  · have h0' : ¬ (b.length : Int) = 0 := by omega
    have hw0 : b[0].length = wid b := (d7Q (by omega)).symm
    have hwl := (hb.row 0).len
    rw [show (mg b 0).length = wid b from rfl] at hwl
    simp only [h0', E3, seval]
    refine Safe.rg rfl ?_
    simp only [b0C, b3q _ b _ (show 0 < b.length by omega), hw0, a8P _ H [] 2 32 (.agg [.bool false, .nil]) .i64 .i64 (wid b) (wid b) (by decide) (Nat.le_refl _) (by omega) (by omega), E3, seval]
    refine Safe.toldRep 0 (wid b) rfl ?_
    simp only [E3, seval]
    refine Safe.rg rfl ?_
    simp only [b0B, E3, seval]
    refine Safe.lp rfl ?_
    refine Safe.keep [0, 5, 18, 19, 20] ?_
    try simp only [E3, seval]
    refine Safe.loopN (b.length) (fun i => [(0, vecV x), (5, .mu (lid H 0) 0 (wid b) (some (wid b))), (18, matV b), (19, .int .i64 b.length), (20, .int .i64 i)]) (fun i => hap H [some ⟨2, (vec (wid b) fun k => cmbS x b k i).map ZI.av⟩]) rfl rfl (fun i hi ih => ?_) ?_
    · have hlt : (i : Int) < (b.length : Int) := by omega
      have hri := d2C hr hi
      have hiw : IntKind.wrap .i64 ((i : Int) + 1) = ((i + 1 : Nat) : Int) := by rw [a0b] <;> omega
      refine Safe.inLoop ?_
      refine Safe.rg rfl ?_
      simp only [a6i, hlt, E3, seval]
      refine Safe.cd rfl ?_
      simp only [E3, seval]
      refine Safe.rg rfl ?_
      simp only [b0A, a2g _ b _ i hi, E3, seval]
      refine Safe.rg rfl ?_
      simp only [b0z, hri, E3, seval]
      refine Safe.lp rfl ?_
      refine Safe.keep [0, 5, 6, 18, 19, 20, 25, 26, 27] ?_
      simp only [E3, seval]
      refine Safe.loopN (wid b) (fun j => [(0, vecV x), (5, .mu (lid H 0) 0 (wid b) (some (wid b))), (6, .int .i64 i), (18, matV b), (19, .int .i64 b.length), (20, .int .i64 i), (25, vecV b[i]), (26, .int .i64 (wid b)), (27, .int .i64 j)]) (fun j => hap H [some ⟨2, (vec (wid b) (cmbF x b i j)).map ZI.av⟩]) rfl (by rw [d4x]) (fun j hj ih2 => ?_) ?_
      · have hlt2 : (j : Int) < (wid b : Int) := by omega
        have hjw : IntKind.wrap .i64 ((j : Int) + 1) = ((j + 1 : Nat) : Int) := by rw [a0b] <;> omega
        have hm := a2a x[i] b[i][j] p q (hx.get (by omega)) ((hb.get hi).get (by omega)) (by omega)
        rw [← b2T (show i < x.length by omega), mgz hi (show j < b[i].length by omega)] at hm
        have ha := d5c (d7f hx hb hi j (j := j)) (Nat.lt_of_lt_of_le (b5b (hx.abs i) ((hb.row i).abs j)) (c7J (show p + q ≤ p + q + 2 by omega))) hp
        refine Safe.inLoop ?_
        refine Safe.rg rfl ?_
        simp only [a6h, hlt2, E3, seval]
        refine Safe.cd rfl ?_
        simp only [E3, seval]
        refine Safe.rg rfl ?_
        simp only [b0y, a0B _ b[i] _ j (by omega), E3, seval]
        refine Safe.rg rfl ?_
        simp only [a9a, d7X hj, e2A hj, a0B _ x _ i (by omega), E3, seval]
        first | refine (hm).acall ?_ | refine (hm).dcall ?_
        try simp only [E3, seval]
        first | refine (ha).acall ?_ | refine (ha).dcall ?_
        try simp only [E3, seval]
        simp only [d7X hj, e2r hj, E3, seval]
        rw [d4y]
        refine Safe.rg rfl ?_
        simp only [a8Z, hjw, E3, seval]
        refine Safe.keep [0, 5, 6, 18, 19, 20, 25, 26, 27] ?_
        simp only [E3, seval]
        refine Safe.drop1 hH rfl (by simp only [List.all_cons, List.all_nil, E3, seval]) (by repeat (first | exact RC.nil | refine RC.none ?_ | refine RC.mo ?_ | refine RC.io ?_ | refine RC.row ZI.cl ?_ | refine RC.cons (a0t _) ?_ | refine RC.row a0d ?_ | refine RC.emp ?_ | refine RC.zero ?_ | refine RC.one (Z_cl _) ?_ | refine RC.one (ZI.cl _) ?_ | refine RC.one (a0d _) ?_)) ?_
        exact ih2
      · refine Safe.inLoop ?_
        refine Safe.rg rfl ?_
        simp only [a6h, Int.lt_irrefl, E3, seval]
        refine Safe.cd rfl ?_
        simp only [E3, seval]
        rw [d7e]
        refine Safe.rg rfl ?_
        simp only [a8Y, hiw, E3, seval]
        refine Safe.keep [0, 5, 18, 19, 20] ?_
        simp only [E3, seval]
        exact ih
    · refine Safe.inLoop ?_
      refine Safe.rg rfl ?_
      simp only [a6i, Int.lt_irrefl, E3, seval]
      refine Safe.cd rfl ?_
      simp only [E3, seval]
      refine Safe.freeze 0 hH rfl rfl (a1j 2 ZI.av _ ZI.cl) ?_
      refine Safe.keep [5] ?_
      simp only [a7I H 0 (vec (wid b) fun k => cmbS x b k b.length) (wid b) (some (wid b)) (by simp only [a0a, a0c]), a0X, a0E, a1p, a1V, E3, seval]
      refine Safe.rg rfl ?_
      simp only [a8X, E3, seval]
      refine Safe.rt rfl ?_
      simp only [E3, seval]
      exact ⟨Le.refl _, _, rfl⟩
theorem c6n (x : List ZI) (b : List (List ZI)) (p q : Nat) (hx : Vok p x) (hb : Mok q b) (hp : p + q + 2 < 17592186044416) (hr : Rect b) (hl : x.length = b.length) : a0f Pr a4O [vecV x, matV b] (.tup [vecV (c4p x b), .int .i64 0]) := by
  have hl' : (x.length : Int) = (b.length : Int) := by omega
  refine a0f.intro c0Q c0P (Nat.le_of_ble_eq_true rfl) (a6F (a0d _) (.int _ _)) fun H hH => ?_
  refine Safe.rg rfl ?_
  simp only [b0L, E3, seval]
  refine Safe.rg rfl ?_
  simp only [b0K, E3, seval]
  first | refine (a2K b q hb hr).acall ?_ | refine (a2K b q hb hr).dcall ?_
  try simp only [E3, seval]
  refine Safe.rg rfl ?_
  simp only [b0J, hl', E3, seval]
  refine Safe.cd rfl ?_
  simp only [E3, seval]
  refine Safe.rg rfl ?_
  simp only [b0I, E3, seval]
  first | refine (b7e x b p q hx hb hp hr hl).acall ?_ | refine (b7e x b p q hx hb hp hr hl).dcall ?_
  try simp only [E3, seval]
  refine Safe.rt rfl ?_
  simp only [E3, seval]
  first | exact ⟨rfl, _, rfl⟩ | exact ⟨_, rfl⟩ | exact ⟨trivial, _, rfl⟩
end Go.Abs
namespace Go.Abs
theorem d7U {H L : Heap} {wd len lo hi mx : Nat} {X : List AV} {oc : Option Nat} {k k' k2 : IntKind} (h1 : lo ≤ hi) (h2 : hi ≤ mx) (h3 : mx ≤ len) :
    slcV (hap H (some ⟨wd, X⟩ :: L)) wd (.mu (lid H 0) 0 len oc) (some (.int k lo)) (some (.int k' hi)) (some (.int k2 mx)) = some (.mu (lid H 0) lo (hi - lo) (some (mx - lo))) := by
  simp only [slcV, a1u, a4l, List.getElem?_cons_zero, Option.join_some, Option.bind_some]
  rw [if_pos ⟨trivial, rfl, by omega, by omega, by omega, by omega⟩]
  simp
theorem Safe.drop2n {x : Cx} {todo : List AItem} {env : Env} {R : AV → Heap → Prop} {H : Heap} {a b c : Option Blk} (hH : a0S H) (hx : x.n0 = H.length) (he : env.all (fun p => nref (lid H 2) p.2) = true)
    (hL : ∀ r, some r ∈ [a, b] → ∀ v ∈ r.flat, nref (lid H 2) v = true) (h : Safe x todo env (hap H [a, b]) R) : Safe x todo env (hap H [a, b, c]) R := Safe.drop (L := [a, b]) hH hx he hL h
/-- The entries as they come, column after column. -/
def colF (b : List (List ZI)) (t : Nat) : Int := zg (mg b (t % b.length)) (t / b.length)
theorem c4q (b : List (List ZI)) {k i : Nat} (hi : i < b.length) : colF b (k * b.length + i) = zg (mg b i) k := by
  unfold colF
  rw [Nat.add_comm, Nat.add_mul_mod_self_right, Nat.mod_eq_of_lt hi, Nat.add_mul_div_right _ _ (by omega), Nat.div_eq_of_lt hi, Nat.zero_add]
def a0A (H : Heap) (n k : Nat) : List AV := (List.range k).map fun j => .mu (lid H 0) (j * n) n (some n)
theorem c1s (H : Heap) (n k : Nat) : a0A H n (k + 1) = a0A H n k ++ [.mu (lid H 0) (k * n) n (some n)] := by simp [a0A, List.range_succ]
theorem b0e (H : Heap) (n k : Nat) : (a0A H n k).flatMap AV.cells = a0A H n k := by
  unfold a0A
  induction (List.range k) with
  | nil => rfl
  | cons j l ih => rw [List.map_cons, List.flatMap_cons, ih]; rfl
theorem b3c {H : Heap} {n k : Nat} {a : AV} (h : a ∈ a0A H n k) : ∃ j, a = .mu (lid H 0) (j * n) n (some n) := by
  obtain ⟨j, _, rfl⟩ := List.mem_map.1 h; exact ⟨j, rfl⟩
theorem d2J (H : Heap) (b : List (List ZI)) : (a0A H b.length (wid b)).map (frz (lid H 0) ⟨2, (vec (wid b * b.length) (colF b)).map ZI.av⟩) = (a0k b).map vecV := by
  apply List.ext_getElem
  · simp [a0A, a0k, a0c]
  · intro j h1 h2
    have hj : j < wid b := by simpa [a0A] using h1
    have hle : (j + 1) * b.length ≤ wid b * b.length := Nat.mul_le_mul_right _ hj
    rw [Nat.succ_mul] at hle
    simp only [a0A, List.getElem_map, List.getElem_range, a0k, a3H]
    rw [b9V _ _ _ _ _ _ (by rw [List.length_map, a0a]; omega)]
    show AV.sl 2 _ = AV.sl 2 _
    congr 1
    apply List.ext_getElem
    · simp [a0a]; omega
    · intro i g1 g2
      have hi : i < b.length := by simpa [a0a] using g2
      simp only [List.getElem_take, List.getElem_drop, List.getElem_map, a1T, c4q b hi]
theorem c4O (b : List (List ZI)) (p : Nat) (hb : Mok p b) (hp : p ≤ 17592186044416) (hr : Rect b) : a0f Pr a7d [matV b] (.tup [matV (a0k b), .int .i64 0]) := by
  have hbl := hb.len
  have hwl := (hb.row 0).len
  rw [show (mg b 0).length = wid b from rfl] at hwl
  have hnm : b.length * wid b ≤ 2097152 * 2097152 := Nat.mul_le_mul hbl hwl
  have hcm : wid b * b.length = b.length * wid b := Nat.mul_comm _ _
  have hmw : IntKind.wrap .i64 ((b.length : Int) * (wid b : Int)) = ((b.length * wid b : Nat) : Int) := by
    rw [← Int.natCast_mul, a0b] <;> omega
  refine a0f.intro b9B b9A (Nat.le_of_ble_eq_true rfl) (a6F (a9o _) (.int _ _)) fun H hH => ?_
  refine Safe.rg rfl ?_
  simp only [b2D, E3, seval]
  refine Safe.rg rfl ?_
  simp only [b2C, E3, seval]
  first | refine (a2K b p hb hr).acall ?_ | refine (a2K b p hb hr).dcall ?_
  try simp only [E3, seval]
  refine Safe.rg rfl ?_
  simp only [b2B, E3, seval]
  refine Safe.cd rfl ?_
  simp only [E3, seval]
  refine Safe.rg rfl ?_
  simp only [b2A, hmw, c3z _ [] 2 32 _ _ _ (b.length * wid b) (by decide) (by omega) (by omega), E3, seval]
  refine Safe.rg rfl ?_
  simp only [b2z, E3, seval]
  refine Safe.nilrow 8 1 (by decide) (by simp only [E3, seval]) ?_
  refine Safe.rg rfl ?_
  simp only [b2y, E3, seval]
  refine Safe.lp rfl ?_
  refine Safe.keep [0, 4, 7, 8, 24, 25] ?_
  simp only [E3, seval]
  refine Safe.loopN (wid b) (fun k => [(0, matV b), (4, .int .i64 b.length), (7, .mu (lid H 0) 0 (k * b.length) (some (b.length * wid b))), (8, .mu (lid H 1) 0 k none), (24, .int .i64 (wid b)), (25, .int .i64 k)])
    (fun k => hap H [some ⟨2, (vec (k * b.length) (colF b)).map ZI.av⟩, some ⟨1, a0A H b.length k⟩]) (by simp only [Nat.zero_mul]; rfl) (by simp only [Nat.zero_mul]; rfl) (fun k hk ih => ?_) ?_
  · have hlt : (k : Int) < (wid b : Int) := by omega
    have hle : (k + 1) * b.length ≤ wid b * b.length := Nat.mul_le_mul_right _ hk
    rw [Nat.succ_mul] at hle ih
    have hiw : IntKind.wrap .i64 ((k : Int) + 1) = ((k + 1 : Nat) : Int) := by rw [a0b] <;> omega
    have hk0 : IntKind.wrap .i64 ((k : Int) * (b.length : Int)) = ((k * b.length : Nat) : Int) := by
      rw [← Int.natCast_mul, a0b] <;> omega
    have hk1 : IntKind.wrap .i64 (((k + 1 : Nat) : Int) * (b.length : Int)) = ((k * b.length + b.length : Nat) : Int) := by
      rw [← Int.natCast_mul, Nat.succ_mul, a0b] <;> omega
    refine Safe.inLoop ?_
    refine Safe.rg rfl ?_
    simp only [a5f, hlt, E3, seval]
    refine Safe.cd rfl ?_
    simp only [E3, seval]
    refine Safe.rg rfl ?_
    simp only [b2x, E3, seval]
    refine Safe.rg rfl ?_
    simp only [b2w, E3, seval]
    refine Safe.lp rfl ?_
    refine Safe.keep [0, 4, 7, 8, 9, 24, 25, 28, 29] ?_
    simp only [E3, seval]
    refine Safe.loopN b.length (fun i => [(0, matV b), (4, .int .i64 b.length), (7, .mu (lid H 0) 0 (k * b.length + i) (some (b.length * wid b))), (8, .mu (lid H 1) 0 k none), (9, .int .i64 k), (24, .int .i64 (wid b)), (25, .int .i64 k), (28, .int .i64 b.length), (29, .int .i64 i)])
      (fun i => hap H [some ⟨2, (vec (k * b.length + i) (colF b)).map ZI.av⟩, some ⟨1, a0A H b.length k⟩]) rfl rfl (fun i hi ih2 => ?_) ?_
    · have hlt2 : (i : Int) < (b.length : Int) := by omega
      have hjw : IntKind.wrap .i64 ((i : Int) + 1) = ((i + 1 : Nat) : Int) := by rw [a0b] <;> omega
      have hri := d2C hr hi
      have hf := b4B b[i][k] (((hb.get hi).get (by omega)).mono hp)
      rw [mgz hi (by omega), ← c4q b hi] at hf
      refine Safe.inLoop ?_
      refine Safe.rg rfl ?_
      simp only [a4f, hlt2, E3, seval]
      refine Safe.cd rfl ?_
      simp only [E3, seval]
      refine Safe.rg rfl ?_
      simp only [a9g, E3, seval]
      refine Safe.rg rfl ?_
      simp only [a9f, a2g _ b _ i hi, a0B _ b[i] _ k (by omega), E3, seval]
      first | refine (hf).acall ?_ | refine (hf).dcall ?_
      try simp only [E3, seval]
      rw [c4v (H := H) 0 (a4h H 0) (f := ZI.av) (vec (k * b.length + i) (colF b)) (canZ (colF b (k * b.length + i))) (vec (k * b.length + i + 1) (colF b)) ?hlen ?hl ?hy ?hl2 ?hc]
      case hlen => first | rfl | (simp only [a0a, a0c, List.length_map, List.length_take]; done) | (simp only [a0a, a0c, List.length_map, List.length_take]; omega)
      case hl => rfl
      case hy => rfl
      case hl2 => first | exact a4z _ _ | exact a5S _ _ | exact a4d _ (by omega) | exact a1x _ _ (by omega)
      case hc => omega
      simp only [E3, seval]
      refine Safe.rg rfl ?_
      simp only [a9e, hjw, E3, seval]
      refine Safe.keep [0, 4, 7, 8, 9, 24, 25, 28, 29] ?_
      simp only [E3, seval]
      exact ih2
    · refine Safe.inLoop ?_
      refine Safe.rg rfl ?_
      simp only [a4f, Int.lt_irrefl, E3, seval]
      refine Safe.cd rfl ?_
      simp only [E3, seval]
      have hsub : k * b.length + b.length - k * b.length = b.length := by omega
      have happ : ∀ env, appV H.length 1 24 false (.mu (lid H 1) 0 k none) (.mu (lid H 2) 0 1 (some 1)) env (hap H [some ⟨2, (vec (k * b.length + b.length) (colF b)).map ZI.av⟩, some ⟨1, a0A H b.length k⟩, some ⟨1, [.mu (lid H 0) (k * b.length) b.length (some b.length)]⟩]) =
          some (.mu (lid H 1) 0 (k + 1) none, scrub (lid H 1) env, hap H [some ⟨2, (vec (k * b.length + b.length) (colF b)).map ZI.av⟩, some ⟨1, a0A H b.length (k + 1)⟩, some ⟨1, [.mu (lid H 0) (k * b.length) b.length (some b.length)]⟩]) := by
        intro env
        have h01 : lid H 0 ≠ lid H 1 := by simp [lid]
        have := c4x H.length env H [some ⟨2, (vec (k * b.length + b.length) (colF b)).map ZI.av⟩, some ⟨1, a0A H b.length k⟩, some ⟨1, [.mu (lid H 0) (k * b.length) b.length (some b.length)]⟩] 1 24 false 1 k none (.mu (lid H 2) 0 1 (some 1)) (a0A H b.length k) [.mu (lid H 0) (k * b.length) b.length (some b.length)] hH rfl (by simp [a0A]) (a4h H 1)
          (c4S H _ 1 2 0 1 (some 1) [.mu (lid H 0) (k * b.length) b.length (some b.length)] rfl (Nat.le_refl _)) (by
            intro j r hj a ha
            match j with
            | 0 => cases hj; exact (a1j 2 ZI.av _ ZI.cl a ha).ref
            | 1 =>
              cases hj
              rw [show (Blk.mk 1 (a0A H b.length k)).flat = _ from b0e H b.length k] at ha
              obtain ⟨j, rfl⟩ := b3c ha
              exact .mu _ _ _ _ h01
            | 2 =>
              cases hj
              simp [Blk.flat, AV.cells] at ha
              subst ha
              exact .mu _ _ _ _ h01
            | j + 3 => simp at hj) (by
            intro a ha
            simp [AV.cells] at ha
            subst ha
            exact .mu _ _ _ _ h01) (by simp; omega) (by simp; omega) rfl
        simp only [a1Z, Option.bind_none, List.length_cons, List.length_nil, Nat.zero_add, List.set_cons_succ, List.set_cons_zero, ← c1s] at this
        exact this
      refine Safe.rg rfl ?_
      simp only [a9d, hk0, hiw, hk1, d7U (Nat.le_add_right (k * b.length) b.length) (Nat.le_refl _) (Nat.le_refl _), hsub, happ, E3, seval]
      refine Safe.rg rfl ?_
      simp only [a9c, hiw, E3, seval]
      refine Safe.keep [0, 4, 7, 8, 24, 25] ?_
      simp only [E3, seval]
      refine Safe.drop2n hH rfl (by simp only [E3, seval]) (by
        intro r hr v hv
        simp only [List.mem_cons, Option.some.injEq, List.not_mem_nil, or_false] at hr
        rcases hr with rfl | rfl
        · exact a1o (a1j 2 ZI.av _ ZI.cl v hv)
        · rw [show (Blk.mk 1 (a0A H b.length (k + 1))).flat = _ from b0e H b.length (k + 1)] at hv
          obtain ⟨j, rfl⟩ := b3c hv
          simp only [E3, seval]) ?_
      exact ih
  · refine Safe.inLoop ?_
    refine Safe.rg rfl ?_
    simp only [a5f, Int.lt_irrefl, E3, seval]
    refine Safe.cd rfl ?_
    simp only [E3, seval]
    refine Safe.freeze 0 hH rfl rfl (a1j 2 ZI.av _ ZI.cl) ?_
    refine Safe.keep [8] ?_
    simp only [a0X, d2J, E3, seval]
    refine Safe.freeze 1 hH rfl rfl (a1j 1 vecV _ a0d) ?_
    refine Safe.keep [8] ?_
    simp only [c3R H 1 (a0k b) (wid b) none (by simp only [a0k, a0c]), E3, seval]
    refine Safe.rg rfl ?_
    simp only [a9b, E3, seval]
    refine Safe.rt rfl ?_
    simp only [E3, seval]
    first | exact ⟨rfl, _, rfl⟩ | exact ⟨_, rfl⟩ | exact ⟨trivial, _, rfl⟩
end Go.Abs
namespace Go.Abs
theorem c6f {n : Nat} (M : Nat) : (fl n fun j => if n ≤ j then dig M j else 0) = fl n fun _ => 0 := a3w fun i hi => if_neg (by omega)
theorem c6g {n i : Nat} (M : Nat) : (fl n fun j => if j = i then dig M i else if i + 1 ≤ j then dig M j else 0) = fl n fun j => if i ≤ j then dig M j else 0 := a3w fun j _ => by
  by_cases h : j = i
  · subst h; rw [if_pos rfl, if_pos (Nat.le_refl _)]
  · rw [if_neg h]
    by_cases h2 : i + 1 ≤ j
    · rw [if_pos h2, if_pos (by omega)]
    · rw [if_neg h2, if_neg (by omega)]
theorem c9u {n : Nat} (M : Nat) : (fl n fun j => if 0 ≤ j then dig M j else 0) = fl n (dig M) := a3w fun j _ => if_pos (Nat.zero_le _)
theorem c2R {A n d : Nat} (h : A < LB ^ n) : A / d < LB ^ n := Nat.lt_of_le_of_lt (Nat.div_le_self _ _) h
theorem c1n (a : List Nat) (d : Nat) (ha : Nt a) (hd : 0 < d) (hd2 : d < LB) : a0f Pr b2L [natV a, .int .u32 d] (.tup [natV (limbs (val a / d)), .int .u32 (val a % d : Nat)]) := by
  have hLB : LB = 4294967296 := rfl
  have hlen := ha.len
  have hv := a1P ha.lim
  refine a0f.intro c5t c5r (Nat.le_of_ble_eq_true rfl) (a6F (a2I _) (.int _ _)) fun H hH => ?_
  refine Safe.rg rfl ?_
  simp only [b6k, E3, seval]
  refine Safe.rg rfl ?_
  simp only [b6j, c3A (H := H) (L := []) (n := a.length) (by omega), E3, seval]
  refine Safe.rg rfl ?_
  simp only [b6i, E3, seval]
  refine Safe.rg rfl ?_
  simp only [b6h, a0b (n := (a.length : Int) - 1) (by omega) (by omega), E3, seval]
  refine Safe.lp rfl ?_
  refine Safe.keep [0, 1, 6, 7, 8] ?_
  simp only [E3, seval]
  refine Safe.loopD a.length (fun i => [(0, natV a), (1, .int .u32 d), (6, .mu (lid H 0) 0 a.length (some a.length)), (7, .int .u64 (val a / LB ^ i % d : Nat)), (8, .int .i64 ((i : Int) - 1))])
    (fun i => hap H [some ⟨1, u32s (fl a.length fun j => if i ≤ j then dig (val a / d) j else 0)⟩]) ?_ ?_ (fun i hi ih => ?_) ?_
  · rw [Nat.div_eq_of_lt hv]; rfl
  · rw [c6f]
  · have e1 : ((i + 1 : Nat) : Int) - 1 = (i : Int) := by omega
    rw [e1]
    refine Safe.inLoop ?_
    refine Safe.rg rfl ?_
    simp only [a8K, Int.natCast_nonneg i, E3, seval]
    refine Safe.cd rfl ?_
    simp only [E3, seval]
    have hr : val a / LB ^ (i + 1) % d < LB := Nat.lt_trans (Nat.mod_lt _ hd) hd2
    have hai : a.getD i 0 < LB := a1W ha.lim i
    refine Safe.rg rfl ?_
    simp only [b6g, a0Q _ a _ i hi, d8B hr, a3a (x := a.getD i 0) (by omega), b8g hr hai, E3, seval]
    rw [← d4m ha.lim i]
    have hs := d2l (val a) d i
    have hq := d2m (val a) d i
    have hb : val a / LB ^ (i + 1) % d * LB + dig (val a) i < 18446744073709551616 := by
      have := c9v (val a) i
      have : val a / LB ^ (i + 1) % d * LB ≤ 4294967295 * LB := Nat.mul_le_mul_right _ (by omega)
      omega
    refine Safe.rg rfl ?_
    simp only [b6f, a3a (x := d) (by omega), d2E hd hb, hq, c1j (c9v _ _), d6U hi, fst0 hi, E3, seval]
    refine Safe.rg rfl ?_
    simp only [b6e, a3a (x := d) (by omega), d8I hd, hs, E3, seval]
    refine Safe.rg rfl ?_
    simp only [b6d, a0b (n := (i : Int) - 1) (by omega) (by omega), E3, seval]
    refine Safe.keep [0, 1, 6, 7, 8] ?_
    simp only [E3, seval]
    rw [c6g]
    exact ih
  · refine Safe.inLoop ?_
    refine Safe.rg rfl ?_
    simp only [a8K, show (0 ≤ ((0 : Nat) : Int) - 1) = False by simp, E3, seval]
    refine Safe.cd rfl ?_
    simp only [E3, seval]
    refine Safe.freeze 0 hH rfl rfl (a0t _) ?_
    refine Safe.keep [6, 7] ?_
    simp only [d3Z, E3, seval]
    rw [c9u]
    have hr : val a % d < LB := Nat.lt_trans (Nat.mod_lt _ hd) hd2
    refine Safe.rg rfl ?_
    simp only [b6c, E3, seval]
    first | refine (a0r _ (a7E _ _) (by rw [a1N]; exact hlen)).acall ?_ | refine (a0r _ (a7E _ _) (by rw [a1N]; exact hlen)).dcall ?_
    try simp only [E3, seval]
    simp only [a4Q (c2R hv (d := d)), Nat.pow_zero, Nat.div_one, c1j hr, E3, seval]
    refine Safe.rt rfl ?_
    simp only [E3, seval]
    first | exact ⟨rfl, _, rfl⟩ | exact ⟨_, rfl⟩ | exact ⟨trivial, _, rfl⟩
theorem c9A (n : Nat) (h : n < LB) : a0f Pr a1v [.int .u32 n] (.int .i64 ((32 - blen n : Nat) : Int)) := by
  have hLB : LB = 4294967296 := rfl
  have hb : blen n ≤ 32 := by
    rcases Nat.lt_or_ge 32 (blen n) with hc | hc
    · exfalso
      have h0 : n ≠ 0 := by rintro rfl; simp [c6q] at hc
      have := c0z h0
      have h2 : 2 ^ 32 ≤ 2 ^ (blen n - 1) := Nat.pow_le_pow_right (by decide) (by omega)
      have : (2 : Nat) ^ 32 = LB := by decide
      omega
    · exact hc
  refine a0f.intro a5d a5c (Nat.le_of_ble_eq_true rfl) (.int _ _) fun H hH => ?_
  refine Safe.rg rfl ?_
  simp only [a2s, E3, seval]
  refine Safe.rg rfl ?_
  simp only [a2r, E3, seval]
  first | refine (b5i n (by omega)).acall ?_ | refine (b5i n (by omega)).dcall ?_
  try simp only [E3, seval]
  have hw : IntKind.wrap .i64 ((32 : Int) - ((blen n : Nat) : Int)) = ((32 - blen n : Nat) : Int) := by rw [a0b] <;> omega
  simp only [hw, E3, seval]
  refine Safe.rt rfl ?_
  simp only [E3, seval]
  first | exact ⟨rfl, _, rfl⟩ | exact ⟨_, rfl⟩ | exact ⟨trivial, _, rfl⟩
section
variable {H L : Heap} {id : Nat} {b : Blk}
theorem lrow (h : H[id]? = some (some b)) : hrow (hap H L) id = some b := by
  have hlt := a0h h
  rw [a7H _ _ _ hlt]
  unfold hrow; rw [h]; rfl
theorem llen (h : H[id]? = some (some b)) (off len : Nat) (oc : Option Nat) : lenV (hap H L) (.mu id off len oc) = some (.int .i64 len) := by rw [b9J, lrow h]; rfl
theorem lidx (h : H[id]? = some (some b)) {wd off len j : Nat} (hw : b.wd = wd) (oc : Option Nat) (k : IntKind) (hj : j < len) : idxV (hap H L) wd (.mu id off len oc) (.int k j) = some (.loc id (off + j) 0) := by
  rw [b5r _ _ _ _ _ _ _ _ (by omega) (by omega), lrow h]; simp [hw]
theorem lat (h : H[id]? = some (some b)) {j : Nat} (hj : j < b.xs.length) : atV (hap H L) (.loc id j 0) = some (b.xs.getD j .top).cells := by rw [a9X, lrow h]; simp [hj]
theorem lslc (h : H[id]? = some (some b)) {wd off len n : Nat} (hw : b.wd = wd) (oc : Option Nat) (k : IntKind) (hn : n ≤ len) : slcV (hap H L) wd (.mu id off len oc) none (some (.int k n)) none = some (.mu id off n oc) := by
  simp only [slcV, lrow h, Option.bind_some, a4l]
  rw [if_pos ⟨hw, by omega, by omega, by omega⟩]
  cases oc <;> simp
theorem d3Q {i : Nat} (h : L[i]? = some (some b)) : (hap H L)[lid H i]? = some (some b) := by
  unfold hap lid
  rw [List.getElem?_append_right (by omega), Nat.add_sub_cancel_left]; exact h
end
theorem d8u (X : List Nat) (hX : Lim X) (hb : X.length ≤ 17592186044416) {H : Heap} {id : Nat} (h : H[id]? = some (some ⟨1, u32s X⟩)) (n : Nat) (hn : n = X.length) (oc : Option Nat) :
    a0o Pr a0n [.mu id 0 n oc] H fun r' H' => r' = .mu id 0 (limbs (val X)).length oc ∧ H' = H := by
  subst hn
  have hid := a0h h
  refine a0o.eff b8C b8A (Nat.le_of_ble_eq_true rfl) fun hH => ?_
  have kk : ∀ k : Nat, k ≤ X.length → val (X.take k) = val X → Safe ⟨Pr, fun _ _ => false, a0n, 21, [.tmp 2], H.length⟩ [.inLoop b8B, .inBlock 0, .code ((ACode.region a3G false).seq ACode.ret)] [(0, .mu id 0 k oc)] (hap H [])
      fun r' H' => ∃ H1 L, H' = hap H1 L ∧ H1.length = H.length ∧ a0S H1 ∧ Ref (· < H.length) r' ∧ r' = .mu id 0 (limbs (val X)).length oc ∧ H1 = H := by
    have stop : ∀ (k : Nat) (env : Env), k ≤ X.length → val (X.take k) = val X → ((X.take k).getLast?).getD 1 ≠ 0 → look env 0 = .mu id 0 k oc → Safe ⟨Pr, fun _ _ => false, a0n, 21, [.tmp 2], H.length⟩ [.code ((ACode.region a3G false).seq ACode.ret)] env (hap H [])
        fun r' H' => ∃ H1 L, H' = hap H1 L ∧ H1.length = H.length ∧ a0S H1 ∧ Ref (· < H.length) r' ∧ r' = .mu id 0 (limbs (val X)).length oc ∧ H1 = H := by
      intro k env hk hv hl h0
      refine Safe.rg rfl ?_
      simp only [a3G, h0, E3, seval]
      refine Safe.rt rfl ?_
      simp only [E3, seval]
      refine ⟨H, [], rfl, rfl, hH, .mu _ _ _ _ hid, ?_, rfl⟩
      rw [← hv, a9q (hX.take k) hl, List.length_take, Nat.min_eq_left hk]
    intro k
    induction k with
    | zero =>
      intro hk hv
      refine Safe.inLoop ?_
      refine Safe.rg rfl ?_
      simp only [a4Z, llen h, show ((0 : Int) < ((0 : Nat) : Int)) = False by simp, E3, seval]
      refine Safe.cd rfl ?_
      simp only [E3, seval]
      refine Safe.exit rfl ?_
      exact stop 0 _ hk hv (by simp) (by simp only [E3, seval])
    | succ k ih =>
      intro hk hv
      refine Safe.inLoop ?_
      have hw : IntKind.i64.wrap (((k + 1 : Nat) : Int) - 1) = (k : Int) := by rw [a0b] <;> omega
      have hp : (0 < ((k + 1 : Nat) : Int)) = True := eq_true (by omega)
      have hat := lat (L := []) h (j := k) (by rw [a0M]; omega)
      rw [a8A (by omega)] at hat
      refine Safe.rg rfl ?_
      simp only [a4Z, llen h, hw, hp, lidx h rfl oc .i64 (Nat.lt_succ_self k), hat, E3, seval]
      have hlast : ((X.take (k + 1)).getLast?).getD 1 = X.getD k 0 := by rw [c4P (by omega)]; simp
      by_cases hd : X.getD k 0 = 0
      · have e : (((X.getD k 0 : Nat) : Int) = 0) = True := eq_true (by omega)
        refine Safe.cd rfl ?_
        simp only [e, E3, seval]
        refine Safe.rg rfl ?_
        simp only [b2e, llen h, hw, lslc h rfl oc .i64 (Nat.le_succ k), E3, seval]
        refine Safe.inBlock ?_
        refine Safe.keep [0] ?_
        simp only [E3, seval]
        refine ih (by omega) ?_
        rw [← hv, a0u, hd]; simp
      · have e : (((X.getD k 0 : Nat) : Int) = 0) = False := eq_false (by omega)
        refine Safe.cd rfl ?_
        simp only [e, E3, seval]
        refine Safe.exit rfl ?_
        exact stop (k + 1) _ hk hv (by rw [hlast]; exact hd) (by simp only [E3, seval])
  refine Safe.rg rfl ?_
  simp only [b2f, E3, seval]
  refine Safe.lp rfl ?_
  refine Safe.keep [0] ?_
  simp only [E3, seval]
  exact kk X.length (Nat.le_refl _) (by rw [List.take_length])
theorem d5t {l : List Nat} (hl : Lim l) {i n : Nat} (hi : i < l.length) (hn : n < 32) (j : Nat) :
    (if j = i + 1 then l.getD i 0 * 2 ^ n / LB else if j = i then l.getD i 0 % 2 ^ (32 - n) * 2 ^ n + dig (val (l.take i) * 2 ^ n) i else dig (val (l.take i) * 2 ^ n) j) = dig (val (l.take (i + 1)) * 2 ^ n) j := by
  have hLB : LB = 2 ^ (32 - n) * 2 ^ n := by rw [← Nat.pow_add, show 32 - n + n = 32 by omega]
  have hp : 0 < 2 ^ n := Nat.pow_pos (by decide)
  have hai := a1W hl i
  have hM := a3C hl i
  rw [a0u, Nat.add_mul]
  have e : LB ^ i * l.getD i 0 * 2 ^ n = LB ^ i * (l.getD i 0 * 2 ^ n) := Nat.mul_assoc _ _ _
  rw [e]
  generalize l.getD i 0 = a at *
  generalize hV : val (l.take i) = V at *
  have hy : V * 2 ^ n / LB ^ i < 2 ^ n := by
    rw [Nat.div_lt_iff_lt_mul (a4B i), Nat.mul_comm]
    exact Nat.mul_lt_mul_of_pos_left hM hp
  have h2n : 2 ^ n ≤ LB := by rw [hLB]; exact Nat.le_mul_of_pos_left _ (Nat.pow_pos (by decide))
  have hmod : a * 2 ^ n % LB = a % 2 ^ (32 - n) * 2 ^ n := by rw [hLB, Nat.mul_mod_mul_right]
  have hx : a % 2 ^ (32 - n) * 2 ^ n + V * 2 ^ n / LB ^ i < LB := by
    have h1 : (a % 2 ^ (32 - n) + 1) * 2 ^ n ≤ 2 ^ (32 - n) * 2 ^ n := Nat.mul_le_mul_right _ (Nat.mod_lt _ (Nat.pow_pos (by decide)))
    rw [← hLB, Nat.add_mul] at h1
    omega
  have hs : (V * 2 ^ n + LB ^ i * (a * 2 ^ n)) / LB ^ i = V * 2 ^ n / LB ^ i + a * 2 ^ n := Nat.add_mul_div_left _ _ (a4B i)
  have hdm := Nat.mod_add_div (a * 2 ^ n) LB
  rw [hmod] at hdm
  by_cases h1 : j = i + 1
  · rw [if_pos h1, h1]
    unfold dig
    rw [a9R, hs]
    have h3 : (V * 2 ^ n / LB ^ i + a * 2 ^ n) / LB = a * 2 ^ n / LB := by
      conv => lhs; rw [← hdm, ← Nat.add_assoc, Nat.add_mul_div_left _ _ (show 0 < LB by decide)]
      rw [Nat.div_eq_of_lt (by omega), Nat.zero_add]
    rw [h3, Nat.mod_eq_of_lt]
    rw [Nat.div_lt_iff_lt_mul (by decide)]
    exact Nat.lt_of_lt_of_le (Nat.mul_lt_mul_of_pos_right hai hp) (Nat.mul_le_mul_left _ h2n)
  · rw [if_neg h1]
    by_cases h2 : j = i
    · rw [if_pos h2, h2]
      have h5 : (V * 2 ^ n / LB ^ i + a * 2 ^ n) % LB = V * 2 ^ n / LB ^ i + a % 2 ^ (32 - n) * 2 ^ n := by
        have : V * 2 ^ n / LB ^ i + a * 2 ^ n = (V * 2 ^ n / LB ^ i + a % 2 ^ (32 - n) * 2 ^ n) + LB * (a * 2 ^ n / LB) := by omega
        rw [this, Nat.add_mul_mod_self_left, Nat.mod_eq_of_lt (by omega)]
      unfold dig
      rw [hs, h5, Nat.mod_eq_of_lt (show V * 2 ^ n / LB ^ i < LB by omega), Nat.add_comm]
    · rw [if_neg h2]
      rcases Nat.lt_or_ge j i with h3 | h3
      · exact (c0q _ h3).symm
      · have hbig : LB ^ (i + 1) * LB ≤ LB ^ j := by
          rw [← Nat.pow_succ]; exact Nat.pow_le_pow_right (by decide) (by omega)
        have hlow : V * 2 ^ n < LB ^ (i + 1) := by
          rw [Nat.pow_succ]
          exact Nat.lt_of_lt_of_le (Nat.mul_lt_mul_of_pos_right hM hp) (Nat.mul_le_mul_left _ h2n)
        have hall : V * 2 ^ n + LB ^ i * (a * 2 ^ n) < LB ^ (i + 1) * LB := by
          have q1 : V * 2 ^ n + LB ^ i * (a * 2 ^ n) = (V + LB ^ i * a) * 2 ^ n := by rw [Nat.add_mul, Nat.mul_assoc]
          have q2 : LB ^ i * (a + 1) ≤ LB ^ (i + 1) := by rw [Nat.pow_succ]; exact Nat.mul_le_mul_left _ hai
          rw [Nat.mul_add, Nat.mul_one] at q2
          rw [q1]
          exact Nat.lt_of_lt_of_le (Nat.mul_lt_mul_of_pos_right (show V + LB ^ i * a < LB ^ (i + 1) by omega) hp) (Nat.mul_le_mul_left _ h2n)
        have hL1 : LB ^ (i + 1) ≤ LB ^ (i + 1) * LB := Nat.le_mul_of_pos_right _ (by decide)
        rw [b0k (by omega), b0k (by omega)]
theorem a0o.introH {P : Program} {mu : Nat → Nat → Bool} {f : FuncId} {fn : Func} (hf : P.funcs[f]? = some fn) {ac : ACode} {rs : List ResV} {nt : Nat} (hc : fchk P mu fn = some (ac, rs, nt))
    {args : List AV} {H : Heap} {R : AV → Heap → Prop} (ha : args.length ≤ nt) (h : a0S H → Safe ⟨P, mu, f, nt, rs, H.length⟩ [.code ac] (b7n 0 args) (hap H []) R) : a0o P f args H R := a0o.intro hf hc ha fun hH => by
  have := h hH
  rw [a2X] at this
  exact this
theorem c4T (a : List Nat) (n : Nat) (ha : Nt a) (hal : a.length < 17592186044416) (hv : val a ≠ 0) (hn : n < 32) (H : Heap) : a0o Pr b4y [natV a, .int .i64 n] H fun r' H' =>
    r' = .mu (lid H 0) 0 (limbs (val a * 2 ^ n)).length (some ((limbs (val a)).length + 1)) ∧ H' = hap H [some ⟨1, u32s (fl ((limbs (val a)).length + 1) (dig (val a * 2 ^ n)))⟩] := by
  have hlb : (limbs (val a)).length < 17592186044416 := Nat.lt_of_le_of_lt (a1z ha.lim) hal
  have hlim := a0w (val a)
  have hval := a0i (val a)
  have hne : (limbs (val a)).length ≠ 0 := by
    intro h0
    have := List.length_eq_zero_iff.1 h0
    rw [this] at hval
    exact hv hval.symm
  have hLB : LB = 4294967296 := rfl
  refine a0o.introH d0L d0J (Nat.le_of_ble_eq_true rfl) fun hH => ?_
  refine Safe.rg rfl ?_
  simp only [c1K, E3, seval]
  refine Safe.rg rfl ?_
  simp only [c1J, E3, seval]
  first | refine (a0r a ha.lim ha.len).acall ?_ | refine (a0r a ha.lim ha.len).dcall ?_
  try simp only [E3, seval]
  generalize limbs (val a) = l at *
  generalize val a = A at *
  subst hval
  have h0 : ((l.length : Int) = 0) = False := eq_false (by omega)
  refine Safe.rg rfl ?_
  simp only [c1I, h0, E3, seval]
  refine Safe.cd rfl ?_
  simp only [E3, seval]
  have hq : binV .quo (.int .i64 (n : Int)) (.int .i64 32) = some (.int .i64 0) := by
    have := e1e (x := n) (y := 32) (by decide) (by omega)
    rw [Nat.div_eq_of_lt hn] at this; exact this
  have hr : binV .rem (.int .i64 (n : Int)) (.int .i64 32) = some (.int .i64 (n : Int)) := by
    have := e1c (x := n) (y := 32) (by decide)
    rw [Nat.mod_eq_of_lt hn] at this; exact this
  refine Safe.rg rfl ?_
  simp only [c1H, hq, hr, a3a (x := n) (by omega), E3, seval]
  have w1 : IntKind.wrap .i64 ((l.length : Int) + 0) = (l.length : Int) := by rw [Int.add_zero]; exact c4K (by omega)
  have w2 : IntKind.wrap .i64 ((l.length : Int) + 1) = ((l.length + 1 : Nat) : Int) := by rw [a0b] <;> omega
  refine Safe.rg rfl ?_
  simp only [c1G, w1, w2, c3A (H := H) (L := []) (n := l.length + 1) (by omega), E3, seval]
  refine Safe.rg rfl ?_
  simp only [c1F, E3, seval]
  refine Safe.lp rfl ?_
  refine Safe.keep [0, 5, 6, 7, 27, 28] ?_
  simp only [E3, seval]
  refine Safe.loopN l.length (fun i => [(0, natV l), (5, .int .i64 0), (6, .int .u64 (n : Int)), (7, .mu (lid H 0) 0 (l.length + 1) (some (l.length + 1))), (27, .int .i64 l.length), (28, .int .i64 i)])
    (fun i => hap H [some ⟨1, u32s (fl (l.length + 1) (dig (val (l.take i) * 2 ^ n)))⟩]) rfl ?_ (fun i hi ih => ?_) ?_
  · congr 5
    refine a3w fun j _ => ?_
    simp [dig, val]
  · have hlt : ((i : Int) < (l.length : Int)) = True := eq_true (by omega)
    refine Safe.inLoop ?_
    refine Safe.rg rfl ?_
    simp only [b4R, hlt, E3, seval]
    refine Safe.cd rfl ?_
    simp only [E3, seval]
    have hai := a1W hlim i
    refine Safe.rg rfl ?_
    simp only [c1E, E3, seval]
    refine Safe.rg rfl ?_
    simp only [c1D, a0Q _ l _ i hi, a3a (x := l.getD i 0) (by omega), e0W hai (show n < 33 by omega), E3, seval]
    have w3 : IntKind.wrap .i64 ((i : Int) + 0) = (i : Int) := by rw [Int.add_zero]; exact c4K (by omega)
    have w4 : IntKind.wrap .i64 ((i : Int) + 1) = ((i + 1 : Nat) : Int) := by rw [a0b] <;> omega
    have hLB2 : LB = 2 ^ (32 - n) * 2 ^ n := by rw [← Nat.pow_add, show 32 - n + n = 32 by omega]
    have w5 : IntKind.wrap .u32 ((l.getD i 0 * 2 ^ n : Nat) : Int) = ((l.getD i 0 % 2 ^ (32 - n) * 2 ^ n : Nat) : Int) := by
      rw [a2m]; congr 1
      rw [hLB2, Nat.mul_mod_mul_right]
    have hy : dig (val (l.take i) * 2 ^ n) i < 2 ^ n := by
      unfold dig
      refine Nat.lt_of_le_of_lt (Nat.mod_le _ _) ?_
      rw [Nat.div_lt_iff_lt_mul (a4B i), Nat.mul_comm]
      exact Nat.mul_lt_mul_of_pos_left (a3C hlim i) (Nat.pow_pos (by decide))
    have w6 := d1Q (x := l.getD i 0 % 2 ^ (32 - n)) n (Nat.mod_lt _ (Nat.pow_pos (by decide))) (by omega) hy
    refine Safe.rg rfl ?_
    simp only [b8H, w3, d6U (show i < l.length + 1 by omega), fat0 (show i < l.length + 1 by omega), w5, w6, fst0 (show i < l.length + 1 by omega), E3, seval]
    have hq2 : l.getD i 0 * 2 ^ n / LB < LB := by
      rw [Nat.div_lt_iff_lt_mul (by decide)]
      have h2n : 2 ^ n ≤ LB := by rw [hLB2]; exact Nat.le_mul_of_pos_left _ (Nat.pow_pos (by decide))
      exact Nat.lt_of_lt_of_le (Nat.mul_lt_mul_of_pos_right hai (Nat.pow_pos (by decide))) (Nat.mul_le_mul_left _ h2n)
    refine Safe.rg rfl ?_
    simp only [b8G, w3, w4, d2k, c1j hq2, d6U (show i + 1 < l.length + 1 by omega), fst0 (show i + 1 < l.length + 1 by omega), E3, seval]
    refine Safe.rg rfl ?_
    simp only [b8F, w4, E3, seval]
    refine Safe.keep [0, 5, 6, 7, 27, 28] ?_
    simp only [E3, seval]
    rw [a3w fun j _ => d5t hlim hi hn j]
    exact ih
  · refine Safe.inLoop ?_
    refine Safe.rg rfl ?_
    simp only [b4R, Int.lt_irrefl, E3, seval]
    refine Safe.cd rfl ?_
    simp only [E3, seval]
    rw [List.take_length]
    refine Safe.rg rfl ?_
    simp only [b8E, E3, seval]
    have hb : val l * 2 ^ n < LB ^ (l.length + 1) := by
      rw [Nat.pow_succ]
      have h2n : 2 ^ n ≤ LB := by
        have : LB = 2 ^ (32 - n) * 2 ^ n := by rw [← Nat.pow_add, show 32 - n + n = 32 by omega]
        rw [this]; exact Nat.le_mul_of_pos_left _ (Nat.pow_pos (by decide))
      exact Nat.lt_of_lt_of_le (Nat.mul_lt_mul_of_pos_right (a1P hlim) (Nat.pow_pos (by decide))) (Nat.mul_le_mul_left _ h2n)
    refine a0o.mono (d8u _ (a7E _ _) (by rw [a1N]; omega) (d3Q rfl) (l.length + 1) (a1N _ _).symm (some (l.length + 1))) ?_
    rintro r' H' ⟨rfl, rfl⟩
    rw [a4Q hb]
    simp only [E3, seval]
    refine Safe.rt rfl ?_
    simp only [E3, seval]
theorem a3j (l : List Nat) (i : Nat) : val (l.drop i) = l.getD i 0 + LB * val (l.drop (i + 1)) := by
  rcases Nat.lt_or_ge i l.length with h | h
  · rw [List.drop_eq_getElem_cons h, List.getD_eq_getElem?_getD, List.getElem?_eq_getElem h]; rfl
  · rw [List.drop_eq_nil_of_le h, List.drop_eq_nil_of_le (by omega), b3y h]; rfl
theorem c6S {l : List Nat} (hl : Lim l) (i : Nat) : val l / LB ^ i = val (l.drop i) := by
  rw [a6J l i, Nat.add_mul_div_left _ _ (a4B i), Nat.div_eq_of_lt (a3C hl i), Nat.zero_add]
theorem d5s {l : List Nat} (hl : Lim l) (i : Nat) {n : Nat} (hn : n < 32) : (l.getD (i + 1) 0 * LB + l.getD i 0) / 2 ^ n % LB = dig (val l / 2 ^ n) i := by
  have hLB : LB = 2 ^ (32 - n) * 2 ^ n := by rw [← Nat.pow_add, show 32 - n + n = 32 by omega]
  unfold dig
  rw [Nat.div_div_eq_div_mul, Nat.mul_comm (2 ^ n), ← Nat.div_div_eq_div_mul, c6S hl, a3j, a3j l (i + 1)]
  have e : l.getD i 0 + LB * (l.getD (i + 1) 0 + LB * val (l.drop (i + 1 + 1))) = (l.getD (i + 1) 0 * LB + l.getD i 0) + 2 ^ n * (LB * (2 ^ (32 - n) * val (l.drop (i + 1 + 1)))) := by
    have h1 : LB * (LB * val (l.drop (i + 1 + 1))) = 2 ^ n * (LB * (2 ^ (32 - n) * val (l.drop (i + 1 + 1)))) := by
      conv => lhs; rw [Nat.mul_left_comm]; lhs; rw [hLB]
      rw [Nat.mul_comm (2 ^ (32 - n)), Nat.mul_assoc]
      congr 1
      rw [Nat.mul_left_comm]
    rw [Nat.mul_add, h1, Nat.mul_comm LB (l.getD (i + 1) 0)]
    omega
  rw [e, Nat.add_mul_div_left _ _ (Nat.pow_pos (by decide)), Nat.add_mul_mod_self_left]
theorem c8G (a : List Nat) (n : Nat) (ha : Nt a) (hn : n < 32) : a0f Pr b4x [natV a, .int .i64 n] (natV (limbs (val a / 2 ^ n))) := by
  have hlb := ha.limbs.len
  have hlim := a0w (val a)
  have hval := a0i (val a)
  have hLB : LB = 4294967296 := rfl
  refine a0f.introL d0H d0G (Nat.le_of_ble_eq_true rfl) (a2I _) fun H hH => ?_
  refine Safe.rg rfl ?_
  simp only [c1B, E3, seval]
  refine Safe.rg rfl ?_
  simp only [c1A, E3, seval]
  first | refine (a0r a ha.lim ha.len).acall ?_ | refine (a0r a ha.lim ha.len).dcall ?_
  try simp only [E3, seval]
  generalize limbs (val a) = l at *
  generalize val a = A at *
  subst hval
  have hq : binV .quo (.int .i64 (n : Int)) (.int .i64 32) = some (.int .i64 0) := by
    have := e1e (x := n) (y := 32) (by decide) (by omega)
    rw [Nat.div_eq_of_lt hn] at this; exact this
  have hr : binV .rem (.int .i64 (n : Int)) (.int .i64 32) = some (.int .i64 (n : Int)) := by
    have := e1c (x := n) (y := 32) (by decide)
    rw [Nat.mod_eq_of_lt hn] at this; exact this
  refine Safe.rg rfl ?_
  simp only [c1z, hq, hr, a3a (x := n) (by omega), E3, seval]
  by_cases h0 : l.length = 0
  · have hc : ((l.length : Int) ≤ 0) = True := eq_true (by omega)
    refine Safe.rg rfl ?_
    simp only [b4Q, hc, E3, seval]
    refine Safe.cd rfl ?_
    simp only [E3, seval]
    refine Safe.rg rfl ?_
    simp only [c1y, E3, seval]
    have : l = [] := List.length_eq_zero_iff.1 h0
    subst this
    refine Safe.rt rfl ?_
    simp only [E3, seval]
    refine ⟨?_, [], rfl⟩
    have : limbs (val [] / 2 ^ n) = [] := by simp [val, a0V]
    rw [this]
    exact Le.nil 1 (by decide)
  · have hc : ((l.length : Int) ≤ 0) = False := eq_false (by omega)
    refine Safe.rg rfl ?_
    simp only [b4Q, hc, E3, seval]
    refine Safe.cd rfl ?_
    simp only [E3, seval]
    have w1 : IntKind.wrap .i64 ((l.length : Int) - 0) = (l.length : Int) := by rw [Int.sub_zero]; exact c4K (by omega)
    refine Safe.rg rfl ?_
    simp only [c1x, w1, c3A (H := H) (L := []) (n := l.length) (by omega), E3, seval]
    refine Safe.rg rfl ?_
    simp only [c1w, d8Z, E3, seval]
    refine Safe.lp rfl ?_
    refine Safe.keep [0, 5, 6, 7, 27, 28] ?_
    simp only [E3, seval]
    refine Safe.loopN l.length (fun i => [(0, natV l), (5, .int .i64 0), (6, .int .u64 (n : Int)), (7, .mu (lid H 0) 0 l.length (some l.length)), (27, .int .i64 l.length), (28, .int .i64 i)])
      (fun i => hap H [some ⟨1, u32s (fl l.length fun j => if j < i then dig (val l / 2 ^ n) j else 0)⟩]) rfl ?_ (fun i hi ih => ?_) ?_
    · congr 5
    · have hlt : ((i : Int) < (l.length : Int)) = True := eq_true (by omega)
      refine Safe.inLoop ?_
      refine Safe.rg rfl ?_
      simp only [b4P, hlt, E3, seval]
      refine Safe.cd rfl ?_
      simp only [E3, seval]
      have hai := a1W hlim i
      have hai1 := a1W hlim (i + 1)
      have w3 : IntKind.wrap .i64 ((i : Int) + 0) = (i : Int) := by rw [Int.add_zero]; exact c4K (by omega)
      have w4 : IntKind.wrap .i64 ((i : Int) + 1) = ((i + 1 : Nat) : Int) := by rw [a0b] <;> omega
      refine Safe.rg rfl ?_
      simp only [c1v, E3, seval]
      refine Safe.rg rfl ?_
      simp only [c1u, a0Q _ l _ i hi, a3a (x := l.getD i 0) (by omega), w3, E3, seval]
      have rest : ∀ env : Env, look env 0 = natV l → look env 5 = .int .i64 0 → look env 6 = .int .u64 (n : Int) → look env 7 = .mu (lid H 0) 0 l.length (some l.length) → look env 27 = .int .i64 l.length → look env 28 = .int .i64 i → look env 8 = .int .i64 i →
          look env 9 = .int .u64 (l.getD (i + 1) 0 * LB + l.getD i 0 : Nat) → Safe ⟨Pr, fun _ _ => false, b4x, 66, [.tmp 4], H.length⟩ [.code (.region b2i false), .inBlock 1, .code (.region b2h false), .inLoop c1C, .inBlock 0, .code ((ACode.region b2g false).seq .ret)]
            env (hap H [some ⟨1, u32s (fl l.length fun j => if j < i then dig (val l / 2 ^ n) j else 0)⟩]) fun r' H' => Le r' (natV (limbs (val l / 2 ^ n))) ∧ ∃ L, H' = hap H L := by
        intro env e0 e5 e6 e7 e27 e28 e8 e9
        have w5 := a2m ((l.getD (i + 1) 0 * LB + l.getD i 0) / 2 ^ n)
        rw [d5s hlim i hn] at w5
        refine Safe.rg rfl ?_
        simp only [b2i, e7, e8, e9, e6, e0U (show n ≤ 64 by omega), w5, d6U hi, fst0 hi, E3, seval]
        refine Safe.inBlock ?_
        refine Safe.rg rfl ?_
        simp only [b2h, e28, w4, E3, seval]
        refine Safe.keep [0, 5, 6, 7, 27, 28] ?_
        simp only [E3, seval]
        simp only [e0, e5, e6, e7, e27]
        rw [show (fl l.length fun j => if j = i then dig (val l / 2 ^ n) i else if j < i then dig (val l / 2 ^ n) j else 0) = fl l.length fun j => if j < i + 1 then dig (val l / 2 ^ n) j else 0 from a3w fun j _ => by
          by_cases h : j = i
          · subst h; rw [if_pos rfl, if_pos (by omega)]
          · rw [if_neg h]
            by_cases h2 : j < i
            · rw [if_pos h2, if_pos (by omega)]
            · rw [if_neg h2, if_neg (by omega)]]
        exact ih
      by_cases h1 : i + 1 < l.length
      · have hlt1 : (((i + 1 : Nat) : Int) < (l.length : Int)) = True := eq_true (by omega)
        refine Safe.rg rfl ?_
        simp only [b2j, w3, w4, hlt1, E3, seval]
        refine Safe.cd rfl ?_
        simp only [E3, seval]
        refine Safe.rg rfl ?_
        simp only [b8D, w3, w4, a0Q _ l _ (i + 1) h1, a3a (x := l.getD (i + 1) 0) (by omega), d8B hai1, c9Y hai1 hai, E3, seval]
        exact rest _ (by simp only [E3, seval]) (by simp only [E3, seval]) (by simp only [E3, seval]) (by simp only [E3, seval]) (by simp only [E3, seval]) (by simp only [E3, seval]) (by simp only [E3, seval]) (by simp only [E3, seval])
      · have hlt1 : (((i + 1 : Nat) : Int) < (l.length : Int)) = False := eq_false (by omega)
        refine Safe.rg rfl ?_
        simp only [b2j, w3, w4, hlt1, E3, seval]
        refine Safe.cd rfl ?_
        simp only [E3, seval]
        have hz : l.getD (i + 1) 0 * LB + l.getD i 0 = l.getD i 0 := by rw [b3y (a := l) (i := i + 1) (by omega)]; omega
        refine Safe.skip (rest _ (by simp only [E3, seval]) (by simp only [E3, seval]) (by simp only [E3, seval]) (by simp only [E3, seval]) (by simp only [E3, seval]) (by simp only [E3, seval]) (by simp only [E3, seval]) (by rw [hz]; simp only [E3, seval]))
    · refine Safe.inLoop ?_
      refine Safe.rg rfl ?_
      simp only [b4P, Int.lt_irrefl, E3, seval]
      refine Safe.cd rfl ?_
      simp only [E3, seval]
      refine Safe.freeze 0 hH rfl rfl (a0t _) ?_
      refine Safe.keep [7] ?_
      simp only [d3Z, E3, seval]
      rw [show (fl l.length fun j => if j < l.length then dig (val l / 2 ^ n) j else 0) = fl l.length (dig (val l / 2 ^ n)) from a3w fun j hj => if_pos hj]
      refine Safe.rg rfl ?_
      simp only [b2g, E3, seval]
      first | refine (a0r _ (a7E _ _) (by rw [a1N]; omega)).acall ?_ | refine (a0r _ (a7E _ _) (by rw [a1N]; omega)).dcall ?_
      try simp only [E3, seval]
      simp only [a4Q (c2R (a1P hlim) (d := 2 ^ n)), E3, seval]
      refine Safe.rt rfl ?_
      simp only [E3, seval]
      exact ⟨Le.refl _, _, rfl⟩
def xr (g : Nat → Nat) (off : Nat) (x : List Nat) : Nat → Nat := fun j => if off ≤ j ∧ j < off + x.length then x.getD (j - off) 0 else g j
section
variable {g : Nat → Nat} {off N : Nat} {x y : List Nat}
theorem d7P : xr g off [] = g := by funext j; unfold xr; rw [if_neg (by simp)]
theorem d1P (d : Nat) : (fun j => if j = off + x.length then d else xr g off x j) = xr g off (x ++ [d]) := by
  funext j; unfold xr
  rw [List.length_append, List.length_singleton]
  by_cases h : j = off + x.length
  · subst h; rw [if_pos rfl, if_pos (by omega), Nat.add_sub_cancel_left]; simp
  · rw [if_neg h]
    by_cases h2 : off ≤ j ∧ j < off + x.length
    · rw [if_pos h2, if_pos (by omega)]
      simp only [List.getD_eq_getElem?_getD]
      rw [List.getElem?_append_left (by omega)]
    · rw [if_neg h2, if_neg (by omega)]
theorem e0N : xr g off x (off + x.length) = g (off + x.length) := by unfold xr; rw [if_neg (by omega)]
theorem e2p (hg : ∀ i, i < N → g i < LB) (hx : Lim x) : ∀ i, i < N → xr g off x i < LB := by
  intro i hi; unfold xr; split
  · exact a1W hx _
  · exact hg i hi
theorem e0M : fl x.length (fun i => xr g off x (off + i)) = x := by
  refine Eq.trans ?_ (d9E (l := x) rfl).symm
  refine a3w fun i hi => ?_
  unfold xr; rw [if_pos (by omega), Nat.add_sub_cancel_left]
theorem e2o (h : x.length = y.length) : xr (xr g off x) off y = xr g off y := by
  funext j; unfold xr; rw [h]
  split
  · rfl
  · rfl
end
section
variable {H L : Heap} {id N : Nat} {f : Nat → Nat} (hid : id < H.length)
include hid
theorem ofat {j : Nat} (h : j < N) : atV (hap (H.set id (some ⟨1, u32s (fl N f)⟩)) L) (.loc id j 0) = some [.int .u32 (f j : Nat)] := by
  rw [e1w hid _ j (by rw [a0M, a1N]; exact h)]
  simp only [a8A (l := fl N f) (i := j) (by rw [a1N]; exact h), b9X h, AV.cells]
theorem ofst {env : Env} {j : Nat} (h : j < N) (d : Nat) : a1y 1 (.loc id j 0) (.int .u32 (d : Int)) env (hap (H.set id (some ⟨1, u32s (fl N f)⟩)) L) = some (.top, env, hap (H.set id (some ⟨1, u32s (fl N fun i => if i = j then d else f i)⟩)) L) := by
  rw [e1v hid env _ 1 j _ (by rw [a0M, a1N]; exact h) rfl rfl (Nat.le_refl 1)]
  simp only [a2n, b7r, d4e]
end
noncomputable abbrev digX (n0 : Nat) : Cx := ⟨Pr, fun _ _ => false, a8c, 117, [.tmp 4], n0⟩
theorem d4l {H : Heap} {id off N n : Nat} {oc : Option Nat} {v : List Nat} {g : Nat → Nat} {todo : List AItem} {R : AV → Heap → Prop} {q b : Nat} (hid : id < H.length) (hv : Lim v) (hn : v.length = n) (hoff : off + n + 1 ≤ N) (hN : N ≤ 17592186044416) (hg : ∀ i, i < N → g i < LB)
    (k : ∀ y c, y.length = n + 1 → Lim y → c ≤ 1 → val y + LB ^ (n + 1) * c = val (fl (n + 1) fun i => g (off + i)) + val v →
      Safe (digX H.length) todo [(0, .mu id off (n + 1) oc), (1, natV v), (5, .int .i64 n), (7, .int .u64 q), (9, .int .u64 b), (13, .int .u64 c)] (hap (H.set id (some ⟨1, u32s (fl N (xr g off y))⟩)) []) R) :
    Safe (digX H.length) (.inLoop a5K :: .inBlock 4 :: todo) [(0, .mu id off (n + 1) oc), (1, natV v), (5, .int .i64 n), (7, .int .u64 q), (9, .int .u64 b), (13, .int .u64 0), (83, .int .i64 ((n + 1 : Nat) : Int)), (84, .int .i64 0)] (hap (H.set id (some ⟨1, u32s (fl N g)⟩)) []) R := by
  have hLB : LB = 4294967296 := rfl
  have key : ∀ (m i c : Nat) (y : List Nat), i + m = n + 1 → y.length = i → Lim y → c ≤ 1 → val y + LB ^ i * c = val ((fl (n + 1) fun i => g (off + i)).take i) + val (v.take i) →
      Safe (digX H.length) (.inLoop a5K :: .inBlock 4 :: todo) [(0, .mu id off (n + 1) oc), (1, natV v), (5, .int .i64 n), (7, .int .u64 q), (9, .int .u64 b), (13, .int .u64 c), (83, .int .i64 ((n + 1 : Nat) : Int)), (84, .int .i64 i)] (hap (H.set id (some ⟨1, u32s (fl N (xr g off y))⟩)) []) R := by
    intro m
    induction m with
    | zero =>
      intro i c y him hy ly hc hval
      have hi : i = n + 1 := by omega
      subst hi
      refine Safe.inLoop ?_
      refine Safe.rg rfl ?_
      simp only [a7t, Int.lt_irrefl, E3, seval]
      refine Safe.cd rfl ?_
      simp only [E3, seval]
      refine Safe.exit rfl ?_
      refine Safe.keep [0, 1, 5, 7, 9, 13] ?_
      simp only [E3, seval]
      refine k y c hy ly hc ?_
      rw [hval, List.take_of_length_le (l := fl _ _) (by rw [a1N]; omega), List.take_of_length_le (l := v) (by omega)]
    | succ m ih =>
      intro i c y him hy ly hc hval
      have hlt : ((i : Int) < ((n + 1 : Nat) : Int)) = True := eq_true (by omega)
      refine Safe.inLoop ?_
      refine Safe.rg rfl ?_
      simp only [a7t, hlt, E3, seval]
      refine Safe.cd rfl ?_
      simp only [E3, seval]
      have hgi : g (off + i) < LB := hg _ (by omega)
      have hxi : xr g off y (off + i) = g (off + i) := by subst hy; exact e0N
      have hvi := a1W hv i
      refine Safe.rg rfl ?_
      simp only [b3h, E3, seval]
      refine Safe.rg rfl ?_
      simp only [b3g, b4N hid 1 _ off (n + 1) i oc .i64 (show i < n + 1 by omega), ofat hid (show off + i < N by omega), hxi, a3a (x := g (off + i)) (by omega), b4C (x := c) (y := g (off + i)) (by omega), E3, seval]
      have rest : ∀ env : Env, look env 0 = .mu id off (n + 1) oc → look env 1 = natV v → look env 5 = .int .i64 n → look env 7 = .int .u64 q → look env 9 = .int .u64 b → look env 83 = .int .i64 ((n + 1 : Nat) : Int) → look env 84 = .int .i64 i → look env 14 = .int .i64 i → look env 13 = .int .u64 (c + g (off + i) + v.getD i 0 : Nat) →
          Safe (digX H.length) (.code (.seq (.region a7r false) (.region a7q false)) :: .inBlock 5 :: .code (.region a7p false) :: .inLoop a5K :: .inBlock 4 :: todo) env (hap (H.set id (some ⟨1, u32s (fl N (xr g off y))⟩)) []) R := by
        intro env e0 e1 e5 e7 e9 e83 e84 e14 e13
        have w5 := a2m (c + g (off + i) + v.getD i 0)
        refine Safe.rg rfl ?_
        simp only [a7r, e0, e14, e13, w5, b4N hid 1 _ off (n + 1) i oc .i64 (show i < n + 1 by omega), ofst hid (show off + i < N by omega), E3, seval]
        refine Safe.rg rfl ?_
        simp only [a7q, e13, d2k, E3, seval]
        refine Safe.inBlock ?_
        have w4 : IntKind.wrap .i64 ((i : Int) + 1) = ((i + 1 : Nat) : Int) := by rw [a0b] <;> omega
        refine Safe.rg rfl ?_
        simp only [a7p, e84, w4, E3, seval]
        refine Safe.keep [0, 1, 5, 7, 9, 13, 83, 84] ?_
        simp only [E3, seval]
        simp only [e0, e1, e5, e7, e9, e83]
        rw [← hy, d1P, hy]
        refine ih (i + 1) _ _ (by omega) (by simp [hy]) (a3b ly (Nat.mod_lt _ (by decide))) ?_ ?_
        · have : c + g (off + i) + v.getD i 0 < LB * 2 := by omega
          have := Nat.div_lt_of_lt_mul this
          omega
        · rw [a4A, hy, a0u, a0u, Nat.pow_succ, b9X (by omega)]
          exact c8D (i := 0) hval
      by_cases hin : i < n
      · have hl2 : ((i : Int) < (n : Int)) = True := eq_true (by omega)
        refine Safe.rg rfl ?_
        simp only [a7s, hl2, E3, seval]
        refine Safe.cd rfl ?_
        simp only [E3, seval]
        refine Safe.rg rfl ?_
        simp only [b3f, a0Q _ v _ i (by omega), a3a (x := v.getD i 0) (by omega), b4C (x := c + g (off + i)) (y := v.getD i 0) (by omega), E3, seval]
        exact rest _ (by simp only [E3, seval]) (by simp only [E3, seval]) (by simp only [E3, seval]) (by simp only [E3, seval]) (by simp only [E3, seval]) (by simp only [E3, seval]) (by simp only [E3, seval]) (by simp only [E3, seval]) (by simp only [E3, seval])
      · have hl2 : ((i : Int) < (n : Int)) = False := eq_false (by omega)
        refine Safe.rg rfl ?_
        simp only [a7s, hl2, E3, seval]
        refine Safe.cd rfl ?_
        simp only [E3, seval]
        have hz : c + g (off + i) + v.getD i 0 = c + g (off + i) := by rw [b3y (a := v) (by omega), Nat.add_zero]
        exact Safe.skip (rest _ (by simp only [E3, seval]) (by simp only [E3, seval]) (by simp only [E3, seval]) (by simp only [E3, seval]) (by simp only [E3, seval]) (by simp only [E3, seval]) (by simp only [E3, seval]) (by simp only [E3, seval]) (by rw [hz]; simp only [E3, seval]))
  have := key (n + 1) 0 0 [] (by omega) rfl c3F (by omega) (by simp [val])
  rw [d7P] at this
  exact this
theorem d5n {vx qv vu B b c q vi lo d bo c' u : Nat} (h : vx + qv = vu + B * (b + c)) (hd : u + LB * bo = d + lo + b) (hl : lo + LB * c' = c + q * vi) : (vx + B * d) + (qv + B * (q * vi)) = (vu + B * u) + (B * LB) * (bo + c') := by
  have e1 : B * (u + LB * bo) = B * (d + lo + b) := by rw [hd]
  have e2 : B * (lo + LB * c') = B * (c + q * vi) := by rw [hl]
  simp only [Nat.mul_add, ← Nat.mul_assoc] at *
  omega
theorem d4k {H : Heap} {id off N n : Nat} {oc : Option Nat} {v : List Nat} {g : Nat → Nat} {todo : List AItem} {R : AV → Heap → Prop} {q : Nat} (hid : id < H.length) (hv : Lim v) (hn : v.length = n) (hoff : off + n + 1 ≤ N) (hN : N ≤ 17592186044416) (hg : ∀ i, i < N → g i < LB) (hq : q < LB)
    (k : ∀ y b, y.length = n + 1 → Lim y → b ≤ 1 → val y + q * val v = val (fl (n + 1) fun i => g (off + i)) + LB ^ (n + 1) * b →
      Safe (digX H.length) todo [(0, .mu id off (n + 1) oc), (1, natV v), (5, .int .i64 n), (7, .int .u64 q), (9, .int .u64 b)] (hap (H.set id (some ⟨1, u32s (fl N (xr g off y))⟩)) []) R) :
    Safe (digX H.length) (.inLoop a5L :: .inBlock 0 :: todo) [(0, .mu id off (n + 1) oc), (1, natV v), (5, .int .i64 n), (7, .int .u64 q), (8, .int .u64 0), (9, .int .u64 0), (40, .int .i64 ((n + 1 : Nat) : Int)), (41, .int .i64 0)] (hap (H.set id (some ⟨1, u32s (fl N g)⟩)) []) R := by
  have hLB : LB = 4294967296 := rfl
  have key : ∀ (m i b c : Nat) (y : List Nat), i + m = n + 1 → y.length = i → Lim y → b ≤ 1 → c < LB → val y + q * val (v.take i) = val ((fl (n + 1) fun i => g (off + i)).take i) + LB ^ i * (b + c) → LB ^ i * c ≤ q * val (v.take i) →
      Safe (digX H.length) (.inLoop a5L :: .inBlock 0 :: todo) [(0, .mu id off (n + 1) oc), (1, natV v), (5, .int .i64 n), (7, .int .u64 q), (8, .int .u64 c), (9, .int .u64 b), (40, .int .i64 ((n + 1 : Nat) : Int)), (41, .int .i64 i)] (hap (H.set id (some ⟨1, u32s (fl N (xr g off y))⟩)) []) R := by
    intro m
    induction m with
    | zero =>
      intro i b c y him hy ly hb hc hval hcl
      have hi : i = n + 1 := by omega
      subst hi
      refine Safe.inLoop ?_
      refine Safe.rg rfl ?_
      simp only [a8O, Int.lt_irrefl, E3, Nat.reduceLeDiff, Nat.reduceSub, Nat.reduceAdd, Nat.reduceEqDiff, reduceCtorEq, ↓reduceIte]
      refine Safe.cd rfl ?_
      simp only [E3, Nat.reduceLeDiff, Nat.reduceSub, Nat.reduceAdd, Nat.reduceEqDiff, reduceCtorEq, ↓reduceIte]
      refine Safe.exit rfl ?_
      refine Safe.keep [0, 1, 5, 7, 9] ?_
      simp only [E3, Nat.reduceLeDiff, Nat.reduceSub, Nat.reduceAdd, Nat.reduceEqDiff, reduceCtorEq, ↓reduceIte]
      refine k y b hy ly hb ?_
      rw [List.take_of_length_le (l := v) (by omega)] at hval hcl
      rw [List.take_of_length_le (l := fl _ _) (by rw [a1N]; omega)] at hval
      have hc0 : c = 0 := by
        have h1 := a1P hv
        rw [hn] at h1
        have h2 : q * val v < LB * LB ^ n := Nat.mul_lt_mul'' hq h1
        rw [← Nat.pow_succ'] at h2
        have h3 : LB ^ (n + 1) * c < LB ^ (n + 1) * 1 := by rw [Nat.mul_one]; exact Nat.lt_of_le_of_lt hcl h2
        have := Nat.lt_of_mul_lt_mul_left h3
        omega
      rw [hval, hc0, show b + 0 = b from rfl]
    | succ m ih =>
      intro i b c y him hy ly hb hc hval hcl
      have hlt : ((i : Int) < ((n + 1 : Nat) : Int)) = True := eq_true (by omega)
      refine Safe.inLoop ?_
      refine Safe.rg rfl ?_
      simp only [a8O, hlt, E3, Nat.reduceLeDiff, Nat.reduceSub, Nat.reduceAdd, Nat.reduceEqDiff, reduceCtorEq, ↓reduceIte]
      refine Safe.cd rfl ?_
      simp only [E3, Nat.reduceLeDiff, Nat.reduceSub, Nat.reduceAdd, Nat.reduceEqDiff, reduceCtorEq, ↓reduceIte]
      have hgi : g (off + i) < LB := hg _ (by omega)
      have hxi : xr g off y (off + i) = g (off + i) := by subst hy; exact e0N
      have hvi := a1W hv i
      have hqv : c + q * v.getD i 0 < LB * LB := by
        have h1 : q * v.getD i 0 ≤ (LB - 1) * (LB - 1) := Nat.mul_le_mul (by omega) (by omega)
        have h2 : (LB - 1) * (LB - 1) + (LB - 1) < LB * LB := by decide
        omega
      have hqv2 : LB * LB = 18446744073709551616 := by decide
      refine Safe.rg rfl ?_
      simp only [b6m, E3, Nat.reduceLeDiff, Nat.reduceSub, Nat.reduceAdd, Nat.reduceEqDiff, reduceCtorEq, ↓reduceIte]
      refine Safe.rg rfl ?_
      simp only [b6l, E3, Nat.reduceLeDiff, Nat.reduceSub, Nat.reduceAdd, Nat.reduceEqDiff, reduceCtorEq, ↓reduceIte]
      have rest : ∀ env : Env, look env 0 = .mu id off (n + 1) oc → look env 1 = natV v → look env 5 = .int .i64 n → look env 7 = .int .u64 q → look env 9 = .int .u64 b → look env 40 = .int .i64 ((n + 1 : Nat) : Int) → look env 41 = .int .i64 i → look env 10 = .int .i64 i → look env 11 = .int .u64 (c + q * v.getD i 0 : Nat) →
          Safe (digX H.length) (.code (.seq (.region a7y false) (.seq (.region a7x false) (.seq (.region a7w false) (.region a7v false)))) :: .inBlock 1 :: .code (.region a7u false) :: .inLoop a5L :: .inBlock 0 :: todo) env (hap (H.set id (some ⟨1, u32s (fl N (xr g off y))⟩)) []) R := by
        intro env e0 e1 e5 e7 e9 e40 e41 e10 e11
        have w5 := a2m (c + q * v.getD i 0)
        have htl : (c + q * v.getD i 0) % LB < LB := Nat.mod_lt _ (by decide)
        have htm := Nat.mod_add_div (c + q * v.getD i 0) LB
        have htd : (c + q * v.getD i 0) / LB < LB := by rw [Nat.div_lt_iff_lt_mul (by decide)]; exact hqv
        have h4w : IntKind.wrap .u64 (IntKind.wrap .u64 (((g (off + i) : Nat) : Int) - (((c + q * v.getD i 0) % LB : Nat) : Int)) - (b : Int)) = (((g (off + i) : Nat) : Int) - (((c + q * v.getD i 0) % LB : Nat) : Int) - (b : Int)) % 18446744073709551616 := by
          rw [a1O, a1O]; omega
        refine Safe.rg rfl ?_
        simp only [a7y, e11, d2k, E3, Nat.reduceLeDiff, Nat.reduceSub, Nat.reduceAdd, Nat.reduceEqDiff, reduceCtorEq, ↓reduceIte]
        refine Safe.rg rfl ?_
        simp only [a7x, e0, e10, e11, e9, b4N hid 1 _ off (n + 1) i oc .i64 (show i < n + 1 by omega), ofat hid (show off + i < N by omega), hxi, a3a (x := g (off + i)) (by omega), w5, a3a (x := (c + q * v.getD i 0) % LB) (by omega), h4w, E3, Nat.reduceLeDiff, Nat.reduceSub, Nat.reduceAdd, Nat.reduceEqDiff, reduceCtorEq, ↓reduceIte]
        obtain ⟨d, bo, hd, hbo, hdl, hD, hB⟩ : ∃ d bo : Nat, g (off + i) + LB * bo = d + (c + q * v.getD i 0) % LB + b ∧ bo ≤ 1 ∧ d < LB ∧ ((((g (off + i) : Nat) : Int) - (((c + q * v.getD i 0) % LB : Nat) : Int) - (b : Int)) % 18446744073709551616) % 4294967296 = (d : Int) ∧ ((((g (off + i) : Nat) : Int) - (((c + q * v.getD i 0) % LB : Nat) : Int) - (b : Int)) % 18446744073709551616) / 9223372036854775808 = (bo : Int) := by
          generalize (c + q * v.getD i 0) % LB = lo at *
          by_cases hlt : g (off + i) < lo + b
          · exact ⟨g (off + i) + LB - lo - b, 1, by omega, by omega, by omega, by omega, by omega⟩
          · exact ⟨g (off + i) - lo - b, 0, by omega, by omega, by omega, by omega, by omega⟩
        refine Safe.rg rfl ?_
        simp only [a7w, e0, e10, b2W, hD, b4N hid 1 _ off (n + 1) i oc .i64 (show i < n + 1 by omega), ofst hid (show off + i < N by omega), E3, Nat.reduceLeDiff, Nat.reduceSub, Nat.reduceAdd, Nat.reduceEqDiff, reduceCtorEq, ↓reduceIte]
        have hs63 : ∀ n : Int, Int.fdiv n (2 ^ min (Int.toNat 63) IntKind.u64.bits) = n / 9223372036854775808 := by
          intro n
          rw [show (2 : Int) ^ min (Int.toNat 63) IntKind.u64.bits = 9223372036854775808 by decide, Int.fdiv_eq_ediv_of_nonneg _ (by decide)]
        refine Safe.rg rfl ?_
        simp only [a7v, a4e _ _ _ (show (0 : Int) ≤ 63 by decide), hs63, hB, E3, Nat.reduceLeDiff, Nat.reduceSub, Nat.reduceAdd, Nat.reduceEqDiff, reduceCtorEq, ↓reduceIte]
        refine Safe.inBlock ?_
        have w4 : IntKind.wrap .i64 ((i : Int) + 1) = ((i + 1 : Nat) : Int) := by rw [a0b] <;> omega
        refine Safe.rg rfl ?_
        simp only [a7u, e41, w4, E3, Nat.reduceLeDiff, Nat.reduceSub, Nat.reduceAdd, Nat.reduceEqDiff, reduceCtorEq, ↓reduceIte]
        refine Safe.keep [0, 1, 5, 7, 8, 9, 40, 41] ?_
        simp only [E3, Nat.reduceLeDiff, Nat.reduceSub, Nat.reduceAdd, Nat.reduceEqDiff, reduceCtorEq, ↓reduceIte]
        simp only [e0, e1, e5, e7, e40]
        rw [← hy, d1P, hy]
        refine ih (i + 1) bo _ _ (by omega) (by simp [hy]) (a3b ly hdl) hbo htd ?_ ?_
        · rw [a4A, hy, a0u, a0u, Nat.pow_succ, b9X (by omega), Nat.mul_add, Nat.mul_left_comm]
          exact d5n hval hd htm
        · rw [a0u, Nat.mul_add, Nat.mul_left_comm q, Nat.pow_succ, Nat.mul_assoc]
          have h1 : LB ^ i * (LB * ((c + q * v.getD i 0) / LB)) ≤ LB ^ i * (c + q * v.getD i 0) := Nat.mul_le_mul_left _ (Nat.mul_div_le _ _)
          rw [Nat.mul_add] at h1
          omega
      by_cases hin : i < n
      · have hl2 : ((i : Int) < (n : Int)) = True := eq_true (by omega)
        refine Safe.rg rfl ?_
        simp only [a8N, hl2, E3, Nat.reduceLeDiff, Nat.reduceSub, Nat.reduceAdd, Nat.reduceEqDiff, reduceCtorEq, ↓reduceIte]
        refine Safe.cd rfl ?_
        simp only [E3, Nat.reduceLeDiff, Nat.reduceSub, Nat.reduceAdd, Nat.reduceEqDiff, reduceCtorEq, ↓reduceIte]
        refine Safe.rg rfl ?_
        simp only [b3l, a0Q _ v _ i (by omega), a3a (x := v.getD i 0) (by omega), c9Z (x := q) (y := v.getD i 0) (by omega), b4C (x := c) (y := q * v.getD i 0) (by omega), E3, Nat.reduceLeDiff, Nat.reduceSub, Nat.reduceAdd, Nat.reduceEqDiff, reduceCtorEq, ↓reduceIte]
        exact rest _ (by simp only [E3, Nat.reduceLeDiff, Nat.reduceSub, Nat.reduceAdd, Nat.reduceEqDiff, reduceCtorEq, ↓reduceIte]) (by simp only [E3, Nat.reduceLeDiff, Nat.reduceSub, Nat.reduceAdd, Nat.reduceEqDiff, reduceCtorEq, ↓reduceIte]) (by simp only [E3, Nat.reduceLeDiff, Nat.reduceSub, Nat.reduceAdd, Nat.reduceEqDiff, reduceCtorEq, ↓reduceIte]) (by simp only [E3, Nat.reduceLeDiff, Nat.reduceSub, Nat.reduceAdd, Nat.reduceEqDiff, reduceCtorEq, ↓reduceIte]) (by simp only [E3, Nat.reduceLeDiff, Nat.reduceSub, Nat.reduceAdd, Nat.reduceEqDiff, reduceCtorEq, ↓reduceIte]) (by simp only [E3, Nat.reduceLeDiff, Nat.reduceSub, Nat.reduceAdd, Nat.reduceEqDiff, reduceCtorEq, ↓reduceIte]) (by simp only [E3, Nat.reduceLeDiff, Nat.reduceSub, Nat.reduceAdd, Nat.reduceEqDiff, reduceCtorEq, ↓reduceIte]) (by simp only [E3, Nat.reduceLeDiff, Nat.reduceSub, Nat.reduceAdd, Nat.reduceEqDiff, reduceCtorEq, ↓reduceIte]) (by simp only [E3, Nat.reduceLeDiff, Nat.reduceSub, Nat.reduceAdd, Nat.reduceEqDiff, reduceCtorEq, ↓reduceIte])
      · have hl2 : ((i : Int) < (n : Int)) = False := eq_false (by omega)
        refine Safe.rg rfl ?_
        simp only [a8N, hl2, E3, Nat.reduceLeDiff, Nat.reduceSub, Nat.reduceAdd, Nat.reduceEqDiff, reduceCtorEq, ↓reduceIte]
        refine Safe.cd rfl ?_
        simp only [E3, Nat.reduceLeDiff, Nat.reduceSub, Nat.reduceAdd, Nat.reduceEqDiff, reduceCtorEq, ↓reduceIte]
        have hz : c + q * v.getD i 0 = c := by rw [b3y (a := v) (by omega)]; omega
        exact Safe.skip (rest _ (by simp only [E3, Nat.reduceLeDiff, Nat.reduceSub, Nat.reduceAdd, Nat.reduceEqDiff, reduceCtorEq, ↓reduceIte]) (by simp only [E3, Nat.reduceLeDiff, Nat.reduceSub, Nat.reduceAdd, Nat.reduceEqDiff, reduceCtorEq, ↓reduceIte]) (by simp only [E3, Nat.reduceLeDiff, Nat.reduceSub, Nat.reduceAdd, Nat.reduceEqDiff, reduceCtorEq, ↓reduceIte]) (by simp only [E3, Nat.reduceLeDiff, Nat.reduceSub, Nat.reduceAdd, Nat.reduceEqDiff, reduceCtorEq, ↓reduceIte]) (by simp only [E3, Nat.reduceLeDiff, Nat.reduceSub, Nat.reduceAdd, Nat.reduceEqDiff, reduceCtorEq, ↓reduceIte]) (by simp only [E3, Nat.reduceLeDiff, Nat.reduceSub, Nat.reduceAdd, Nat.reduceEqDiff, reduceCtorEq, ↓reduceIte]) (by simp only [E3, Nat.reduceLeDiff, Nat.reduceSub, Nat.reduceAdd, Nat.reduceEqDiff, reduceCtorEq, ↓reduceIte]) (by simp only [E3, Nat.reduceLeDiff, Nat.reduceSub, Nat.reduceAdd, Nat.reduceEqDiff, reduceCtorEq, ↓reduceIte]) (by rw [hz]; simp only [E3, Nat.reduceLeDiff, Nat.reduceSub, Nat.reduceAdd, Nat.reduceEqDiff, reduceCtorEq, ↓reduceIte]))
  have := key (n + 1) 0 0 0 [] (by omega) rfl c3F (by omega) (by decide) (by simp [val]) (by simp)
  rw [d7P] at this
  exact this
theorem c8i {H : Heap} {id off N n : Nat} {oc : Option Nat} {v : List Nat} {f : Nat → Nat} (hl : H[id]? = some (some ⟨1, u32s (fl N f)⟩)) (hv : Lim v) (hn : v.length = n) (hn0 : 0 < n) (ht : 0 < v.getD (n - 1) 0) (hoff : off + n + 1 ≤ N) (hN : N ≤ 17592186044416) (hf : ∀ i, i < N → f i < LB)
    {S : Nat} (hS : val (fl (n + 1) fun i => f (off + i)) = S) (hlt : S < LB * val v) : a0o Pr a8c [.mu id off (n + 1) oc, natV v] H fun r' H' => r' = .int .u32 (S / val v : Nat) ∧ H' = H.set id (some ⟨1, u32s (fl N (xr f off (fl (n + 1) (dig (S % val v)))))⟩) := by
  have hLB : LB = 4294967296 := rfl
  have hid := a0h hl
  have hv0 : 0 < val v := by
    have := a6J v (n - 1)
    have h2 : val (v.drop (n - 1)) ≠ 0 := by
      rw [a3j]; rw [show n - 1 + 1 = n by omega]; omega
    have h3 : 0 < LB ^ (n - 1) * val (v.drop (n - 1)) := Nat.mul_pos (a4B _) (by omega)
    omega
  have hUl : (fl (n + 1) fun i => f (off + i)).length = n + 1 := a1N _ _
  have hU : Lim (fl (n + 1) fun i => f (off + i)) := d8d fun i hi => hf _ (by omega)
  have hguess := d6J hU hv hUl hn hn0 hv0 (by rw [hS]; exact hlt) ht
  rw [hS, b9X (by omega), b9X (by omega)] at hguess
  have hSl : S < LB ^ (n + 1) := by have := a1P hU; rw [hS, hUl] at this; exact this
  have hvl := a1P hv
  rw [hn] at hvl
  have hvle : val v ≤ LB ^ (n + 1) := by
    have : LB ^ n ≤ LB ^ (n + 1) := Nat.pow_le_pow_right (by decide) (by omega)
    omega
  have hvt : v.getD (n - 1) 0 < LB := a1W hv _
  have hfn : f (off + n) < LB := hf _ (by omega)
  have hfn1 : f (off + (n - 1)) < LB := hf _ (by omega)
  refine a0o.eff c5v c5u (Nat.le_of_ble_eq_true rfl) fun hH => ?_
  have h0 : hap H [] = hap (H.set id (some ⟨1, u32s (fl N f)⟩)) [] := by rw [d5v hl]
  rw [h0]
  refine Safe.rg rfl ?_
  simp only [b6s, E3, Nat.reduceLeDiff, Nat.reduceSub, Nat.reduceAdd, Nat.reduceEqDiff, reduceCtorEq, ↓reduceIte]
  refine Safe.rg rfl ?_
  simp only [b6r, a5M, E3, Nat.reduceLeDiff, Nat.reduceSub, Nat.reduceAdd, Nat.reduceEqDiff, reduceCtorEq, ↓reduceIte]
  have w1 : IntKind.wrap .i64 ((n : Int) - 1) = ((n - 1 : Nat) : Int) := by rw [a0b] <;> omega
  refine Safe.rg rfl ?_
  simp only [b6q, hn, w1, b4N hid 1 _ off (n + 1) n oc .i64 (Nat.lt_succ_self n), b4N hid 1 _ off (n + 1) (n - 1) oc .i64 (show n - 1 < n + 1 by omega), ofat hid (show off + n < N by omega), ofat hid (show off + (n - 1) < N by omega), a3a (x := f (off + n)) (by omega), a3a (x := f (off + (n - 1))) (by omega), d8B hfn, b8g hfn hfn1, E3, Nat.reduceLeDiff, Nat.reduceSub, Nat.reduceAdd, Nat.reduceEqDiff, reduceCtorEq, ↓reduceIte]
  have htop : f (off + n) * LB + f (off + (n - 1)) < 18446744073709551616 := by
    have : f (off + n) * LB ≤ 4294967295 * LB := Nat.mul_le_mul_right _ (by omega)
    omega
  have hmin : (if (4294967295 : Int) < (((f (off + n) * LB + f (off + (n - 1))) / v.getD (n - 1) 0 : Nat) : Int) then (4294967295 : Int) else (((f (off + n) * LB + f (off + (n - 1))) / v.getD (n - 1) 0 : Nat) : Int)) = ((min ((f (off + n) * LB + f (off + (n - 1))) / v.getD (n - 1) 0) (LB - 1) : Nat) : Int) := by
    generalize (f (off + n) * LB + f (off + (n - 1))) / v.getD (n - 1) 0 = z
    split
    · rw [Nat.min_eq_right (by omega)]; rfl
    · rw [Nat.min_eq_left (by omega)]
  refine Safe.rg rfl ?_
  simp only [b6p, hn, w1, a0Q _ v _ (n - 1) (by omega), a3a (x := v.getD (n - 1) 0) (by omega), d2E ht htop, c8U, hmin, E3, Nat.reduceLeDiff, Nat.reduceSub, Nat.reduceAdd, Nat.reduceEqDiff, reduceCtorEq, ↓reduceIte]
  have hq0l : min ((f (off + n) * LB + f (off + (n - 1))) / v.getD (n - 1) 0) (LB - 1) < LB := Nat.lt_of_le_of_lt (Nat.min_le_right _ _) (by decide)
  generalize hq0 : min ((f (off + n) * LB + f (off + (n - 1))) / v.getD (n - 1) 0) (LB - 1) = q0 at *
  refine Safe.rg rfl ?_
  simp only [b6o, E3, Nat.reduceLeDiff, Nat.reduceSub, Nat.reduceAdd, Nat.reduceEqDiff, reduceCtorEq, ↓reduceIte]
  have w2 : IntKind.wrap .i64 ((n : Int) + 1) = ((n + 1 : Nat) : Int) := by rw [a0b] <;> omega
  refine Safe.rg rfl ?_
  simp only [b6n, w2, hn, E3, Nat.reduceLeDiff, Nat.reduceSub, Nat.reduceAdd, Nat.reduceEqDiff, reduceCtorEq, ↓reduceIte]
  refine Safe.lp rfl ?_
  refine Safe.keep [0, 1, 5, 7, 8, 9, 40, 41] ?_
  simp only [hn, E3, Nat.reduceLeDiff, Nat.reduceSub, Nat.reduceAdd, Nat.reduceEqDiff, reduceCtorEq, ↓reduceIte]
  refine d4k hid hv hn hoff hN hf hq0l fun y b hy ly hb hval => ?_
  rw [hS] at hval
  refine Safe.lp rfl ?_
  -- the rows put back
  have key : ∀ (q b : Nat) (y : List Nat), y.length = n + 1 → Lim y → b ≤ 1 → val y + q * val v = S + LB ^ (n + 1) * b → S / val v ≤ q → q < LB →
      Safe (digX H.length) [.inLoop b6t, .inBlock 2, .code (.seq (.region a4C false) .ret)] [(0, .mu id off (n + 1) oc), (1, natV v), (5, .int .i64 n), (7, .int .u64 q), (9, .int .u64 b)] (hap (H.set id (some ⟨1, u32s (fl N (xr f off y))⟩)) [])
        fun r' H' => ∃ H1 L, H' = hap H1 L ∧ H1.length = H.length ∧ a0S H1 ∧ Ref (· < H.length) r' ∧ r' = .int .u32 (S / val v : Nat) ∧ H1 = H.set id (some ⟨1, u32s (fl N (xr f off (fl (n + 1) (dig (S % val v)))))⟩) := by
    intro q
    induction q with
    | zero =>
      intro b y hy ly hb hval hq hql
      have hyl := a1P ly
      rw [hy] at hyl
      have hb0 : b = 0 := by
        rcases Nat.eq_zero_or_pos b with h | h
        · exact h
        · have : b = 1 := by omega
          subst this; omega
      subst hb0
      refine Safe.inLoop ?_
      refine Safe.rg rfl ?_
      simp only [a4D, show ((0 : Int) < ((0 : Nat) : Int)) = False by simp, E3, Nat.reduceLeDiff, Nat.reduceSub, Nat.reduceAdd, Nat.reduceEqDiff, reduceCtorEq, ↓reduceIte]
      refine Safe.cd rfl ?_
      simp only [E3, Nat.reduceLeDiff, Nat.reduceSub, Nat.reduceAdd, Nat.reduceEqDiff, reduceCtorEq, ↓reduceIte]
      refine Safe.exit rfl ?_
      refine Safe.rg rfl ?_
      simp only [a4C, c1j (x := 0) (by decide), E3, Nat.reduceLeDiff, Nat.reduceSub, Nat.reduceAdd, Nat.reduceEqDiff, reduceCtorEq, ↓reduceIte]
      refine Safe.rt rfl ?_
      simp only [E3, Nat.reduceLeDiff, Nat.reduceSub, Nat.reduceAdd, Nat.reduceEqDiff, reduceCtorEq, ↓reduceIte]
      have e1 : S / val v = 0 := Nat.le_zero.1 hq
      have e2 : S % val v = val y := by
        have := Nat.mod_add_div S (val v)
        rw [e1] at this
        omega
      refine ⟨_, [], rfl, by simp, a0S.set hH id fun a ha => (a0t _ a ha).ref, .int _ _, by rw [e1], ?_⟩
      rw [e2, ← b5f ly hy]
    | succ q ih =>
      intro b y hy ly hb hval hq hql
      have hyl := a1P ly
      rw [hy] at hyl
      refine Safe.inLoop ?_
      by_cases hb0 : b = 0
      · subst hb0
        refine Safe.rg rfl ?_
        simp only [a4D, show ((0 : Int) < ((0 : Nat) : Int)) = False by simp, E3, Nat.reduceLeDiff, Nat.reduceSub, Nat.reduceAdd, Nat.reduceEqDiff, reduceCtorEq, ↓reduceIte]
        refine Safe.cd rfl ?_
        simp only [E3, Nat.reduceLeDiff, Nat.reduceSub, Nat.reduceAdd, Nat.reduceEqDiff, reduceCtorEq, ↓reduceIte]
        refine Safe.exit rfl ?_
        refine Safe.rg rfl ?_
        simp only [a4C, c1j (x := q + 1) (by omega), E3, Nat.reduceLeDiff, Nat.reduceSub, Nat.reduceAdd, Nat.reduceEqDiff, reduceCtorEq, ↓reduceIte]
        refine Safe.rt rfl ?_
        simp only [E3, Nat.reduceLeDiff, Nat.reduceSub, Nat.reduceAdd, Nat.reduceEqDiff, reduceCtorEq, ↓reduceIte]
        have e1 : S / val v = q + 1 := by
          have : (q + 1) ≤ S / val v := by rw [Nat.le_div_iff_mul_le hv0]; omega
          omega
        have e2 : S % val v = val y := by
          have := Nat.mod_add_div S (val v)
          rw [e1, Nat.mul_comm (val v)] at this
          omega
        refine ⟨_, [], rfl, by simp, a0S.set hH id fun a ha => (a0t _ a ha).ref, .int _ _, by rw [e1], ?_⟩
        rw [e2, ← b5f ly hy]
      · have hb1 : b = 1 := by omega
        subst hb1
        have hlq : S / val v ≤ q := by
          have h1 : S < (q + 1) * val v := by omega
          have := (Nat.div_lt_iff_lt_mul hv0).2 h1
          omega
        have w3 : IntKind.wrap .u64 (((q + 1 : Nat) : Int) - 1) = (q : Int) := by rw [a1I] <;> omega
        refine Safe.rg rfl ?_
        simp only [a4D, show ((0 : Int) < ((1 : Nat) : Int)) = True by simp, E3, Nat.reduceLeDiff, Nat.reduceSub, Nat.reduceAdd, Nat.reduceEqDiff, reduceCtorEq, ↓reduceIte]
        refine Safe.cd rfl ?_
        simp only [E3, Nat.reduceLeDiff, Nat.reduceSub, Nat.reduceAdd, Nat.reduceEqDiff, reduceCtorEq, ↓reduceIte]
        refine Safe.rg rfl ?_
        simp only [b3k, w3, E3, Nat.reduceLeDiff, Nat.reduceSub, Nat.reduceAdd, Nat.reduceEqDiff, reduceCtorEq, ↓reduceIte]
        refine Safe.rg rfl ?_
        simp only [b3j, E3, Nat.reduceLeDiff, Nat.reduceSub, Nat.reduceAdd, Nat.reduceEqDiff, reduceCtorEq, ↓reduceIte]
        refine Safe.rg rfl ?_
        simp only [b3i, w2, E3, Nat.reduceLeDiff, Nat.reduceSub, Nat.reduceAdd, Nat.reduceEqDiff, reduceCtorEq, ↓reduceIte]
        refine Safe.lp rfl ?_
        refine Safe.keep [0, 1, 5, 7, 9, 13, 83, 84] ?_
        simp only [E3, Nat.reduceLeDiff, Nat.reduceSub, Nat.reduceAdd, Nat.reduceEqDiff, reduceCtorEq, ↓reduceIte]
        refine d4l (b := 1) hid hv hn hoff hN (e2p hf ly) fun z c hz lz hc hzv => ?_
        have hseg := e0M (g := f) (off := off) (x := y)
        rw [hy] at hseg
        rw [hseg] at hzv
        rw [e2o (by rw [hy, hz])]
        have w4 : IntKind.wrap .u64 (((1 : Nat) : Int) - (c : Int)) = ((1 - c : Nat) : Int) := by rw [a1I] <;> omega
        refine Safe.rg rfl ?_
        simp only [b3e, w4, E3, Nat.reduceLeDiff, Nat.reduceSub, Nat.reduceAdd, Nat.reduceEqDiff, reduceCtorEq, ↓reduceIte]
        refine Safe.inBlock ?_
        refine Safe.keep [0, 1, 5, 7, 9] ?_
        simp only [E3, Nat.reduceLeDiff, Nat.reduceSub, Nat.reduceAdd, Nat.reduceEqDiff, reduceCtorEq, ↓reduceIte]
        have hexp : (q + 1) * val v = q * val v + val v := by rw [Nat.add_mul, Nat.one_mul]
        refine ih (1 - c) z hz lz (by omega) ?_ hlq (by omega)
        rcases Nat.eq_zero_or_pos c with h | h
        · subst h; omega
        · have : c = 1 := by omega
          subst this; omega
  exact key q0 b y hy ly hb hval hguess hq0l
end Go.Abs
namespace Go.Abs
theorem d3P (H L M : Heap) : hap (hap H L) M = hap H (L ++ M) := by simp [hap]
theorem c3G (H L : Heap) (i : Nat) : lid (hap H L) i = lid H (L.length + i) := by simp [hap, lid, Nat.add_assoc]
theorem c2E (n : Nat) : limbs (val (limbs n)) = limbs n := by rw [a0i]
theorem d6S {M k n : Nat} (hk : k = (limbs M).length) (hn : k ≤ n) : (fl n (dig M)).take k = limbs M := by
  rw [c7X _ hn, hk]
  have := b5f (a0w M) rfl
  rw [a0i] at this
  exact this.symm
theorem c9n {H : Heap} {i len : Nat} {X : List Nat} (oc : Option Nat) (h : len ≤ X.length) : frz (lid H i) ⟨1, u32s X⟩ (.mu (lid H i) 0 len oc) = natV (X.take len) := by
  simp only [frz, if_true, Nat.zero_add, a0M, h, List.drop_zero, b2Y]; rfl
theorem d7F {H : Heap} (hH : a0S H) {n0 : Nat} {env : Env} {L : Heap} {len c : Nat} {X l : List Nat} {o : Option Blk} (hn : n0 ≤ lid H 0) (hlen : len ≤ X.length) (hc : c < len + l.length) (hb : X.length + l.length ≤ 35184372088832) :
    appV n0 1 4 false (.mu (lid H 0) 0 len (some c)) (.sl 1 (u32s l)) env (hap H [some ⟨1, u32s X⟩]) = some (.mu (lid H 0) 0 (len + l.length) none, scrub (lid H 0) env, hap H [some ⟨1, u32s (X.take len ++ l)⟩]) := by
  have hf : free (hap H [some ⟨1, u32s X⟩]) (lid H 0) = true := c9o hH (c9K fun b hb a ha => by
    simp at hb; subst hb; exact a0t X a ha)
  simp only [appV, a8D, Option.bind_some, a1u, List.getElem?_cons_zero, Option.join_some, a3D, List.set_cons_zero]
  rw [if_neg (by simp [a0M]; omega), if_pos]
  · simp only [a0M, b2Y, c6U, a1Z]
    rw [Option.bind_some, if_neg (by omega)]
  · simp only [a0M, true_and]
    refine ⟨hlen, hn, hf, ?_, ?_, by omega, by omega⟩
    · exact List.all_eq_true.2 fun a ha => a1o (b7s ha)
    · exact List.all_eq_true.2 fun a ha => a1o (b7s ha)
theorem d5q {H L : Heap} {i lo hi len m : Nat} {b : Blk} (hl : L[i]? = some (some b)) {wd : Nat} (hw : b.wd = wd) (oc : Option Nat) (k k' : IntKind) (h1 : hi = lo + m) (h2 : hi ≤ len) :
    slcV (hap H L) wd (.mu (lid H i) 0 len oc) (some (.int k lo)) (some (.int k' hi)) none = some (.mu (lid H i) lo m (oc.map (· - lo))) := by
  subst h1
  simp only [slcV, a1u, hl, Option.join_some, Option.bind_some, a4l]
  rw [if_pos ⟨hw, by omega, by omega, by omega⟩]
  simp
  omega
/-- The rests, from the top. -/
theorem d2A {U V i nv : Nat} (hV : V < LB ^ nv) (hV0 : 0 < V) : (∀ j, xr (dig (U % (V * LB ^ (i + 1)))) i (fl (nv + 1) (dig (U % (V * LB ^ (i + 1)) / LB ^ i % V))) j = dig (U % (V * LB ^ i)) j) ∧
    U % (V * LB ^ (i + 1)) / LB ^ i / V = dig (U / V) i ∧ val (fl (nv + 1) fun t => dig (U % (V * LB ^ (i + 1))) (i + t)) = U % (V * LB ^ (i + 1)) / LB ^ i ∧ U % (V * LB ^ (i + 1)) / LB ^ i < LB * V := by
  have hp := a4B i
  have e1 : V * LB ^ (i + 1) = V * LB ^ i * LB := by rw [Nat.pow_succ, Nat.mul_assoc]
  have hR1 : U % (V * LB ^ (i + 1)) < V * LB ^ (i + 1) := Nat.mod_lt _ (Nat.mul_pos hV0 (a4B _))
  have hS : U % (V * LB ^ (i + 1)) / LB ^ i < LB * V := by
    rw [Nat.div_lt_iff_lt_mul hp]
    have : LB * V * LB ^ i = V * LB ^ (i + 1) := by rw [e1]; rw [Nat.mul_comm LB, Nat.mul_right_comm]
    rw [this]; exact hR1
  have hSl : U % (V * LB ^ (i + 1)) / LB ^ i < LB ^ (nv + 1) := by
    have : LB * V ≤ LB ^ (nv + 1) := by rw [Nat.pow_succ']; exact Nat.mul_le_mul_left _ (Nat.le_of_lt hV)
    omega
  have hR : U % (V * LB ^ i) = U % (V * LB ^ (i + 1)) % (V * LB ^ i) := by
    rw [e1, Nat.mod_mul_right_mod]
  have hq : U % (V * LB ^ (i + 1)) / LB ^ i % V = U % (V * LB ^ i) / LB ^ i := by
    rw [hR, Nat.mul_comm V (LB ^ i), Nat.mod_mul_right_div_self]
  refine ⟨fun j => ?_, ?_, ?_, hS⟩
  · unfold xr
    rw [a1N]
    by_cases h : i ≤ j ∧ j < i + (nv + 1)
    · rw [if_pos h, b9X (by omega), hq, d4n]
      congr 1; omega
    · rw [if_neg h]
      rcases Nat.lt_or_ge j i with h1 | h1
      · have h2 := Nat.mod_add_div (U % (V * LB ^ (i + 1))) (V * LB ^ i)
        rw [← hR] at h2
        have h3 : V * LB ^ i * (U % (V * LB ^ (i + 1)) / (V * LB ^ i)) = LB ^ i * (V * (U % (V * LB ^ (i + 1)) / (V * LB ^ i))) := by rw [Nat.mul_comm V, Nat.mul_assoc]
        rw [h3] at h2
        conv => lhs; rw [← h2]
        exact c0q _ h1
      · have hj : i + (nv + 1) ≤ j := by omega
        have hpj : LB ^ (nv + (i + 1)) ≤ LB ^ j := Nat.pow_le_pow_right (by decide) (by omega)
        have h3 : V * LB ^ (i + 1) ≤ LB ^ (nv + (i + 1)) := by rw [Nat.pow_add LB nv (i + 1)]; exact Nat.mul_le_mul_right _ (Nat.le_of_lt hV)
        have h4 : U % (V * LB ^ i) ≤ U % (V * LB ^ (i + 1)) := by rw [hR]; exact Nat.mod_le _ _
        rw [b0k (by omega), b0k (by omega)]
  · rw [Nat.div_div_eq_div_mul, Nat.mul_comm (LB ^ i), e1, Nat.mod_mul_right_div_self]
    unfold dig
    rw [Nat.div_div_eq_div_mul]
  · have : (fl (nv + 1) fun t => dig (U % (V * LB ^ (i + 1))) (i + t)) = fl (nv + 1) (dig (U % (V * LB ^ (i + 1)) / LB ^ i)) := a3w fun t _ => (d4n _ _ _).symm
    rw [this, a4Q hSl]
theorem c3J {l : List Nat} (h : (l.getLast?).getD 1 ≠ 0) (hl : 0 < l.length) : 0 < l.getD (l.length - 1) 0 := by
  rw [List.getLast?_eq_getElem?, List.getElem?_eq_getElem (by omega)] at h
  rw [List.getD_eq_getElem?_getD, List.getElem?_eq_getElem (by omega)]
  simp at h ⊢; omega
theorem d4H {n : Nat} (h : n < LB) : blen n ≤ 32 := by
  rcases Nat.lt_or_ge 32 (blen n) with hc | hc
  · exfalso
    have h0 : n ≠ 0 := by rintro rfl; simp [c6q] at hc
    have := c0z h0
    have h2 : 2 ^ 32 ≤ 2 ^ (blen n - 1) := Nat.pow_le_pow_right (by decide) (by omega)
    have : (2 : Nat) ^ 32 = LB := by decide
    omega
  · exact hc
/-- Doubled till the top bit is set: as many limbs. -/
theorem c8S {l : List Nat} (hl : Lim l) (h0 : 0 < l.length) (ht : 0 < l.getD (l.length - 1) 0) : val l * 2 ^ (32 - blen (l.getD (l.length - 1) 0)) < LB ^ l.length ∧ LB ^ (l.length - 1) ≤ val l := by
  have hd := a1W hl (l.length - 1)
  have hb := d4H hd
  have hs := a6J l (l.length - 1)
  have hdr : val (l.drop (l.length - 1)) = l.getD (l.length - 1) 0 := by
    rw [a3j, show l.length - 1 + 1 = l.length by omega, List.drop_length]; simp [val]
  rw [hdr] at hs
  have htk := a3C hl (l.length - 1)
  generalize l.getD (l.length - 1) 0 = d at *
  have hlt := c8o d
  constructor
  · have h1 : val l < LB ^ (l.length - 1) * 2 ^ blen d := by
      have : LB ^ (l.length - 1) * (d + 1) ≤ LB ^ (l.length - 1) * 2 ^ blen d := Nat.mul_le_mul_left _ hlt
      rw [Nat.mul_add] at this
      omega
    have h2 : LB ^ (l.length - 1) * 2 ^ blen d * 2 ^ (32 - blen d) = LB ^ l.length := by
      rw [Nat.mul_assoc, ← Nat.pow_add, show blen d + (32 - blen d) = 32 by omega, show (2 : Nat) ^ 32 = LB by decide, ← Nat.pow_succ]
      congr 1; omega
    rw [← h2]
    exact Nat.mul_lt_mul_of_pos_right h1 (Nat.pow_pos (by decide))
  · have : LB ^ (l.length - 1) * 1 ≤ LB ^ (l.length - 1) * d := Nat.mul_le_mul_left _ ht
    omega
theorem d6e (r : Nat) : AV.sl 1 [.int .u32 (r : Int)] = natV [r] := rfl
theorem d3u {r : Nat} : val [r] = r := by simp [val]
theorem a7n (a b : List Nat) (ha : Nt a) (hb : Nt b) (hal : a.length < 17592186044000) (hbl : b.length < 17592186044000) (hb0 : val b ≠ 0) : a0f Pr b4z [natV a, natV b] (.tup [natV (limbs (val a / val b)), natV (limbs (val a % val b)), .int .i64 0]) := by
  have hLB : LB = 4294967296 := rfl
  have hna := ha.limbs
  have hnb := hb.limbs
  have hlal : (limbs (val a)).length < 17592186044000 := Nat.lt_of_le_of_lt (a1z ha.lim) hal
  have hlbl : (limbs (val b)).length < 17592186044000 := Nat.lt_of_le_of_lt (a1z hb.lim) hbl
  have hva := a0i (val a)
  have hvb := a0i (val b)
  have hlasta := b0g (val a)
  have hlastb := b0g (val b)
  have hia := c2E (val a)
  have hib := c2E (val b)
  refine a0f.introL d0Z d0X (Nat.le_of_ble_eq_true rfl) (c4r (a2I _) (a2I _) (.int _ _)) fun H hH => ?_
  refine Safe.rg rfl ?_
  simp only [c2k, E3, seval]
  refine Safe.rg rfl ?_
  simp only [c2j, E3, seval]
  first | refine (a0r a ha.lim ha.len).acall ?_ | refine (a0r a ha.lim ha.len).dcall ?_
  try simp only [E3, seval]
  first | refine (a0r b hb.lim hb.len).acall ?_ | refine (a0r b hb.lim hb.len).dcall ?_
  try simp only [E3, seval]
  generalize limbs (val a) = la at *
  generalize limbs (val b) = lb at *
  generalize val a = A at *
  generalize val b = B at *
  subst hva
  subst hvb
  have hb1 : 0 < lb.length := by
    rcases Nat.eq_zero_or_pos lb.length with h | h
    · exfalso; have := List.length_eq_zero_iff.1 h; subst this; exact hb0 rfl
    · exact h
  have hB : 0 < val lb := Nat.pos_of_ne_zero hb0
  refine Safe.rg rfl ?_
  simp only [c2i, show (((lb.length : Nat) : Int) = 0) = False from eq_false (by omega), E3, seval]
  refine Safe.cd rfl ?_
  simp only [E3, seval]
  refine Safe.rg rfl ?_
  simp only [c2h, E3, seval]
  refine (a7o la lb hna hnb).acall ?_
  by_cases hab : val la < val lb
  · have hcm : (cmpI (val la) (val lb) < 0) = True := by rw [c8n]; exact eq_true hab
    simp only [hcm, E3, seval]
    refine Safe.cd rfl ?_
    simp only [E3, seval]
    refine Safe.rg rfl ?_
    simp only [c2g, E3, seval]
    first | refine (a6N la hna).acall ?_ | refine (a6N la hna).dcall ?_
    try simp only [E3, seval]
    refine Safe.rt rfl ?_
    simp only [E3, seval]
    rw [Nat.div_eq_of_lt hab, Nat.mod_eq_of_lt hab, a0V]
    exact ⟨Le.tup3 (Le.nil 1 (by decide)) (Le.refl _) (Le.refl _), _, rfl⟩
  have hcm : (cmpI (val la) (val lb) < 0) = False := by rw [c8n]; exact eq_false hab
  simp only [hcm, E3, seval]
  refine Safe.cd rfl ?_
  simp only [E3, seval]
  have htb := c3J hlastb hb1
  have hdl := a1W hnb.lim (lb.length - 1)
  by_cases hone : lb.length = 1
  · have h1 : (((lb.length : Nat) : Int) = 1) = True := eq_true (by omega)
    refine Safe.rg rfl ?_
    simp only [b4V, h1, E3, seval]
    refine Safe.cd rfl ?_
    simp only [E3, seval]
    have hvb1 : val lb = lb.getD 0 0 := by
      have := a3j lb 0
      rw [List.drop_zero, List.drop_eq_nil_of_le (by omega)] at this
      simpa [val] using this
    have i0 := a0Q (hap H []) lb .i64 0 hb1
    rw [Int.natCast_zero] at i0
    have hd0 : 0 < lb.getD 0 0 := by rw [← hvb1]; exact hB
    have hd1 : lb.getD 0 0 < LB := a1W hnb.lim 0
    refine Safe.rg rfl ?_
    simp only [c2f, i0, E3, seval]
    first | refine (c1n la (lb.getD 0 0) hna hd0 hd1).acall ?_ | refine (c1n la (lb.getD 0 0) hna hd0 hd1).dcall ?_
    try simp only [E3, seval]
    have hrl : val la % lb.getD 0 0 < LB := Nat.lt_trans (Nat.mod_lt _ hd0) hd1
    refine Safe.rg rfl ?_
    simp only [c2e, d6e, E3, seval]
    first | refine (a0r [val la % lb.getD 0 0] (by intro d hd; simp at hd; subst hd; exact hrl) (by simp)).acall ?_ | refine (a0r [val la % lb.getD 0 0] (by intro d hd; simp at hd; subst hd; exact hrl) (by simp)).dcall ?_
    try simp only [E3, seval]
    refine Safe.rt rfl ?_
    simp only [E3, seval]
    rw [hvb1, d3u]
    exact ⟨Le.refl _, _, rfl⟩
  have h1 : (((lb.length : Nat) : Int) = 1) = False := eq_false (by omega)
  refine Safe.rg rfl ?_
  simp only [b4V, h1, E3, seval]
  refine Safe.cd rfl ?_
  simp only [E3, seval]
  have w0 : IntKind.wrap .i64 (((lb.length : Nat) : Int) - 1) = ((lb.length - 1 : Nat) : Int) := by rw [a0b] <;> omega
  refine Safe.rg rfl ?_
  simp only [c2d, w0, a0Q _ lb _ (lb.length - 1) (by omega), E3, seval]
  first | refine (c9A _ hdl).acall ?_ | refine (c9A _ hdl).dcall ?_
  try simp only [E3, seval]
  obtain ⟨hVl, hBl⟩ := c8S hnb.lim hb1 htb
  have hn32 : 32 - blen (lb.getD (lb.length - 1) 0) < 32 := by
    have : 0 < blen (lb.getD (lb.length - 1) 0) := by unfold blen; rw [if_neg (by omega)]; omega
    omega
  generalize hn : 32 - blen (lb.getD (lb.length - 1) 0) = n at *
  have hp2 : 0 < 2 ^ n := Nat.pow_pos (by decide)
  -- the divisor
  refine Safe.rg rfl ?_
  simp only [b9e, E3, seval]
  refine a0o.mono (c4T lb n hnb (by omega) hb0 hn32 (hap H [])) ?_
  rintro r' H' ⟨rfl, rfl⟩
  simp only [d3P, c3G, List.nil_append, List.length_nil, hib, E3, seval]
  have hVp : 0 < val lb * 2 ^ n := Nat.mul_pos hB hp2
  have hnv1 : (limbs (val lb * 2 ^ n)).length ≤ lb.length := a0W hVl
  have hnv2 : lb.length ≤ (limbs (val lb * 2 ^ n)).length := by
    rcases Nat.lt_or_ge (limbs (val lb * 2 ^ n)).length lb.length with h | h
    · exfalso
      have h2 := a1P (a0w (val lb * 2 ^ n))
      rw [a0i] at h2
      have h3 : LB ^ (limbs (val lb * 2 ^ n)).length ≤ LB ^ (lb.length - 1) := Nat.pow_le_pow_right (by decide) (by omega)
      have h4 : val lb * 1 ≤ val lb * 2 ^ n := Nat.mul_le_mul_left _ hp2
      omega
    · exact h
  have hnv : (limbs (val lb * 2 ^ n)).length = lb.length := by omega
  refine Safe.freeze 0 hH rfl rfl (a0t _) ?_
  refine Safe.keep [0, 1, 9, 10] ?_
  simp only [c9n (H := H) (i := 0) _ (show (limbs (val lb * 2 ^ n)).length ≤ (fl (lb.length + 1) (dig (val lb * 2 ^ n))).length by rw [a1N]; omega), d6S (M := val lb * 2 ^ n) rfl (show (limbs (val lb * 2 ^ n)).length ≤ lb.length + 1 by omega), E3, seval]
  refine Safe.drop0 hH rfl (by simp only [List.all_cons, List.all_nil, E3, seval]) (by repeat (first | exact RC.nil | refine RC.none ?_ | refine RC.mo ?_ | refine RC.io ?_ | refine RC.row ZI.cl ?_ | refine RC.cons (a0t _) ?_ | refine RC.row a0d ?_ | refine RC.emp ?_ | refine RC.zero ?_ | refine RC.one (Z_cl _) ?_ | refine RC.one (ZI.cl _) ?_ | refine RC.one (a0d _) ?_)) ?_
  -- the dividend
  have hA0 : val la ≠ 0 := by omega
  have hla1 : 0 < la.length := by
    rcases Nat.eq_zero_or_pos la.length with h | h
    · exfalso; have := List.length_eq_zero_iff.1 h; subst this; exact hA0 rfl
    · exact h
  have hU1 : la.length ≤ (limbs (val la * 2 ^ n)).length := by
    rcases Nat.lt_or_ge (limbs (val la * 2 ^ n)).length la.length with h | h
    · exfalso
      have h2 := a1P (a0w (val la * 2 ^ n))
      rw [a0i] at h2
      have h3 : LB ^ (limbs (val la * 2 ^ n)).length ≤ LB ^ (la.length - 1) := Nat.pow_le_pow_right (by decide) (by omega)
      have h4 : val la * 1 ≤ val la * 2 ^ n := Nat.mul_le_mul_left _ hp2
      have h5 := (c8S hna.lim hla1 (c3J hlasta hla1)).2
      omega
    · exact h
  have hU2 : val la * 2 ^ n < LB ^ (la.length + 1) := by
    rw [Nat.pow_succ]
    have h2n : 2 ^ n ≤ LB := by
      have : LB = 2 ^ (32 - n) * 2 ^ n := by rw [← Nat.pow_add, show 32 - n + n = 32 by omega]
      rw [this]; exact Nat.le_mul_of_pos_left _ (Nat.pow_pos (by decide))
    exact Nat.lt_of_lt_of_le (Nat.mul_lt_mul_of_pos_right (a1P hna.lim) hp2) (Nat.mul_le_mul_left _ h2n)
  have hU3 : (limbs (val la * 2 ^ n)).length ≤ la.length + 1 := a0W hU2
  refine Safe.rg rfl ?_
  simp only [b9d, E3, seval]
  refine a0o.mono (c4T la n hna (by omega) hA0 hn32 (hap H [])) ?_
  rintro r' H' ⟨rfl, rfl⟩
  generalize hK : (limbs (val la * 2 ^ n)).length = K at *
  have hrow : (fl (la.length + 1) (dig (val la * 2 ^ n))).take K ++ [0, 0] = fl (K + 2) (dig (val la * 2 ^ n)) := by
    have hh : val la * 2 ^ n < LB ^ K := by have := a1P (a0w (val la * 2 ^ n)); rwa [a0i, hK] at this
    have hh2 : val la * 2 ^ n < LB ^ (K + 1) := Nat.lt_of_lt_of_le hh (Nat.pow_le_pow_right (by decide) (by omega))
    rw [c7X _ hU3, c7Y, c7Y, b0k hh, b0k hh2, List.append_assoc]; rfl
  have happ := fun (env : Env) => d7F (H := H) hH (n0 := H.length) (env := env) (L := []) (len := K) (c := la.length + 1) (X := fl (la.length + 1) (dig (val la * 2 ^ n))) (l := [0, 0]) (o := none) (a4h H 0) (by rw [a1N]; exact hU3) (by simp; omega) (by rw [a1N]; simp; omega)
  have w2 : IntKind.wrap .i64 ((la.length : Int) + 1) = ((la.length + 1 : Nat) : Int) := by rw [a0b] <;> omega
  have hslc : slcV (hap H [some ⟨1, u32s (fl (K + 2) (dig (val la * 2 ^ n)))⟩]) 1 (.mu (lid H 0) 0 (K + 2) none) none (some (.int .i64 ((la.length + 1 : Nat) : Int))) none = some (.mu (lid H 0) 0 (la.length + 1) none) := by
    simp only [slcV, a1u, List.getElem?_cons_zero, Option.join_some, Option.bind_some, a4l]
    rw [if_pos ⟨trivial, by omega, by omega, by omega⟩]
    simp
  simp only [c4N, d5l, Int.natCast_zero, List.length_cons, List.length_nil, hrow] at happ
  simp only [d3P, c3G, List.nil_append, List.length_nil, hia, E3, seval]
  simp only [happ, w2, hslc, E3, seval]
  have hle : lb.length ≤ la.length := by
    rcases Nat.lt_or_ge la.length lb.length with h | h
    · exfalso
      have h2 := a1P hna.lim
      have h3 : LB ^ la.length ≤ LB ^ (lb.length - 1) := Nat.pow_le_pow_right (by decide) (by omega)
      omega
    · exact h
  have w3 : IntKind.wrap .i64 ((la.length : Int) - (lb.length : Int)) = ((la.length - lb.length : Nat) : Int) := by rw [a0b] <;> omega
  generalize hm : la.length - lb.length = m at *
  have w4 : IntKind.wrap .i64 ((m : Int) + 1) = ((m + 1 : Nat) : Int) := by rw [a0b] <;> omega
  refine Safe.rg rfl ?_
  simp only [b9c, w3, w4, c3A (H := H) (L := [some ⟨1, u32s (fl (K + 2) (dig (val la * 2 ^ n)))⟩]) (n := m + 1) (by omega), E3, seval]
  refine Safe.rg rfl ?_
  simp only [b9b, w3, E3, seval]
  have hUV : val la * 2 ^ n < val lb * 2 ^ n * LB ^ (m + 1) := by
    rw [Nat.mul_right_comm]
    refine Nat.mul_lt_mul_of_pos_right ?_ hp2
    have h1 := a1P hna.lim
    have h2 : LB ^ (lb.length - 1) * LB ^ (m + 1) ≤ val lb * LB ^ (m + 1) := Nat.mul_le_mul_right _ hBl
    rw [← Nat.pow_add, show lb.length - 1 + (m + 1) = la.length by omega] at h2
    omega
  generalize hU : val la * 2 ^ n = U at *
  generalize hV : val lb * 2 ^ n = V at *
  have hvt : 0 < (limbs V).getD (lb.length - 1) 0 := by
    have := c3J (b0g V) (by omega)
    rwa [hnv] at this
  refine Safe.lp rfl ?_
  refine Safe.keep [0, 1, 9, 10, 11, 12, 13] ?_
  simp only [E3, seval]
  refine Safe.loopD (m + 1) (fun i => [(0, natV la), (1, natV lb), (9, .int .i64 n), (10, natV (limbs V)), (11, .mu (lid H 0) 0 (la.length + 1) none), (12, .mu (lid H 1) 0 (m + 1) (some (m + 1))), (13, .int .i64 ((i : Int) - 1))])
    (fun i => hap H [some ⟨1, u32s (fl (K + 2) (dig (U % (V * LB ^ i))))⟩, some ⟨1, u32s (fl (m + 1) fun j => if i ≤ j then dig (U / V) j else 0)⟩]) ?_ ?_ (fun i hi ih => ?_) ?_
  · have : (((m + 1 : Nat) : Int) - 1) = (m : Int) := by omega
    rw [this]
  · rw [c6f, Nat.mod_eq_of_lt hUV]
  · have e1 : ((i + 1 : Nat) : Int) - 1 = (i : Int) := by omega
    rw [e1]
    obtain ⟨s1, s2, s3, s4⟩ := d2A (U := U) (V := V) (i := i) (nv := lb.length) hVl hVp
    refine Safe.inLoop ?_
    refine Safe.rg rfl ?_
    simp only [b2o, Int.natCast_nonneg i, E3, seval]
    refine Safe.cd rfl ?_
    simp only [E3, seval]
    have w5 : IntKind.wrap .i64 ((i : Int) + (lb.length : Int)) = ((i + lb.length : Nat) : Int) := by rw [a0b] <;> omega
    have w6 : IntKind.wrap .i64 (((i + lb.length : Nat) : Int) + 1) = ((i + lb.length + 1 : Nat) : Int) := by rw [a0b] <;> omega
    refine Safe.rg rfl ?_
    simp only [b9a, hnv, w5, w6, d5q (H := H) (i := 0) (L := [some ⟨1, u32s (fl (K + 2) (dig (U % (V * LB ^ (i + 1)))))⟩, some ⟨1, u32s (fl (m + 1) fun j => if i + 1 ≤ j then dig (U / V) j else 0)⟩]) rfl rfl none .i64 .i64 (show i + lb.length + 1 = i + (lb.length + 1) by omega) (show i + lb.length + 1 ≤ la.length + 1 by omega), E3, seval]
    have hcall := c8i (H := hap H [some ⟨1, u32s (fl (K + 2) (dig (U % (V * LB ^ (i + 1)))))⟩, some ⟨1, u32s (fl (m + 1) fun j => if i + 1 ≤ j then dig (U / V) j else 0)⟩]) (id := lid H 0) (off := i) (N := K + 2) (n := lb.length) (oc := none) (v := limbs V) (f := dig (U % (V * LB ^ (i + 1))))
      (d3Q rfl) (a0w V) hnv hb1 hvt (by omega) (by omega) (fun j _ => c9v _ _) s3 (by rw [a0i]; exact s4)
    refine a0o.mono hcall ?_
    rintro r' H' ⟨rfl, rfl⟩
    rw [a0i, s2, a3w fun j _ => s1 j]
    simp only [a3D, List.set_cons_zero, e2y (show i < m + 1 by omega), fst1 (show i < m + 1 by omega), c6g, E3, seval]
    refine Safe.inBlock ?_
    refine Safe.rg rfl ?_
    simp only [b8Z, a0b (n := (i : Int) - 1) (by omega) (by omega), E3, seval]
    refine Safe.keep [0, 1, 9, 10, 11, 12, 13] ?_
    simp only [E3, seval]
    exact ih
  · refine Safe.inLoop ?_
    refine Safe.rg rfl ?_
    simp only [b2o, show (0 ≤ ((0 : Nat) : Int) - 1) = False by simp, E3, seval]
    refine Safe.cd rfl ?_
    simp only [E3, seval]
    have hR0 : U % (V * LB ^ 0) = U % V := by rw [Nat.pow_zero, Nat.mul_one]
    rw [hR0]
    refine Safe.freeze 0 hH rfl rfl (a0t _) ?_
    refine Safe.keep [9, 11, 12] ?_
    simp only [c9n (H := H) (i := 0) none (show la.length + 1 ≤ (fl (K + 2) (dig (U % V))).length by rw [a1N]; omega), a0X, E3, seval]
    refine Safe.freeze 1 hH rfl rfl (a0t _) ?_
    refine Safe.keep [9, 11, 12] ?_
    simp only [d3Z, E3, seval]
    rw [c9u, c7X _ (show la.length + 1 ≤ K + 2 by omega)]
    have hUm : U % V < LB ^ (la.length + 1) := Nat.lt_of_le_of_lt (Nat.mod_le _ _) hU2
    have hUd : U / V < LB ^ (m + 1) := by rw [Nat.div_lt_iff_lt_mul hVp, Nat.mul_comm]; exact hUV
    refine Safe.rg rfl ?_
    simp only [b8Y, E3, seval]
    first | refine (a0r _ (a7E (U / V) (m + 1)) (by rw [a1N]; omega)).acall ?_ | refine (a0r _ (a7E (U / V) (m + 1)) (by rw [a1N]; omega)).dcall ?_
    try simp only [E3, seval]
    first | refine (a0r _ (a7E (U % V) (la.length + 1)) (by rw [a1N]; omega)).acall ?_ | refine (a0r _ (a7E (U % V) (la.length + 1)) (by rw [a1N]; omega)).dcall ?_
    try simp only [E3, seval]
    rw [a4Q hUm, a4Q hUd]
    first | refine (c8G (limbs (U % V)) n ⟨a0w _, Nat.le_trans (a0W hUm) (by omega)⟩ hn32).acall ?_ | refine (c8G (limbs (U % V)) n ⟨a0w _, Nat.le_trans (a0W hUm) (by omega)⟩ hn32).dcall ?_
    try simp only [E3, seval]
    refine Safe.rt rfl ?_
    simp only [E3, seval]
    rw [a0i, ← hU, ← hV, Nat.mul_mod_mul_right, Nat.mul_div_cancel _ hp2, Nat.mul_div_mul_right _ _ hp2]
    exact ⟨Le.refl _, _, rfl⟩
end Go.Abs
namespace Go.Abs
theorem d8D {n m : Bool} {A B : Nat} {q : Int} (hB : B ≠ 0) (h : sgn n A = sgn m B * q) : A % B = 0 ∧ sgn (!(n == m)) (A / B) = q := by
  have hA : A = B * q.natAbs := by
    have := congrArg Int.natAbs h
    rwa [b8n, Int.natAbs_mul, b8n] at this
  refine ⟨by rw [hA]; exact Nat.mul_mod_right _ _, ?_⟩
  have hne : sgn m B ≠ 0 := by cases m <;> simp [sgn] <;> omega
  refine Int.eq_of_mul_eq_mul_left hne ?_
  rw [← h, d2q]
  have hC : B * (A / B) = A := by rw [hA, Nat.mul_div_cancel_left _ (Nat.pos_of_ne_zero hB)]
  rw [hC]
  cases n <;> cases m <;> rfl
theorem a2Y (x y : ZI) (k : Nat) (hx : Zok k x) (hy : Zok k y) (hk : k < 17592186044000) (q : Int) (hy0 : y.z ≠ 0) (hq : x.z = y.z * q) : a0f Pr a1S [x.av, y.av] (.tup [Z q, Z 0, .int .i64 0]) := by
  obtain ⟨n, a⟩ := x
  obtain ⟨m, b⟩ := y
  have hal := hx.len
  have hbl := hy.len
  simp only at hal hbl
  have ha : Nt a := ⟨hx.lim, by omega⟩
  have hb : Nt b := ⟨hy.lim, by omega⟩
  simp only [ZI.av, ZI.z] at *
  have hb0 : val b ≠ 0 := by
    intro h; rw [h, b7u] at hy0; exact hy0 rfl
  obtain ⟨hr, hqq⟩ := d8D hb0 hq
  have hnt : ∀ v, v ≤ val a → Nt (limbs v) := fun v hv => ⟨a0w _, Nat.le_trans (a0W (Nat.lt_of_le_of_lt hv (a1P ha.lim))) ha.len⟩
  refine a0f.intro c3b c3a (Nat.le_of_ble_eq_true rfl) (c4r (Z_cl _) (Z_cl _) (.int _ _)) fun H hH => ?_
  refine Safe.rg rfl ?_
  simp only [b2S, E3, seval]
  refine Safe.rg rfl ?_
  simp only [b2R, E3, seval]
  first | refine (a7n a b ha hb (by omega) (by omega) hb0).acall ?_ | refine (a7n a b ha hb (by omega) (by omega) hb0).dcall ?_
  try simp only [E3, seval]
  refine Safe.rg rfl ?_
  simp only [b2Q, E3, seval]
  refine Safe.cd rfl ?_
  simp only [E3, seval]
  refine Safe.rx rfl (by simp only [b2Z, b7v, b3r, E3, seval]) ?_
  simp only [b2P, b0w, b0v, E3, seval]
  refine (a1K (!(n == m)) _ (hnt _ (Nat.div_le_self _ _))).dcall ?_
  rw [a0i, hqq]
  simp only [E3, seval]
  refine (a1K n _ (hnt _ (Nat.mod_le _ _))).dcall ?_
  rw [a0i, hr, b7u]
  simp only [E3, seval]
  refine ⟨?_, ?_⟩
  all_goals
    refine Safe.rg rfl ?_
    simp only [b2O, E3, seval]
    refine (a0K (canZ 0) (a0z (k := 1) (by decide) |>.mono (by omega))).dcall ?_
    rw [a0y]
    simp only [Int.sign_zero, E3, seval]
    refine Safe.cd rfl ?_
    simp only [E3, seval]
    refine Safe.rx rfl (by simp only [b2Z, b7v, b3r, E3, seval]) ?_
    simp only [b2N, b0u, b0t, E3, seval]
    refine Safe.rt rfl ?_
    simp only [E3, seval]
    exact ⟨rfl, _, rfl⟩
end Go.Abs
namespace Go.Abs
theorem c3H {n : Nat} : (((limbs n).length : Nat) : Int) > 0 ↔ n ≠ 0 := by
  have := c0R n
  omega
theorem b8z (a b : List Nat) (ha : Nt a) (hb : Nt b) (hal : a.length < 17592186044000) (hbl : b.length < 17592186044000) : a0f Pr c0E [natV a, natV b] (natV (limbs (Nat.gcd (val a) (val b)))) := by
  have hva : (limbs (val a)).length < 17592186044000 := Nat.lt_of_le_of_lt (a1z ha.lim) hal
  have hvb : (limbs (val b)).length < 17592186044000 := Nat.lt_of_le_of_lt (a1z hb.lim) hbl
  refine a0f.intro d0V d0T (Nat.le_of_ble_eq_true rfl) (a2I _) fun H hH => ?_
  refine Safe.rg rfl ?_
  simp only [c2c, E3, seval]
  refine Safe.rg rfl ?_
  simp only [c2b, E3, seval]
  first | refine (a6N a ha).acall ?_ | refine (a6N a ha).dcall ?_
  try simp only [E3, seval]
  first | refine (a6N b hb).acall ?_ | refine (a6N b hb).dcall ?_
  try simp only [E3, seval]
  refine Safe.lp rfl ?_
  refine Safe.keep [5, 6] ?_
  simp only [E3, seval]
  refine Safe.loopW (α := Nat × Nat) (fun p => p.2) (fun p => [(5, natV (limbs p.1)), (6, natV (limbs p.2))]) (fun _ => hap H [])
    (fun p => Nat.gcd p.1 p.2 = Nat.gcd (val a) (val b) ∧ (limbs p.1).length < 17592186044000 ∧ (limbs p.2).length < 17592186044000) (val a, val b) rfl rfl ⟨rfl, hva, hvb⟩ ?_
  rintro ⟨x, y⟩ ⟨hg, hx, hy⟩ ih
  simp only at hg hx hy ih ⊢
  refine Safe.inLoop ?_
  by_cases h0 : y = 0
  · subst h0
    refine Safe.rg rfl ?_
    simp only [b4U, a0V, show ((([] : List Nat).length : Nat) : Int) > 0 ↔ False by simp, E3, seval]
    refine Safe.cd rfl ?_
    simp only [E3, seval]
    refine Safe.rg rfl ?_
    simp only [c1Y, E3, seval]
    rw [Nat.gcd_zero_right] at hg
    refine Safe.rt rfl ?_
    simp only [hg, E3, seval]
    first | exact ⟨rfl, _, rfl⟩ | exact ⟨_, rfl⟩ | exact ⟨trivial, _, rfl⟩
  · have hc : ((((limbs y).length : Nat) : Int) > 0) = True := eq_true (c3H.2 h0)
    refine Safe.rg rfl ?_
    simp only [b4U, hc, E3, seval]
    refine Safe.cd rfl ?_
    simp only [E3, seval]
    refine Safe.rg rfl ?_
    simp only [c2a, E3, seval]
    first | refine (a7n (limbs x) (limbs y) ⟨a0w _, by omega⟩ ⟨a0w _, by omega⟩ hx hy (by rw [a0i]; exact h0)).acall ?_ | refine (a7n (limbs x) (limbs y) ⟨a0w _, by omega⟩ ⟨a0w _, by omega⟩ hx hy (by rw [a0i]; exact h0)).dcall ?_
    try simp only [E3, seval]
    rw [a0i, a0i]
    have hm : x % y < y := Nat.mod_lt _ (Nat.pos_of_ne_zero h0)
    refine Safe.rg rfl ?_
    simp only [c1Z, E3, seval]
    refine Safe.keep [5, 6] ?_
    simp only [E3, seval]
    refine Safe.inBlock ?_
    refine ih (y, x % y) ⟨?_, hy, ?_⟩ hm
    · rw [← hg, Nat.gcd_comm x y, Nat.gcd_rec y x, Nat.gcd_comm]
    · have h1 := a1P (a0w y)
      rw [a0i] at h1
      exact Nat.lt_of_le_of_lt (a0W (Nat.lt_trans hm h1)) hy
theorem e1G {a b M : Nat} (ha : a < M) (hb : b < M) : Nat.gcd a b < M := by
  rcases Nat.eq_zero_or_pos a with h | h
  · subst h; rw [Nat.gcd_zero_left]; exact hb
  · exact Nat.lt_of_le_of_lt (Nat.gcd_le_left _ h) ha
section
variable (x y : ZI) (k : Nat) (hx : Zok k x) (hy : Zok k y) (hk : k < 17592186044000)
include hx hy hk
theorem c4F : a0f Pr b0p [x.av, y.av] (Z (Int.gcd x.z y.z)) := by
  obtain ⟨n, a⟩ := x
  obtain ⟨m, b⟩ := y
  have hal := hx.len
  have hbl := hy.len
  have hav := hx.lt
  have hbv := hy.lt
  simp only at hal hbl hav hbv
  have ha : Nt a := ⟨hx.lim, by omega⟩
  have hb : Nt b := ⟨hy.lim, by omega⟩
  simp only [ZI.av, ZI.z, Int.gcd, b8n]
  refine a0f.intro c6K c6J (Nat.le_of_ble_eq_true rfl) (Z_cl _) fun H hH => ?_
  refine Safe.rg rfl ?_
  simp only [b7U, E3, seval]
  refine Safe.rg rfl ?_
  simp only [b7T, E3, seval]
  first | refine (b8z a b ha hb (by omega) (by omega)).acall ?_ | refine (b8z a b ha hb (by omega) (by omega)).dcall ?_
  try simp only [E3, seval]
  have hg : Nt (limbs (Nat.gcd (val a) (val b))) := ⟨a0w _, Nat.le_trans (a0W (e1G hav hbv)) (by omega)⟩
  first | refine (a1K false _ hg).acall ?_ | refine (a1K false _ hg).dcall ?_
  try simp only [E3, seval]
  rw [a0i]
  refine Safe.rt rfl ?_
  simp only [show sgn false (Nat.gcd (val a) (val b)) = ((Nat.gcd (val a) (val b) : Nat) : Int) from rfl, E3, seval]
  first | exact ⟨rfl, _, rfl⟩ | exact ⟨_, rfl⟩ | exact ⟨trivial, _, rfl⟩
end
theorem d1M (x : ZI) (hx : Zok 17592186044416 x) : a0f Pr b5H [x.av] (Z (x.z.natAbs : Int)) := by
  obtain ⟨n, m⟩ := x
  have hm : Nt m := ⟨hx.lim, hx.len⟩
  simp only [ZI.av, ZI.z, b8n]
  refine a0f.intro c6P c6O (Nat.le_of_ble_eq_true rfl) (Z_cl _) fun H hH => ?_
  refine Safe.rg rfl ?_
  simp only [b8d, E3, seval]
  refine Safe.rg rfl ?_
  simp only [b8c, E3, seval]
  first | refine (a1K false m hm).acall ?_ | refine (a1K false m hm).dcall ?_
  try simp only [E3, seval]
  refine Safe.rt rfl ?_
  simp only [show sgn false (val m) = ((val m : Nat) : Int) from rfl, E3, seval]
  first | exact ⟨rfl, _, rfl⟩ | exact ⟨_, rfl⟩ | exact ⟨trivial, _, rfl⟩
theorem e1D (k : Nat) : (1 : Int).natAbs < LB ^ (k + 1) := Nat.one_lt_pow (Nat.succ_ne_zero k) (by decide)
end Go.Abs
namespace Go.Abs
structure Rok (k : Nat) (q : Rat) : Prop where
  num : q.num.natAbs < LB ^ k
  den : q.den < LB ^ k
theorem Rok.mono {k l : Nat} {q : Rat} (h : Rok k q) (hl : k ≤ l) : Rok l q := ⟨Nat.lt_of_lt_of_le h.num (c7J hl), Nat.lt_of_lt_of_le h.den (c7J hl)⟩
end Go.Abs
namespace Go.Abs
theorem c3v {id j off len : Nat} {oc : Option Nat} (h : j ≠ id) : nref id (.mu j off len oc) = true := a0x.2 (.mu _ _ _ _ h)
end Go.Abs
namespace Go.Abs
def intV (x : Nat) : AV := .int .i64 (x : Int)
theorem b9R (x : Nat) : Cl (intV x) := .int _ _
/-- Places, as a value. -/
def hsV (cs : List Nat) : AV := .sl 1 (cs.map intV)
theorem c5K (cs : List Nat) : Cl (hsV cs) := e0h 1 intV cs b9R
theorem d7E {G : Heap} {β n w c : Nat} {oc : Option Nat} {π : Nat → Nat} {S : Nat → Nat → AV} {α : Type} (hH : a0S (hM G β n w c oc π S)) {L : Heap} (i : Nat) {n0 : Nat} (hn : n0 ≤ lid G i) {env : Env} {wd bytes : Nat} {f : α → AV} (hf : ∀ x, Cl (f x)) (l : List α) (x : α) {y : AV} {len : Nat}
    (hlen : len = l.length) (hl : L[i]? = some (some ⟨wd, l.map f⟩)) (hL : RC L) (hy : y = f x) (hb : (len + 1) * bytes ≤ 140737488355328) (hbb : len + 1 ≤ 9223372036854775807) :
    appV n0 wd bytes false (.mu (lid G i) 0 len none) (.sl wd [y]) env (hap (hM G β n w c oc π S) L) = some (.mu (lid G i) 0 (len + 1) none, scrub (lid G i) env, hap (hM G β n w c oc π S) (L.set i (some ⟨wd, (l ++ [x]).map f⟩))) := by
  have := a9Y (H := hM G β n w c oc π S) hH i (by rw [a4y]; exact hn) (env := env) (bytes := bytes) hf l x (l ++ [x]) hlen hl hL hy rfl hb hbb
  rwa [a4y] at this
theorem e0R (π : Nat → Nat) (p r : Nat) : (fun t => if t = r then π p else (fun t => if t = p then π r else π t) t) = swp π p r := by
  funext t; unfold swp
  by_cases h1 : t = r
  · by_cases h2 : t = p
    · rw [if_pos h1, if_pos h2]; rw [← h1, ← h2]
    · rw [if_pos h1, if_neg h2, if_pos h1]
  · rw [if_neg h1]
    show (if t = p then π r else π t) = _
    by_cases h2 : t = p
    · rw [if_pos h2, if_pos h2]
    · rw [if_neg h2, if_neg h2, if_neg h1]
/-- A matrix's logical entries. -/
structure Lk (n c : Nat) (π : Nat → Nat) (S : Nat → Nat → AV) (F : Nat → Nat → AV) : Prop where
  lt : ∀ a, a < n → π a < n
  inj : ∀ a b, a < n → b < n → π a = π b → a = b
  at_ : ∀ a b, a < n → b < c → S (π a) b = F a b
  cl : ∀ a b, Cl (S a b)
theorem Lk.swap {n c : Nat} {π : Nat → Nat} {S : Nat → Nat → AV} {α : Type} {M : Nat → Nat → α} {f : α → AV} (h : Lk n c π S fun a b => f (M a b)) {p r : Nat} (hp : p < n) (hr : r < n) : Lk n c (swp π p r) S fun a b => f (if a = p then M r b else if a = r then M p b else M a b) := by
  refine ⟨fun a ha => ?_, fun a b ha hb he => ?_, fun a b ha hb => ?_, h.cl⟩
  · unfold swp; split
    · exact h.lt r hr
    · split
      · exact h.lt p hp
      · exact h.lt a ha
  · unfold swp at he
    split at he
    · split at he
      · omega
      · split at he
        · have := h.inj _ _ hr hp he; omega
        · have := h.inj _ _ hr hb he; omega
    · split at he
      · split at he
        · have := h.inj _ _ hp hr he; omega
        · split at he
          · omega
          · have := h.inj _ _ hp hb he; omega
      · split at he
        · have := h.inj _ _ ha hr he; omega
        · split at he
          · have := h.inj _ _ ha hp he; omega
          · exact h.inj _ _ ha hb he
  · unfold swp
    split
    · exact h.at_ r b hr hb
    · split
      · exact h.at_ p b hp hb
      · exact h.at_ a b ha hb
end Go.Abs
namespace Go.Abs
section
variable {G L : Heap} {id w : Nat} {X : List AV}
theorem lst (h : G[id]? = some (some ⟨w, X⟩)) {j : Nat} (hj : j < X.length) {v : AV} (hf : v.fit = true) (hn : v.cells.length = w) (env : Env) : a1y w (.loc id j 0) v env (hap G L) = some (.top, env, hap (G.set id (some ⟨w, X.set j v⟩)) L) := by
  have hid := a0h h
  have hr : hrow (hap G L) id = some ⟨w, X⟩ := by rw [a7H _ _ _ hid]; simp [hrow, h]
  simp only [a1y, hr, Option.bind_some]
  rw [if_pos ⟨hj, hf, hn, by omega⟩, a2n, b8o _ _ _ _ hid]
theorem lcpy (h : G[id]? = some (some ⟨w, X⟩)) {len : Nat} (hlen : X.length = len) {oc : Option Nat} {y : AV} {ys : List AV} (hy : a0N (hap G L) w false y = some ys) (hyl : ys.length = len) (env : Env) :
    cpyV w (.mu id 0 len oc) y env (hap G L) = some (.int .i64 len, env, hap (G.set id (some ⟨w, ys⟩)) L) := by
  have hid := a0h h
  have hr : hrow (hap G L) id = some ⟨w, X⟩ := by rw [a7H _ _ _ hid]; simp [hrow, h]
  simp only [cpyV, hy, hr, Option.bind_some]
  rw [if_pos ⟨trivial, by omega⟩, b8o _ _ _ _ hid]
  simp [hyl, hlen]
  rw [List.take_of_length_le (by omega), List.drop_eq_nil_of_le (by omega), List.append_nil]
end
/-- The copy as it grows. -/
def b2u (β n i w c : Nat) (oc : Option Nat) (S : Nat → Nat → AV) : Heap := some ⟨1, fr n fun a => if a < i then .mu (β + 1 + a) 0 c oc else .nil⟩ :: (List.range i).map fun j => some ⟨w, fr c (S j)⟩
theorem d3e (β n i w c : Nat) (oc : Option Nat) (S : Nat → Nat → AV) : (b2u β n i w c oc S).length = i + 1 := by simp [b2u]
theorem d1i (β n w c : Nat) (oc : Option Nat) (S : Nat → Nat → AV) : b2u β n n w c oc S = a6g β n w c oc S := by
  unfold b2u a6g orow
  rw [a7J fun a ha => by rw [if_pos ha]]
theorem d1h (H : Heap) {n i : Nat} (w c : Nat) (oc : Option Nat) (S : Nat → Nat → AV) :
    hap ((hap H (b2u (lid H 0) n i w c oc S)).set (lid H 0) (some ⟨1, (fr n fun a => if a < i then .mu (lid H 0 + 1 + a) 0 c oc else .nil).set i (.mu (lid H 0 + 1 + i) 0 c oc)⟩)) [some ⟨w, fr c (S i)⟩] = hap H (b2u (lid H 0) n (i + 1) w c oc S) := by
  have e2 : (fr n fun a => if a < i then AV.mu (lid H 0 + 1 + a) 0 c oc else .nil).set i (.mu (lid H 0 + 1 + i) 0 c oc) = fr n fun a => if a < i + 1 then .mu (lid H 0 + 1 + a) 0 c oc else .nil := by
    rw [c9p]
    refine a7J fun a _ => ?_
    by_cases h : a = i
    · subst h; rw [if_pos rfl, if_pos (by omega)]
    · rw [if_neg h]
      by_cases h2 : a < i
      · rw [if_pos h2, if_pos (by omega)]
      · rw [if_neg h2, if_neg (by omega)]
  rw [e2]
  simp only [hap, lid, Nat.add_zero]
  rw [List.set_append_right _ _ (Nat.le_refl _), Nat.sub_self]
  simp only [b2u, List.set_cons_zero, List.append_assoc, List.cons_append]
  congr 2
  rw [List.range_succ, List.map_append]; rfl
def zav (b : List (List ZI)) (j k : Nat) : AV := ((mg b j).getD k ⟨false, []⟩).av
theorem d8n (b : List (List ZI)) {i c : Nat} (hi : i < b.length) (hc : b[i].length = c) : b[i].map ZI.av = fr c (zav b i) := by
  apply List.ext_getElem?
  intro k
  simp only [fr, zav, a5A hi, List.getElem?_map]
  rcases Nat.lt_or_ge k c with h | h
  · rw [List.getElem?_range h, List.getElem?_eq_getElem (by omega)]
    simp only [Option.map_some, zav, a5A hi]
    simp [List.getD_eq_getElem?_getD, List.getElem?_eq_getElem (show k < b[i].length by omega)]
  · rw [List.getElem?_eq_none (by omega), List.getElem?_eq_none (by simp; omega)]; rfl
theorem c6m (b : List (List ZI)) {c : Nat} (hc : ∀ i, (h : i < b.length) → b[i].length = c) (hnb : b.length ≤ 2097152) (hcb : c ≤ 2097152) (H : Heap) :
    a0o Pr a8g [matV b] H fun r' H' => r' = .mu (lid H 0) 0 b.length (some b.length) ∧ H' = hap H (a6g (lid H 0) b.length 2 c (some c) (zav b)) := by
  refine a0o.introH c0Z c0X (Nat.le_of_ble_eq_true rfl) fun hH => ?_
  refine Safe.rg rfl ?_
  simp only [b1D, E3, seval]
  refine Safe.rg rfl ?_
  simp only [b1C, E3, seval]
  have hmk : ∀ env : Env, b9p 1 24 .nil (.int .i64 b.length) (.int .i64 b.length) env (hap H []) = some (.mu (lid H 0) 0 b.length (some b.length), env, hap H (b2u (lid H 0) b.length 0 2 c (some c) (zav b))) := by
    intro env
    simp only [b9p]
    rw [if_pos ⟨by decide, by omega, by omega, by omega, by omega⟩]
    simp only [Int.toNat_natCast, b5h, List.length_nil, b2K, List.nil_append]
    have : List.replicate b.length AV.nil = fr b.length fun a => if a < 0 then .mu (lid H 0 + 1 + a) 0 c (some c) else .nil := by
      apply List.ext_getElem?
      intro j
      simp only [fr, List.getElem?_map, List.getElem?_replicate]
      rcases Nat.lt_or_ge j b.length with h | h
      · rw [List.getElem?_range h]; simp [h]
      · rw [List.getElem?_eq_none (by simpa using h), if_neg (by omega)]; rfl
    rw [this]; rfl
  simp only [hmk, E3, seval]
  refine Safe.rg rfl ?_
  simp only [b1B, E3, seval]
  refine Safe.lp rfl ?_
  refine Safe.keep [0, 3, 9, 10, 11] ?_
  try simp only [E3, seval]
  refine Safe.loopN (b.length) (fun i => [(0, matV b), (3, .mu (lid H 0) 0 b.length (some b.length)), (9, matV b), (10, .int .i64 b.length), (11, .int .i64 i)]) (fun i => hap H (b2u (lid H 0) b.length i 2 c (some c) (zav b))) rfl rfl (fun i hi ih => ?_) ?_
  · have hlt : ((i : Int) < (b.length : Int)) = True := eq_true (by omega)
    have hbc := hc i hi
    have hiw : IntKind.wrap .i64 ((i : Int) + 1) = ((i + 1 : Nat) : Int) := by rw [a0b] <;> omega
    refine Safe.inLoop ?_
    refine Safe.rg rfl ?_
    simp only [a6u, hlt, E3, seval]
    refine Safe.cd rfl ?_
    simp only [E3, seval]
    refine Safe.rg rfl ?_
    simp only [b1A, a2g _ b _ i hi, E3, seval]
    have hG0 : (hap H (b2u (lid H 0) b.length i 2 c (some c) (zav b)))[lid H 0]? = some (some ⟨1, fr b.length fun a => if a < i then .mu (lid H 0 + 1 + a) 0 c (some c) else .nil⟩) := by
      simp only [hap, lid]; rw [List.getElem?_append_right (by omega)]; simp [b2u, lid]
    have hGl : (hap H (b2u (lid H 0) b.length i 2 c (some c) (zav b))).length = lid H 0 + 1 + i := by simp [hap, lid, d3e]; omega
    have hsucc := d1h H (n := b.length) (i := i) 2 c (some c) (zav b)
    rw [← a2X (hap H (b2u (lid H 0) b.length i 2 c (some c) (zav b)))]
    generalize hap H (b2u (lid H 0) b.length i 2 c (some c) (zav b)) = G at *
    have hlG : lid G 0 = lid H 0 + 1 + i := hGl
    have hmk2 : ∀ env : Env, b9p 2 32 (.agg [.bool false, .nil]) (.int .i64 c) (.int .i64 c) env (hap G []) = some (.mu (lid G 0) 0 c (some c), env, hap G [some ⟨2, List.replicate c (.agg [.bool false, .nil])⟩]) := by
      intro env
      simp only [b9p]
      rw [if_pos ⟨by decide, by omega, by omega, by omega, by omega⟩]
      simp only [Int.toNat_natCast, b5h, List.length_nil, b2K, List.nil_append]
    have e1 : lid H 0 + 1 + i = lid G 0 := hlG.symm
    rw [e1] at hsucc
    have hXl : (fr b.length fun a => if a < i then AV.mu (lid H 0 + 1 + a) 0 c (some c) else .nil).length = b.length := b9W _ _
    generalize (fr b.length fun a => if a < i then AV.mu (lid H 0 + 1 + a) 0 c (some c) else .nil) = X at *
    refine Safe.rg rfl ?_
    simp only [b1z, hbc, hmk2, lidx hG0 rfl (some b.length) .i64 hi, E3, seval]
    rw [lst hG0 (by omega) rfl rfl]
    simp only [E3, seval]
    rw [← a2X (hap (G.set _ _) _)]
    have h2a : (hap (G.set (lid H 0) (some ⟨1, X.set i (.mu (lid G 0) 0 c (some c))⟩)) [some ⟨2, List.replicate c (.agg [.bool false, .nil])⟩])[lid H 0]? = some (some ⟨1, X.set i (.mu (lid G 0) 0 c (some c))⟩) := by
      simp only [hap]
      rw [List.getElem?_append_left (by rw [List.length_set]; omega), List.getElem?_set]
      simp; omega
    have h2b : (hap (G.set (lid H 0) (some ⟨1, X.set i (.mu (lid G 0) 0 c (some c))⟩)) [some ⟨2, List.replicate c (.agg [.bool false, .nil])⟩])[lid G 0]? = some (some ⟨2, List.replicate c (.agg [.bool false, .nil])⟩) := by
      simp only [hap, lid, Nat.add_zero]
      rw [List.getElem?_append_right (by simp)]; simp
    have h2c : (hap (G.set (lid H 0) (some ⟨1, X.set i (.mu (lid G 0) 0 c (some c))⟩)) [some ⟨2, List.replicate c (.agg [.bool false, .nil])⟩]).set (lid G 0) (some ⟨2, b[i].map ZI.av⟩) = hap H (b2u (lid H 0) b.length (i + 1) 2 c (some c) (zav b)) := by
      rw [← hsucc, d8n b hi hbc]
      simp only [hap, lid, Nat.add_zero]
      rw [List.set_append_right _ _ (by simp)]
      simp
    generalize hap (G.set (lid H 0) (some ⟨1, X.set i (.mu (lid G 0) 0 c (some c))⟩)) [some ⟨2, List.replicate c (.agg [.bool false, .nil])⟩] = G2 at *
    have hxi : (X.set i (AV.mu (lid G 0) 0 c (some c))).getD i .top = .mu (lid G 0) 0 c (some c) := by
      simp [List.getD_eq_getElem?_getD, hXl, hi]
    refine Safe.rg rfl ?_
    simp only [b1y, lidx h2a rfl (some b.length) .i64 hi, lat h2a (show i < (X.set i (AV.mu (lid G 0) 0 c (some c))).length by rw [List.length_set]; omega), hxi, E3, seval]
    rw [lcpy h2b (by simp) (show a0N (hap G2 []) 2 false (vecV b[i]) = some (b[i].map ZI.av) by simp [a0N, vecV]) (by simpa using hbc), h2c, a2X]
    simp only [E3, seval]
    refine Safe.rg rfl ?_
    simp only [b1x, hiw, E3, seval]
    refine Safe.keep [0, 3, 9, 10, 11] ?_
    simp only [E3, seval]
    exact ih
  · refine Safe.inLoop ?_
    refine Safe.rg rfl ?_
    simp only [a6u, Int.lt_irrefl, E3, seval]
    refine Safe.cd rfl ?_
    simp only [E3, seval]
    refine Safe.rg rfl ?_
    simp only [b1w, E3, seval]
    refine Safe.rt rfl ?_
    simp only [E3, seval]
    rw [d1i]
end Go.Abs

/- Part 5 of the proof of MatMemory: W1, W2, W3, W4, W5, W6, W7, W8, T1, Shelf, T2. -/
import Derived.Test.YtociambfknibkaaMatMemoryK4
import Derived.Shelf.Strings.OnBuilder
import Derived.Test.YtociambfknibkaaProg
set_option linter.unusedVariables false
set_option linter.unusedSimpArgs false
namespace Go.Abs
theorem a1f (l : List Nat) (hl : Lim l) (hb : l.length ≤ 17592186044416) : a0g Pr a0J [natV l] (natV (limbs (val l))) := by
  refine a0g.intro c2I c2G (by simp only [List.length_cons, List.length_nil]; omega) (a2j _) fun H hH => ?_
  refine Safe.seq (Safe.region ?_)
  simp only [b5V, E1, seval]
  refine Safe.seq (Safe.block (Safe.loop ?_))
  refine Safe.keep [0] ?_
  simp only [E1, seval]
  generalize hv : val l = v
  have stop : ∀ (l : List Nat) (ts : Env), Lim l → val l = v → (l.getLast?).getD 1 ≠ 0 → look ts 0 = natV l → Safe ⟨Pr, fun _ _ => false, a0J, 21, [.tmp 2], H.length⟩ [.code ((ACode.region a9o false).seq ACode.ret)] ts (hap H []) fun r' H' => r' = natV (limbs v) ∧ ∃ L, H' = hap H L := by
    intro l ts hl hv hn h0
    refine Safe.seq (Safe.region ?_)
    simp only [a9o, E1, seval, h0]
    refine Safe.retn ?_
    simp only [E1, seval]
    rw [← hv, a5j hl hn]
    exact ⟨rfl, [], rfl⟩
  induction hn : l.length using Nat.strongRecOn generalizing l with
  | _ n ih =>
  refine Safe.inLoop (Safe.seq (Safe.seq (Safe.region ?_)))
  rcases List.eq_nil_or_concat l with rfl | ⟨l', d, rfl⟩
  · simp only [a9p, E1, seval, a5K, Int.natCast_zero, Int.lt_irrefl]
    refine Safe.cond ?_
    simp only [E1, seval]
    refine Safe.exit rfl ?_
    exact stop [] _ hl hv (by simp) (by simp only [E1, seval])
  · simp only [List.concat_eq_append] at *
    have hlen : (l' ++ [d]).length = l'.length + 1 := by simp
    have h0 : (0 : Int) < ((l' ++ [d]).length : Int) := by omega
    have hw : IntKind.i64.wrap (((l' ++ [d]).length : Int) - 1) = (l'.length : Int) := by rw [hlen, a0e] <;> omega
    have hg : (l' ++ [d]).getD l'.length 0 = d := by simp
    simp only [a9p, E1, seval, a5K, h0, hw, a0L _ (l' ++ [d]) _ l'.length (by omega), hg]
    refine Safe.cond ?_
    simp only [E1, seval]
    by_cases hd : d = 0
    · subst hd
      simp only [Int.natCast_zero, E1, seval]
      refine Safe.skip (Safe.block (Safe.region ?_))
      simp only [b5U, E1, seval, a5K, hw, c9l _ (l' ++ [0]) _ l'.length (by omega)]
      refine Safe.inBlock (Safe.keep [0] ?_)
      simp only [E1, seval, List.take_left']
      exact ih l'.length (by omega) l' (b2t.1 hl).1 (by omega) (by rw [← hv, c6i]) rfl
    · have : ¬ ((d : Int) = 0) := by omega
      simp only [this, E1, seval]
      refine Safe.exit rfl ?_
      exact stop (l' ++ [d]) _ hl hv (by simpa using hd) (by simp only [E1, seval])
theorem c6X (l : List Nat) (hl : Nt l) : a0g Pr b2J [natV l] (natV (limbs (val l))) := by
  refine a0g.intro c2P c2O (by simp only [List.length_cons, List.length_nil]; omega) (a2j _) fun H hH => ?_
  refine Safe.seq (Safe.region ?_)
  simp only [b6n, E1, seval]
  refine Safe.seq (Safe.region ?_)
  simp only [b6m, E1, seval]
  refine (a1f l hl.lim hl.len).acall ?_
  simp only [E1, seval, b7V _ _ H [] _ hl.limbs.len]
  refine Safe.freeze 0 (b := ⟨1, u32s (limbs (val l))⟩) hH rfl rfl (a0Y _) ?_
  refine Safe.retn ?_
  simp only [E1, seval]
  first | exact ⟨rfl, _, rfl⟩ | exact ⟨_, rfl⟩ | exact ⟨trivial, _, rfl⟩
def cmpI (a b : Nat) : Int := if a < b then -1 else if b < a then 1 else 0
theorem b1U {a b : Nat} (h : (limbs a).length < (limbs b).length) : a < b := by
  have h1 : limbs b ≠ [] := by intro h0; rw [h0] at h; simp at h
  have := c1B h1
  have h2 := a2U (a0T a)
  rw [a0v] at h2
  have h3 : LB ^ (limbs a).length ≤ LB ^ ((limbs b).length - 1) := Nat.pow_le_pow_right (by decide) (by omega)
  omega
theorem a1B (a b : List Nat) (ha : Nt a) (hb : Nt b) : a0g Pr a5o [natV a, natV b] (.int .i64 (cmpI (val a) (val b))) := by
  refine a0g.intro c5p c5o (by simp only [List.length_cons, List.length_nil]; omega) (.int _ _) fun H hH => ?_
  refine Safe.seq (Safe.region ?_)
  simp only [b9b, E1, seval]
  refine Safe.seq (Safe.region ?_)
  simp only [b9a, E1, seval]
  refine (a1f a ha.lim ha.len).acall ?_
  try simp only [E1, seval]
  refine (a1f b hb.lim hb.len).acall ?_
  try simp only [E1, seval]
  have na := ha.limbs
  have nb := hb.limbs
  have va := a0v (val a)
  have vb := a0v (val b)
  generalize hA : limbs (val a) = A at na va ⊢
  generalize hB : limbs (val b) = B at nb vb ⊢
  refine Safe.keep [0, 1] (Safe.seq (Safe.seq (Safe.region ?_)))
  simp only [b8Z, E1, seval, a5K]
  refine Safe.cond ?_
  simp only [E1, seval]
  by_cases hlen : A.length = B.length
  · have : ((A.length : Int) = B.length) := by omega
    simp only [this, E1, seval]
    refine Safe.skip (Safe.seq (Safe.seq (Safe.region ?_)))
    simp only [b8V, E1, seval, a5K]
    refine Safe.block (Safe.loop ?_)
    have key : ∀ n, n ≤ A.length → A.drop n = B.drop n → Safe ⟨Pr, fun _ _ => false, a5o, 45, [.tmp 4], H.length⟩ [.inLoop b9c, .inBlock 0, .code ((ACode.region a9y false).seq .ret)]
        [(0, natV A), (1, natV B), (5, .int .i64 ((n : Int) - 1))] (hap H []) fun r' H' => r' = .int .i64 (cmpI (val a) (val b)) ∧ ∃ L, H' = hap H L := by
      intro n
      induction n with
      | zero =>
        intro _ hd
        refine Safe.inLoop (Safe.seq (Safe.seq (Safe.region ?_)))
        simp only [b2h, E1, seval]
        refine Safe.cond ?_
        simp only [E1, seval, show ¬ ((0 : Int) ≤ ((0 : Nat) : Int) - 1) by omega]
        refine Safe.exit rfl (Safe.seq (Safe.region ?_))
        simp only [a9y, E1, seval]
        refine Safe.retn ?_
        simp only [E1, seval]
        have : val a = val b := by
          simp only [List.drop_zero] at hd
          rw [← va, ← vb, hd]
        refine ⟨?_, [], rfl⟩
        simp [cmpI, this]
      | succ m ih =>
        intro hm hd
        refine Safe.inLoop (Safe.seq (Safe.seq (Safe.region ?_)))
        simp only [b2h, E1, seval]
        refine Safe.cond ?_
        have e1 : ((m + 1 : Nat) : Int) - 1 = (m : Int) := by omega
        simp only [E1, seval, e1, Int.natCast_nonneg]
        refine Safe.skip (Safe.seq (Safe.block (Safe.seq (Safe.regionD ?_))))
        simp only [b8U, E1, seval, a0L _ A _ m (by omega), a0L _ B _ m (by omega)]
        refine Safe.cond ?_
        simp only [E1, seval]
        by_cases hq : A.getD m 0 = B.getD m 0
        · simp only [hq, E1, seval]
          refine Safe.skip (Safe.inBlock (Safe.region ?_))
          simp only [b6u, E1, seval]
          refine Safe.keep [0, 1, 5] ?_
          have := na.len
          simp only [E1, seval, a0e (n := (m : Int) - 1) (by omega) (by omega)]
          refine ih (by omega) ?_
          rw [List.drop_eq_getElem_cons (by omega), List.drop_eq_getElem_cons (l := B) (by omega), hd]
          simp only [List.getD_eq_getElem?_getD, List.getElem?_eq_getElem (show m < A.length by omega), List.getElem?_eq_getElem (show m < B.length by omega), Option.getD_some] at hq
          rw [hq]
        · have hq' : ¬ ((A.getD m 0 : Nat) : Int) = ((B.getD m 0 : Nat) : Int) := by omega
          simp only [hq', E1, seval]
          refine Safe.seq (Safe.seq (Safe.regionD ?_))
          simp only [b8T, E1, seval, a0L _ A _ m (by omega), a0L _ B _ m (by omega)]
          refine Safe.cond ?_
          simp only [E1, seval]
          by_cases hlt : A.getD m 0 < B.getD m 0
          · have hlt' : ((A.getD m 0 : Nat) : Int) < ((B.getD m 0 : Nat) : Int) := by omega
            simp only [hlt', E1, seval]
            refine Safe.seq (Safe.region ?_)
            simp only [b6w, E1, seval]
            refine Safe.retn ?_
            simp only [E1, seval]
            have := b0g na.lim nb.lim hd (by omega) (by omega) hlen hlt
            refine ⟨?_, [], rfl⟩
            rw [← va, ← vb]; simp [cmpI, this]
          · have hlt' : ¬ ((A.getD m 0 : Nat) : Int) < ((B.getD m 0 : Nat) : Int) := by omega
            simp only [hlt', E1, seval]
            refine Safe.skip (Safe.seq (Safe.region ?_))
            simp only [b6v, E1, seval]
            refine Safe.retn ?_
            simp only [E1, seval]
            have := b0g nb.lim na.lim hd.symm (by omega) (by omega) hlen.symm (show B.getD m 0 < A.getD m 0 by omega)
            refine ⟨?_, [], rfl⟩
            rw [← va, ← vb]; simp [cmpI, this, Nat.lt_asymm this]
    refine Safe.keep [0, 1, 5] ?_
    have := na.len
    have hk := key A.length (Nat.le_refl _) (by rw [List.drop_length, hlen, List.drop_length])
    simp only [E1, seval, ← hlen, a0e (n := (A.length : Int) - 1) (by omega) (by omega)]
    exact hk
  · have : ¬ ((A.length : Int) = B.length) := by omega
    simp only [this, E1, seval]
    refine Safe.seq (Safe.seq (Safe.region ?_))
    simp only [b8Y, E1, seval, a5K]
    refine Safe.cond ?_
    simp only [E1, seval]
    by_cases hlt : A.length < B.length
    · have hlt' : ((A.length : Int) < B.length) := by omega
      simp only [hlt', E1, seval]
      refine Safe.seq (Safe.region ?_)
      simp only [b8X, E1, seval]
      refine Safe.retn ?_
      simp only [E1, seval]
      have : val a < val b := b1U (by rw [hA, hB]; exact hlt)
      refine ⟨?_, [], rfl⟩
      simp [cmpI, this]
    · have hlt' : ¬ ((A.length : Int) < B.length) := by omega
      simp only [hlt', E1, seval]
      refine Safe.skip (Safe.seq (Safe.region ?_))
      simp only [b8W, E1, seval]
      refine Safe.retn ?_
      simp only [E1, seval]
      have : val b < val a := b1U (by rw [hA, hB]; omega)
      refine ⟨?_, [], rfl⟩
      simp [cmpI, this, Nat.lt_asymm this]
theorem c5I (n : Nat) (h : n < 4294967296) : a0g Pr a0Z [.int .u32 n] (.int .i64 (blen n)) := by
  refine a0g.intro b0X b0W (by simp only [List.length_cons, List.length_nil]; omega) (.int _ _) fun H hH => ?_
  refine Safe.seq (Safe.region ?_)
  simp only [a4s, E1, Nat.reduceAdd, Nat.reduceEqDiff, reduceCtorEq, ↓reduceIte]
  have stop : ∀ (m s : Nat) (env : Env), m < 256 → s ≤ 24 → look env 0 = .int .u32 m → look env 2 = .int .i64 s → s + blen m = blen n → Safe ⟨Pr, fun _ _ => false, a0Z, 19, [.tmp 2], H.length⟩ [.code ((ACode.region a1s false).seq .ret)] env (hap H [])
      fun r' H' => r' = .int .i64 (blen n) ∧ ∃ L, H' = hap H L := by
    intro m s env hm hs h0 h2 hb
    refine Safe.seq (Safe.region ?_)
    have hw : IntKind.wrap .u8 (m : Int) = m := by simp [IntKind.wrap, IntKind.bits, IntKind.signed]; omega
    simp only [a1s, E1, Nat.reduceAdd, Nat.reduceEqDiff, reduceCtorEq, ↓reduceIte, h0, h2, hw, c4s]
    have tab : ∀ m : Fin 256, c8E.data.toList.getD m.val 0 = UInt8.ofNat (blen m.val) ∧ blen m.val ≤ 8 := by decide +kernel
    have ht : c8E.data.toList.getD m 0 = UInt8.ofNat (blen m) ∧ blen m ≤ 8 := tab ⟨m, hm⟩
    have hsz : c8E.size = 256 := by decide +kernel
    rw [if_pos (by rw [hsz]; omega)]
    simp only [Int.toNat_natCast, ht.1, E1, Nat.reduceAdd, Nat.reduceEqDiff, reduceCtorEq, ↓reduceIte]
    have h8 : ((UInt8.ofNat (blen m)).toNat : Nat) = blen m := by
      have := ht.2
      simp [UInt8.toNat_ofNat']; omega
    refine Safe.retn ?_
    have := ht.2
    simp only [E1, Nat.reduceAdd, Nat.reduceEqDiff, reduceCtorEq, ↓reduceIte, h8, a0e (n := (blen m : Int)) (by omega) (by omega)]
    rw [a0e (by omega) (by omega)]
    exact ⟨by rw [← hb]; rfl, [], rfl⟩
  have mid : ∀ (m s : Nat) (env : Env), m < 65536 → s ≤ 16 → look env 0 = .int .u32 m → look env 2 = .int .i64 s → s + blen m = blen n → Safe ⟨Pr, fun _ _ => false, a0Z, 19, [.tmp 2], H.length⟩
      [.code ((((ACode.region a2n false).seq (.cond (.t 8) ((ACode.region a2m false).seq (.region a2l false)) .skip)).seq ((ACode.region a1s false).seq .ret)))] env (hap H [])
      fun r' H' => r' = .int .i64 (blen n) ∧ ∃ L, H' = hap H L := by
    intro m s env hm hs h0 h2 hb
    refine Safe.seq (Safe.seq (Safe.region ?_))
    simp only [a2n, E1, Nat.reduceAdd, Nat.reduceEqDiff, reduceCtorEq, ↓reduceIte, h0]
    refine Safe.cond ?_
    simp only [E1, Nat.reduceAdd, Nat.reduceEqDiff, reduceCtorEq, ↓reduceIte]
    by_cases hc : 256 ≤ m
    · have hc' : (256 : Int) ≤ (m : Int) := by omega
      simp only [hc', E1, Nat.reduceAdd, Nat.reduceEqDiff, reduceCtorEq, ↓reduceIte]
      refine Safe.seq (Safe.region ?_)
      simp only [a2m, E1, Nat.reduceAdd, Nat.reduceEqDiff, reduceCtorEq, ↓reduceIte, h0, a3A _ _ _ (show (0 : Int) ≤ 8 by decide)]
      refine Safe.region ?_
      simp only [a2l, E1, Nat.reduceAdd, Nat.reduceEqDiff, reduceCtorEq, ↓reduceIte, h2]
      have e1 : Int.fdiv (m : Int) (2 ^ min (Int.toNat 8) IntKind.u32.bits) = ((m / 256 : Nat) : Int) := by
        rw [show (2 : Int) ^ min (Int.toNat 8) IntKind.u32.bits = 256 by decide, Int.fdiv_eq_ediv_of_nonneg _ (by decide)]; omega
      have e2 : IntKind.wrap .i64 ((s : Int) + 8) = ((s + 8 : Nat) : Int) := by rw [a0e] <;> omega
      refine stop (m / 256) (s + 8) _ (by omega) (by omega) (by simp only [E1, Nat.reduceAdd, Nat.reduceEqDiff, reduceCtorEq, ↓reduceIte, e1]) (by simp only [E1, Nat.reduceAdd, Nat.reduceEqDiff, reduceCtorEq, ↓reduceIte, e2]) ?_
      have := c4q (n := m) (k := 8) (by omega)
      simp only [Nat.reducePow] at this
      omega
    · have hc' : ¬ (256 : Int) ≤ (m : Int) := by omega
      simp only [hc', E1, Nat.reduceAdd, Nat.reduceEqDiff, reduceCtorEq, ↓reduceIte]
      exact Safe.skip (stop m s _ (by omega) (by omega) (by simp only [E1, Nat.reduceAdd, Nat.reduceEqDiff, reduceCtorEq, ↓reduceIte, h0]) (by simp only [E1, Nat.reduceAdd, Nat.reduceEqDiff, reduceCtorEq, ↓reduceIte, h2]) hb)
  refine Safe.seq (Safe.seq (Safe.region ?_))
  simp only [a4r, E1, Nat.reduceAdd, Nat.reduceEqDiff, reduceCtorEq, ↓reduceIte]
  refine Safe.cond ?_
  simp only [E1, Nat.reduceAdd, Nat.reduceEqDiff, reduceCtorEq, ↓reduceIte]
  by_cases hc : 65536 ≤ n
  · have hc' : (65536 : Int) ≤ (n : Int) := by omega
    simp only [hc', E1, Nat.reduceAdd, Nat.reduceEqDiff, reduceCtorEq, ↓reduceIte]
    refine Safe.seq (Safe.region ?_)
    simp only [a4q, E1, Nat.reduceAdd, Nat.reduceEqDiff, reduceCtorEq, ↓reduceIte, a3A _ _ _ (show (0 : Int) ≤ 16 by decide)]
    refine Safe.region ?_
    simp only [a4p, E1, Nat.reduceAdd, Nat.reduceEqDiff, reduceCtorEq, ↓reduceIte]
    have e1 : Int.fdiv (n : Int) (2 ^ min (Int.toNat 16) IntKind.u32.bits) = ((n / 65536 : Nat) : Int) := by
      rw [show (2 : Int) ^ min (Int.toNat 16) IntKind.u32.bits = 65536 by decide, Int.fdiv_eq_ediv_of_nonneg _ (by decide)]; omega
    refine mid (n / 65536) 16 _ (by omega) (by omega) (by simp only [E1, Nat.reduceAdd, Nat.reduceEqDiff, reduceCtorEq, ↓reduceIte, e1]) (by simp only [E1, Nat.reduceAdd, Nat.reduceEqDiff, reduceCtorEq, ↓reduceIte]; rfl) ?_
    have := c4q (n := n) (k := 16) (by omega)
    simp only [Nat.reducePow] at this
    omega
  · have hc' : ¬ (65536 : Int) ≤ (n : Int) := by omega
    simp only [hc', E1, Nat.reduceAdd, Nat.reduceEqDiff, reduceCtorEq, ↓reduceIte]
    exact Safe.skip (mid n 0 _ (by omega) (by omega) (by simp only [E1, Nat.reduceAdd, Nat.reduceEqDiff, reduceCtorEq, ↓reduceIte]) (by simp only [E1, Nat.reduceAdd, Nat.reduceEqDiff, reduceCtorEq, ↓reduceIte]; rfl) (by omega))
theorem c1l (l : List Nat) (hl : Nt l) : a0g Pr b2K [natV l] (.int .i64 (blen (val l))) := by
  refine a0g.intro c2R c2Q (by simp only [List.length_cons, List.length_nil]; omega) (.int _ _) fun H hH => ?_
  refine Safe.seq (Safe.region ?_)
  simp only [b6B, E1, seval]
  refine Safe.seq (Safe.region ?_)
  simp only [b6A, E1, seval]
  refine (a1f l hl.lim hl.len).acall ?_
  try simp only [E1, seval]
  have nl := hl.limbs
  have vl := a0v (val l)
  have hlast := c5H (val l)
  generalize hA : limbs (val l) = A at nl vl hlast ⊢
  refine Safe.keep [0] (Safe.seq (Safe.seq (Safe.region ?_)))
  simp only [b6z, E1, seval]
  refine Safe.cond ?_
  simp only [E1, seval]
  rcases List.eq_nil_or_concat A with rfl | ⟨A', d, rfl⟩
  · simp only [E1, seval, Int.natCast_zero]
    refine Safe.seq (Safe.region ?_)
    simp only [b6y, E1, seval]
    refine Safe.retn ?_
    simp only [E1, seval]
    rw [← vl]
    exact ⟨rfl, [], rfl⟩
  · simp only [List.concat_eq_append] at *
    have hlen : (A' ++ [d]).length = A'.length + 1 := by simp
    have hn0 : ¬ (((A' ++ [d]).length : Int) = 0) := by omega
    have hg : (A' ++ [d]).getD A'.length 0 = d := by simp
    have hd : d ≠ 0 := by simpa using hlast
    have hlt : d < 4294967296 := nl.lim d (by simp)
    have := nl.len
    have hw : IntKind.i64.wrap (((A' ++ [d]).length : Int) - 1) = (A'.length : Int) := by rw [hlen, a0e] <;> omega
    simp only [hn0, E1, seval]
    refine Safe.skip (Safe.seq (Safe.region ?_))
    simp only [b6x, E1, seval, hw, a0L _ (A' ++ [d]) _ A'.length (by omega), hg]
    refine (c5I d hlt).acall ?_
    simp only [E1, seval]
    refine Safe.retn ?_
    simp only [E1, seval]
    have hb : blen d ≤ 32 := by
      rcases Nat.lt_or_ge 32 (blen d) with h | h
      · have := c3P hd
        have := Nat.pow_le_pow_right (show 0 < 2 by decide) (show 32 ≤ blen d - 1 by omega)
        omega
      · exact h
    rw [a0e (n := 32 * (A'.length : Int)) (by omega) (by omega), a0e (by omega) (by omega)]
    refine ⟨?_, [], rfl⟩
    rw [← vl, c5W (b2t.1 nl.lim).1 hd]
    congr 1
theorem a5J (a b : List Nat) (la : Lim a) (lb : Lim b) (ha : a.length < 17592186044416) (hb : b.length < 17592186044416) : a0g Pr a4d [natV a, natV b] (natV (limbs (val a + val b))) := by
  refine a0g.intro c5s c5r (by simp only [List.length_cons, List.length_nil]; omega) (a2j _) fun H hH => ?_
  refine Safe.seq (Safe.region ?_)
  have hLB : LB = 4294967296 := rfl
  simp only [b9i, E1, Nat.reduceAdd, Nat.reduceEqDiff, reduceCtorEq, ↓reduceIte]
  have main : ∀ (a b : List Nat) (env : Env) (s : Nat), Lim a → Lim b → b.length ≤ a.length → a.length < 17592186044416 → val a + val b = s → look env 0 = natV a → look env 1 = natV b →
      Safe ⟨Pr, fun _ _ => false, a4d, 58, [.tmp 4], H.length⟩ [.code ((ACode.region b2l false).seq ((ACode.region b2k false).seq (((ACode.region b2j false).seq (.block 0 (.loop a8p))).seq ((ACode.region a3F false).seq ((ACode.region a3E false).seq .ret)))))]
        env (hap H []) fun r' H' => r' = natV (limbs s) ∧ ∃ L, H' = hap H L := by
    intro a b env s la lb hle ha hs h0 h1
    refine Safe.seq (Safe.region ?_)
    have hw : IntKind.wrap .i64 ((a.length : Int) + 1) = ((a.length + 1 : Nat) : Int) := by rw [a0e] <;> omega
    simp only [b2l, E1, Nat.reduceAdd, Nat.reduceEqDiff, reduceCtorEq, ↓reduceIte, h0, hw, a5M _ H [] _ _ (a.length + 1) (by omega)]
    refine Safe.seq (Safe.region ?_)
    simp only [b2k, E1, Nat.reduceAdd, Nat.reduceEqDiff, reduceCtorEq, ↓reduceIte]
    refine Safe.seq (Safe.seq (Safe.region ?_))
    simp only [b2j, E1, Nat.reduceAdd, Nat.reduceEqDiff, reduceCtorEq, ↓reduceIte, h0]
    refine Safe.block (Safe.loop ?_)
    have key : ∀ (k i c : Nat) (x : List Nat), i + k = a.length → x.length = i → Lim x → c ≤ 1 → val x + LB ^ i * c = val (a.take i) + val (b.take i) →
        Safe ⟨Pr, fun _ _ => false, a4d, 58, [.tmp 4], H.length⟩ [.inLoop a8p, .inBlock 0, .code ((ACode.region a3F false).seq ((ACode.region a3E false).seq .ret))]
          [(0, natV a), (1, natV b), (5, .mu (lid H 0) 0 (a.length + 1) (some (a.length + 1))), (6, .int .u64 c), (20, .int .i64 a.length), (21, .int .i64 i)]
          (hap H [some ⟨1, u32s (x ++ List.replicate (k + 1) 0)⟩]) fun r' H' => r' = natV (limbs s) ∧ ∃ L, H' = hap H L := by
      intro k
      induction k with
      | zero =>
        intro i c x hik hx lx hc hv
        have hi : i = a.length := by omega
        subst hi
        refine Safe.inLoop (Safe.seq (Safe.region ?_))
        simp only [b2i, E1, Nat.reduceAdd, Nat.reduceEqDiff, reduceCtorEq, ↓reduceIte]
        refine Safe.seq (Safe.cond ?_)
        simp only [E1, Nat.reduceAdd, Nat.reduceEqDiff, reduceCtorEq, ↓reduceIte, Int.lt_irrefl]
        refine Safe.exit rfl (Safe.seq (Safe.region ?_))
        have hcw : IntKind.wrap .u32 (c : Int) = (c : Int) := a3k (by omega) (by omega)
        simp only [a3F, E1, Nat.reduceAdd, Nat.reduceEqDiff, reduceCtorEq, ↓reduceIte, a5H _ _ _ _ _ _ a.length (Nat.lt_succ_self _), hcw, b3y _ _ _ a.length c (show a.length < (x ++ List.replicate (0 + 1) 0).length by simp [hx])]
        rw [← hx, b5F, hx]
        simp only [List.replicate_zero, List.append_nil]
        have hlen : a.length + 1 = (x ++ [c]).length := by simp [hx]
        refine Safe.freeze 0 (b := ⟨1, u32s (x ++ [c])⟩) hH rfl rfl (a0Y _) ?_
        refine Safe.seq (Safe.region ?_)
        simp only [a3E, E1, Nat.reduceAdd, Nat.reduceEqDiff, reduceCtorEq, ↓reduceIte, hlen]
        refine (a1f (x ++ [c]) (a2H lx (by omega)) (by omega)).acall ?_
        try simp only [E1, Nat.reduceAdd, Nat.reduceEqDiff, reduceCtorEq, ↓reduceIte]
        refine Safe.retn ?_
        simp only [E1, Nat.reduceAdd, Nat.reduceEqDiff, reduceCtorEq, ↓reduceIte]
        rw [List.take_length, List.take_of_length_le hle] at hv
        rw [a5r, hx, hv, hs]
        first | exact ⟨rfl, _, rfl⟩ | exact ⟨_, rfl⟩ | exact ⟨trivial, _, rfl⟩
      | succ k ih =>
        intro i c x hik hx lx hc hv
        refine Safe.inLoop (Safe.seq (Safe.region ?_))
        simp only [b2i, E1, Nat.reduceAdd, Nat.reduceEqDiff, reduceCtorEq, ↓reduceIte]
        refine Safe.seq (Safe.cond ?_)
        have hlt : (i : Int) < (a.length : Int) := by omega
        simp only [E1, Nat.reduceAdd, Nat.reduceEqDiff, reduceCtorEq, ↓reduceIte, hlt]
        refine Safe.skip (Safe.seq (Safe.block (Safe.seq (Safe.region ?_))))
        simp only [b9f, E1, Nat.reduceAdd, Nat.reduceEqDiff, reduceCtorEq, ↓reduceIte]
        refine Safe.seq (Safe.region ?_)
        have xa := a4Y la i
        have xb := a4Y lb i
        have h1w : IntKind.wrap .u64 ((a.getD i 0 : Nat) : Int) = ((a.getD i 0 : Nat) : Int) := a0H (by omega) (by omega)
        have h2w : IntKind.wrap .u64 ((c : Int) + ((a.getD i 0 : Nat) : Int)) = ((c + a.getD i 0 : Nat) : Int) := by rw [a0H] <;> omega
        simp only [b9e, E1, Nat.reduceAdd, Nat.reduceEqDiff, reduceCtorEq, ↓reduceIte, a0L _ a _ i (by omega), h1w, h2w]
        refine Safe.seq (Safe.seq (Safe.region ?_))
        simp only [b9d, E1, Nat.reduceAdd, Nat.reduceEqDiff, reduceCtorEq, ↓reduceIte]
        refine Safe.cond ?_
        simp only [E1, Nat.reduceAdd, Nat.reduceEqDiff, reduceCtorEq, ↓reduceIte]
        have rest : ∀ env : Env, look env 0 = natV a → look env 1 = natV b → look env 5 = .mu (lid H 0) 0 (a.length + 1) (some (a.length + 1)) → look env 6 = .int .u64 (c + a.getD i 0 + b.getD i 0 : Nat) → look env 7 = .int .i64 i → look env 20 = .int .i64 a.length → look env 21 = .int .i64 i →
            Safe ⟨Pr, fun _ _ => false, a4d, 58, [.tmp 4], H.length⟩ [.code ((ACode.region a9B false).seq (.region a9A false)), .inBlock 1, .code (.region a9z false), .inLoop a8p, .inBlock 0, .code ((ACode.region a3F false).seq ((ACode.region a3E false).seq .ret))]
              env (hap H [some ⟨1, u32s (x ++ List.replicate (k + 1 + 1) 0)⟩]) fun r' H' => r' = natV (limbs s) ∧ ∃ L, H' = hap H L := by
          intro env e0 e1 e5 e6 e7 e20 e21
          refine Safe.seq (Safe.region ?_)
          have hcw : IntKind.wrap .u32 ((c + a.getD i 0 + b.getD i 0 : Nat) : Int) = (((c + a.getD i 0 + b.getD i 0) % LB : Nat) : Int) := a4j _
          simp only [a9B, E1, Nat.reduceAdd, Nat.reduceEqDiff, reduceCtorEq, ↓reduceIte, e5, e6, e7, a5H _ _ _ _ _ _ i (show i < a.length + 1 by omega), hcw, b3y _ _ _ i _ (show i < (x ++ List.replicate (k + 1 + 1) 0).length by simp [hx] <;> omega)]
          refine Safe.region ?_
          have hs32 : Int.fdiv ((c + a.getD i 0 + b.getD i 0 : Nat) : Int) (2 ^ min (Int.toNat 32) IntKind.u64.bits) = (((c + a.getD i 0 + b.getD i 0) / LB : Nat) : Int) := by
            rw [show (2 : Int) ^ min (Int.toNat 32) IntKind.u64.bits = (LB : Int) by decide, Int.fdiv_eq_ediv_of_nonneg _ (by decide)]; rfl
          simp only [a9A, E1, Nat.reduceAdd, Nat.reduceEqDiff, reduceCtorEq, ↓reduceIte, e6, a3A _ _ _ (show (0 : Int) ≤ 32 by decide), hs32]
          refine Safe.inBlock (Safe.region ?_)
          have hiw : IntKind.wrap .i64 ((i : Int) + 1) = ((i + 1 : Nat) : Int) := by rw [a0e] <;> omega
          simp only [a9z, E1, Nat.reduceAdd, Nat.reduceEqDiff, reduceCtorEq, ↓reduceIte, e21, hiw]
          refine Safe.keep [0, 1, 5, 6, 20, 21] ?_
          simp only [E1, Nat.reduceAdd, Nat.reduceEqDiff, reduceCtorEq, ↓reduceIte, e0, e1, e5, e20]
          have hset : (x ++ List.replicate (k + 1 + 1) 0).set i ((c + a.getD i 0 + b.getD i 0) % LB) = (x ++ [(c + a.getD i 0 + b.getD i 0) % LB]) ++ List.replicate (k + 1) 0 := by subst hx; exact b5F _ _ _
          rw [hset]
          refine ih (i + 1) _ _ (by omega) (by simp [hx]) (a2H lx (Nat.mod_lt _ (by decide))) ?_ ?_
          · have : c + a.getD i 0 + b.getD i 0 < LB * 2 := by omega
            have := Nat.div_lt_of_lt_mul this
            omega
          · rw [a5r, hx, a0u, a0u, Nat.pow_succ]
            exact c8D (i := 0) hv
        by_cases hib : i < b.length
        · have hib' : (i : Int) < (b.length : Int) := by omega
          simp only [hib', E1, Nat.reduceAdd, Nat.reduceEqDiff, reduceCtorEq, ↓reduceIte]
          refine Safe.region ?_
          have h3w : IntKind.wrap .u64 ((b.getD i 0 : Nat) : Int) = ((b.getD i 0 : Nat) : Int) := a0H (by omega) (by omega)
          have h4w : IntKind.wrap .u64 (((c + a.getD i 0 : Nat) : Int) + ((b.getD i 0 : Nat) : Int)) = ((c + a.getD i 0 + b.getD i 0 : Nat) : Int) := by rw [a0H] <;> omega
          simp only [b6C, E1, Nat.reduceAdd, Nat.reduceEqDiff, reduceCtorEq, ↓reduceIte, a0L _ b _ i hib, h3w, h4w]
          exact rest _ (by simp only [E1, Nat.reduceAdd, Nat.reduceEqDiff, reduceCtorEq, ↓reduceIte]) (by simp only [E1, Nat.reduceAdd, Nat.reduceEqDiff, reduceCtorEq, ↓reduceIte]) (by simp only [E1, Nat.reduceAdd, Nat.reduceEqDiff, reduceCtorEq, ↓reduceIte]) (by simp only [E1, Nat.reduceAdd, Nat.reduceEqDiff, reduceCtorEq, ↓reduceIte]) (by simp only [E1, Nat.reduceAdd, Nat.reduceEqDiff, reduceCtorEq, ↓reduceIte]) (by simp only [E1, Nat.reduceAdd, Nat.reduceEqDiff, reduceCtorEq, ↓reduceIte]) (by simp only [E1, Nat.reduceAdd, Nat.reduceEqDiff, reduceCtorEq, ↓reduceIte])
        · have hib' : ¬ (i : Int) < (b.length : Int) := by omega
          simp only [hib', E1, Nat.reduceAdd, Nat.reduceEqDiff, reduceCtorEq, ↓reduceIte]
          have hz : b.getD i 0 = 0 := by rw [List.getD_eq_getElem?_getD, List.getElem?_eq_none (by omega)]; rfl
          refine Safe.skip (rest _ (by simp only [E1, Nat.reduceAdd, Nat.reduceEqDiff, reduceCtorEq, ↓reduceIte]) (by simp only [E1, Nat.reduceAdd, Nat.reduceEqDiff, reduceCtorEq, ↓reduceIte]) (by simp only [E1, Nat.reduceAdd, Nat.reduceEqDiff, reduceCtorEq, ↓reduceIte]) (by simp only [E1, Nat.reduceAdd, Nat.reduceEqDiff, reduceCtorEq, ↓reduceIte, hz]) (by simp only [E1, Nat.reduceAdd, Nat.reduceEqDiff, reduceCtorEq, ↓reduceIte]) (by simp only [E1, Nat.reduceAdd, Nat.reduceEqDiff, reduceCtorEq, ↓reduceIte]) (by simp only [E1, Nat.reduceAdd, Nat.reduceEqDiff, reduceCtorEq, ↓reduceIte]))
    refine Safe.keep [0, 1, 5, 6, 20, 21] ?_
    simp only [E1, Nat.reduceAdd, Nat.reduceEqDiff, reduceCtorEq, ↓reduceIte, h0, h1]
    exact key a.length 0 0 [] (by omega) rfl c3r (by omega) (by simp [val])
  refine Safe.seq (Safe.seq (Safe.region ?_))
  simp only [b9h, E1, Nat.reduceAdd, Nat.reduceEqDiff, reduceCtorEq, ↓reduceIte]
  refine Safe.cond ?_
  simp only [E1, Nat.reduceAdd, Nat.reduceEqDiff, reduceCtorEq, ↓reduceIte]
  by_cases hlt : a.length < b.length
  · have hlt' : (a.length : Int) < (b.length : Int) := by omega
    simp only [hlt', E1, Nat.reduceAdd, Nat.reduceEqDiff, reduceCtorEq, ↓reduceIte]
    refine Safe.region ?_
    simp only [b9g, E1, Nat.reduceAdd, Nat.reduceEqDiff, reduceCtorEq, ↓reduceIte]
    exact main b a _ _ lb la (by omega) hb (Nat.add_comm _ _) (by simp only [E1, Nat.reduceAdd, Nat.reduceEqDiff, reduceCtorEq, ↓reduceIte]) (by simp only [E1, Nat.reduceAdd, Nat.reduceEqDiff, reduceCtorEq, ↓reduceIte])
  · have hlt' : ¬ (a.length : Int) < (b.length : Int) := by omega
    simp only [hlt', E1, Nat.reduceAdd, Nat.reduceEqDiff, reduceCtorEq, ↓reduceIte]
    exact Safe.skip (main a b _ _ la lb (by omega) ha rfl (by simp only [E1, Nat.reduceAdd, Nat.reduceEqDiff, reduceCtorEq, ↓reduceIte]) (by simp only [E1, Nat.reduceAdd, Nat.reduceEqDiff, reduceCtorEq, ↓reduceIte]))
theorem c1k (a b : List Nat) (la : Lim a) (lb : Lim b) (ha : a.length ≤ 17592186044416) (hb : b.length ≤ a.length) (hv : val b ≤ val a) : a0g Pr a5n [natV a, natV b] (natV (limbs (val a - val b))) := by
  refine a0g.intro c2L c2K (by simp only [List.length_cons, List.length_nil]; omega) (a2j _) fun H hH => ?_
  refine Safe.seq (Safe.region ?_)
  have hLB : LB = 4294967296 := rfl
  simp only [b6d, E1, Nat.reduceAdd, Nat.reduceEqDiff, reduceCtorEq, ↓reduceIte]
  refine Safe.seq (Safe.region ?_)
  simp only [b6c, E1, Nat.reduceAdd, Nat.reduceEqDiff, reduceCtorEq, ↓reduceIte, a5M _ H [] _ _ a.length (by omega)]
  refine Safe.seq (Safe.region ?_)
  simp only [b6b, E1, Nat.reduceAdd, Nat.reduceEqDiff, reduceCtorEq, ↓reduceIte]
  refine Safe.seq (Safe.seq (Safe.region ?_))
  simp only [b6a, E1, Nat.reduceAdd, Nat.reduceEqDiff, reduceCtorEq, ↓reduceIte]
  refine Safe.block (Safe.loop ?_)
  have key : ∀ (k i c : Nat) (x : List Nat), i + k = a.length → x.length = i → Lim x → c ≤ 1 → val (a.take i) + LB ^ i * c = val x + val (b.take i) →
        Safe ⟨Pr, fun _ _ => false, a5n, 45, [.tmp 4], H.length⟩ [.inLoop a9s, .inBlock 0, .code ((ACode.region a4l false).seq .ret)]
          [(0, natV a), (1, natV b), (5, .mu (lid H 0) 0 a.length (some a.length)), (6, .int .u64 c), (13, .int .i64 a.length), (14, .int .i64 i)]
          (hap H [some ⟨1, u32s (x ++ List.replicate k 0)⟩]) fun r' H' => r' = natV (limbs (val a - val b)) ∧ ∃ L, H' = hap H L := by
    intro k
    induction k with
    | zero =>
      intro i c x hik hx lx hc hv2
      have hi : i = a.length := by omega
      subst hi
      refine Safe.inLoop (Safe.seq (Safe.region ?_))
      simp only [a9r, E1, Nat.reduceAdd, Nat.reduceEqDiff, reduceCtorEq, ↓reduceIte]
      refine Safe.seq (Safe.cond ?_)
      simp only [E1, Nat.reduceAdd, Nat.reduceEqDiff, reduceCtorEq, ↓reduceIte, Int.lt_irrefl]
      refine Safe.exit rfl ?_
      simp only [List.replicate_zero, List.append_nil]
      refine Safe.freeze 0 (b := ⟨1, u32s x⟩) hH rfl rfl (a0Y _) ?_
      refine Safe.seq (Safe.region ?_)
      simp only [a4l, E1, Nat.reduceAdd, Nat.reduceEqDiff, reduceCtorEq, ↓reduceIte, ← hx]
      refine (a1f x lx (by omega)).acall ?_
      try simp only [E1, Nat.reduceAdd, Nat.reduceEqDiff, reduceCtorEq, ↓reduceIte]
      refine Safe.retn ?_
      simp only [E1, Nat.reduceAdd, Nat.reduceEqDiff, reduceCtorEq, ↓reduceIte]
      rw [List.take_length, List.take_of_length_le hb] at hv2
      have h1 := a2U lx
      rw [hx] at h1
      have hc0 : c = 0 := by
        rcases Nat.eq_zero_or_pos c with h | h
        · exact h
        · have : c = 1 := by omega
          subst this
          omega
      subst hc0
      have : val x = val a - val b := by omega
      rw [this]
      first | exact ⟨rfl, _, rfl⟩ | exact ⟨_, rfl⟩ | exact ⟨trivial, _, rfl⟩
    | succ k ih =>
      intro i c x hik hx lx hc hv2
      refine Safe.inLoop (Safe.seq (Safe.region ?_))
      simp only [a9r, E1, Nat.reduceAdd, Nat.reduceEqDiff, reduceCtorEq, ↓reduceIte]
      refine Safe.seq (Safe.cond ?_)
      have hlt : (i : Int) < (a.length : Int) := by omega
      simp only [E1, Nat.reduceAdd, Nat.reduceEqDiff, reduceCtorEq, ↓reduceIte, hlt]
      refine Safe.skip (Safe.seq (Safe.block (Safe.seq (Safe.region ?_))))
      simp only [b5Z, E1, Nat.reduceAdd, Nat.reduceEqDiff, reduceCtorEq, ↓reduceIte]
      refine Safe.seq (Safe.region ?_)
      have xa := a4Y la i
      have xb := a4Y lb i
      have h1w : IntKind.wrap .u64 ((a.getD i 0 : Nat) : Int) = ((a.getD i 0 : Nat) : Int) := a0H (by omega) (by omega)
      simp only [b5Y, E1, Nat.reduceAdd, Nat.reduceEqDiff, reduceCtorEq, ↓reduceIte, a0L _ a _ i (by omega), h1w]
      refine Safe.seq (Safe.seq (Safe.region ?_))
      simp only [b5X, E1, Nat.reduceAdd, Nat.reduceEqDiff, reduceCtorEq, ↓reduceIte]
      refine Safe.cond ?_
      simp only [E1, Nat.reduceAdd, Nat.reduceEqDiff, reduceCtorEq, ↓reduceIte]
      have rest : ∀ env : Env, look env 0 = natV a → look env 1 = natV b → look env 5 = .mu (lid H 0) 0 a.length (some a.length) → look env 8 = .int .u64 (((a.getD i 0 : Nat) - (c : Int) - (b.getD i 0 : Nat)) % 18446744073709551616) → look env 7 = .int .i64 i → look env 13 = .int .i64 a.length → look env 14 = .int .i64 i →
            Safe ⟨Pr, fun _ _ => false, a5n, 45, [.tmp 4], H.length⟩ [.code ((ACode.region a9q false).seq (.region a7g false)), .inBlock 1, .code (.region a7f false), .inLoop a9s, .inBlock 0, .code ((ACode.region a4l false).seq .ret)]
              env (hap H [some ⟨1, u32s (x ++ List.replicate (k + 1) 0)⟩]) fun r' H' => r' = natV (limbs (val a - val b)) ∧ ∃ L, H' = hap H L := by
        intro env e0 e1 e5 e8 e7 e13 e14
        refine Safe.seq (Safe.region ?_)
        obtain ⟨d, bo, hd, hbo, hdl, hD, hB⟩ : ∃ d bo : Nat, a.getD i 0 + LB * bo = d + c + b.getD i 0 ∧ bo ≤ 1 ∧ d < LB ∧ (((a.getD i 0 : Nat) - (c : Int) - (b.getD i 0 : Nat)) % 18446744073709551616) % 4294967296 = (d : Int) ∧ (((a.getD i 0 : Nat) - (c : Int) - (b.getD i 0 : Nat)) % 18446744073709551616) / 9223372036854775808 = (bo : Int) := by
          by_cases hlt : a.getD i 0 < c + b.getD i 0
          · exact ⟨a.getD i 0 + LB - c - b.getD i 0, 1, by omega, by omega, by omega, by omega, by omega⟩
          · exact ⟨a.getD i 0 - c - b.getD i 0, 0, by omega, by omega, by omega, by omega, by omega⟩
        simp only [a9q, E1, Nat.reduceAdd, Nat.reduceEqDiff, reduceCtorEq, ↓reduceIte, e5, e8, e7, a5H _ _ _ _ _ _ i (show i < a.length by omega), b9s, hD, b3y _ _ _ i _ (show i < (x ++ List.replicate (k + 1) 0).length by simp [hx])]
        refine Safe.region ?_
        have hs63 : ∀ n : Int, Int.fdiv n (2 ^ min (Int.toNat 63) IntKind.u64.bits) = n / 9223372036854775808 := by
          intro n
          rw [show (2 : Int) ^ min (Int.toNat 63) IntKind.u64.bits = 9223372036854775808 by decide, Int.fdiv_eq_ediv_of_nonneg _ (by decide)]
        simp only [a7g, E1, Nat.reduceAdd, Nat.reduceEqDiff, reduceCtorEq, ↓reduceIte, e8, a3A _ _ _ (show (0 : Int) ≤ 63 by decide), hs63, hB]
        refine Safe.inBlock (Safe.region ?_)
        have hiw : IntKind.wrap .i64 ((i : Int) + 1) = ((i + 1 : Nat) : Int) := by rw [a0e] <;> omega
        simp only [a7f, E1, Nat.reduceAdd, Nat.reduceEqDiff, reduceCtorEq, ↓reduceIte, e14, hiw]
        refine Safe.keep [0, 1, 5, 6, 13, 14] ?_
        simp only [E1, Nat.reduceAdd, Nat.reduceEqDiff, reduceCtorEq, ↓reduceIte, e0, e1, e5, e13]
        have hset : (x ++ List.replicate (k + 1) 0).set i d = (x ++ [d]) ++ List.replicate k 0 := by subst hx; exact b5F _ _ _
        rw [hset]
        refine ih (i + 1) bo _ (by omega) (by simp [hx]) (a2H lx hdl) hbo ?_
        rw [a5r, hx, a0u, a0u, Nat.pow_succ]
        exact c7p hv2 hd
      by_cases hib : i < b.length
      · have hib' : (i : Int) < (b.length : Int) := by omega
        simp only [hib', E1, Nat.reduceAdd, Nat.reduceEqDiff, reduceCtorEq, ↓reduceIte]
        refine Safe.region ?_
        have h3w : IntKind.wrap .u64 ((b.getD i 0 : Nat) : Int) = ((b.getD i 0 : Nat) : Int) := a0H (by omega) (by omega)
        have h4w : IntKind.wrap .u64 (IntKind.wrap .u64 (((a.getD i 0 : Nat) : Int) - c) - ((b.getD i 0 : Nat) : Int)) = ((a.getD i 0 : Nat) - (c : Int) - (b.getD i 0 : Nat)) % 18446744073709551616 := by
          rw [a0W, a0W]; omega
        simp only [b5W, E1, Nat.reduceAdd, Nat.reduceEqDiff, reduceCtorEq, ↓reduceIte, a0L _ b _ i hib, h3w, h4w]
        exact rest _ (by simp only [E1, Nat.reduceAdd, Nat.reduceEqDiff, reduceCtorEq, ↓reduceIte]) (by simp only [E1, Nat.reduceAdd, Nat.reduceEqDiff, reduceCtorEq, ↓reduceIte]) (by simp only [E1, Nat.reduceAdd, Nat.reduceEqDiff, reduceCtorEq, ↓reduceIte]) (by simp only [E1, Nat.reduceAdd, Nat.reduceEqDiff, reduceCtorEq, ↓reduceIte]) (by simp only [E1, Nat.reduceAdd, Nat.reduceEqDiff, reduceCtorEq, ↓reduceIte]) (by simp only [E1, Nat.reduceAdd, Nat.reduceEqDiff, reduceCtorEq, ↓reduceIte]) (by simp only [E1, Nat.reduceAdd, Nat.reduceEqDiff, reduceCtorEq, ↓reduceIte])
      · have hib' : ¬ (i : Int) < (b.length : Int) := by omega
        simp only [hib', E1, Nat.reduceAdd, Nat.reduceEqDiff, reduceCtorEq, ↓reduceIte]
        have hz : b.getD i 0 = 0 := by rw [List.getD_eq_getElem?_getD, List.getElem?_eq_none (by omega)]; rfl
        refine Safe.skip (rest _ (by simp only [E1, Nat.reduceAdd, Nat.reduceEqDiff, reduceCtorEq, ↓reduceIte]) (by simp only [E1, Nat.reduceAdd, Nat.reduceEqDiff, reduceCtorEq, ↓reduceIte]) (by simp only [E1, Nat.reduceAdd, Nat.reduceEqDiff, reduceCtorEq, ↓reduceIte]) (by simp only [E1, Nat.reduceAdd, Nat.reduceEqDiff, reduceCtorEq, ↓reduceIte, hz, a0W]; simp) (by simp only [E1, Nat.reduceAdd, Nat.reduceEqDiff, reduceCtorEq, ↓reduceIte]) (by simp only [E1, Nat.reduceAdd, Nat.reduceEqDiff, reduceCtorEq, ↓reduceIte]) (by simp only [E1, Nat.reduceAdd, Nat.reduceEqDiff, reduceCtorEq, ↓reduceIte]))
  refine Safe.keep [0, 1, 5, 6, 13, 14] ?_
  simp only [E1, Nat.reduceAdd, Nat.reduceEqDiff, reduceCtorEq, ↓reduceIte]
  exact key a.length 0 0 [] (by omega) rfl c3r (by omega) (by simp [val])
theorem a1A (a b : List Nat) (ha : Nt a) (hb : Nt b) (hv : val b ≤ val a) : a0g Pr b1Q [natV a, natV b] (.tup [natV (limbs (val a - val b)), .int .i64 0]) := by
  refine a0g.intro c5k c5j (by simp only [List.length_cons, List.length_nil]; omega) (.tup _ (by intro c hc; simp at hc; rcases hc with rfl | rfl; exact a2j _; exact .int _ _)) fun H hH => ?_
  refine Safe.seq (Safe.region ?_)
  simp only [b8I, E1, seval]
  refine Safe.seq (Safe.seq (Safe.region ?_))
  simp only [b8H, E1, seval]
  refine (a1B a b ha hb).acall ?_
  have h0 : ¬ (cmpI (val a) (val b) < 0) := by unfold cmpI; split <;> (try split) <;> omega
  simp only [E1, seval, h0]
  refine Safe.cond ?_
  simp only [E1, seval]
  refine Safe.skip (Safe.seq (Safe.region ?_))
  simp only [b8G, E1, seval]
  refine (a1f a ha.lim ha.len).acall ?_
  try simp only [E1, seval]
  refine (a1f b hb.lim hb.len).acall ?_
  try simp only [E1, seval]
  have hlen : (limbs (val b)).length ≤ (limbs (val a)).length := by
    rcases Nat.lt_or_ge (limbs (val a)).length (limbs (val b)).length with h | h
    · have := b1U h; omega
    · exact h
  have := c1k (limbs (val a)) (limbs (val b)) (a0T _) (a0T _) ha.limbs.len hlen (by rw [a0v, a0v]; exact hv)
  rw [a0v, a0v] at this
  refine this.acall ?_
  try simp only [E1, seval]
  refine Safe.retn ?_
  simp only [E1, seval]
  first | exact ⟨rfl, _, rfl⟩ | exact ⟨_, rfl⟩ | exact ⟨trivial, _, rfl⟩
theorem c3Y (w r : List Nat) (k d : Nat) (h : k < w.length) : (w ++ r).set k d = w.set k d ++ r := List.set_append_left _ _ h
theorem c1T (w r : List Nat) (k : Nat) (h : k < w.length) : (w ++ r).getD k 0 = w.getD k 0 := by
  simp [List.getElem?_append_left h]
theorem a5I (a b : List Nat) (ha : Nt a) (hb : Nt b) (hab : a.length + b.length ≤ 17592186044416) : a0g Pr a4c [natV a, natV b] (natV (limbs (val a * val b))) := by
  refine a0g.intro c5n c5m (by simp only [List.length_cons, List.length_nil]; omega) (a2j _) fun H hH => ?_
  refine Safe.seq (Safe.region ?_)
  have hLB : LB = 4294967296 := rfl
  simp only [b8Q, E1, Nat.reduceAdd, Nat.reduceEqDiff, reduceCtorEq, ↓reduceIte]
  refine Safe.seq (Safe.region ?_)
  simp only [b8P, E1, Nat.reduceAdd, Nat.reduceEqDiff, reduceCtorEq, ↓reduceIte]
  refine (a1f a ha.lim ha.len).acall ?_
  try simp only [E1, Nat.reduceAdd, Nat.reduceEqDiff, reduceCtorEq, ↓reduceIte]
  refine (a1f b hb.lim hb.len).acall ?_
  try simp only [E1, Nat.reduceAdd, Nat.reduceEqDiff, reduceCtorEq, ↓reduceIte]
  have la := a0T (val a)
  have lb := a0T (val b)
  have va := a0v (val a)
  have vb := a0v (val b)
  have hA := a5U ha.lim
  have hB := a5U hb.lim
  generalize limbs (val a) = A at la va hA ⊢
  generalize limbs (val b) = B at lb vb hB ⊢
  refine Safe.keep [0, 1] (Safe.seq (Safe.region ?_))
  have hw : IntKind.wrap .i64 ((A.length : Int) + (B.length : Int)) = ((A.length + B.length : Nat) : Int) := by rw [a0e] <;> omega
  simp only [b8O, E1, Nat.reduceAdd, Nat.reduceEqDiff, reduceCtorEq, ↓reduceIte, hw, a5M _ H [] _ _ (A.length + B.length) (by omega)]
  refine Safe.seq (Safe.seq (Safe.region ?_))
  simp only [b8N, E1, Nat.reduceAdd, Nat.reduceEqDiff, reduceCtorEq, ↓reduceIte]
  refine Safe.block (Safe.loop ?_)
  -- the inner loop
  have inner : ∀ (todo : List AItem) (i x : Nat) (z vx : Nat), i < A.length → x = A.getD i 0 → 
      (∀ (w : List Nat) (c : Nat) (env : Env), w.length = i + B.length → Lim w → c < LB → val w + LB ^ (i + B.length) * c = vx + LB ^ i * (x * val B) →
        look env 0 = natV A → look env 1 = natV B → look env 5 = .mu (lid H 0) 0 (A.length + B.length) (some (A.length + B.length)) → look env 6 = .int .i64 i → look env 7 = .int .u64 c → look env 20 = .int .i64 A.length → look env 21 = .int .i64 i →
        Safe ⟨Pr, fun _ _ => false, a4c, 71, [.tmp 4], H.length⟩ todo env (hap H [some ⟨1, u32s (w ++ List.replicate z 0)⟩]) fun r' H' => r' = natV (limbs (val a * val b)) ∧ ∃ L, H' = hap H L) →
      ∀ (k j c : Nat) (w : List Nat), j + k = B.length → w.length = i + B.length → Lim w → c < LB → val w + LB ^ (i + j) * c = vx + LB ^ i * (x * val (B.take j)) →
        Safe ⟨Pr, fun _ _ => false, a4c, 71, [.tmp 4], H.length⟩ (.inLoop b8R :: .inBlock 2 :: todo)
          [(0, natV A), (1, natV B), (5, .mu (lid H 0) 0 (A.length + B.length) (some (A.length + B.length))), (6, .int .i64 i), (7, .int .u64 c), (20, .int .i64 A.length), (21, .int .i64 i), (25, .int .i64 B.length), (26, .int .i64 j)]
          (hap H [some ⟨1, u32s (w ++ List.replicate z 0)⟩]) fun r' H' => r' = natV (limbs (val a * val b)) ∧ ∃ L, H' = hap H L := by
    intro todo i x z vx hi hx hk k
    induction k with
    | zero =>
      intro j c w hjk hw lw hc hv
      have hj : j = B.length := by omega
      subst hj
      refine Safe.inLoop (Safe.seq (Safe.region ?_))
      simp only [b2f, E1, Nat.reduceAdd, Nat.reduceEqDiff, reduceCtorEq, ↓reduceIte]
      refine Safe.seq (Safe.cond ?_)
      simp only [E1, Nat.reduceAdd, Nat.reduceEqDiff, reduceCtorEq, ↓reduceIte, Int.lt_irrefl]
      refine Safe.exit rfl ?_
      rw [List.take_length] at hv
      exact hk w c _ hw lw hc hv (by simp only [E1, Nat.reduceAdd, Nat.reduceEqDiff, reduceCtorEq, ↓reduceIte]) (by simp only [E1, Nat.reduceAdd, Nat.reduceEqDiff, reduceCtorEq, ↓reduceIte]) (by simp only [E1, Nat.reduceAdd, Nat.reduceEqDiff, reduceCtorEq, ↓reduceIte]) (by simp only [E1, Nat.reduceAdd, Nat.reduceEqDiff, reduceCtorEq, ↓reduceIte]) (by simp only [E1, Nat.reduceAdd, Nat.reduceEqDiff, reduceCtorEq, ↓reduceIte]) (by simp only [E1, Nat.reduceAdd, Nat.reduceEqDiff, reduceCtorEq, ↓reduceIte]) (by simp only [E1, Nat.reduceAdd, Nat.reduceEqDiff, reduceCtorEq, ↓reduceIte])
    | succ k ih =>
      intro j c w hjk hw lw hc hv
      refine Safe.inLoop (Safe.seq (Safe.region ?_))
      simp only [b2f, E1, Nat.reduceAdd, Nat.reduceEqDiff, reduceCtorEq, ↓reduceIte]
      refine Safe.seq (Safe.cond ?_)
      have hlt : (j : Int) < (B.length : Int) := by omega
      simp only [E1, Nat.reduceAdd, Nat.reduceEqDiff, reduceCtorEq, ↓reduceIte, hlt]
      refine Safe.skip (Safe.seq (Safe.block (Safe.seq (Safe.region ?_))))
      simp only [b8J, E1, Nat.reduceAdd, Nat.reduceEqDiff, reduceCtorEq, ↓reduceIte]
      refine Safe.seq (Safe.regionD ?_)
      have xa := a4Y la i
      have xb := a4Y lb j
      have xw := a4Y lw (i + j)
      have hfit := c4d hc xa xb xw
      have hLL : LB * LB = 18446744073709551616 := by decide
      have h1w : IntKind.wrap .u64 ((A.getD i 0 : Nat) : Int) = ((A.getD i 0 : Nat) : Int) := a0H (by omega) (by omega)
      have h2w : IntKind.wrap .u64 ((B.getD j 0 : Nat) : Int) = ((B.getD j 0 : Nat) : Int) := a0H (by omega) (by omega)
      have h3w : IntKind.wrap .u64 ((w.getD (i + j) 0 : Nat) : Int) = ((w.getD (i + j) 0 : Nat) : Int) := a0H (by omega) (by omega)
      have h4w : IntKind.wrap .u64 (((A.getD i 0 : Nat) : Int) * ((B.getD j 0 : Nat) : Int)) = ((A.getD i 0 * B.getD j 0 : Nat) : Int) := by rw [← Int.natCast_mul, a0H] <;> omega
      have h5w : IntKind.wrap .u64 (((A.getD i 0 * B.getD j 0 : Nat) : Int) + ((w.getD (i + j) 0 : Nat) : Int)) = ((A.getD i 0 * B.getD j 0 + w.getD (i + j) 0 : Nat) : Int) := by rw [a0H] <;> omega
      have h6w : IntKind.wrap .u64 ((c : Int) + ((A.getD i 0 * B.getD j 0 + w.getD (i + j) 0 : Nat) : Int)) = ((c + A.getD i 0 * B.getD j 0 + w.getD (i + j) 0 : Nat) : Int) := by rw [a0H] <;> omega
      have h7w : IntKind.wrap .i64 ((i : Int) + (j : Int)) = ((i + j : Nat) : Int) := by rw [a0e] <;> omega
      simp only [b6t, E1, Nat.reduceAdd, Nat.reduceEqDiff, reduceCtorEq, ↓reduceIte, a0L _ A _ i hi, a0L _ B _ j (by omega), h1w, h2w, h3w, h4w, h7w, a5H _ _ _ _ _ _ (i + j) (show i + j < A.length + B.length by omega), d0F _ _ (i + j) (show i + j < (w ++ List.replicate z 0).length by simp [hw]; omega),
        c1T w _ (i + j) (show i + j < w.length by omega), h5w, h6w]
      refine Safe.seq (Safe.region ?_)
      have hcw : IntKind.wrap .u32 ((c + A.getD i 0 * B.getD j 0 + w.getD (i + j) 0 : Nat) : Int) = (((c + A.getD i 0 * B.getD j 0 + w.getD (i + j) 0) % LB : Nat) : Int) := a4j _
      simp only [b6s, E1, Nat.reduceAdd, Nat.reduceEqDiff, reduceCtorEq, ↓reduceIte, h7w, hcw, a5H _ _ _ _ _ _ (i + j) (show i + j < A.length + B.length by omega), b3y _ _ _ (i + j) _ (show i + j < (w ++ List.replicate z 0).length by simp [hw]; omega), c3Y w _ (i + j) _ (show i + j < w.length by omega)]
      refine Safe.region ?_
      simp only [b6r, E1, Nat.reduceAdd, Nat.reduceEqDiff, reduceCtorEq, ↓reduceIte, a3A _ _ _ (show (0 : Int) ≤ 32 by decide), d1b]
      refine Safe.inBlock (Safe.region ?_)
      have hiw : IntKind.wrap .i64 ((j : Int) + 1) = ((j + 1 : Nat) : Int) := by rw [a0e] <;> omega
      simp only [b6q, E1, Nat.reduceAdd, Nat.reduceEqDiff, reduceCtorEq, ↓reduceIte, hiw]
      refine Safe.keep [0, 1, 5, 6, 7, 20, 21, 25, 26] ?_
      simp only [E1, Nat.reduceAdd, Nat.reduceEqDiff, reduceCtorEq, ↓reduceIte]
      refine ih (j + 1) _ _ (by omega) (by simp [hw]) (c7o lw (Nat.mod_lt _ (by decide))) ?_ ?_
      · exact Nat.div_lt_of_lt_mul hfit
      · rw [a0u, show i + (j + 1) = (i + j) + 1 by omega, Nat.pow_succ]
        subst hx
        exact c4c (Nat.pow_add LB i j) hv (c6j (by omega)) rfl
  have outer : ∀ (k i : Nat) (x : List Nat), i + k = A.length → x.length = i + B.length → Lim x → val x = val (A.take i) * val B →
        Safe ⟨Pr, fun _ _ => false, a4c, 71, [.tmp 4], H.length⟩ [.inLoop b8S, .inBlock 0, .code ((ACode.region a9x false).seq .ret)]
          [(0, natV A), (1, natV B), (5, .mu (lid H 0) 0 (A.length + B.length) (some (A.length + B.length))), (20, .int .i64 A.length), (21, .int .i64 i)]
          (hap H [some ⟨1, u32s (x ++ List.replicate k 0)⟩]) fun r' H' => r' = natV (limbs (val a * val b)) ∧ ∃ L, H' = hap H L := by
    intro k
    induction k with
    | zero =>
      intro i x hik hx lx hv
      have hi : i = A.length := by omega
      subst hi
      refine Safe.inLoop (Safe.seq (Safe.region ?_))
      simp only [b2g, E1, Nat.reduceAdd, Nat.reduceEqDiff, reduceCtorEq, ↓reduceIte]
      refine Safe.seq (Safe.cond ?_)
      simp only [E1, Nat.reduceAdd, Nat.reduceEqDiff, reduceCtorEq, ↓reduceIte, Int.lt_irrefl]
      refine Safe.exit rfl ?_
      simp only [List.replicate_zero, List.append_nil]
      refine Safe.freeze 0 (b := ⟨1, u32s x⟩) hH rfl rfl (a0Y _) ?_
      refine Safe.seq (Safe.region ?_)
      simp only [a9x, E1, Nat.reduceAdd, Nat.reduceEqDiff, reduceCtorEq, ↓reduceIte, ← hx]
      refine (a1f x lx (by omega)).acall ?_
      try simp only [E1, Nat.reduceAdd, Nat.reduceEqDiff, reduceCtorEq, ↓reduceIte]
      refine Safe.retn ?_
      simp only [E1, Nat.reduceAdd, Nat.reduceEqDiff, reduceCtorEq, ↓reduceIte]
      rw [List.take_length] at hv
      rw [hv, va, vb]
      first | exact ⟨rfl, _, rfl⟩ | exact ⟨_, rfl⟩ | exact ⟨trivial, _, rfl⟩
    | succ k ih =>
      intro i x hik hx lx hv
      refine Safe.inLoop (Safe.seq (Safe.region ?_))
      simp only [b2g, E1, Nat.reduceAdd, Nat.reduceEqDiff, reduceCtorEq, ↓reduceIte]
      refine Safe.seq (Safe.cond ?_)
      have hlt : (i : Int) < (A.length : Int) := by omega
      simp only [E1, Nat.reduceAdd, Nat.reduceEqDiff, reduceCtorEq, ↓reduceIte, hlt]
      refine Safe.skip (Safe.seq (Safe.block (Safe.seq (Safe.region ?_))))
      simp only [b8M, E1, Nat.reduceAdd, Nat.reduceEqDiff, reduceCtorEq, ↓reduceIte]
      refine Safe.seq (Safe.region ?_)
      simp only [b8L, E1, Nat.reduceAdd, Nat.reduceEqDiff, reduceCtorEq, ↓reduceIte]
      refine Safe.seq (Safe.seq (Safe.region ?_))
      simp only [b8K, E1, Nat.reduceAdd, Nat.reduceEqDiff, reduceCtorEq, ↓reduceIte]
      refine Safe.block (Safe.loop ?_)
      refine Safe.keep [0, 1, 5, 6, 7, 20, 21, 25, 26] ?_
      simp only [E1, Nat.reduceAdd, Nat.reduceEqDiff, reduceCtorEq, ↓reduceIte]
      refine inner _ i _ (k + 1) (val x) (by omega) rfl ?_ B.length 0 0 x (by omega) hx lx (by decide) (by simp [val])
      intro w c env hw lw hc hv2 e0 e1 e5 e6 e7 e20 e21
      refine Safe.region ?_
      have h7w : IntKind.wrap .i64 ((i : Int) + (B.length : Int)) = ((i + B.length : Nat) : Int) := by rw [a0e] <;> omega
      have hcw : IntKind.wrap .u32 (c : Int) = (c : Int) := a3k (by omega) (by omega)
      simp only [b6p, E1, Nat.reduceAdd, Nat.reduceEqDiff, reduceCtorEq, ↓reduceIte, e0, e1, e5, e6, e7, h7w, hcw, a5H _ _ _ _ _ _ (i + B.length) (show i + B.length < A.length + B.length by omega), b3y _ _ _ (i + B.length) _ (show i + B.length < (w ++ List.replicate (k + 1) 0).length by simp [hw])]
      refine Safe.inBlock (Safe.region ?_)
      have hiw : IntKind.wrap .i64 ((i : Int) + 1) = ((i + 1 : Nat) : Int) := by rw [a0e] <;> omega
      simp only [b6o, E1, Nat.reduceAdd, Nat.reduceEqDiff, reduceCtorEq, ↓reduceIte, e21, hiw]
      refine Safe.keep [0, 1, 5, 20, 21] ?_
      simp only [E1, Nat.reduceAdd, Nat.reduceEqDiff, reduceCtorEq, ↓reduceIte, e0, e1, e5, e20]
      have hset : (w ++ List.replicate (k + 1) 0).set (i + B.length) c = (w ++ [c]) ++ List.replicate k 0 := by rw [← hw]; exact b5F _ _ _
      rw [hset]
      refine ih (i + 1) _ (by omega) (by simp [hw]; omega) (a2H lw hc) ?_
      rw [a5r, hw, hv2, a0u, hv, Nat.add_mul, Nat.mul_assoc]
  refine Safe.keep [0, 1, 5, 20, 21] ?_
  simp only [E1, Nat.reduceAdd, Nat.reduceEqDiff, reduceCtorEq, ↓reduceIte]
  have := outer A.length 0 (List.replicate B.length 0) (by omega) (by simp) (by intro d hd; simp at hd; omega) (by simp [b0f, val])
  rw [List.replicate_append_replicate, Nat.add_comm B.length] at this
  exact this
end Go.Abs
namespace Go.Abs
theorem a6Y (l : List Nat) (hl : Nt l) : a0g Pr a1b [natV l] (natV (limbs (val l))) := by
  refine a0g.intro b9S b9R (by simp only [List.length_cons, List.length_nil]; omega) (a2j _) fun H hH => ?_
  have hll := hl.len
  refine Safe.seq (Safe.region ?_)
  simp only [b0P, E1, seval]
  refine Safe.seq (Safe.region ?_)
  simp only [b0O, E1, seval]
  refine Safe.seq (Safe.block (Safe.loop ?_))
  -- the copy
  have copy : ∀ (n : Nat), n ≤ l.length → limbs (val l) = l.take n → ∀ env : Env, look env 0 = natV l → look env 3 = .int .i64 n →
      Safe ⟨Pr, fun _ _ => false, a1b, 33, [.tmp 2], H.length⟩ [.code ((ACode.region a3n false).seq (((ACode.region a3m false).seq (.block 2 (.loop a3o))).seq ((ACode.region a2i false).seq .ret)))]
        env (hap H []) fun r' H' => r' = natV (limbs (val l)) ∧ ∃ L, H' = hap H L := by
    intro n hn hlim env e0 e3
    refine Safe.seq (Safe.region ?_)
    simp only [a3n, E1, seval]
    refine Safe.seq (Safe.seq (Safe.region ?_))
    simp only [a3m, E1, seval]
    refine Safe.nilrow 4 1 (by decide) (by simp only [E1, seval]) ?_
    refine Safe.block (Safe.loop ?_)
    have key : ∀ (k i : Nat), i + k = n → Safe ⟨Pr, fun _ _ => false, a1b, 33, [.tmp 2], H.length⟩ [.inLoop a3o, .inBlock 2, .code ((ACode.region a2i false).seq .ret)]
        [(0, natV l), (3, .int .i64 n), (4, .mu (lid H 0) 0 (l.take i).length none), (5, .int .i64 i)] (hap H [some ⟨1, u32s (l.take i)⟩]) fun r' H' => r' = natV (limbs (val l)) ∧ ∃ L, H' = hap H L := by
      intro k
      induction k with
      | zero =>
        intro i hi
        have hi : i = n := by omega
        subst hi
        refine Safe.inLoop (Safe.seq (Safe.seq (Safe.region ?_)))
        simp only [a5E, E1, seval, Int.lt_irrefl]
        refine Safe.cond ?_
        simp only [E1, seval]
        refine Safe.exit rfl ?_
        refine Safe.freeze 0 (b := ⟨1, u32s (l.take i)⟩) hH rfl rfl (a0Y _) ?_
        refine Safe.seq (Safe.region ?_)
        simp only [a2i, E1, seval]
        refine Safe.retn ?_
        simp only [E1, seval, hlim]
        first | exact ⟨rfl, _, rfl⟩ | exact ⟨_, rfl⟩ | exact ⟨trivial, _, rfl⟩
      | succ k ih =>
        intro i hi
        refine Safe.inLoop (Safe.seq (Safe.seq (Safe.region ?_)))
        have hlt : (i : Int) < (n : Int) := by omega
        simp only [a5E, E1, seval, hlt]
        refine Safe.cond ?_
        simp only [E1, seval]
        refine Safe.skip (Safe.seq (Safe.block (Safe.region ?_)))
        simp only [b0M, E1, seval, a0L _ l _ i (by omega), d1x H hH _ (a0V H 0) _ (l.take i) (l.getD i 0) (by rw [List.length_take]; omega)]
        refine Safe.inBlock (Safe.region ?_)
        have hiw : IntKind.wrap .i64 ((i : Int) + 1) = ((i + 1 : Nat) : Int) := by rw [a0e] <;> omega
        simp only [b0L, E1, seval, hiw]
        refine Safe.keep [0, 3, 4, 5] ?_
        simp only [E1, seval, c1p]
        have := ih (i + 1) (by omega)
        rw [b0h (by omega)] at this
        simpa only [List.length_append, List.length_cons, List.length_nil] using this
    refine Safe.keep [0, 3, 4, 5] ?_
    simp only [E1, seval, e0, e3]
    exact key n 0 (by omega)
  have key : ∀ (n : Nat), n ≤ l.length → val (l.take n) = val l → ∀ env : Env, look env 0 = natV l → look env 3 = .int .i64 n →
      Safe ⟨Pr, fun _ _ => false, a1b, 33, [.tmp 2], H.length⟩ [.inLoop b0Q, .inBlock 0, .code ((ACode.region a3n false).seq (((ACode.region a3m false).seq (.block 2 (.loop a3o))).seq ((ACode.region a2i false).seq .ret)))]
        env (hap H []) fun r' H' => r' = natV (limbs (val l)) ∧ ∃ L, H' = hap H L := by
    intro n
    induction n with
    | zero =>
      intro hn hv env e0 e3
      refine Safe.inLoop (Safe.seq (Safe.seq (Safe.region ?_)))
      simp only [a5F, E1, seval, e0, e3, Int.natCast_zero, Int.lt_irrefl]
      refine Safe.cond ?_
      simp only [E1, seval]
      refine Safe.exit rfl (copy 0 hn ?_ _ (by simp only [E1, seval, e0]) (by simp only [E1, seval, e3] <;> rfl))
      rw [← hv]; simp [val, a0x]
    | succ n ih =>
      intro hn hv env e0 e3
      refine Safe.inLoop (Safe.seq (Safe.seq (Safe.region ?_)))
      have h0 : (0 : Int) < ((n + 1 : Nat) : Int) := by omega
      have hw : IntKind.wrap .i64 (((n + 1 : Nat) : Int) - 1) = (n : Int) := by rw [a0e] <;> omega
      simp only [a5F, E1, seval, e0, e3, h0, hw, a0L _ l _ n (by omega)]
      refine Safe.cond ?_
      simp only [E1, seval]
      by_cases hd : l.getD n 0 = 0
      · simp only [hd, Int.natCast_zero, E1, seval]
        refine Safe.skip (Safe.block (Safe.region ?_))
        simp only [b0N, E1, seval, e3, hw]
        refine Safe.inBlock (ih (by omega) ?_ _ (by simp only [E1, seval, e0]) (by simp only [E1, seval]))
        rw [← hv, a0u, hd]; simp
      · have hd' : ¬ (((l.getD n 0 : Nat) : Int) = 0) := by omega
        simp only [hd', E1, seval]
        refine Safe.exit rfl (copy (n + 1) hn ?_ _ (by simp only [E1, seval, e0]) (by simp only [E1, seval, e3]))
        rw [← hv, a5j (hl.lim.take _)]
        rw [b0h (by omega)]; simpa using hd
  exact key l.length (Nat.le_refl _) (by rw [List.take_length]) _ (by simp only [E1, seval]) (by simp only [E1, seval])
theorem c2y (A B : List Nat) (ha : Nt A) (hb : Nt B) (hab : A.length + B.length ≤ 17592186044416) : a0g Pr a2z [natV A, natV B] (natV (limbs (val A * val B))) := by
  refine a0g.intro c1f c1e (by simp only [List.length_cons, List.length_nil]; omega) (a2j _) fun H hH => ?_
  have la := ha.lim
  have lb := hb.lim
  refine Safe.seq (Safe.region ?_)
  have hLB : LB = 4294967296 := rfl
  simp only [b3u, E1, seval]
  refine Safe.seq (Safe.region ?_)
  have hw : IntKind.wrap .i64 ((A.length : Int) + (B.length : Int)) = ((A.length + B.length : Nat) : Int) := by rw [a0e] <;> omega
  simp only [b3t, E1, seval, hw, a5M _ H [] _ _ (A.length + B.length) (by omega)]
  refine Safe.seq (Safe.seq (Safe.region ?_))
  simp only [b3s, E1, seval]
  refine Safe.block (Safe.loop ?_)
  have inner : ∀ (todo : List AItem) (i x : Nat) (z vx : Nat), i < A.length → x = A.getD i 0 → 
      (∀ (w : List Nat) (c : Nat) (env : Env), w.length = i + B.length → Lim w → c < LB → val w + LB ^ (i + B.length) * c = vx + LB ^ i * (x * val B) →
        look env 0 = natV A → look env 1 = natV B → look env 5 = .mu (lid H 0) 0 (A.length + B.length) (some (A.length + B.length)) → look env 6 = .int .i64 i → look env 7 = .int .u64 c →
        Safe ⟨Pr, fun _ _ => false, a2z, 68, [.tmp 4], H.length⟩ todo env (hap H [some ⟨1, u32s (w ++ List.replicate z 0)⟩]) fun r' H' => r' = natV (limbs (val A * val B)) ∧ ∃ L, H' = hap H L) →
      ∀ (k j c : Nat) (w : List Nat), j + k = B.length → w.length = i + B.length → Lim w → c < LB → val w + LB ^ (i + j) * c = vx + LB ^ i * (x * val (B.take j)) →
        Safe ⟨Pr, fun _ _ => false, a2z, 68, [.tmp 4], H.length⟩ (.inLoop b3v :: .inBlock 2 :: todo)
          [(0, natV A), (1, natV B), (5, .mu (lid H 0) 0 (A.length + B.length) (some (A.length + B.length))), (6, .int .i64 i), (7, .int .u64 c), (8, .int .i64 j)]
          (hap H [some ⟨1, u32s (w ++ List.replicate z 0)⟩]) fun r' H' => r' = natV (limbs (val A * val B)) ∧ ∃ L, H' = hap H L := by
    intro todo i x z vx hi hx hk k
    induction k with
    | zero =>
      intro j c w hjk hw lw hc hv
      have hj : j = B.length := by omega
      subst hj
      refine Safe.inLoop (Safe.seq (Safe.seq (Safe.region ?_)))
      simp only [a7a, E1, seval, Int.lt_irrefl]
      refine Safe.cond ?_
      simp only [E1, seval]
      refine Safe.exit rfl ?_
      rw [List.take_length] at hv
      exact hk w c _ hw lw hc hv (by simp only [E1, seval]) (by simp only [E1, seval]) (by simp only [E1, seval]) (by simp only [E1, seval]) (by simp only [E1, seval])
    | succ k ih =>
      intro j c w hjk hw lw hc hv
      refine Safe.inLoop (Safe.seq (Safe.seq (Safe.region ?_)))
      have hlt : (j : Int) < (B.length : Int) := by omega
      simp only [a7a, E1, seval, hlt]
      refine Safe.cond ?_
      simp only [E1, seval]
      refine Safe.skip (Safe.seq (Safe.block (Safe.seq (Safe.regionD ?_))))
      have xa := a4Y la i
      have xb := a4Y lb j
      have xw := a4Y lw (i + j)
      have hfit := c4d hc xa xb xw
      have hLL : LB * LB = 18446744073709551616 := by decide
      have h1w : IntKind.wrap .u64 ((A.getD i 0 : Nat) : Int) = ((A.getD i 0 : Nat) : Int) := a0H (by omega) (by omega)
      have h2w : IntKind.wrap .u64 ((B.getD j 0 : Nat) : Int) = ((B.getD j 0 : Nat) : Int) := a0H (by omega) (by omega)
      have h3w : IntKind.wrap .u64 ((w.getD (i + j) 0 : Nat) : Int) = ((w.getD (i + j) 0 : Nat) : Int) := a0H (by omega) (by omega)
      have h4w : IntKind.wrap .u64 (((A.getD i 0 : Nat) : Int) * ((B.getD j 0 : Nat) : Int)) = ((A.getD i 0 * B.getD j 0 : Nat) : Int) := by rw [← Int.natCast_mul, a0H] <;> omega
      have h5w : IntKind.wrap .u64 ((c : Int) + ((w.getD (i + j) 0 : Nat) : Int)) = ((c + w.getD (i + j) 0 : Nat) : Int) := by rw [a0H] <;> omega
      have h6w : IntKind.wrap .u64 (((c + w.getD (i + j) 0 : Nat) : Int) + ((A.getD i 0 * B.getD j 0 : Nat) : Int)) = ((c + A.getD i 0 * B.getD j 0 + w.getD (i + j) 0 : Nat) : Int) := by rw [a0H] <;> omega
      have h7w : IntKind.wrap .i64 ((i : Int) + (j : Int)) = ((i + j : Nat) : Int) := by rw [a0e] <;> omega
      simp only [b3p, E1, seval, a0L _ A _ i hi, a0L _ B _ j (by omega), h1w, h2w, h3w, h4w, h7w, a5H _ _ _ _ _ _ (i + j) (show i + j < A.length + B.length by omega), d0F _ _ (i + j) (show i + j < (w ++ List.replicate z 0).length by simp [hw]; omega),
        c1T w _ (i + j) (show i + j < w.length by omega), h5w, h6w]
      refine Safe.seq (Safe.region ?_)
      have hmod := Nat.mod_lt (c + A.getD i 0 * B.getD j 0 + w.getD (i + j) 0) (show 0 < LB by decide)
      have hcw : IntKind.wrap .u32 (((c + A.getD i 0 * B.getD j 0 + w.getD (i + j) 0) % LB : Nat) : Int) = (((c + A.getD i 0 * B.getD j 0 + w.getD (i + j) 0) % LB : Nat) : Int) := a3k (by omega) (by omega)
      simp only [b3o, E1, seval, h7w, d2Z, hcw, a5H _ _ _ _ _ _ (i + j) (show i + j < A.length + B.length by omega), b3y _ _ _ (i + j) _ (show i + j < (w ++ List.replicate z 0).length by simp [hw]; omega), c3Y w _ (i + j) _ (show i + j < w.length by omega)]
      refine Safe.region ?_
      simp only [b3n, E1, seval, d3a _ (show c + A.getD i 0 * B.getD j 0 + w.getD (i + j) 0 < 18446744073709551616 by omega)]
      refine Safe.inBlock (Safe.region ?_)
      have hiw : IntKind.wrap .i64 ((j : Int) + 1) = ((j + 1 : Nat) : Int) := by rw [a0e] <;> omega
      simp only [b0T, E1, seval, hiw]
      refine Safe.keep [0, 1, 5, 6, 7, 8] ?_
      simp only [E1, seval]
      refine ih (j + 1) _ _ (by omega) (by simp [hw]) (c7o lw hmod) ?_ ?_
      · exact Nat.div_lt_of_lt_mul hfit
      · rw [a0u, show i + (j + 1) = (i + j) + 1 by omega, Nat.pow_succ]
        subst hx
        exact c4c (Nat.pow_add LB i j) hv (c6j (by omega)) rfl
  have outer : ∀ (k i : Nat) (x : List Nat), i + k = A.length → x.length = i + B.length → Lim x → val x = val (A.take i) * val B →
        Safe ⟨Pr, fun _ _ => false, a2z, 68, [.tmp 4], H.length⟩ [.inLoop b3w, .inBlock 0, .code ((ACode.region a5G false).seq .ret)]
          [(0, natV A), (1, natV B), (5, .mu (lid H 0) 0 (A.length + B.length) (some (A.length + B.length))), (6, .int .i64 i)]
          (hap H [some ⟨1, u32s (x ++ List.replicate k 0)⟩]) fun r' H' => r' = natV (limbs (val A * val B)) ∧ ∃ L, H' = hap H L := by
    intro k
    induction k with
    | zero =>
      intro i x hik hx lx hv
      have hi : i = A.length := by omega
      subst hi
      refine Safe.inLoop (Safe.seq (Safe.seq (Safe.region ?_)))
      simp only [a7b, E1, seval, Int.lt_irrefl]
      refine Safe.cond ?_
      simp only [E1, seval]
      refine Safe.exit rfl ?_
      simp only [List.replicate_zero, List.append_nil]
      refine Safe.freeze 0 (b := ⟨1, u32s x⟩) hH rfl rfl (a0Y _) ?_
      refine Safe.seq (Safe.region ?_)
      simp only [a5G, E1, seval, ← hx]
      refine (a6Y x ⟨lx, by omega⟩).acall ?_
      try simp only [E1, seval]
      refine Safe.retn ?_
      simp only [E1, seval]
      rw [List.take_length] at hv
      rw [hv]
      first | exact ⟨rfl, _, rfl⟩ | exact ⟨_, rfl⟩ | exact ⟨trivial, _, rfl⟩
    | succ k ih =>
      intro i x hik hx lx hv
      refine Safe.inLoop (Safe.seq (Safe.seq (Safe.region ?_)))
      have hlt : (i : Int) < (A.length : Int) := by omega
      simp only [a7b, E1, seval, hlt]
      refine Safe.cond ?_
      simp only [E1, seval]
      refine Safe.skip (Safe.seq (Safe.block (Safe.seq (Safe.region ?_))))
      simp only [b3r, E1, seval]
      refine Safe.seq (Safe.seq (Safe.region ?_))
      simp only [b3q, E1, seval]
      refine Safe.block (Safe.loop ?_)
      refine Safe.keep [0, 1, 5, 6, 7, 8] ?_
      simp only [E1, seval]
      refine inner _ i _ (k + 1) (val x) (by omega) rfl ?_ B.length 0 0 x (by omega) hx lx (by decide) (by simp [val])
      intro w c env hw lw hc hv2 e0 e1 e5 e6 e7
      refine Safe.region ?_
      have h7w : IntKind.wrap .i64 ((i : Int) + (B.length : Int)) = ((i + B.length : Nat) : Int) := by rw [a0e] <;> omega
      have hcw : IntKind.wrap .u32 (c : Int) = (c : Int) := a3k (by omega) (by omega)
      simp only [b0S, E1, seval, e0, e1, e5, e6, e7, h7w, hcw, a5H _ _ _ _ _ _ (i + B.length) (show i + B.length < A.length + B.length by omega), b3y _ _ _ (i + B.length) _ (show i + B.length < (w ++ List.replicate (k + 1) 0).length by simp [hw])]
      refine Safe.inBlock (Safe.region ?_)
      have hiw : IntKind.wrap .i64 ((i : Int) + 1) = ((i + 1 : Nat) : Int) := by rw [a0e] <;> omega
      simp only [b0R, E1, seval, e6, hiw]
      refine Safe.keep [0, 1, 5, 6] ?_
      simp only [E1, seval, e0, e1, e5]
      have hset : (w ++ List.replicate (k + 1) 0).set (i + B.length) c = (w ++ [c]) ++ List.replicate k 0 := by rw [← hw]; exact b5F _ _ _
      rw [hset]
      refine ih (i + 1) _ (by omega) (by simp [hw]; omega) (a2H lw hc) ?_
      rw [a5r, hw, hv2, a0u, hv, Nat.add_mul, Nat.mul_assoc]
  refine Safe.keep [0, 1, 5, 6] ?_
  simp only [E1, seval]
  have := outer A.length 0 (List.replicate B.length 0) (by omega) (by simp) (by intro d hd; simp at hd; omega) (by simp [b0f, val])
  rw [List.replicate_append_replicate, Nat.add_comm B.length] at this
  exact this
end Go.Abs
namespace Go.Abs
theorem a6Z (neg : Bool) (l : List Nat) (hl : Nt l) : a0g Pr a2O [.bool neg, natV l] (Z (sgn neg (val l))) := by
  refine a0g.intro b9M b9L (by simp only [List.length_cons, List.length_nil]; omega) (Z_cl _) fun H hH => ?_
  refine Safe.seq (Safe.region ?_)
  simp only [b0B, E2, seval]
  refine Safe.seq (Safe.region ?_)
  simp only [b0A, E2, seval]
  refine (a6Y l hl).acall ?_
  try simp only [E2, seval]
  refine Safe.seq (Safe.region ?_)
  have e0 : decide ((0 : Int) < ((limbs (val l)).length : Int)) = decide (0 < val l) := by
    rcases Nat.eq_zero_or_pos (val l) with h | h
    · rw [h, a0x]; rfl
    · rw [a2J (by omega)]; simp [h] <;> omega
  cases neg
  · simp only [a5D, E2, seval]
    refine Safe.retn ?_
    simp only [E2, seval]
    rw [← d2N]
    simp only [Bool.false_and]
    first | exact ⟨rfl, _, rfl⟩ | exact ⟨_, rfl⟩ | exact ⟨trivial, _, rfl⟩
  · simp only [a5D, E2, seval, e0, c1h]
    refine Safe.retn ?_
    simp only [E2, seval]
    rw [← d2N]
    simp only [Bool.true_and]
    first | exact ⟨rfl, _, rfl⟩ | exact ⟨_, rfl⟩ | exact ⟨trivial, _, rfl⟩
theorem a3K (neg : Bool) (l : List Nat) (hl : Nt l) : a0g Pr a0q [.bool neg, natV l] (Z (sgn neg (val l))) := by
  refine a0g.introL b2S b2R (by simp only [List.length_cons, List.length_nil]; omega) (Z_cl _) fun H hH => ?_
  have hll := hl.len
  refine Safe.seq (Safe.region ?_)
  simp only [a6F, E2, seval]
  refine Safe.seq (Safe.region ?_)
  simp only [a6E, E2, seval]
  refine Safe.seq (Safe.block (Safe.loop ?_))
  have copy : ∀ (n : Nat), n ≤ l.length → limbs (val l) = l.take n → ∀ env : Env, look env 0 = .bool neg → look env 1 = natV l → look env 4 = .loc (lid H 0) 0 0 → look env 5 = .int .i64 n →
      Safe ⟨Pr, fun _ _ => false, a0q, 32, [.cell 4 (some 2)], H.length⟩ [.code (((ACode.region a1x false).seq (.cond (.t 22) ((ACode.region a1w false).seq .ret) .skip)).seq ((ACode.region a1v false).seq ((ACode.region a1u false).seq ((ACode.region a1t false).seq .ret))))]
        env (hap H [some ⟨2, [.agg [.bool false, .nil]]⟩]) fun r' H' => Le r' (Z (sgn neg (val l))) ∧ ∃ L, H' = hap H L := by
    intro n hn hlim env e0 e1 e4 e5
    refine Safe.seq (Safe.seq (Safe.region ?_))
    simp only [a1x, E2, seval, e5]
    refine Safe.cond ?_
    simp only [E2, seval]
    by_cases h0 : n = 0
    · subst h0
      simp only [Int.natCast_zero, E2, seval]
      refine Safe.seq (Safe.region ?_)
      simp only [a1w, E2, seval, e4]
      refine Safe.retn ?_
      simp only [E2, seval, e4]
      refine ⟨?_, _, rfl⟩
      have : val l = 0 := by
        have := a0v (val l)
        rw [hlim] at this
        simpa [val] using this.symm
      rw [this, c3X]
      exact le_zero
    · have h0' : ¬ ((n : Int) = 0) := by omega
      simp only [h0', E2, seval]
      refine Safe.skip (Safe.seq (Safe.region ?_))
      simp only [a1v, E2, seval, e5, a5M _ H [some ⟨2, [.agg [.bool false, .nil]]⟩] _ _ n (by omega)]
      refine Safe.seq (Safe.region ?_)
      have hc := c0w ((28, .int .i64 n) :: []) H [some ⟨2, [.agg [.bool false, .nil]]⟩, some ⟨1, u32s (List.replicate n 0)⟩] 1 1 n (some n) (natV l) (u32s (List.replicate n 0)) (u32s l) rfl (by simp [a0w]) (b0V _ l) (by rw [a0w]; exact hn)
      simp only [a1u, E2, seval, e1]
      rw [c0w _ H [some ⟨2, [.agg [.bool false, .nil]]⟩, some ⟨1, u32s (List.replicate n 0)⟩] 1 1 n (some n) (natV l) (u32s (List.replicate n 0)) (u32s l) rfl (by simp [a0w]) (b0V _ l) (by rw [a0w]; exact hn)]
      simp only [E2, seval, b5B]
      refine Safe.freeze 1 (b := ⟨1, u32s (l.take n)⟩) hH rfl rfl (a0Y _) ?_
      have hlen : n = (l.take n).length := by rw [List.length_take]; omega
      have hfm : frz (lid H 1) ⟨1, u32s (l.take n)⟩ (.mu (lid H 1) 0 n (some n)) = natV (l.take n) := by
        have := b2A H 1 (l.take n) (some n)
        rwa [← hlen] at this
      refine Safe.keep [0, 4, 6] ?_
      simp only [E2, seval, c1A, e0, e4, hfm, a2q H 1 0 _ 0 0 (by decide)]
      refine Safe.seq (Safe.region ?_)
      simp only [a1t, E2, seval]
      refine Safe.retn ?_
      simp only [E2, seval]
      refine ⟨?_, _, rfl⟩
      rw [← d2N, hlim]
      have hp : 0 < val l := by
        rcases Nat.eq_zero_or_pos (val l) with h | h
        · rw [h, a0x] at hlim
          have := congrArg List.length hlim
          simp at this; omega
        · exact h
      simp only [hp, decide_true, Bool.and_true]
      exact Le.refl _
  have key : ∀ (n : Nat), n ≤ l.length → val (l.take n) = val l → ∀ env : Env, look env 0 = .bool neg → look env 1 = natV l → look env 4 = .loc (lid H 0) 0 0 → look env 5 = .int .i64 n →
      Safe ⟨Pr, fun _ _ => false, a0q, 32, [.cell 4 (some 2)], H.length⟩ [.inLoop a6G, .inBlock 0, .code (((ACode.region a1x false).seq (.cond (.t 22) ((ACode.region a1w false).seq .ret) .skip)).seq ((ACode.region a1v false).seq ((ACode.region a1u false).seq ((ACode.region a1t false).seq .ret))))]
        env (hap H [some ⟨2, [.agg [.bool false, .nil]]⟩]) fun r' H' => Le r' (Z (sgn neg (val l))) ∧ ∃ L, H' = hap H L := by
    intro n
    induction n with
    | zero =>
      intro hn hv env e0 e1 e4 e5
      refine Safe.inLoop (Safe.seq (Safe.seq (Safe.region ?_)))
      simp only [a2G, E2, seval, e1, e5, Int.natCast_zero, Int.lt_irrefl]
      refine Safe.cond ?_
      simp only [E2, seval]
      refine Safe.exit rfl (copy 0 hn ?_ _ (by simp only [E2, seval, e0]) (by simp only [E2, seval, e1]) (by simp only [E2, seval, e4]) (by simp only [E2, seval, e5] <;> rfl))
      rw [← hv]; simp [val, a0x]
    | succ n ih =>
      intro hn hv env e0 e1 e4 e5
      refine Safe.inLoop (Safe.seq (Safe.seq (Safe.region ?_)))
      have h0 : (0 : Int) < ((n + 1 : Nat) : Int) := by omega
      have hw : IntKind.wrap .i64 (((n + 1 : Nat) : Int) - 1) = (n : Int) := by rw [a0e] <;> omega
      simp only [a2G, E2, seval, e1, e5, h0, hw, a0L _ l _ n (by omega)]
      refine Safe.cond ?_
      simp only [E2, seval]
      by_cases hd : l.getD n 0 = 0
      · simp only [hd, Int.natCast_zero, E2, seval]
        refine Safe.skip (Safe.block (Safe.region ?_))
        simp only [a6D, E2, seval, e5, hw]
        refine Safe.inBlock (ih (by omega) ?_ _ (by simp only [E2, seval, e0]) (by simp only [E2, seval, e1]) (by simp only [E2, seval, e4]) (by simp only [E2, seval]))
        rw [← hv, a0u, hd]; simp
      · have hd' : ¬ (((l.getD n 0 : Nat) : Int) = 0) := by omega
        simp only [hd', E2, seval]
        refine Safe.exit rfl (copy (n + 1) hn ?_ _ (by simp only [E2, seval, e0]) (by simp only [E2, seval, e1]) (by simp only [E2, seval, e4]) (by simp only [E2, seval, e5]))
        rw [← hv, a5j (hl.lim.take _)]
        rw [b0h (by omega)]; simpa using hd
  exact key l.length (Nat.le_refl _) (by rw [List.take_length]) _ (by simp only [E2, seval]) (by simp only [E2, seval]) (by simp only [E2, seval]) (by simp only [E2, seval])
theorem d1f (n : Bool) (a b : Nat) : sgn n a + sgn n b = sgn n (a + b) := by cases n <;> simp [sgn] <;> omega
theorem d1d (m n : Bool) (a b : Nat) (h : m ≠ n) (hb : b ≤ a) : sgn m a + sgn n b = sgn m (a - b) := by
  cases m <;> cases n <;> simp [sgn] at h ⊢ <;> omega
theorem c8J (m n : Bool) (a b : Nat) (h : m ≠ n) (hb : a ≤ b) : sgn m a + sgn n b = sgn n (b - a) := by
  cases m <;> cases n <;> simp [sgn] at h ⊢ <;> omega
theorem c6E (m n : Bool) (a b : Nat) : sgn m a * sgn n b = sgn (!(m == n)) (a * b) := by
  cases m <;> cases n <;> simp [sgn, Int.neg_mul, Int.mul_neg]
theorem d1e (n : Bool) (a : Nat) : sgn (!n) a = - sgn n a := by cases n <;> simp [sgn]
theorem c3N (a b : Nat) : (0 ≤ cmpI a b) = (b ≤ a) := by unfold cmpI; split <;> (try split) <;> simp <;> omega
theorem c3M (a b : Nat) : (cmpI a b < 0) = (a < b) := by unfold cmpI; split <;> (try split) <;> simp <;> omega
theorem c2D (x : ZI) (hx : Zok 17592186044416 x) : a0g Pr a8i [x.av] (Z x.z) := by
  obtain ⟨n, m⟩ := x
  have hm : Nt m := ⟨hx.lim, hx.len⟩
  simp only [ZI.av, ZI.z]
  refine a0g.intro b9Q b9P (by simp only [List.length_cons, List.length_nil]; omega) (Z_cl _) fun H hH => ?_
  refine Safe.seq (Safe.region ?_)
  simp only [b0K, E2, seval]
  refine Safe.seq (Safe.region ?_)
  simp only [b0J, E2, seval]
  refine (a6Z n m hm).acall ?_
  simp only [Z, E2, seval]
  refine Safe.retn ?_
  simp only [E2, seval]
  first | exact ⟨rfl, _, rfl⟩ | exact ⟨_, rfl⟩ | exact ⟨trivial, _, rfl⟩
theorem c4Y (x y : ZI) (k l : Nat) (hx : Zok k x) (hy : Zok l y) (hkl : k + l ≤ 17592186044416) : a0g Pr a9Y [x.av, y.av] (Z (x.z * y.z)) := by
  obtain ⟨n, a⟩ := x
  obtain ⟨m, b⟩ := y
  have hal := hx.len
  have hbl := hy.len
  simp only at hal hbl
  have ha : Nt a := ⟨hx.lim, by omega⟩
  have hb : Nt b := ⟨hy.lim, by omega⟩
  simp only [ZI.av, ZI.z]
  refine a0g.intro c1c c1b (by simp only [List.length_cons, List.length_nil]; omega) (Z_cl _) fun H hH => ?_
  refine Safe.seq (Safe.region ?_)
  simp only [b3m, E2, seval]
  refine Safe.seq (Safe.regionD ?_)
  simp only [b3l, E2, seval]
  refine (c2y a b ha hb (by omega)).dcall ?_
  try simp only [E2, seval]
  have hn : Nt (limbs (val a * val b)) := ⟨a0T _, by
    have h1 := a2U ha.lim
    have h2 := a2U hb.lim
    have h3 : val a * val b < LB ^ (a.length + b.length) := by
      rw [Nat.pow_add]
      exact Nat.mul_lt_mul'' h1 h2
    exact Nat.le_trans (a0R h3) (by omega)⟩
  refine (a6Z _ _ hn).dcall ?_
  rw [a0v, ← c6E]
  simp only [Z, E2, seval]
  refine Safe.retn ?_
  simp only [E2, seval]
  first | exact ⟨rfl, _, rfl⟩ | exact ⟨_, rfl⟩ | exact ⟨trivial, _, rfl⟩
theorem a1N (n : Int) (h0 : -9223372036854775808 ≤ n) (h1 : n < 9223372036854775808) : a0g Pr a3y [.int .i64 n] (Z n) := by
  refine a0g.intro c2A c2z (by simp only [List.length_cons, List.length_nil]; omega) (Z_cl _) fun H hH => ?_
  have hLB : LB = 4294967296 := rfl
  refine Safe.seq (Safe.region ?_)
  simp only [b5P, E2, Nat.reduceLeDiff, Nat.reduceSub, Nat.reduceAdd, Nat.reduceEqDiff, reduceCtorEq, ↓reduceIte]
  refine Safe.seq (Safe.region ?_)
  simp only [b5O, E2, Nat.reduceLeDiff, Nat.reduceSub, Nat.reduceAdd, Nat.reduceEqDiff, reduceCtorEq, ↓reduceIte]
  refine Safe.seq (Safe.seq (Safe.region ?_))
  simp only [b5N, E2, Nat.reduceLeDiff, Nat.reduceSub, Nat.reduceAdd, Nat.reduceEqDiff, reduceCtorEq, ↓reduceIte]
  refine Safe.cond ?_
  simp only [E2, Nat.reduceLeDiff, Nat.reduceSub, Nat.reduceAdd, Nat.reduceEqDiff, reduceCtorEq, ↓reduceIte]
  have rest : ∀ (env : Env), look env 0 = .int .i64 n → look env 2 = .loc (lid H 0) 0 0 → look env 3 = .int .u64 (n.natAbs : Nat) →
      Safe ⟨Pr, fun _ _ => false, a3y, 19, [.cell 2 (some 2)], H.length⟩ [.code ((ACode.region a9n false).seq .ret)] env (hap H [some ⟨2, [.agg [.bool false, .nil]]⟩]) fun r' H' => r' = Z n ∧ ∃ L, H' = hap H L := by
    intro env e0 e2 e3
    refine Safe.seq (Safe.region ?_)
    have w1 : IntKind.wrap .u32 ((n.natAbs : Nat) : Int) = ((n.natAbs % LB : Nat) : Int) := a4j _
    have hLL : LB * LB = 18446744073709551616 := by decide
    have hdiv : n.natAbs / LB < LB := Nat.div_lt_of_lt_mul (by omega)
    have w2 : IntKind.wrap .u32 ((n.natAbs / LB : Nat) : Int) = ((n.natAbs / LB : Nat) : Int) := a3k (Int.natCast_nonneg _) (by omega)
    simp only [a9n, E2, Nat.reduceLeDiff, Nat.reduceSub, Nat.reduceAdd, Nat.reduceEqDiff, reduceCtorEq, ↓reduceIte, e0, e3, e2, w1, a3A _ _ _ (show (0 : Int) ≤ 32 by decide), d1b, w2]
    have hm := Nat.mod_lt n.natAbs (show 0 < LB by decide)
    have := a6Z (decide (n < 0)) [n.natAbs % LB, n.natAbs / LB] ⟨by intro d hd; simp at hd; omega, by simp⟩
    have hv : val [n.natAbs % LB, n.natAbs / LB] = n.natAbs := by
      simp only [val]; rw [Nat.mul_zero, Nat.add_zero, Nat.mod_add_div]
    rw [hv, show sgn (decide (n < 0)) n.natAbs = n by unfold sgn; by_cases h : n < 0 <;> simp [h] <;> omega] at this
    refine a0g.acall this ?_
    simp only [Z, E2, Nat.reduceLeDiff, Nat.reduceSub, Nat.reduceAdd, Nat.reduceEqDiff, reduceCtorEq, ↓reduceIte, e2]
    refine Safe.retn ?_
    simp only [E2, Nat.reduceLeDiff, Nat.reduceSub, Nat.reduceAdd, Nat.reduceEqDiff, reduceCtorEq, ↓reduceIte, e2]
    first | exact ⟨rfl, _, rfl⟩ | exact ⟨_, rfl⟩ | exact ⟨trivial, _, rfl⟩
  by_cases hn : n < 0
  · simp only [hn, E2, Nat.reduceLeDiff, Nat.reduceSub, Nat.reduceAdd, Nat.reduceEqDiff, reduceCtorEq, ↓reduceIte]
    refine Safe.region ?_
    have w : IntKind.wrap .u64 (0 - IntKind.wrap .u64 n) = ((n.natAbs : Nat) : Int) := by rw [a0W, a0W]; omega
    simp only [b5M, E2, Nat.reduceLeDiff, Nat.reduceSub, Nat.reduceAdd, Nat.reduceEqDiff, reduceCtorEq, ↓reduceIte, w]
    exact rest _ (by simp only [E2, Nat.reduceLeDiff, Nat.reduceSub, Nat.reduceAdd, Nat.reduceEqDiff, reduceCtorEq, ↓reduceIte]) (by simp only [E2, Nat.reduceLeDiff, Nat.reduceSub, Nat.reduceAdd, Nat.reduceEqDiff, reduceCtorEq, ↓reduceIte]) (by simp only [E2, Nat.reduceLeDiff, Nat.reduceSub, Nat.reduceAdd, Nat.reduceEqDiff, reduceCtorEq, ↓reduceIte])
  · have w : IntKind.wrap .u64 n = ((n.natAbs : Nat) : Int) := by rw [a0W]; omega
    simp only [hn, E2, Nat.reduceLeDiff, Nat.reduceSub, Nat.reduceAdd, Nat.reduceEqDiff, reduceCtorEq, ↓reduceIte]
    exact Safe.skip (rest _ (by simp only [E2, Nat.reduceLeDiff, Nat.reduceSub, Nat.reduceAdd, Nat.reduceEqDiff, reduceCtorEq, ↓reduceIte]) (by simp only [E2, Nat.reduceLeDiff, Nat.reduceSub, Nat.reduceAdd, Nat.reduceEqDiff, reduceCtorEq, ↓reduceIte]) (by simp only [E2, Nat.reduceLeDiff, Nat.reduceSub, Nat.reduceAdd, Nat.reduceEqDiff, reduceCtorEq, ↓reduceIte, w]))
theorem b8w (x : ZI) (hx : Zok 17592186044416 x) : a0g Pr a0N [x.av] (Z x.z) := by
  obtain ⟨n, m⟩ := x
  have hm : Nt m := ⟨hx.lim, hx.len⟩
  simp only [ZI.av, ZI.z]
  refine a0g.intro b3g b3f (by simp only [List.length_cons, List.length_nil]; omega) (Z_cl _) fun H hH => ?_
  refine Safe.seq (Safe.region ?_)
  simp only [a6K, E2, seval]
  refine Safe.seq (Safe.region ?_)
  simp only [a6J, E2, seval]
  refine (a3K n m hm).acall ?_
  simp only [Z, E2, seval]
  refine Safe.retn ?_
  simp only [E2, seval]
  first | exact ⟨rfl, _, rfl⟩ | exact ⟨_, rfl⟩ | exact ⟨trivial, _, rfl⟩
theorem c6a (x : ZI) (hx : Zok 17592186044416 x) : a0g Pr a2d [x.av] (Z (-x.z)) := by
  obtain ⟨n, m⟩ := x
  have hm : Nt m := ⟨hx.lim, hx.len⟩
  simp only [ZI.av, ZI.z]
  refine a0g.intro b5o b5n (by simp only [List.length_cons, List.length_nil]; omega) (Z_cl _) fun H hH => ?_
  refine Safe.seq (Safe.region ?_)
  simp only [a9i, E2, seval]
  refine Safe.seq (Safe.region ?_)
  simp only [a9h, E2, seval]
  refine (a3K (!n) m hm).acall ?_
  rw [d1e]
  simp only [Z, E2, seval]
  refine Safe.retn ?_
  simp only [E2, seval]
  first | exact ⟨rfl, _, rfl⟩ | exact ⟨_, rfl⟩ | exact ⟨trivial, _, rfl⟩
theorem c6c (x y : ZI) (k l : Nat) (hx : Zok k x) (hy : Zok l y) (hkl : k + l ≤ 17592186044416) : a0g Pr a2y [x.av, y.av] (Z (x.z * y.z)) := by
  obtain ⟨n, a⟩ := x
  obtain ⟨m, b⟩ := y
  have hal := hx.len
  have hbl := hy.len
  simp only at hal hbl
  have ha : Nt a := ⟨hx.lim, by omega⟩
  have hb : Nt b := ⟨hy.lim, by omega⟩
  simp only [ZI.av, ZI.z]
  refine a0g.intro c2n c2m (by simp only [List.length_cons, List.length_nil]; omega) (Z_cl _) fun H hH => ?_
  refine Safe.seq (Safe.region ?_)
  simp only [b5q, E2, seval]
  refine Safe.seq (Safe.regionD ?_)
  simp only [b5p, E2, seval]
  refine (a5I a b ha hb (by omega)).dcall ?_
  try simp only [E2, seval]
  have hn : Nt (limbs (val a * val b)) := ⟨a0T _, by
    have h1 := a2U ha.lim
    have h2 := a2U hb.lim
    have h3 : val a * val b < LB ^ (a.length + b.length) := by
      rw [Nat.pow_add]
      exact Nat.mul_lt_mul'' h1 h2
    exact Nat.le_trans (a0R h3) (by omega)⟩
  refine (a3K _ _ hn).dcall ?_
  rw [a0v, ← c6E]
  simp only [Z, E2, seval]
  refine Safe.retn ?_
  simp only [E2, seval]
  first | exact ⟨rfl, _, rfl⟩ | exact ⟨_, rfl⟩ | exact ⟨trivial, _, rfl⟩
theorem c6f (x y : ZI) (k : Nat) (hx : Zok k x) (hy : Zok k y) (hk : k < 17592186044416) : a0g Pr a1j [x.av, y.av] (Z (x.z + y.z)) := by
  obtain ⟨n, a⟩ := x
  obtain ⟨m, b⟩ := y
  have hal := hx.len
  have hbl := hy.len
  have hav := hx.lt
  have hbv := hy.lt
  simp only at hal hbl hav hbv
  have ha : Nt a := ⟨hx.lim, by omega⟩
  have hb : Nt b := ⟨hy.lim, by omega⟩
  have hle : ∀ v, v < LB ^ k → Nt (limbs v) := fun v hv => ⟨a0T _, Nat.le_trans (a0R hv) (by omega)⟩
  simp only [ZI.av, ZI.z]
  refine a0g.intro c2r c2q (by simp only [List.length_cons, List.length_nil]; omega) (Z_cl _) fun H hH => ?_
  refine Safe.seq (Safe.region ?_)
  simp only [b5v, E2, seval]
  refine Safe.seq (Safe.seq (Safe.region ?_))
  simp only [b5u, E2, seval]
  refine Safe.cond ?_
  simp only [E2, seval]
  by_cases hnm : n = m
  · subst hnm
    simp only [beq_self_eq_true, E2, seval]
    refine Safe.seq (Safe.regionD ?_)
    simp only [b5t, E2, seval]
    refine (a5J a b ha.lim hb.lim (by omega) (by omega)).dcall ?_
    try simp only [E2, seval]
    have hn : Nt (limbs (val a + val b)) := ⟨a0T _, by
      have h3 : val a + val b < LB ^ (k + 1) := by
        rw [Nat.pow_succ]
        have : LB ^ k * 2 ≤ LB ^ k * LB := Nat.mul_le_mul_left _ (by decide)
        omega
      exact Nat.le_trans (a0R h3) (by omega)⟩
    refine (a3K _ _ hn).dcall ?_
    rw [a0v, d1f]
    simp only [Z, E2, seval]
    refine Safe.retn ?_
    simp only [E2, seval]
    first | exact ⟨rfl, _, rfl⟩ | exact ⟨_, rfl⟩ | exact ⟨trivial, _, rfl⟩
  · have hnm' : (n == m) = false := by simpa using hnm
    simp only [hnm', E2, seval]
    refine Safe.skip (Safe.seq (Safe.seq (Safe.region ?_)))
    simp only [b5s, E2, seval]
    refine (a1B a b ha hb).acall ?_
    simp only [E2, seval, c3M, c3N]
    refine Safe.cond ?_
    simp only [E2, seval]
    by_cases hlt : val a < val b
    · simp only [hlt, E2, seval]
      refine Safe.region ?_
      simp only [b5r, E2, seval]
      refine Safe.seq (Safe.region ?_)
      simp only [a9k, E2, seval]
      refine (a1A b a hb ha (by omega)).acall ?_
      simp only [E2, seval]
      refine Safe.seq (Safe.region ?_)
      simp only [a9j, E2, seval]
      refine (a3K _ _ (hle (val b - val a) (by omega))).acall ?_
      rw [a0v, c8J n m _ _ hnm (by omega)]
      simp only [Z, E2, seval]
      refine Safe.retn ?_
      simp only [E2, seval]
      first | exact ⟨rfl, _, rfl⟩ | exact ⟨_, rfl⟩ | exact ⟨trivial, _, rfl⟩
    · simp only [hlt, E2, seval]
      refine Safe.skip (Safe.seq (Safe.region ?_))
      simp only [a9k, E2, seval]
      refine (a1A a b ha hb (by omega)).acall ?_
      simp only [E2, seval]
      refine Safe.seq (Safe.region ?_)
      simp only [a9j, E2, seval]
      refine (a3K _ _ (hle (val a - val b) (by omega))).acall ?_
      rw [a0v, d1d n m _ _ hnm (by omega)]
      simp only [Z, E2, seval]
      refine Safe.retn ?_
      simp only [E2, seval]
      first | exact ⟨rfl, _, rfl⟩ | exact ⟨_, rfl⟩ | exact ⟨trivial, _, rfl⟩
theorem a8j (n : Int) (h0 : -9223372036854775808 ≤ n) (h1 : n < 9223372036854775808) : a0g Pr a8g [.int .i64 n] (Z n) := by
  refine a0g.intro c4A c4z (by simp only [List.length_cons, List.length_nil]; omega) (Z_cl _) fun H hH => ?_
  have hLB : LB = 4294967296 := rfl
  refine Safe.seq (Safe.region ?_)
  simp only [b8v, E2, Nat.reduceLeDiff, Nat.reduceSub, Nat.reduceAdd, Nat.reduceEqDiff, reduceCtorEq, ↓reduceIte]
  refine Safe.seq (Safe.region ?_)
  simp only [b8u, E2, Nat.reduceLeDiff, Nat.reduceSub, Nat.reduceAdd, Nat.reduceEqDiff, reduceCtorEq, ↓reduceIte]
  refine Safe.seq (Safe.seq (Safe.region ?_))
  simp only [b8t, E2, Nat.reduceLeDiff, Nat.reduceSub, Nat.reduceAdd, Nat.reduceEqDiff, reduceCtorEq, ↓reduceIte]
  refine Safe.cond ?_
  simp only [E2, Nat.reduceLeDiff, Nat.reduceSub, Nat.reduceAdd, Nat.reduceEqDiff, reduceCtorEq, ↓reduceIte]
  have rest : ∀ (env : Env), look env 0 = .int .i64 n → look env 2 = .loc (lid H 0) 0 0 → look env 3 = .int .u64 (n.natAbs : Nat) →
      Safe ⟨Pr, fun _ _ => false, a8g, 19, [.cell 2 (some 2)], H.length⟩ [.code ((ACode.region b1S false).seq .ret)] env (hap H [some ⟨2, [.agg [.bool false, .nil]]⟩]) fun r' H' => r' = Z n ∧ ∃ L, H' = hap H L := by
    intro env e0 e2 e3
    refine Safe.seq (Safe.region ?_)
    have w1 : IntKind.wrap .u32 ((n.natAbs : Nat) : Int) = ((n.natAbs % LB : Nat) : Int) := a4j _
    have hLL : LB * LB = 18446744073709551616 := by decide
    have hdiv : n.natAbs / LB < LB := Nat.div_lt_of_lt_mul (by omega)
    have w2 : IntKind.wrap .u32 ((n.natAbs / LB : Nat) : Int) = ((n.natAbs / LB : Nat) : Int) := a3k (Int.natCast_nonneg _) (by omega)
    simp only [b1S, E2, Nat.reduceLeDiff, Nat.reduceSub, Nat.reduceAdd, Nat.reduceEqDiff, reduceCtorEq, ↓reduceIte, e0, e3, e2, w1, a3A _ _ _ (show (0 : Int) ≤ 32 by decide), d1b, w2]
    have hm := Nat.mod_lt n.natAbs (show 0 < LB by decide)
    have := a3K (decide (n < 0)) [n.natAbs % LB, n.natAbs / LB] ⟨by intro d hd; simp at hd; omega, by simp⟩
    have hv : val [n.natAbs % LB, n.natAbs / LB] = n.natAbs := by
      simp only [val]; rw [Nat.mul_zero, Nat.add_zero, Nat.mod_add_div]
    rw [hv, show sgn (decide (n < 0)) n.natAbs = n by unfold sgn; by_cases h : n < 0 <;> simp [h] <;> omega] at this
    refine a0g.acall this ?_
    simp only [Z, E2, Nat.reduceLeDiff, Nat.reduceSub, Nat.reduceAdd, Nat.reduceEqDiff, reduceCtorEq, ↓reduceIte, e2]
    refine Safe.retn ?_
    simp only [E2, Nat.reduceLeDiff, Nat.reduceSub, Nat.reduceAdd, Nat.reduceEqDiff, reduceCtorEq, ↓reduceIte, e2]
    first | exact ⟨rfl, _, rfl⟩ | exact ⟨_, rfl⟩ | exact ⟨trivial, _, rfl⟩
  by_cases hn : n < 0
  · simp only [hn, E2, Nat.reduceLeDiff, Nat.reduceSub, Nat.reduceAdd, Nat.reduceEqDiff, reduceCtorEq, ↓reduceIte]
    refine Safe.region ?_
    have w : IntKind.wrap .u64 (0 - IntKind.wrap .u64 n) = ((n.natAbs : Nat) : Int) := by rw [a0W, a0W]; omega
    simp only [b8s, E2, Nat.reduceLeDiff, Nat.reduceSub, Nat.reduceAdd, Nat.reduceEqDiff, reduceCtorEq, ↓reduceIte, w]
    exact rest _ (by simp only [E2, Nat.reduceLeDiff, Nat.reduceSub, Nat.reduceAdd, Nat.reduceEqDiff, reduceCtorEq, ↓reduceIte]) (by simp only [E2, Nat.reduceLeDiff, Nat.reduceSub, Nat.reduceAdd, Nat.reduceEqDiff, reduceCtorEq, ↓reduceIte]) (by simp only [E2, Nat.reduceLeDiff, Nat.reduceSub, Nat.reduceAdd, Nat.reduceEqDiff, reduceCtorEq, ↓reduceIte])
  · have w : IntKind.wrap .u64 n = ((n.natAbs : Nat) : Int) := by rw [a0W]; omega
    simp only [hn, E2, Nat.reduceLeDiff, Nat.reduceSub, Nat.reduceAdd, Nat.reduceEqDiff, reduceCtorEq, ↓reduceIte]
    exact Safe.skip (rest _ (by simp only [E2, Nat.reduceLeDiff, Nat.reduceSub, Nat.reduceAdd, Nat.reduceEqDiff, reduceCtorEq, ↓reduceIte]) (by simp only [E2, Nat.reduceLeDiff, Nat.reduceSub, Nat.reduceAdd, Nat.reduceEqDiff, reduceCtorEq, ↓reduceIte]) (by simp only [E2, Nat.reduceLeDiff, Nat.reduceSub, Nat.reduceAdd, Nat.reduceEqDiff, reduceCtorEq, ↓reduceIte, w]))
theorem c3W (n : Bool) (a : Nat) : (sgn n a).sign = if a = 0 then 0 else if n then -1 else 1 := by
  rcases Nat.eq_zero_or_pos a with h | h
  · subst h; simp [c3X]
  · rw [if_neg (by omega)]
    cases n
    · simp only [sgn, Bool.false_eq_true, if_false]
      exact Int.sign_eq_one_of_pos (by omega)
    · simp only [sgn, if_true]
      exact Int.sign_eq_neg_one_of_neg (by omega)
theorem c2d (n : Nat) : ((blen n : Nat) : Int) = 0 ↔ n = 0 := by
  unfold blen
  split
  · rename_i h; simp [h]
  · rename_i h; simp [h]; omega
theorem b8j (n : Nat) : (((limbs n).length : Nat) : Int) = 0 ↔ n = 0 := by
  constructor
  · intro h
    have : limbs n = [] := List.length_eq_zero_iff.1 (by omega)
    have := congrArg val this
    rwa [a0v] at this
  · intro h; rw [h, a0x]; rfl
theorem a0o (x : ZI) (hx : Zok 17592186044416 x) : a0g Pr a4a [x.av] (.int .i64 x.z.sign) := by
  obtain ⟨n, m⟩ := x
  have hm : Nt m := ⟨hx.lim, hx.len⟩
  simp only [ZI.av, ZI.z, c3W]
  refine a0g.intro c0E c0D (by simp only [List.length_cons, List.length_nil]; omega) (.int _ _) fun H hH => ?_
  refine Safe.seq (Safe.region ?_)
  simp only [b3c, E2, seval]
  refine Safe.seq (Safe.block (Safe.seq (Safe.region ?_)))
  simp only [b3b, E2, seval]
  refine (c1l m hm).acall ?_
  simp only [E2, seval, c2d]
  refine Safe.cond ?_
  simp only [E2, seval]
  by_cases h0 : val m = 0
  · simp only [h0, E2, seval]
    refine Safe.seq (Safe.region ?_)
    simp only [b3a, E2, seval]
    refine Safe.retn ?_
    simp only [E2, seval]
    first | exact ⟨rfl, _, rfl⟩ | exact ⟨_, rfl⟩ | exact ⟨trivial, _, rfl⟩
  · simp only [h0, E2, seval]
    refine Safe.seq (Safe.region ?_)
    simp only [b2Z, E2, seval]
    refine Safe.cond ?_
    simp only [E2, seval]
    cases n
    · simp only [E2, seval]
      refine Safe.skip (Safe.inBlock (Safe.seq (Safe.region ?_)))
      simp only [b2X, E2, seval]
      refine Safe.retn ?_
      simp only [E2, seval]
      first | exact ⟨rfl, _, rfl⟩ | exact ⟨_, rfl⟩ | exact ⟨trivial, _, rfl⟩
    · simp only [E2, seval]
      refine Safe.seq (Safe.region ?_)
      simp only [b2Y, E2, seval]
      refine Safe.retn ?_
      simp only [E2, seval]
      first | exact ⟨rfl, _, rfl⟩ | exact ⟨_, rfl⟩ | exact ⟨trivial, _, rfl⟩
theorem a0A (x : ZI) (hx : Zok 17592186044416 x) : a0g Pr a4J [x.av] (.int .i64 x.z.sign) := by
  obtain ⟨n, m⟩ := x
  have hm : Nt m := ⟨hx.lim, hx.len⟩
  simp only [ZI.av, ZI.z, c3W]
  refine a0g.intro b9O b9N (by simp only [List.length_cons, List.length_nil]; omega) (.int _ _) fun H hH => ?_
  refine Safe.seq (Safe.region ?_)
  simp only [b0I, E2, seval]
  refine Safe.seq (Safe.region ?_)
  simp only [b0H, E2, seval]
  refine (a6Y m hm).acall ?_
  try simp only [E2, seval]
  refine Safe.seq (Safe.block (Safe.seq (Safe.region ?_)))
  simp only [b0G, E2, seval, b8j]
  refine Safe.cond ?_
  simp only [E2, seval]
  by_cases h0 : val m = 0
  · simp only [h0, E2, seval]
    refine Safe.seq (Safe.region ?_)
    simp only [b0F, E2, seval]
    refine Safe.retn ?_
    simp only [E2, seval]
    first | exact ⟨rfl, _, rfl⟩ | exact ⟨_, rfl⟩ | exact ⟨trivial, _, rfl⟩
  · simp only [h0, E2, seval]
    refine Safe.seq (Safe.region ?_)
    simp only [b0E, E2, seval]
    refine Safe.cond ?_
    simp only [E2, seval]
    cases n
    · simp only [E2, seval]
      refine Safe.skip (Safe.inBlock (Safe.seq (Safe.region ?_)))
      simp only [b0C, E2, seval]
      refine Safe.retn ?_
      simp only [E2, seval]
      first | exact ⟨rfl, _, rfl⟩ | exact ⟨_, rfl⟩ | exact ⟨trivial, _, rfl⟩
    · simp only [E2, seval]
      refine Safe.seq (Safe.region ?_)
      simp only [b0D, E2, seval]
      refine Safe.retn ?_
      simp only [E2, seval]
      first | exact ⟨rfl, _, rfl⟩ | exact ⟨_, rfl⟩ | exact ⟨trivial, _, rfl⟩
end Go.Abs
namespace Go.Abs
theorem c8Z (x : ZI) (hx : Zok 17592186044416 x) : a0g Pr b0c [x.av] x.av := by
  obtain ⟨n, m⟩ := x
  have hm : Nt m := ⟨hx.lim, hx.len⟩
  have hml := hm.len
  simp only [ZI.av]
  refine a0g.intro c1G c1F (by simp only [List.length_cons, List.length_nil]; omega) (ZI.cl ⟨n, m⟩) fun H hH => ?_
  refine Safe.seq (Safe.region ?_)
  simp only [b4n, E2, Nat.reduceLeDiff, Nat.reduceSub, Nat.reduceAdd, Nat.reduceEqDiff, reduceCtorEq, ↓reduceIte]
  refine Safe.seq (Safe.region ?_)
  simp only [b4m, E2, Nat.reduceLeDiff, Nat.reduceSub, Nat.reduceAdd, Nat.reduceEqDiff, reduceCtorEq, ↓reduceIte]
  refine Safe.seq (Safe.region ?_)
  simp only [b4l, E2, Nat.reduceLeDiff, Nat.reduceSub, Nat.reduceAdd, Nat.reduceEqDiff, reduceCtorEq, ↓reduceIte, b7V _ _ H [some ⟨2, [.agg [.bool n, natV m]]⟩, some ⟨2, [.agg [.bool false, .nil]]⟩] m hml]
  refine Safe.seq (Safe.region ?_)
  have happ : ∀ (n0 : Nat) (env : Env), n0 ≤ lid H 2 → appV n0 1 4 false (.mu (lid H 2) 0 m.length none) (.sl 1 [.int .u32 77, .int .u32 78, .int .u32 79, .int .u32 80, .int .u32 81, .int .u32 82, .int .u32 83, .int .u32 84, .int .u32 85]) env
      (hap H [some ⟨2, [.agg [.bool n, natV m]]⟩, some ⟨2, [.agg [.bool false, .nil]]⟩, some ⟨1, u32s m⟩]) = some (.mu (lid H 2) 0 (m.length + 9) none, scrub (lid H 2) env, hap H [some ⟨2, [.agg [.bool n, natV m]]⟩, some ⟨2, [.agg [.bool false, .nil]]⟩, some ⟨1, u32s (m ++ [77, 78, 79, 80, 81, 82, 83, 84, 85])⟩]) := by
    intro n0 env hn0
    have := b7U n0 env H [some ⟨2, [.agg [.bool n, natV m]]⟩, some ⟨2, [.agg [.bool false, .nil]]⟩, some ⟨1, u32s m⟩] 2 m.length none (.sl 1 [.int .u32 77, .int .u32 78, .int .u32 79, .int .u32 80, .int .u32 81, .int .u32 82, .int .u32 83, .int .u32 84, .int .u32 85]) m [77, 78, 79, 80, 81, 82, 83, 84, 85] hH rfl rfl hn0 (a8r fun b hb a ha => by
      simp only [List.mem_cons, Option.some.injEq, List.not_mem_nil, or_false] at hb
      rcases hb with rfl | rfl | rfl
      · exact a2w (ZI.cl ⟨n, m⟩) a (by simpa [Blk.flat, ZI.av] using ha)
      · simp [Blk.flat, AV.cells] at ha; rcases ha with rfl | rfl; exact .bool _; exact .nil
      · exact a0Y m a ha) (a1L _ 1 _) (by simp; omega)
    exact this
  simp only [b4k, E2, Nat.reduceLeDiff, Nat.reduceSub, Nat.reduceAdd, Nat.reduceEqDiff, reduceCtorEq, ↓reduceIte, happ _ _ (a0V H 2)]
  refine Safe.seq (Safe.regionD ?_)
  have hslc : slcV (hap H [some ⟨2, [.agg [.bool n, natV m]]⟩, some ⟨2, [.agg [.bool false, .nil]]⟩, some ⟨1, u32s (m ++ [77, 78, 79, 80, 81, 82, 83, 84, 85])⟩]) 1 (.mu (lid H 2) 0 (m.length + 9) none) none (some (.int .i64 m.length)) none = some (.mu (lid H 2) 0 m.length none) := by
    simp only [slcV, a1I, E2, Nat.reduceLeDiff, Nat.reduceSub, Nat.reduceAdd, Nat.reduceEqDiff, reduceCtorEq, ↓reduceIte, a3X]
    rw [if_pos ⟨by omega, by omega, by omega⟩]
    simp
  simp only [b4j, E2, Nat.reduceLeDiff, Nat.reduceSub, Nat.reduceAdd, Nat.reduceEqDiff, reduceCtorEq, ↓reduceIte, hslc]
  refine Safe.freeze 2 (b := ⟨1, u32s (m ++ [77, 78, 79, 80, 81, 82, 83, 84, 85])⟩) hH rfl rfl (a0Y _) ?_
  have hf : frz (lid H 2) ⟨1, u32s (m ++ [77, 78, 79, 80, 81, 82, 83, 84, 85])⟩ (.mu (lid H 2) 0 m.length none) = natV m := by
    rw [b7I _ _ _ _ _ _ (by simp [a0w])]
    simp [natV, b5C, List.take_append, a0w]
  refine Safe.keep [2] ?_
  simp only [E2, Nat.reduceLeDiff, Nat.reduceSub, Nat.reduceAdd, Nat.reduceEqDiff, reduceCtorEq, ↓reduceIte, hf, a2q H 2 1 _ 0 0 (by decide)]
  refine Safe.retn ?_
  simp only [E2, Nat.reduceLeDiff, Nat.reduceSub, Nat.reduceAdd, Nat.reduceEqDiff, reduceCtorEq, ↓reduceIte]
  first | exact ⟨rfl, _, rfl⟩ | exact ⟨_, rfl⟩ | exact ⟨trivial, _, rfl⟩
theorem b0U (v : List ZI) (hv : Vok 17592186044416 v) : a0g Pr a2P [vecV v] (vecV v) := by
  have hvl := hv.len
  refine a0g.intro c0l c0k (by simp only [List.length_cons, List.length_nil]; omega) (a0n v) fun H hH => ?_
  refine Safe.seq (Safe.region ?_)
  simp only [b1v, E3, seval]
  refine Safe.seq (Safe.region ?_)
  simp only [b1u, E3, seval]
  refine Safe.seq (Safe.seq (Safe.region ?_))
  simp only [b1t, E3, seval]
  refine Safe.nilrow 3 2 (by decide) (by simp only [E3, seval]) ?_
  refine Safe.block (Safe.loop ?_)
  have key : ∀ (k i : Nat), i + k = v.length → Safe ⟨Pr, fun _ _ => false, a2P, 20, [.tmp 2], H.length⟩ [.inLoop b1w, .inBlock 0, .code ((ACode.region a5V false).seq .ret)]
      [(0, vecV v), (3, .mu (lid H 0) 0 (v.take i).length none), (4, .int .i64 i)] (hap H [some ⟨2, (v.take i).map ZI.av⟩]) fun r' H' => r' = vecV v ∧ ∃ L, H' = hap H L := by
    intro k
    induction k with
    | zero =>
      intro i hi
      have hi' : i = v.length := by omega
      subst hi'
      refine Safe.inLoop (Safe.seq (Safe.seq (Safe.region ?_)))
      simp only [a5W, E3, seval, Int.lt_irrefl]
      refine Safe.cond ?_
      simp only [E3, seval]
      refine Safe.exit rfl ?_
      rw [List.take_length]
      refine Safe.freeze 0 (b := ⟨2, v.map ZI.av⟩) hH rfl rfl (a1d 2 ZI.av v ZI.cl) ?_
      refine Safe.seq (Safe.region ?_)
      simp only [a5V, E3, seval, a5k]
      refine Safe.retn ?_
      simp only [E3, seval]
      first | exact ⟨rfl, _, rfl⟩ | exact ⟨_, rfl⟩ | exact ⟨trivial, _, rfl⟩
    | succ k ih =>
      intro i hi
      refine Safe.inLoop (Safe.seq (Safe.seq (Safe.region ?_)))
      have hlt : (i : Int) < (v.length : Int) := by omega
      simp only [a5W, E3, seval, hlt]
      refine Safe.cond ?_
      simp only [E3, seval]
      refine Safe.skip (Safe.seq (Safe.block (Safe.region ?_)))
      simp only [b1s, E3, seval, a0I _ v _ i (by omega)]
      refine (c8Z v[i] (hv.get (by omega))).acall ?_
      have hl : (v.take i).length = i := by rw [List.length_take]; omega
      simp only [E3, seval, c0B H hH _ (a0V H 0) _ 2 32 ZI.av ZI.cl (v.take i) v[i] (by omega) (by omega), b5b, b5j]
      refine Safe.inBlock (Safe.region ?_)
      have hiw : IntKind.wrap .i64 ((i : Int) + 1) = ((i + 1 : Nat) : Int) := by rw [a0e] <;> omega
      simp only [b1r, E3, seval, hiw]
      refine Safe.keep [0, 3, 4] ?_
      simp only [E3, seval]
      have := ih (i + 1) (by omega)
      rw [List.take_succ_eq_append_getElem (by omega)] at this
      simpa only [List.length_append, List.length_cons, List.length_nil] using this
  refine Safe.keep [0, 3, 4] ?_
  simp only [E3, seval]
  exact key v.length 0 (by omega)
theorem b5R (v : List (List ZI)) (hv : Mok 17592186044416 v) : a0g Pr a4L [matV v] (matV v) := by
  have hvl := hv.len
  refine a0g.intro c0n c0m (by simp only [List.length_cons, List.length_nil]; omega) (a1Y v) fun H hH => ?_
  refine Safe.seq (Safe.region ?_)
  simp only [b1B, E3, seval]
  refine Safe.seq (Safe.region ?_)
  simp only [b1A, E3, seval]
  refine Safe.seq (Safe.seq (Safe.region ?_))
  simp only [b1z, E3, seval]
  refine Safe.nilrow 3 1 (by decide) (by simp only [E3, seval]) ?_
  refine Safe.block (Safe.loop ?_)
  have key : ∀ (k i : Nat), i + k = v.length → Safe ⟨Pr, fun _ _ => false, a4L, 20, [.tmp 2], H.length⟩ [.inLoop b1C, .inBlock 0, .code ((ACode.region a5X false).seq .ret)]
      [(0, matV v), (3, .mu (lid H 0) 0 (v.take i).length none), (4, .int .i64 i)] (hap H [some ⟨1, (v.take i).map vecV⟩]) fun r' H' => r' = matV v ∧ ∃ L, H' = hap H L := by
    intro k
    induction k with
    | zero =>
      intro i hi
      have hi' : i = v.length := by omega
      subst hi'
      refine Safe.inLoop (Safe.seq (Safe.seq (Safe.region ?_)))
      simp only [a5Y, E3, seval, Int.lt_irrefl]
      refine Safe.cond ?_
      simp only [E3, seval]
      refine Safe.exit rfl ?_
      rw [List.take_length]
      refine Safe.freeze 0 (b := ⟨1, v.map vecV⟩) hH rfl rfl (a1d 1 vecV v a0n) ?_
      refine Safe.seq (Safe.region ?_)
      simp only [a5X, E3, seval, a5k]
      refine Safe.retn ?_
      simp only [E3, seval]
      first | exact ⟨rfl, _, rfl⟩ | exact ⟨_, rfl⟩ | exact ⟨trivial, _, rfl⟩
    | succ k ih =>
      intro i hi
      refine Safe.inLoop (Safe.seq (Safe.seq (Safe.region ?_)))
      have hlt : (i : Int) < (v.length : Int) := by omega
      simp only [a5Y, E3, seval, hlt]
      refine Safe.cond ?_
      simp only [E3, seval]
      refine Safe.skip (Safe.seq (Safe.block (Safe.region ?_)))
      simp only [b1y, E3, seval, a1o _ v _ i (by omega)]
      refine (b0U v[i] (hv.get (by omega))).acall ?_
      have hl : (v.take i).length = i := by rw [List.length_take]; omega
      simp only [E3, seval, c0B H hH _ (a0V H 0) _ 1 24 vecV a0n (v.take i) v[i] (by omega) (by omega), b5b, b5j]
      refine Safe.inBlock (Safe.region ?_)
      have hiw : IntKind.wrap .i64 ((i : Int) + 1) = ((i + 1 : Nat) : Int) := by rw [a0e] <;> omega
      simp only [b1x, E3, seval, hiw]
      refine Safe.keep [0, 3, 4] ?_
      simp only [E3, seval]
      have := ih (i + 1) (by omega)
      rw [List.take_succ_eq_append_getElem (by omega)] at this
      simpa only [List.length_append, List.length_cons, List.length_nil] using this
  refine Safe.keep [0, 3, 4] ?_
  simp only [E3, seval]
  exact key v.length 0 (by omega)
/-- Numbers in their one form. -/
def cans (v : List Int) : List ZI := v.map canZ
theorem b8x (k : ZI) (v : List ZI) (p q : Nat) (hk : Zok p k) (hv : Vok q v) (hpq : p + q ≤ 17592186044416) : a0g Pr a1e [k.av, vecV v] (vecV (cans (v.map fun x => k.z * x.z))) := by
  have hvl := hv.len
  obtain ⟨kn, km⟩ := k
  simp only [ZI.av]
  refine a0g.intro b8b b8a (by simp only [List.length_cons, List.length_nil]; omega) (a0n _) fun H hH => ?_
  refine Safe.seq (Safe.region ?_)
  simp only [a8L, E3, seval]
  refine Safe.seq (Safe.region ?_)
  simp only [a8K, E3, seval]
  refine Safe.seq (Safe.seq (Safe.region ?_))
  simp only [a8J, E3, seval]
  refine Safe.nilrow 5 2 (by decide) (by simp only [E3, seval]) ?_
  refine Safe.block (Safe.loop ?_)
  have key : ∀ (m i : Nat), i + m = v.length → Safe ⟨Pr, fun _ _ => false, a1e, 23, [.tmp 4], H.length⟩ [.inLoop a8M, .inBlock 0, .code ((ACode.region a4N false).seq .ret)]
      [(1, vecV v), (2, .loc (lid H 0) 0 0), (5, .mu (lid H 1) 0 (cans ((v.take i).map fun x => (ZI.mk kn km).z * x.z)).length none), (6, .int .i64 i)] (hap H [some ⟨2, [.agg [.bool kn, natV km]]⟩, some ⟨2, (cans ((v.take i).map fun x => (ZI.mk kn km).z * x.z)).map ZI.av⟩])
        fun r' H' => r' = vecV (cans (v.map fun x => (ZI.mk kn km).z * x.z)) ∧ ∃ L, H' = hap H L := by
    intro m
    induction m with
    | zero =>
      intro i hi
      have hi' : i = v.length := by omega
      subst hi'
      refine Safe.inLoop (Safe.seq (Safe.seq (Safe.region ?_)))
      simp only [a4O, E3, seval, Int.lt_irrefl]
      refine Safe.cond ?_
      simp only [E3, seval]
      refine Safe.exit rfl ?_
      rw [List.take_length]
      refine Safe.freeze 1 (b := ⟨2, (cans (v.map fun x => (ZI.mk kn km).z * x.z)).map ZI.av⟩) hH rfl rfl (a1d 2 ZI.av _ ZI.cl) ?_
      refine Safe.keep [5] ?_
      simp only [E3, seval, a5k]
      refine Safe.seq (Safe.region ?_)
      simp only [a4N, E3, seval]
      refine Safe.retn ?_
      simp only [E3, seval]
      first | exact ⟨rfl, _, rfl⟩ | exact ⟨_, rfl⟩ | exact ⟨trivial, _, rfl⟩
    | succ m ih =>
      intro i hi
      refine Safe.inLoop (Safe.seq (Safe.seq (Safe.region ?_)))
      have hlt : (i : Int) < (v.length : Int) := by omega
      simp only [a4O, E3, seval, hlt]
      refine Safe.cond ?_
      simp only [E3, seval]
      refine Safe.skip (Safe.seq (Safe.block (Safe.regionD ?_)))
      simp only [a8I, E3, seval, a0I _ v _ i (by omega)]
      refine (c4Y ⟨kn, km⟩ v[i] p q hk (hv.get (by omega)) hpq).dcall ?_
      have hl : (cans ((v.take i).map fun x => (ZI.mk kn km).z * x.z)).length = i := by simp [cans]; omega
      have happ := fun env => c8o H hH [some ⟨2, [.agg [.bool kn, natV km]]⟩, some ⟨2, (cans ((v.take i).map fun x => (ZI.mk kn km).z * x.z)).map ZI.av⟩] 1 _ (a0V H 1) env 2 32 ZI.av ZI.cl (cans ((v.take i).map fun x => (ZI.mk kn km).z * x.z)) (canZ ((ZI.mk kn km).z * v[i].z)) rfl (by
        intro b hb
        simp only [List.mem_cons, Option.some.injEq, List.not_mem_nil, or_false] at hb
        rcases hb with rfl | rfl
        · exact fun a ha => a2w (ZI.cl ⟨kn, km⟩) a (by simpa [Blk.flat, ZI.av] using ha)
        · exact a1d 2 ZI.av _ ZI.cl) (by omega) (by omega)
      rw [b2D] at happ
      simp only [E3, seval, happ, b5b, b5j]
      refine Safe.inBlock (Safe.region ?_)
      have hiw : IntKind.wrap .i64 ((i : Int) + 1) = ((i + 1 : Nat) : Int) := by rw [a0e] <;> omega
      simp only [a8H, E3, seval, hiw]
      refine Safe.keep [1, 2, 5, 6] ?_
      simp only [E3, seval]
      have := ih (i + 1) (by omega)
      rw [List.take_succ_eq_append_getElem (by omega), List.map_append] at this
      simpa only [cans, List.map_append, List.map_cons, List.map_nil, List.length_append, List.length_cons, List.length_nil] using this
  refine Safe.keep [1, 2, 5, 6] ?_
  simp only [E3, seval]
  exact key v.length 0 (by omega)
theorem d3n : a0g Pr a3y [.int .i64 1] (canZ 1).av := a1N 1 (by omega) (by omega)
theorem c5Z {z : Int} (h : z.natAbs < 4294967296) : Zok 1 (canZ z) := a6C (by simpa using h)
theorem c0U (b : List (List ZI)) (hb : Mok 17592186044415 b) : a0g Pr a2N [matV b] (matV (b.map fun v => cans (v.map ZI.z))) := by
  have hbl := hb.len
  refine a0g.intro b9K b9J (by simp only [List.length_cons, List.length_nil]; omega) (a1Y _) fun H hH => ?_
  refine Safe.seq (Safe.region ?_)
  simp only [b0y, E3, seval]
  refine Safe.seq (Safe.region ?_)
  simp only [b0x, E3, seval]
  refine Safe.seq (Safe.seq (Safe.region ?_))
  simp only [b0w, E3, seval]
  refine Safe.nilrow 3 1 (by decide) (by simp only [E3, seval]) ?_
  refine Safe.block (Safe.loop ?_)
  have key : ∀ (m i : Nat), i + m = b.length → Safe ⟨Pr, fun _ _ => false, a2N, 21, [.tmp 2], H.length⟩ [.inLoop b0z, .inBlock 0, .code ((ACode.region a5B false).seq .ret)]
      [(0, matV b), (3, .mu (lid H 0) 0 ((b.take i).map fun v => cans (v.map ZI.z)).length none), (4, .int .i64 i)] (hap H [some ⟨1, ((b.take i).map fun v => cans (v.map ZI.z)).map vecV⟩])
        fun r' H' => r' = matV (b.map fun v => cans (v.map ZI.z)) ∧ ∃ L, H' = hap H L := by
    intro m
    induction m with
    | zero =>
      intro i hi
      have hi' : i = b.length := by omega
      subst hi'
      refine Safe.inLoop (Safe.seq (Safe.seq (Safe.region ?_)))
      simp only [a5C, E3, seval, Int.lt_irrefl]
      refine Safe.cond ?_
      simp only [E3, seval]
      refine Safe.exit rfl ?_
      rw [List.take_length]
      refine Safe.freeze 0 (b := ⟨1, (b.map fun v => cans (v.map ZI.z)).map vecV⟩) hH rfl rfl (a1d 1 vecV _ a0n) ?_
      refine Safe.keep [3] ?_
      simp only [E3, seval, a5k]
      refine Safe.seq (Safe.region ?_)
      simp only [a5B, E3, seval]
      refine Safe.retn ?_
      simp only [E3, seval]
      first | exact ⟨rfl, _, rfl⟩ | exact ⟨_, rfl⟩ | exact ⟨trivial, _, rfl⟩
    | succ m ih =>
      intro i hi
      refine Safe.inLoop (Safe.seq (Safe.seq (Safe.region ?_)))
      have hlt : (i : Int) < (b.length : Int) := by omega
      simp only [a5C, E3, seval, hlt]
      refine Safe.cond ?_
      simp only [E3, seval]
      refine Safe.skip (Safe.seq (Safe.block (Safe.regionD ?_)))
      simp only [b0v, E3, seval, a1o _ b _ i (by omega)]
      refine d3n.dcall ?_
      try simp only [E3, seval, a1o _ b _ i (show i < b.length by omega)]
      have ht := b8x (canZ 1) b[i] 1 17592186044415 (c5Z (by decide)) (hb.get (by omega)) (by omega)
      have he : (b[i].map fun x => (canZ 1).z * x.z) = b[i].map ZI.z := List.map_congr_left fun x _ => by rw [c2a, Int.one_mul]
      rw [he] at ht
      refine ht.dcall ?_
      have hl : ((b.take i).map fun v => cans (v.map ZI.z)).length = i := by simp; omega
      simp only [E3, seval, c0B H hH _ (a0V H 0) _ 1 24 vecV a0n ((b.take i).map fun v => cans (v.map ZI.z)) (cans (b[i].map ZI.z)) (by omega) (by omega)]
      refine Safe.inBlock (Safe.region ?_)
      have hiw : IntKind.wrap .i64 ((i : Int) + 1) = ((i + 1 : Nat) : Int) := by rw [a0e] <;> omega
      simp only [b0u, E3, seval, hiw]
      refine Safe.keep [0, 3, 4] ?_
      simp only [E3, seval]
      have := ih (i + 1) (by omega)
      rw [List.take_succ_eq_append_getElem (by omega), List.map_append] at this
      simpa only [List.map_cons, List.map_nil, List.length_append, List.length_cons, List.length_nil] using this
  refine Safe.keep [0, 3, 4] ?_
  simp only [E3, seval]
  exact key b.length 0 (by omega)
end Go.Abs
namespace Go.Abs
theorem c3K (x : ZI) (hx : Zok 17592186044416 x) : a0g Pr b2Q [x.av, x.av] (.bool true) := by
  obtain ⟨n, m⟩ := x
  have hml : m.length ≤ 17592186044416 := hx.len
  simp only [ZI.av]
  refine a0g.intro c3B c3z (Nat.le_of_ble_eq_true rfl) (.bool _) fun H hH => ?_
  refine Safe.rg rfl ?_
  simp only [b7E, E3, seval]
  refine Safe.rg rfl ?_
  simp only [b7D, beq_self_eq_true, E3, seval]
  refine Safe.cd rfl ?_
  simp only [E3, seval]
  refine Safe.rg rfl ?_
  simp only [b7C, E3, seval]
  refine Safe.lp rfl ?_
  refine Safe.keep [2, 3, 5] ?_
  try simp only [E3, seval]
  refine Safe.loopN (m.length) (fun i => [(2, .loc (lid H 0) 0 0), (3, .loc (lid H 1) 0 0), (5, .int .i64 i)]) (fun i => hap H [some ⟨2, [.agg [.bool n, natV m]]⟩, some ⟨2, [.agg [.bool n, natV m]]⟩]) rfl rfl (fun i hi ih => ?_) ?_
  · have hlt : (i : Int) < (m.length : Int) := by omega
    have hiw : IntKind.wrap .i64 ((i : Int) + 1) = ((i + 1 : Nat) : Int) := by rw [a0e] <;> omega
    refine Safe.inLoop ?_
    refine Safe.rg rfl ?_
    simp only [a9W, hlt, E3, seval]
    refine Safe.cd rfl ?_
    simp only [E3, seval]
    refine Safe.rg rfl ?_
    simp only [b7B, a0L _ m _ i (by omega), E3, seval]
    refine Safe.cd rfl ?_
    simp only [E3, seval]
    refine Safe.rg rfl ?_
    simp only [b7A, hiw, E3, seval]
    refine Safe.keep [2, 3, 5] ?_
    simp only [E3, seval]
    exact ih
  · refine Safe.inLoop ?_
    refine Safe.rg rfl ?_
    simp only [a9W, Int.lt_irrefl, E3, seval]
    refine Safe.cd rfl ?_
    simp only [E3, seval]
    refine Safe.rg rfl ?_
    simp only [b7z, E3, seval]
    refine Safe.rt rfl ?_
    simp only [E3, seval]
    first | exact ⟨rfl, _, rfl⟩ | exact ⟨_, rfl⟩ | exact ⟨trivial, _, rfl⟩
theorem c7P (g : FuncId) (caps : List AV) (v : List ZI) (f : Nat → Int) (hv : v.length ≤ 2097152) (hc : ∀ c ∈ caps, Cl c) (hf : ∀ (i : Nat) (h : i < v.length), a0g Pr g (v[i].av :: caps) (Z (f i))) : a0g Pr a0t [vecV v, .fn g caps] (vecV (vec v.length f)) := by
  have hcl : ∀ id, caps.all (nref id) = true := fun id => List.all_eq_true.2 fun c h => a1n (hc c h)
  refine a0g.intro b6L b6J (Nat.le_of_ble_eq_true rfl) (a0n _) fun H hH => ?_
  refine Safe.rg rfl ?_
  simp only [a7x, E3, seval]
  refine Safe.rg rfl ?_
  simp only [a7w, a3p _ _ 2 32 _ _ _ v.length (by decide) (by omega) (by omega), E3, seval]
  refine Safe.rg rfl ?_
  simp only [a7v, E3, seval]
  refine Safe.lp rfl ?_
  refine Safe.keep [1, 5, 11, 12, 13] ?_
  try simp only [E3, seval]
  refine Safe.loopN (v.length) (fun i => [(1, .fn g caps), (5, .mu (lid H 0) 0 i (some v.length)), (11, vecV v), (12, .int .i64 v.length), (13, .int .i64 i)]) (fun i => hap H [some ⟨2, (vec i f).map ZI.av⟩]) rfl rfl (fun i hi ih => ?_) ?_
  · have hlt : (i : Int) < (v.length : Int) := by omega
    have hiw : IntKind.wrap .i64 ((i : Int) + 1) = ((i + 1 : Nat) : Int) := by rw [a0e] <;> omega
    refine Safe.inLoop ?_
    refine Safe.rg rfl ?_
    simp only [a3H, hlt, E3, seval]
    refine Safe.cd rfl ?_
    simp only [E3, seval]
    refine Safe.rg rfl ?_
    simp only [a7u, a0I _ v _ i (by omega), E3, seval]
    refine Safe.rg rfl ?_
    simp only [a7t, E3, seval]
    first | refine (hf i hi).acall ?_ | refine (hf i hi).dcall ?_ | refine (hf i hi).dgcall ?_
    try simp only [E3, seval]
    rw [b1P (H := H) 0 (a0V H 0) (f := ZI.av) (vec i f) (canZ (f i)) (vec (i + 1) f) ?hlen ?hl ?hy ?hl2 ?hc]
    case hlen => first | rfl | (simp only [a0l, a0m, List.length_map, List.length_take]; done) | (simp only [a0l, a0m, List.length_map, List.length_take]; omega)
    case hl => rfl
    case hy => rfl
    case hl2 => first | exact a8k _ _ | exact a8q _ _ | exact a5c _ (by omega) | exact a1E _ _ (by omega)
    case hc => omega
    simp only [hcl, E3, seval]
    refine Safe.rg rfl ?_
    simp only [a7s, hiw, E3, seval]
    refine Safe.keep [1, 5, 11, 12, 13] ?_
    simp only [E3, seval]
    refine Safe.drop1 hH rfl (by simp only [List.all_cons, List.all_nil, hcl, E3, seval]) (by repeat (first | exact RC.nil | refine RC.none ?_ | refine RC.mo ?_ | refine RC.io ?_ | refine RC.row ZI.cl ?_ | refine RC.cons (a0Y _) ?_ | refine RC.row a0n ?_ | refine RC.emp ?_ | refine RC.zero ?_ | refine RC.one (Z_cl _) ?_ | refine RC.one (ZI.cl _) ?_ | refine RC.one (a0n _) ?_)) ?_
    exact ih
  · refine Safe.inLoop ?_
    refine Safe.rg rfl ?_
    simp only [a3H, Int.lt_irrefl, E3, seval]
    refine Safe.cd rfl ?_
    simp only [E3, seval]
    refine Safe.freeze 0 hH rfl rfl (a1d 2 ZI.av _ ZI.cl) ?_
    refine Safe.keep [5] ?_
    simp only [a9X 0 2 ZI.av (vec v.length f) v.length (some v.length) (a0l _ _).symm, E3, seval]
    refine Safe.rg rfl ?_
    simp only [a7r, E3, seval]
    refine Safe.rt rfl ?_
    simp only [E3, seval]
    first | exact ⟨rfl, _, rfl⟩ | exact ⟨_, rfl⟩ | exact ⟨trivial, _, rfl⟩
theorem d2l (g : FuncId) (caps : List AV) (v : List (List ZI)) (f : Nat → List ZI) (hv : v.length ≤ 2097152) (hc : ∀ c ∈ caps, Cl c) (hf : ∀ (i : Nat) (h : i < v.length), a0g Pr g (vecV v[i] :: caps) (vecV (f i))) : a0g Pr a1l [matV v, .fn g caps] (matV (mat v.length f)) := by
  have hcl : ∀ id, caps.all (nref id) = true := fun id => List.all_eq_true.2 fun c h => a1n (hc c h)
  refine a0g.intro b6G b6E (Nat.le_of_ble_eq_true rfl) (a1Y _) fun H hH => ?_
  refine Safe.rg rfl ?_
  simp only [a7q, E3, seval]
  refine Safe.rg rfl ?_
  simp only [a7p, a3p _ _ 1 24 _ _ _ v.length (by decide) (by omega) (by omega), E3, seval]
  refine Safe.rg rfl ?_
  simp only [a7o, E3, seval]
  refine Safe.lp rfl ?_
  refine Safe.keep [1, 5, 11, 12, 13] ?_
  try simp only [E3, seval]
  refine Safe.loopN (v.length) (fun i => [(1, .fn g caps), (5, .mu (lid H 0) 0 i (some v.length)), (11, matV v), (12, .int .i64 v.length), (13, .int .i64 i)]) (fun i => hap H [some ⟨1, (mat i f).map vecV⟩]) rfl rfl (fun i hi ih => ?_) ?_
  · have hlt : (i : Int) < (v.length : Int) := by omega
    have hiw : IntKind.wrap .i64 ((i : Int) + 1) = ((i + 1 : Nat) : Int) := by rw [a0e] <;> omega
    refine Safe.inLoop ?_
    refine Safe.rg rfl ?_
    simp only [a3G, hlt, E3, seval]
    refine Safe.cd rfl ?_
    simp only [E3, seval]
    refine Safe.rg rfl ?_
    simp only [a7n, a1o _ v _ i (by omega), E3, seval]
    refine Safe.rg rfl ?_
    simp only [a7m, E3, seval]
    first | refine (hf i hi).acall ?_ | refine (hf i hi).dcall ?_ | refine (hf i hi).dgcall ?_
    try simp only [E3, seval]
    rw [b1P (H := H) 0 (a0V H 0) (f := vecV) (mat i f) (f i) (mat (i + 1) f) ?hlen ?hl ?hy ?hl2 ?hc]
    case hlen => first | rfl | (simp only [a0l, a0m, List.length_map, List.length_take]; done) | (simp only [a0l, a0m, List.length_map, List.length_take]; omega)
    case hl => rfl
    case hy => rfl
    case hl2 => first | exact a8k _ _ | exact a8q _ _ | exact a5c _ (by omega) | exact a1E _ _ (by omega)
    case hc => omega
    simp only [hcl, E3, seval]
    refine Safe.rg rfl ?_
    simp only [a7l, hiw, E3, seval]
    refine Safe.keep [1, 5, 11, 12, 13] ?_
    simp only [E3, seval]
    exact ih
  · refine Safe.inLoop ?_
    refine Safe.rg rfl ?_
    simp only [a3G, Int.lt_irrefl, E3, seval]
    refine Safe.cd rfl ?_
    simp only [E3, seval]
    refine Safe.freeze 0 hH rfl rfl (a1d 1 vecV _ a0n) ?_
    refine Safe.keep [5] ?_
    simp only [a9X 0 1 vecV (mat v.length f) v.length (some v.length) (a0m _ _).symm, E3, seval]
    refine Safe.rg rfl ?_
    simp only [a7k, E3, seval]
    refine Safe.rt rfl ?_
    simp only [E3, seval]
    first | exact ⟨rfl, _, rfl⟩ | exact ⟨_, rfl⟩ | exact ⟨trivial, _, rfl⟩
section
variable {a b : Int} {k l : Nat} (ha : a.natAbs < LB ^ k)
include ha
theorem b9q (hb : b.natAbs < LB ^ k) (hk : k < 17592186044416) : a0g Pr a1j [Z a, Z b] (Z (a + b)) := by
  have := c6f (canZ a) (canZ b) k (a6C ha) (a6C hb) hk
  rwa [c2a, c2a] at this
end
section
variable (u v : List ZI) {p : Nat} {i : Nat} (hu : Vok p u) (hv : Vok p v) (hp : p + p ≤ 17592186044416) (hi : i < u.length) (hj : i < v.length)
include hu hv hp
theorem b1R : a0g Pr a2y [u[i].av, v[i].av] (Z (zg u i * zg v i)) := by
  have := c6c u[i] v[i] p p (hu.get hi) (hv.get hj) hp
  rwa [← a4M hi, ← a4M hj] at this
end
theorem a5g {u v : List ZI} {p : Nat} (hu : Vok p u) (hv : Vok p v) (i : Nat) : (zg u i * zg v i).natAbs < LB ^ (p + p) := d1H (hu.abs i) (hv.abs i)
theorem c0t {u v : List ZI} {p : Nat} (hu : Vok p u) (hv : Vok p v) {i : Nat} (hi : i ≤ u.length) : (b9x (fun i => zg u i * zg v i) i).natAbs < LB ^ (p + p + 2) :=
  c6t (Nat.le_trans hi hu.len) fun j _ => a5g hu hv j
theorem b7O {a b : AV} (ha : Cl a) (hb : Cl b) : Cl (.tup [a, b]) := .tup _ (by
  intro c hc
  simp only [List.mem_cons, List.not_mem_nil, or_false] at hc
  rcases hc with rfl | rfl
  · exact ha
  · exact hb)
theorem d2y {a b d : AV} (ha : Cl a) (hb : Cl b) (hd : Cl d) : Cl (.tup [a, b, d]) := .tup _ (by
  intro c hc
  simp only [List.mem_cons, List.not_mem_nil, or_false] at hc
  rcases hc with rfl | rfl | rfl
  · exact ha
  · exact hb
  · exact hd)
theorem c7X {a : AV} (ha : Cl a) : ∀ c ∈ [a], Cl c := by
  intro c hc
  simp only [List.mem_cons, List.not_mem_nil, or_false] at hc
  subst hc; exact ha
theorem Le.nilmat : Le .nil (matV []) := Le.nil 1 (by decide)
theorem b7R (v : List ZI) (f : Int → Int) : cans (v.map fun x => f x.z) = vec v.length fun i => f (zg v i) := by
  apply List.ext_getElem
  · simp [cans, a0l]
  · intro i h1 h2
    simp only [cans, List.getElem_map, b9u]
    rw [a4M (by simpa [a0l] using h2)]
theorem c4W (k : ZI) (v : List ZI) (p q : Nat) (hk : Zok p k) (hv : Vok q v) (hpq : p + q ≤ 17592186044416) : a0g Pr a1e [k.av, vecV v] (vecV (vec v.length fun i => k.z * zg v i)) := by
  have := b8x k v p q hk hv hpq
  rwa [b7R v fun x => k.z * x] at this
theorem a3r (v : List ZI) (hv : Vok 17592186044416 v) : a0g Pr a4e [vecV v, vecV v] (.bool true) := by
  have hvl := hv.len
  refine a0g.intro c1L c1J (Nat.le_of_ble_eq_true rfl) (.bool _) fun H hH => ?_
  refine Safe.rg rfl ?_
  simp only [b4t, E3, seval]
  refine Safe.rg rfl ?_
  simp only [b4s, E3, seval]
  refine Safe.cd rfl ?_
  simp only [E3, seval]
  refine Safe.rg rfl ?_
  simp only [b4r, E3, seval]
  refine Safe.lp rfl ?_
  refine Safe.keep [0, 1, 5] ?_
  try simp only [E3, seval]
  refine Safe.loopN (v.length) (fun i => [(0, vecV v), (1, vecV v), (5, .int .i64 i)]) (fun i => hap H []) rfl rfl (fun i hi ih => ?_) ?_
  · have hlt : (i : Int) < (v.length : Int) := by omega
    have hiw : IntKind.wrap .i64 ((i : Int) + 1) = ((i + 1 : Nat) : Int) := by rw [a0e] <;> omega
    refine Safe.inLoop ?_
    refine Safe.rg rfl ?_
    simp only [a7T, hlt, E3, seval]
    refine Safe.cd rfl ?_
    simp only [E3, seval]
    refine Safe.rg rfl ?_
    simp only [b4q, a0I _ v _ i (by omega), E3, seval]
    first | refine (c3K v[i] (hv.get hi)).acall ?_ | refine (c3K v[i] (hv.get hi)).dcall ?_ | refine (c3K v[i] (hv.get hi)).dgcall ?_
    try simp only [E3, seval]
    refine Safe.cd rfl ?_
    simp only [E3, seval]
    refine Safe.rg rfl ?_
    simp only [b4p, hiw, E3, seval]
    refine Safe.keep [0, 1, 5] ?_
    simp only [E3, seval]
    exact ih
  · refine Safe.inLoop ?_
    refine Safe.rg rfl ?_
    simp only [a7T, Int.lt_irrefl, E3, seval]
    refine Safe.cd rfl ?_
    simp only [E3, seval]
    refine Safe.rg rfl ?_
    simp only [b4o, E3, seval]
    refine Safe.rt rfl ?_
    simp only [E3, seval]
    first | exact ⟨rfl, _, rfl⟩ | exact ⟨_, rfl⟩ | exact ⟨trivial, _, rfl⟩
theorem a3s (v : List (List ZI)) (hv : Mok 17592186044416 v) : a0g Pr a4f [matV v, matV v] (.bool true) := by
  have hvl := hv.len
  refine a0g.intro c1Q c1O (Nat.le_of_ble_eq_true rfl) (.bool _) fun H hH => ?_
  refine Safe.rg rfl ?_
  simp only [b4z, E3, seval]
  refine Safe.rg rfl ?_
  simp only [b4y, E3, seval]
  refine Safe.cd rfl ?_
  simp only [E3, seval]
  refine Safe.rg rfl ?_
  simp only [b4x, E3, seval]
  refine Safe.lp rfl ?_
  refine Safe.keep [0, 1, 5] ?_
  try simp only [E3, seval]
  refine Safe.loopN (v.length) (fun i => [(0, matV v), (1, matV v), (5, .int .i64 i)]) (fun i => hap H []) rfl rfl (fun i hi ih => ?_) ?_
  · have hlt : (i : Int) < (v.length : Int) := by omega
    have hiw : IntKind.wrap .i64 ((i : Int) + 1) = ((i + 1 : Nat) : Int) := by rw [a0e] <;> omega
    refine Safe.inLoop ?_
    refine Safe.rg rfl ?_
    simp only [a7U, hlt, E3, seval]
    refine Safe.cd rfl ?_
    simp only [E3, seval]
    refine Safe.rg rfl ?_
    simp only [b4w, a1o _ v _ i (by omega), E3, seval]
    first | refine (a3r v[i] (hv.get hi)).acall ?_ | refine (a3r v[i] (hv.get hi)).dcall ?_ | refine (a3r v[i] (hv.get hi)).dgcall ?_
    try simp only [E3, seval]
    refine Safe.cd rfl ?_
    simp only [E3, seval]
    refine Safe.rg rfl ?_
    simp only [b4v, hiw, E3, seval]
    refine Safe.keep [0, 1, 5] ?_
    simp only [E3, seval]
    exact ih
  · refine Safe.inLoop ?_
    refine Safe.rg rfl ?_
    simp only [a7U, Int.lt_irrefl, E3, seval]
    refine Safe.cd rfl ?_
    simp only [E3, seval]
    refine Safe.rg rfl ?_
    simp only [b4u, E3, seval]
    refine Safe.rt rfl ?_
    simp only [E3, seval]
    first | exact ⟨rfl, _, rfl⟩ | exact ⟨_, rfl⟩ | exact ⟨trivial, _, rfl⟩
end Go.Abs
namespace Go.Abs
theorem b0i {z : Int} (h : z = 0) : z.sign = 0 := by rw [h]; rfl
theorem c6D {z : Int} (h : z ≠ 0) : ¬ z.sign = 0 := fun e => h (Int.sign_eq_zero_iff_zero.1 e)
theorem a6S (z : Int) : (z.sign < 0) = (z < 0) := by
  rw [eq_iff_iff]
  rcases Int.lt_trichotomy z 0 with h | h | h
  · rw [Int.sign_eq_neg_one_of_neg h]; simp [h]
  · rw [h]; simp
  · rw [Int.sign_eq_one_of_pos h]; constructor <;> intro <;> omega
theorem a3w (v : List ZI) (hv : Vok 17592186044416 v) : a0g Pr b2O [vecV v] (.int .i64 (c5J v)) := by
  have hvl := hv.len
  refine a0g.intro c3q c3o (Nat.le_of_ble_eq_true rfl) (.int _ _) fun H hH => ?_
  refine Safe.rg rfl ?_
  simp only [b7l, E3, seval]
  refine Safe.rg rfl ?_
  simp only [b7k, E3, seval]
  rcases a3x v with ⟨m, hm, h0, hz, hl, _⟩ | ⟨hz, hl, _⟩
  · rw [hl]
    refine Safe.lp rfl ?_
    refine Safe.keep [5, 6, 7] ?_
    try simp only [E3, seval]
    refine Safe.loopN (m) (fun i => [(5, vecV v), (6, .int .i64 v.length), (7, .int .i64 i)]) (fun i => hap H []) rfl rfl (fun i hi ih => ?_) ?_
    · have hlt : (i : Int) < (v.length : Int) := by omega
      have hs : v[i].z.sign = 0 := b0i (by rw [← a4M (by omega)]; exact hz i hi)
      have hiw : IntKind.wrap .i64 ((i : Int) + 1) = ((i + 1 : Nat) : Int) := by rw [a0e] <;> omega
      refine Safe.inLoop ?_
      refine Safe.rg rfl ?_
      simp only [a3J, hlt, E3, seval]
      refine Safe.cd rfl ?_
      simp only [E3, seval]
      refine Safe.rg rfl ?_
      simp only [a5R, a0I _ v _ i (by omega), E3, seval]
      refine Safe.rg rfl ?_
      simp only [a5Q, E3, seval]
      first | refine (a0o v[i] (hv.get (by omega))).acall ?_ | refine (a0o v[i] (hv.get (by omega))).dcall ?_ | refine (a0o v[i] (hv.get (by omega))).dgcall ?_
      try simp only [E3, seval]
      refine Safe.cd rfl ?_
      simp only [hs, E3, seval]
      refine Safe.rg rfl ?_
      simp only [a9O, hiw, E3, seval]
      refine Safe.keep [5, 6, 7] ?_
      simp only [E3, seval]
      refine Safe.drop0 hH rfl (by simp only [List.all_cons, List.all_nil, E3, seval]) (by repeat (first | exact RC.nil | refine RC.none ?_ | refine RC.mo ?_ | refine RC.io ?_ | refine RC.row ZI.cl ?_ | refine RC.cons (a0Y _) ?_ | refine RC.row a0n ?_ | refine RC.emp ?_ | refine RC.zero ?_ | refine RC.one (Z_cl _) ?_ | refine RC.one (ZI.cl _) ?_ | refine RC.one (a0n _) ?_)) ?_
      exact ih
    · have hlt : (m : Int) < (v.length : Int) := by omega
      have hs : ¬ v[m].z.sign = 0 := c6D (by rw [← a4M (by omega)]; exact h0)
      refine Safe.inLoop ?_
      refine Safe.rg rfl ?_
      simp only [a3J, hlt, E3, seval]
      refine Safe.cd rfl ?_
      simp only [E3, seval]
      refine Safe.rg rfl ?_
      simp only [a5R, a0I _ v _ m (by omega), E3, seval]
      refine Safe.rg rfl ?_
      simp only [a5Q, E3, seval]
      first | refine (a0o v[m] (hv.get (by omega))).acall ?_ | refine (a0o v[m] (hv.get (by omega))).dcall ?_ | refine (a0o v[m] (hv.get (by omega))).dgcall ?_
      try simp only [E3, seval]
      refine Safe.cd rfl ?_
      simp only [hs, E3, seval]
      refine Safe.rg rfl ?_
      simp only [b7j, E3, seval]
      refine Safe.rt rfl ?_
      simp only [E3, seval]
      first | exact ⟨rfl, _, rfl⟩ | exact ⟨_, rfl⟩ | exact ⟨trivial, _, rfl⟩
  · rw [hl]
    refine Safe.lp rfl ?_
    refine Safe.keep [5, 6, 7] ?_
    try simp only [E3, seval]
    refine Safe.loopN (v.length) (fun i => [(5, vecV v), (6, .int .i64 v.length), (7, .int .i64 i)]) (fun i => hap H []) rfl rfl (fun i hi ih => ?_) ?_
    · have hlt : (i : Int) < (v.length : Int) := by omega
      have hs : v[i].z.sign = 0 := b0i (by rw [← a4M (by omega)]; exact hz i hi)
      have hiw : IntKind.wrap .i64 ((i : Int) + 1) = ((i + 1 : Nat) : Int) := by rw [a0e] <;> omega
      refine Safe.inLoop ?_
      refine Safe.rg rfl ?_
      simp only [a3J, hlt, E3, seval]
      refine Safe.cd rfl ?_
      simp only [E3, seval]
      refine Safe.rg rfl ?_
      simp only [a5R, a0I _ v _ i (by omega), E3, seval]
      refine Safe.rg rfl ?_
      simp only [a5Q, E3, seval]
      first | refine (a0o v[i] (hv.get (by omega))).acall ?_ | refine (a0o v[i] (hv.get (by omega))).dcall ?_ | refine (a0o v[i] (hv.get (by omega))).dgcall ?_
      try simp only [E3, seval]
      refine Safe.cd rfl ?_
      simp only [hs, E3, seval]
      refine Safe.rg rfl ?_
      simp only [a9O, hiw, E3, seval]
      refine Safe.keep [5, 6, 7] ?_
      simp only [E3, seval]
      refine Safe.drop0 hH rfl (by simp only [List.all_cons, List.all_nil, E3, seval]) (by repeat (first | exact RC.nil | refine RC.none ?_ | refine RC.mo ?_ | refine RC.io ?_ | refine RC.row ZI.cl ?_ | refine RC.cons (a0Y _) ?_ | refine RC.row a0n ?_ | refine RC.emp ?_ | refine RC.zero ?_ | refine RC.one (Z_cl _) ?_ | refine RC.one (ZI.cl _) ?_ | refine RC.one (a0n _) ?_)) ?_
      exact ih
    · refine Safe.inLoop ?_
      refine Safe.rg rfl ?_
      simp only [a3J, Int.lt_irrefl, E3, seval]
      refine Safe.cd rfl ?_
      simp only [E3, seval]
      refine Safe.rg rfl ?_
      simp only [b7i, E3, seval]
      refine Safe.rt rfl ?_
      simp only [E3, seval]
      first | exact ⟨rfl, _, rfl⟩ | exact ⟨_, rfl⟩ | exact ⟨trivial, _, rfl⟩
theorem b2a (v : List ZI) (hv : Vok 17592186044416 v) : a0g Pr a8h [vecV v] (.int .i64 (c5J v)) := by
  have hvl := hv.len
  refine a0g.intro b9I b9G (Nat.le_of_ble_eq_true rfl) (.int _ _) fun H hH => ?_
  refine Safe.rg rfl ?_
  simp only [b0t, E3, seval]
  refine Safe.rg rfl ?_
  simp only [b0s, E3, seval]
  rcases a3x v with ⟨m, hm, h0, hz, hl, _⟩ | ⟨hz, hl, _⟩
  · rw [hl]
    refine Safe.lp rfl ?_
    refine Safe.keep [0, 3] ?_
    try simp only [E3, seval]
    refine Safe.loopN (m) (fun i => [(0, vecV v), (3, .int .i64 i)]) (fun i => hap H []) rfl rfl (fun i hi ih => ?_) ?_
    · have hlt : (i : Int) < (v.length : Int) := by omega
      have hs : v[i].z.sign = 0 := b0i (by rw [← a4M (by omega)]; exact hz i hi)
      have hiw : IntKind.wrap .i64 ((i : Int) + 1) = ((i + 1 : Nat) : Int) := by rw [a0e] <;> omega
      refine Safe.inLoop ?_
      refine Safe.rg rfl ?_
      simp only [a2h, hlt, E3, seval]
      refine Safe.cd rfl ?_
      simp only [E3, seval]
      refine Safe.rg rfl ?_
      simp only [a3l, a0I _ v _ i (by omega), E3, seval]
      first | refine (a0A v[i] (hv.get (by omega))).acall ?_ | refine (a0A v[i] (hv.get (by omega))).dcall ?_ | refine (a0A v[i] (hv.get (by omega))).dgcall ?_
      try simp only [E3, seval]
      refine Safe.cd rfl ?_
      simp only [hs, E3, seval]
      refine Safe.rg rfl ?_
      simp only [a5A, hiw, E3, seval]
      refine Safe.keep [0, 3] ?_
      simp only [E3, seval]
      exact ih
    · have hlt : (m : Int) < (v.length : Int) := by omega
      have hs : ¬ v[m].z.sign = 0 := c6D (by rw [← a4M (by omega)]; exact h0)
      refine Safe.inLoop ?_
      refine Safe.rg rfl ?_
      simp only [a2h, hlt, E3, seval]
      refine Safe.cd rfl ?_
      simp only [E3, seval]
      refine Safe.rg rfl ?_
      simp only [a3l, a0I _ v _ m (by omega), E3, seval]
      first | refine (a0A v[m] (hv.get (by omega))).acall ?_ | refine (a0A v[m] (hv.get (by omega))).dcall ?_ | refine (a0A v[m] (hv.get (by omega))).dgcall ?_
      try simp only [E3, seval]
      refine Safe.cd rfl ?_
      simp only [hs, E3, seval]
      refine Safe.rg rfl ?_
      simp only [b0r, E3, seval]
      refine Safe.rt rfl ?_
      simp only [E3, seval]
      first | exact ⟨rfl, _, rfl⟩ | exact ⟨_, rfl⟩ | exact ⟨trivial, _, rfl⟩
  · rw [hl]
    refine Safe.lp rfl ?_
    refine Safe.keep [0, 3] ?_
    try simp only [E3, seval]
    refine Safe.loopN (v.length) (fun i => [(0, vecV v), (3, .int .i64 i)]) (fun i => hap H []) rfl rfl (fun i hi ih => ?_) ?_
    · have hlt : (i : Int) < (v.length : Int) := by omega
      have hs : v[i].z.sign = 0 := b0i (by rw [← a4M (by omega)]; exact hz i hi)
      have hiw : IntKind.wrap .i64 ((i : Int) + 1) = ((i + 1 : Nat) : Int) := by rw [a0e] <;> omega
      refine Safe.inLoop ?_
      refine Safe.rg rfl ?_
      simp only [a2h, hlt, E3, seval]
      refine Safe.cd rfl ?_
      simp only [E3, seval]
      refine Safe.rg rfl ?_
      simp only [a3l, a0I _ v _ i (by omega), E3, seval]
      first | refine (a0A v[i] (hv.get (by omega))).acall ?_ | refine (a0A v[i] (hv.get (by omega))).dcall ?_ | refine (a0A v[i] (hv.get (by omega))).dgcall ?_
      try simp only [E3, seval]
      refine Safe.cd rfl ?_
      simp only [hs, E3, seval]
      refine Safe.rg rfl ?_
      simp only [a5A, hiw, E3, seval]
      refine Safe.keep [0, 3] ?_
      simp only [E3, seval]
      exact ih
    · refine Safe.inLoop ?_
      refine Safe.rg rfl ?_
      simp only [a2h, Int.lt_irrefl, E3, seval]
      refine Safe.cd rfl ?_
      simp only [E3, seval]
      refine Safe.rg rfl ?_
      simp only [b0q, E3, seval]
      refine Safe.rt rfl ?_
      simp only [E3, seval]
      first | exact ⟨rfl, _, rfl⟩ | exact ⟨_, rfl⟩ | exact ⟨trivial, _, rfl⟩
theorem a8a (v : List ZI) (hv : Vok 17592186044416 v) : a0g Pr a0t [vecV v, .fn a2d []] (vecV (vec v.length fun i => -zg v i)) :=
  c7P a2d [] v (fun i => -zg v i) hv.len (by simp) fun i h => by
    have := c6a v[i] (hv.get h)
    rwa [← a4M h] at this
theorem a0P (v : List ZI) (hv : Vok 17592186044416 v) : a0g Pr a0t [vecV v, .fn a0N []] (vecV (vec v.length fun i => zg v i)) :=
  c7P a0N [] v (fun i => zg v i) hv.len (by simp) fun i h => by
    have := b8w v[i] (hv.get h)
    rwa [← a4M h] at this
theorem d3R {v : List ZI} (h : upS v = -1) : (vec v.length fun i => upS v * zg v i) = vec v.length fun i => -zg v i := c0L fun i _ => by rw [h]; omega
theorem d2U {v : List ZI} (h : upS v = 1) : (vec v.length fun i => upS v * zg v i) = vec v.length fun i => zg v i := c0L fun i _ => by rw [h]; omega
theorem b2y (m : Nat) : ((m : Int) ≥ 0) = True := eq_true (Int.natCast_nonneg m)
theorem a5L (v : List ZI) (hv : Vok 17592186044416 v) : a0g Pr a2s [vecV v] (vecV (vec v.length fun i => upS v * zg v i)) := by
  have hvl := hv.len
  refine a0g.intro a8V a8U (Nat.le_of_ble_eq_true rfl) (a0n _) fun H hH => ?_
  refine Safe.rg rfl ?_
  simp only [a4U, E3, seval]
  refine Safe.rg rfl ?_
  simp only [a4T, E3, seval]
  first | refine (a3w v hv).acall ?_ | refine (a3w v hv).dcall ?_ | refine (a3w v hv).dgcall ?_
  try simp only [E3, seval]
  rcases a3x v with ⟨m, hm, h0, hz, hl, hu⟩ | ⟨hz, hl, hu⟩
  · by_cases hn : zg v m < 0
    · rw [if_pos hn] at hu
      rw [d3R hu, hl]
      have hs : v[m].z < 0 := by rwa [← a4M hm]
      refine Safe.rg rfl ?_
      simp only [a0X, b2y, ge_iff_le, Int.natCast_nonneg, a0I _ v _ m hm, E3, seval]
      first | refine (a0o v[m] (hv.get (by omega))).acall ?_ | refine (a0o v[m] (hv.get (by omega))).dcall ?_ | refine (a0o v[m] (hv.get (by omega))).dgcall ?_
      try simp only [E3, seval]
      refine Safe.cd rfl ?_
      simp only [a6S, hs, E3, seval]
      refine Safe.rg rfl ?_
      simp only [a4S, E3, seval]
      first | refine (a8a v hv).acall ?_ | refine (a8a v hv).dcall ?_ | refine (a8a v hv).dgcall ?_
      try simp only [E3, seval]
      refine Safe.rt rfl ?_
      simp only [E3, seval]
      first | exact ⟨rfl, _, rfl⟩ | exact ⟨_, rfl⟩ | exact ⟨trivial, _, rfl⟩
    · rw [if_neg hn] at hu
      rw [d2U hu, hl]
      have hs : ¬ v[m].z < 0 := by rwa [← a4M hm]
      refine Safe.rg rfl ?_
      simp only [a0X, b2y, ge_iff_le, Int.natCast_nonneg, a0I _ v _ m hm, E3, seval]
      first | refine (a0o v[m] (hv.get (by omega))).acall ?_ | refine (a0o v[m] (hv.get (by omega))).dcall ?_ | refine (a0o v[m] (hv.get (by omega))).dgcall ?_
      try simp only [E3, seval]
      refine Safe.cd rfl ?_
      simp only [a6S, hs, E3, seval]
      refine Safe.rg rfl ?_
      simp only [a1O, E3, seval]
      first | refine (a0P v hv).acall ?_ | refine (a0P v hv).dcall ?_ | refine (a0P v hv).dgcall ?_
      try simp only [E3, seval]
      refine Safe.rt rfl ?_
      simp only [E3, seval]
      first | exact ⟨rfl, _, rfl⟩ | exact ⟨_, rfl⟩ | exact ⟨trivial, _, rfl⟩
  · rw [d2U hu, hl]
    refine Safe.rg rfl ?_
    simp only [a0X, show ¬ (-1 : Int) ≥ 0 by decide, show ¬ (0 : Int) ≤ -1 by decide, E3, seval]
    refine Safe.cd rfl ?_
    simp only [E3, seval]
    refine Safe.rg rfl ?_
    simp only [a1O, E3, seval]
    first | refine (a0P v hv).acall ?_ | refine (a0P v hv).dcall ?_ | refine (a0P v hv).dgcall ?_
    try simp only [E3, seval]
    refine Safe.rt rfl ?_
    simp only [E3, seval]
    first | exact ⟨rfl, _, rfl⟩ | exact ⟨_, rfl⟩ | exact ⟨trivial, _, rfl⟩
theorem a5u (v : List ZI) (hv : Vok 17592186044415 v) : a0g Pr a4b [vecV v] (vecV (vec v.length fun i => upS v * zg v i)) := by
  have hvl := hv.len
  have hv' := hv.mono (show 17592186044415 ≤ 17592186044416 by omega)
  have ht : ∀ s : Int, s = 1 ∨ s = -1 → a0g Pr a1e [Z s, vecV v] (vecV (vec v.length fun i => s * zg v i)) := fun s hs => by
    have := c4W (canZ s) v 1 17592186044415 (a6C (by rcases hs with rfl | rfl <;> decide)) hv (by omega)
    rwa [c2a] at this
  refine a0g.intro b4I b4H (Nat.le_of_ble_eq_true rfl) (a0n _) fun H hH => ?_
  refine Safe.rg rfl ?_
  simp only [a6g, E3, seval]
  refine Safe.rg rfl ?_
  simp only [a6f, E3, seval]
  refine Safe.rg rfl ?_
  simp only [a6e, E3, seval]
  first | refine (b2a v hv').acall ?_ | refine (b2a v hv').dcall ?_ | refine (b2a v hv').dgcall ?_
  try simp only [E3, seval]
  rcases a3x v with ⟨m, hm, h0, hz, hl, hu⟩ | ⟨hz, hl, hu⟩
  · by_cases hn : zg v m < 0
    · rw [if_pos hn] at hu
      rw [hl]
      have hs : v[m].z < 0 := by rwa [← a4M hm]
      refine Safe.rg rfl ?_
      simp only [a1U, b2y, ge_iff_le, Int.natCast_nonneg, a0I _ v _ m hm, E3, seval]
      first | refine (a0A v[m] (hv'.get (by omega))).acall ?_ | refine (a0A v[m] (hv'.get (by omega))).dcall ?_ | refine (a0A v[m] (hv'.get (by omega))).dgcall ?_
      try simp only [E3, seval]
      refine Safe.cd rfl ?_
      simp only [a6S, hs, E3, seval]
      refine Safe.rg rfl ?_
      simp only [a6d, E3, seval]
      refine Safe.rg rfl ?_
      simp only [a1T, E3, seval]
      first | refine (a1N (-1) (by omega) (by omega)).acall ?_ | refine (a1N (-1) (by omega) (by omega)).dcall ?_ | refine (a1N (-1) (by omega) (by omega)).dgcall ?_
      try simp only [E3, seval]
      rw [hu]
      first | refine (ht (-1) (.inr rfl)).acall ?_ | refine (ht (-1) (.inr rfl)).dcall ?_ | refine (ht (-1) (.inr rfl)).dgcall ?_
      try simp only [E3, seval]
      refine Safe.rt rfl ?_
      simp only [E3, seval]
      first | exact ⟨rfl, _, rfl⟩ | exact ⟨_, rfl⟩ | exact ⟨trivial, _, rfl⟩
    · rw [if_neg hn] at hu
      rw [hl]
      have hs : ¬ v[m].z < 0 := by rwa [← a4M hm]
      refine Safe.rg rfl ?_
      simp only [a1U, b2y, ge_iff_le, Int.natCast_nonneg, a0I _ v _ m hm, E3, seval]
      first | refine (a0A v[m] (hv'.get (by omega))).acall ?_ | refine (a0A v[m] (hv'.get (by omega))).dcall ?_ | refine (a0A v[m] (hv'.get (by omega))).dgcall ?_
      try simp only [E3, seval]
      refine Safe.cd rfl ?_
      simp only [a6S, hs, E3, seval]
      refine Safe.rg rfl ?_
      simp only [a1T, E3, seval]
      first | refine (a1N 1 (by omega) (by omega)).acall ?_ | refine (a1N 1 (by omega) (by omega)).dcall ?_ | refine (a1N 1 (by omega) (by omega)).dgcall ?_
      try simp only [E3, seval]
      rw [hu]
      first | refine (ht 1 (.inl rfl)).acall ?_ | refine (ht 1 (.inl rfl)).dcall ?_ | refine (ht 1 (.inl rfl)).dgcall ?_
      try simp only [E3, seval]
      refine Safe.rt rfl ?_
      simp only [E3, seval]
      first | exact ⟨rfl, _, rfl⟩ | exact ⟨_, rfl⟩ | exact ⟨trivial, _, rfl⟩
  · rw [hl]
    refine Safe.rg rfl ?_
    simp only [a1U, show ¬ (-1 : Int) ≥ 0 by decide, show ¬ (0 : Int) ≤ -1 by decide, E3, seval]
    refine Safe.cd rfl ?_
    simp only [E3, seval]
    refine Safe.rg rfl ?_
    simp only [a1T, E3, seval]
    first | refine (a1N 1 (by omega) (by omega)).acall ?_ | refine (a1N 1 (by omega) (by omega)).dcall ?_ | refine (a1N 1 (by omega) (by omega)).dgcall ?_
    try simp only [E3, seval]
    rw [hu]
    first | refine (ht 1 (.inl rfl)).acall ?_ | refine (ht 1 (.inl rfl)).dcall ?_ | refine (ht 1 (.inl rfl)).dgcall ?_
    try simp only [E3, seval]
    refine Safe.rt rfl ?_
    simp only [E3, seval]
    first | exact ⟨rfl, _, rfl⟩ | exact ⟨_, rfl⟩ | exact ⟨trivial, _, rfl⟩
theorem c6g {v : List ZI} {p : Nat} (hv : Vok p v) : Vok p (vec v.length fun i => upS v * zg v i) := by
  refine b9p hv.len fun i _ => ?_
  have : upS v = 1 ∨ upS v = -1 := by
    rcases a3x v with ⟨m, hm, h0, hz, hl, hu⟩ | ⟨hz, hl, hu⟩
    · rw [hu]; split <;> simp
    · exact .inl hu
  rcases this with h | h <;> rw [h]
  · rw [Int.one_mul]; exact hv.abs i
  · rw [Int.neg_one_mul, Int.natAbs_neg]; exact hv.abs i
theorem one3 (a b c : AV) : b4J [a, b, c] = .tup [a, b, c] := rfl
theorem cl3i (a b c : Int) : Cl (.tup [.int .i64 a, .int .i64 b, .int .i64 c]) := d2y (.int _ _) (.int _ _) (.int _ _)
theorem c6N {b : List (List ZI)} (hr : Rect b) {i : Nat} (hi : i < b.length) : (b[i].length : Int) = (b[0].length : Int) := by
  have := hr i hi
  rw [a5N hi, a5N (by omega)] at this
  omega
theorem d0z {b : List (List ZI)} (h : 0 < b.length) : wid b = b[0].length := by rw [wid, a5N h]
theorem a2k (b : List (List ZI)) (k : Nat) (hb : Mok k b) (hr : Rect b) : a0g Pr a2A [matV b] (.tup [.int .i64 b.length, .int .i64 (wid b), .int .i64 0]) := by
  have hbl := hb.len
  refine a0g.intro b4i b4h (Nat.le_of_ble_eq_true rfl) (cl3i _ _ _) fun H hH => ?_
  refine Safe.rg rfl ?_
  simp only [a7G, E3, seval]
  refine Safe.rg rfl ?_
  simp only [a7F, E3, seval]
  refine Safe.cd rfl ?_
  simp only [E3, seval]
  by_cases h0 : b.length = 0
  · have h0' : (b.length : Int) = 0 := by omega
    have hw : wid b = 0 := by simp [wid, mg, List.length_eq_zero_iff.1 h0]
    simp only [h0', E3, seval]
    refine Safe.rg rfl ?_
    simp only [b4g, E3, seval]
    refine Safe.rt rfl ?_
    simp only [one3, h0', hw, Int.natCast_zero, E3, seval]
    first | exact ⟨rfl, _, rfl⟩ | exact ⟨_, rfl⟩ | exact ⟨trivial, _, rfl⟩
  · have h0' : ¬ (b.length : Int) = 0 := by omega
    simp only [h0', E3, seval]
    refine Safe.rg rfl ?_
    simp only [a7E, E3, seval]
    refine Safe.lp rfl ?_
    refine Safe.keep [0, 10, 11, 12] ?_
    try simp only [E3, seval]
    refine Safe.loopN (b.length) (fun i => [(0, matV b), (10, matV b), (11, .int .i64 b.length), (12, .int .i64 i)]) (fun i => hap H []) rfl rfl (fun i hi ih => ?_) ?_
    · have hlt : (i : Int) < (b.length : Int) := by omega
      have hiw : IntKind.wrap .i64 ((i : Int) + 1) = ((i + 1 : Nat) : Int) := by rw [a0e] <;> omega
      refine Safe.inLoop ?_
      refine Safe.rg rfl ?_
      simp only [a2I, hlt, E3, seval]
      refine Safe.cd rfl ?_
      simp only [E3, seval]
      refine Safe.rg rfl ?_
      simp only [a4v, a1o _ b _ i hi, E3, seval]
      refine Safe.rg rfl ?_
      simp only [a4u, a4t _ b _ (show 0 < b.length by omega), c6N hr hi, E3, seval]
      refine Safe.cd rfl ?_
      simp only [E3, seval]
      refine Safe.rg rfl ?_
      simp only [a7D, hiw, E3, seval]
      refine Safe.keep [0, 10, 11, 12] ?_
      simp only [E3, seval]
      exact ih
    · refine Safe.inLoop ?_
      refine Safe.rg rfl ?_
      simp only [a2I, Int.lt_irrefl, E3, seval]
      refine Safe.cd rfl ?_
      simp only [E3, seval]
      refine Safe.rg rfl ?_
      simp only [b4e, a4t _ b _ (show 0 < b.length by omega), E3, seval]
      refine Safe.rt rfl ?_
      simp only [one3, d0z (show 0 < b.length by omega), E3, seval]
      first | exact ⟨rfl, _, rfl⟩ | exact ⟨_, rfl⟩ | exact ⟨trivial, _, rfl⟩
theorem a1G (b : List (List ZI)) (k : Nat) (hb : Mok k b) (hr : ¬ Rect b) : a0g Pr a2A [matV b] (.tup [.int .i64 0, .int .i64 0, .int .i64 8]) := by
  have hbl := hb.len
  rcases b8D b with h | ⟨m, hm, h1, h2⟩
  · exact absurd h hr
  have h0' : ¬ (b.length : Int) = 0 := by omega
  refine a0g.intro b4i b4h (Nat.le_of_ble_eq_true rfl) (cl3i _ _ _) fun H hH => ?_
  refine Safe.rg rfl ?_
  simp only [a7G, E3, seval]
  refine Safe.rg rfl ?_
  simp only [a7F, h0', E3, seval]
  refine Safe.cd rfl ?_
  simp only [E3, seval]
  refine Safe.rg rfl ?_
  simp only [a7E, E3, seval]
  refine Safe.lp rfl ?_
  refine Safe.keep [0, 10, 11, 12] ?_
  try simp only [E3, seval]
  refine Safe.loopN (m) (fun i => [(0, matV b), (10, matV b), (11, .int .i64 b.length), (12, .int .i64 i)]) (fun i => hap H []) rfl rfl (fun i hi ih => ?_) ?_
  · have hlt : (i : Int) < (b.length : Int) := by omega
    have he : (b[i].length : Int) = (b[0].length : Int) := by
      have := h2 i hi
      rw [a5N (by omega), a5N (by omega)] at this
      omega
    have hiw : IntKind.wrap .i64 ((i : Int) + 1) = ((i + 1 : Nat) : Int) := by rw [a0e] <;> omega
    refine Safe.inLoop ?_
    refine Safe.rg rfl ?_
    simp only [a2I, hlt, E3, seval]
    refine Safe.cd rfl ?_
    simp only [E3, seval]
    refine Safe.rg rfl ?_
    simp only [a4v, a1o _ b _ i (by omega), E3, seval]
    refine Safe.rg rfl ?_
    simp only [a4u, a4t _ b _ (show 0 < b.length by omega), he, E3, seval]
    refine Safe.cd rfl ?_
    simp only [E3, seval]
    refine Safe.rg rfl ?_
    simp only [a7D, hiw, E3, seval]
    refine Safe.keep [0, 10, 11, 12] ?_
    simp only [E3, seval]
    exact ih
  · have hlt : (m : Int) < (b.length : Int) := by omega
    have he : ¬ (b[m].length : Int) = (b[0].length : Int) := by
      rw [a5N hm, a5N (by omega)] at h1
      omega
    refine Safe.inLoop ?_
    refine Safe.rg rfl ?_
    simp only [a2I, hlt, E3, seval]
    refine Safe.cd rfl ?_
    simp only [E3, seval]
    refine Safe.rg rfl ?_
    simp only [a4v, a1o _ b _ m hm, E3, seval]
    refine Safe.rg rfl ?_
    simp only [a4u, a4t _ b _ (show 0 < b.length by omega), he, E3, seval]
    refine Safe.cd rfl ?_
    simp only [E3, seval]
    refine Safe.rg rfl ?_
    simp only [b4f, E3, seval]
    refine Safe.rt rfl ?_
    simp only [one3, E3, seval]
    first | exact ⟨rfl, _, rfl⟩ | exact ⟨_, rfl⟩ | exact ⟨trivial, _, rfl⟩
theorem b5I (b : List (List ZI)) (k : Nat) (hb : Mok k b) (hr : Rect b) : a0g Pr a3t [matV b] (.tup [.int .i64 b.length, .int .i64 (wid b), .int .i64 0]) := by
  have hbl := hb.len
  refine a0g.intro a8S a8R (Nat.le_of_ble_eq_true rfl) (cl3i _ _ _) fun H hH => ?_
  refine Safe.rg rfl ?_
  simp only [a4R, E3, seval]
  refine Safe.rg rfl ?_
  simp only [a4Q, E3, seval]
  refine Safe.lp rfl ?_
  refine Safe.keep [0, 5] ?_
  try simp only [E3, seval]
  refine Safe.loopN (b.length) (fun i => [(0, matV b), (5, .int .i64 i)]) (fun i => hap H []) rfl rfl (fun i hi ih => ?_) ?_
  · have hlt : (i : Int) < (b.length : Int) := by omega
    have hiw : IntKind.wrap .i64 ((i : Int) + 1) = ((i + 1 : Nat) : Int) := by rw [a0e] <;> omega
    refine Safe.inLoop ?_
    refine Safe.rg rfl ?_
    simp only [a1M, hlt, E3, seval]
    refine Safe.cd rfl ?_
    simp only [E3, seval]
    refine Safe.rg rfl ?_
    simp only [a2B, a1o _ b _ i hi, a4t _ b _ (show 0 < b.length by omega), c6N hr hi, E3, seval]
    refine Safe.cd rfl ?_
    simp only [E3, seval]
    refine Safe.rg rfl ?_
    simp only [a4P, hiw, E3, seval]
    refine Safe.keep [0, 5] ?_
    simp only [E3, seval]
    exact ih
  · refine Safe.inLoop ?_
    refine Safe.rg rfl ?_
    simp only [a1M, Int.lt_irrefl, E3, seval]
    refine Safe.cd rfl ?_
    simp only [E3, seval]
    refine Safe.rg rfl ?_
    simp only [a8P, E3, seval]
    refine Safe.cd rfl ?_
    simp only [E3, seval]
    by_cases h0 : b.length = 0
    · have h0' : (b.length : Int) = 0 := by omega
      have hw : wid b = 0 := by simp [wid, mg, List.length_eq_zero_iff.1 h0]
      simp only [h0', E3, seval]
      refine Safe.rg rfl ?_
      simp only [a8O, E3, seval]
      refine Safe.rt rfl ?_
      simp only [one3, h0', hw, Int.natCast_zero, E3, seval]
      first | exact ⟨rfl, _, rfl⟩ | exact ⟨_, rfl⟩ | exact ⟨trivial, _, rfl⟩
    · have h0' : ¬ (b.length : Int) = 0 := by omega
      simp only [h0', E3, seval]
      refine Safe.rg rfl ?_
      simp only [a8N, a4t _ b _ (show 0 < b.length by omega), E3, seval]
      refine Safe.rt rfl ?_
      simp only [one3, d0z (show 0 < b.length by omega), E3, seval]
      first | exact ⟨rfl, _, rfl⟩ | exact ⟨_, rfl⟩ | exact ⟨trivial, _, rfl⟩
theorem b1Z (b : List (List ZI)) (k : Nat) (hb : Mok k b) (hr : ¬ Rect b) : a0g Pr a3t [matV b] (.tup [.int .i64 0, .int .i64 0, .int .i64 8]) := by
  have hbl := hb.len
  rcases b8D b with h | ⟨m, hm, h1, h2⟩
  · exact absurd h hr
  have h0' : ¬ (b.length : Int) = 0 := by omega
  refine a0g.intro a8S a8R (Nat.le_of_ble_eq_true rfl) (cl3i _ _ _) fun H hH => ?_
  refine Safe.rg rfl ?_
  simp only [a4R, E3, seval]
  refine Safe.rg rfl ?_
  simp only [a4Q, E3, seval]
  refine Safe.lp rfl ?_
  refine Safe.keep [0, 5] ?_
  try simp only [E3, seval]
  refine Safe.loopN (m) (fun i => [(0, matV b), (5, .int .i64 i)]) (fun i => hap H []) rfl rfl (fun i hi ih => ?_) ?_
  · have hlt : (i : Int) < (b.length : Int) := by omega
    have he : (b[i].length : Int) = (b[0].length : Int) := by
      have := h2 i hi
      rw [a5N (by omega), a5N (by omega)] at this
      omega
    have hiw : IntKind.wrap .i64 ((i : Int) + 1) = ((i + 1 : Nat) : Int) := by rw [a0e] <;> omega
    refine Safe.inLoop ?_
    refine Safe.rg rfl ?_
    simp only [a1M, hlt, E3, seval]
    refine Safe.cd rfl ?_
    simp only [E3, seval]
    refine Safe.rg rfl ?_
    simp only [a2B, a1o _ b _ i (by omega), a4t _ b _ (show 0 < b.length by omega), he, E3, seval]
    refine Safe.cd rfl ?_
    simp only [E3, seval]
    refine Safe.rg rfl ?_
    simp only [a4P, hiw, E3, seval]
    refine Safe.keep [0, 5] ?_
    simp only [E3, seval]
    exact ih
  · have hlt : (m : Int) < (b.length : Int) := by omega
    have he : ¬ (b[m].length : Int) = (b[0].length : Int) := by
      rw [a5N hm, a5N (by omega)] at h1
      omega
    refine Safe.inLoop ?_
    refine Safe.rg rfl ?_
    simp only [a1M, hlt, E3, seval]
    refine Safe.cd rfl ?_
    simp only [E3, seval]
    refine Safe.rg rfl ?_
    simp only [a2B, a1o _ b _ m hm, a4t _ b _ (show 0 < b.length by omega), he, E3, seval]
    refine Safe.cd rfl ?_
    simp only [E3, seval]
    refine Safe.rg rfl ?_
    simp only [a8Q, E3, seval]
    refine Safe.rt rfl ?_
    simp only [one3, E3, seval]
    first | exact ⟨rfl, _, rfl⟩ | exact ⟨_, rfl⟩ | exact ⟨trivial, _, rfl⟩
def b5A (m : Nat) : List (List ZI) := mat m fun i => vec m (updF (fun _ => 0) i 1)
theorem b9W (m : Nat) (hm : m ≤ 64) : a0g Pr b2L [.int .i64 m] (.tup [matV (b5A m), .int .i64 0]) := by
  have hn : ¬ (m : Int) < 0 := by omega
  have h64 : ¬ (m : Int) > 64 := by omega
  refine a0g.intro c3e c3c (Nat.le_of_ble_eq_true rfl) (b7O (a1Y _) (.int _ _)) fun H hH => ?_
  refine Safe.rg rfl ?_
  simp only [b6V, E3, seval]
  refine Safe.rg rfl ?_
  simp only [b6U, hn, E3, seval]
  refine Safe.cd rfl ?_
  simp only [E3, seval]
  refine Safe.rg rfl ?_
  simp only [b6T, h64, E3, seval]
  refine Safe.cd rfl ?_
  simp only [E3, seval]
  refine Safe.rg rfl ?_
  simp only [b6S, E3, seval]
  refine Safe.rg rfl ?_
  simp only [b6R, E3, seval]
  refine Safe.nilrow 4 1 (by decide) (by simp only [E3, seval]) ?_
  refine Safe.lp rfl ?_
  refine Safe.keep [0, 4, 13, 14] ?_
  try simp only [E3, seval]
  refine Safe.loopN (m) (fun i => [(0, .int .i64 m), (4, .mu (lid H 0) 0 i none), (13, .int .i64 m), (14, .int .i64 i)]) (fun i => hap H [some ⟨1, (mat i fun i => vec m (updF (fun _ => 0) i 1)).map vecV⟩]) rfl rfl (fun i hi ih => ?_) ?_
  · have hlt : (i : Int) < (m : Int) := by omega
    have hiw : IntKind.wrap .i64 ((i : Int) + 1) = ((i + 1 : Nat) : Int) := by rw [a0e] <;> omega
    refine Safe.inLoop ?_
    refine Safe.rg rfl ?_
    simp only [a9J, hlt, E3, seval]
    refine Safe.cd rfl ?_
    simp only [E3, seval]
    refine Safe.rg rfl ?_
    simp only [b6Q, E3, seval]
    refine Safe.rg rfl ?_
    simp only [b6P, b6D _ H [some ⟨1, (mat i fun i => vec m (updF (fun _ => 0) i 1)).map vecV⟩] 2 32 (.agg [.bool false, .nil]) .i64 .i64 m m (by decide) (Nat.le_refl _) (by omega) (by omega), E3, seval]
    refine Safe.toldRep 1 m rfl ?_
    simp only [E3, seval]
    refine Safe.rg rfl ?_
    simp only [b3N, E3, seval]
    first | refine (a8j 1 (by omega) (by omega)).acall ?_ | refine (a8j 1 (by omega) (by omega)).dcall ?_ | refine (a8j 1 (by omega) (by omega)).dgcall ?_
    try simp only [E3, seval]
    simp only [c7d H [some ⟨1, (mat i fun i => vec m (updF (fun _ => 0) i 1)).map vecV⟩, some ⟨2, (vec m fun _ => 0).map ZI.av⟩] 2 1 0 m (some m) .i64 i rfl rfl hi, b1W _ H [some ⟨1, (mat i fun i => vec m (updF (fun _ => 0) i 1)).map vecV⟩, some ⟨2, (vec m fun _ => 0).map ZI.av⟩] 2 1 i 0 (Z 1) rfl (by rw [List.length_map, a0l]; exact hi) rfl rfl (Nat.le_refl 2), d0S, E3, seval]
    refine Safe.freeze 1 hH rfl rfl (a1d 2 ZI.av _ ZI.cl) ?_
    refine Safe.keep [0, 4, 6, 13, 14] ?_
    simp only [c7F H 1 (vec m (updF (fun _ => 0) i 1)) (m) (some m) (by simp only [a0l, a0m]), a4G, a2q, a9U, a9V, E3, seval]
    refine Safe.rg rfl ?_
    simp only [b3M, E3, seval]
    rw [c3R hH 0 (a0V H 0) a0n (mat i fun i => vec m (updF (fun _ => 0) i 1)) (vec m (updF (fun _ => 0) i 1)) (mat (i + 1) fun i => vec m (updF (fun _ => 0) i 1)) ?hlen ?hl ?hL ?hy ?hl2 ?hb ?hbb]
    case hlen => first | rfl | (simp only [a0l, a0m, List.length_map, List.length_take]; done) | (simp only [a0l, a0m, List.length_map, List.length_take]; omega)
    case hl => rfl
    case hL => repeat (first | exact RC.nil | refine RC.none ?_ | refine RC.mo ?_ | refine RC.io ?_ | refine RC.row ZI.cl ?_ | refine RC.cons (a0Y _) ?_ | refine RC.row a0n ?_ | refine RC.emp ?_ | refine RC.zero ?_ | refine RC.one (Z_cl _) ?_ | refine RC.one (ZI.cl _) ?_ | refine RC.one (a0n _) ?_)
    case hy => rfl
    case hl2 => first | exact a8k _ _ | exact a8q _ _ | exact a5c _ (by omega) | exact a1E _ _ (by omega)
    case hb => omega
    case hbb => omega
    simp only [E3, seval]
    refine Safe.rg rfl ?_
    simp only [b3L, hiw, E3, seval]
    refine Safe.keep [0, 4, 13, 14] ?_
    simp only [E3, seval]
    refine Safe.drop1 hH rfl (by simp only [List.all_cons, List.all_nil, E3, seval]) (by repeat (first | exact RC.nil | refine RC.none ?_ | refine RC.mo ?_ | refine RC.io ?_ | refine RC.row ZI.cl ?_ | refine RC.cons (a0Y _) ?_ | refine RC.row a0n ?_ | refine RC.emp ?_ | refine RC.zero ?_ | refine RC.one (Z_cl _) ?_ | refine RC.one (ZI.cl _) ?_ | refine RC.one (a0n _) ?_)) ?_
    exact ih
  · refine Safe.inLoop ?_
    refine Safe.rg rfl ?_
    simp only [a9J, Int.lt_irrefl, E3, seval]
    refine Safe.cd rfl ?_
    simp only [E3, seval]
    refine Safe.freeze 0 hH rfl rfl (a1d 1 vecV _ a0n) ?_
    refine Safe.keep [4] ?_
    simp only [a9X 0 1 vecV (mat m fun i => vec m (updF (fun _ => 0) i 1)) m none (a0m _ _).symm, E3, seval]
    refine Safe.rg rfl ?_
    simp only [b3K, E3, seval]
    refine Safe.rt rfl ?_
    simp only [E3, seval]
    first | exact ⟨rfl, _, rfl⟩ | exact ⟨_, rfl⟩ | exact ⟨trivial, _, rfl⟩
theorem c2U (v : List ZI) (hv : Vok 17592186044416 v) : a0g Pr a2f [vecV v] (vecV (vec v.length fun i => zg v i)) := by
  refine a0g.intro b1p b1o (Nat.le_of_ble_eq_true rfl) (a0n _) fun H hH => ?_
  refine Safe.rg rfl ?_
  simp only [a5T, E3, seval]
  refine Safe.rg rfl ?_
  simp only [a5S, E3, seval]
  first | refine (a0P v hv).acall ?_ | refine (a0P v hv).dcall ?_ | refine (a0P v hv).dgcall ?_
  try simp only [E3, seval]
  refine Safe.rt rfl ?_
  simp only [E3, seval]
  first | exact ⟨rfl, _, rfl⟩ | exact ⟨_, rfl⟩ | exact ⟨trivial, _, rfl⟩
theorem b2m (b : List (List ZI)) (hb : Mok 17592186044416 b) : a0g Pr a5p [matV b] (matV (c5P b)) := by
  have he := d2l a2f [] b (fun i => vec (mg b i).length fun k => zg (mg b i) k) hb.len (by simp) fun i h => by
    have := c2U b[i] (hb.get h)
    rw [a5N h]; exact this
  refine a0g.intro b7t b7s (Nat.le_of_ble_eq_true rfl) (a1Y _) fun H hH => ?_
  refine Safe.rg rfl ?_
  simp only [a9T, E3, seval]
  refine Safe.rg rfl ?_
  simp only [a9S, E3, seval]
  first | refine (he).acall ?_ | refine (he).dcall ?_ | refine (he).dgcall ?_
  try simp only [E3, seval]
  refine Safe.rt rfl ?_
  simp only [E3, seval]
  first | exact ⟨rfl, _, rfl⟩ | exact ⟨_, rfl⟩ | exact ⟨trivial, _, rfl⟩
theorem c9M (b : List (List ZI)) : (b.map fun v => cans (v.map ZI.z)) = c5P b := by
  apply List.ext_getElem
  · simp [c5P, a0m]
  · intro i h1 h2
    rw [List.getElem_map]
    simp only [c5P, c2W]
    have hi : i < b.length := by simpa using h1
    rw [a5N hi]
    exact b7R b[i] fun x => x
theorem b2b (b : List (List ZI)) (hb : Mok 17592186044415 b) : a0g Pr a2N [matV b] (matV (c5P b)) := by
  have := c0U b hb
  rwa [c9M] at this
theorem b9X {b : List (List ZI)} {k : Nat} (hb : Mok k b) : Mok k (c5P b) := c2T hb.len fun i hi => b9p (hb.row i).len fun j _ => (hb.row i).abs j
theorem d1I (k : Nat) : Mok k [] := ⟨by simp, by simp⟩
theorem c9o (m : Nat) (hm : m ≤ 64) : Mok 1 (b5A m) := c2T (by omega) fun i hi => b9p (by omega) fun j _ => by
  simp only [updF]; split <;> decide
end Go.Abs
namespace Go.Abs
theorem c6L (b : List (List ZI)) (off : Nat) : Cl (.ro (matV b) off) := .ro _ _ (a2w (a1Y b))
theorem c6K (b : List ZI) (off : Nat) : Cl (.ro (vecV b) off) := .ro _ _ (a2w (a0n b))
theorem c8f {wd : Nat} {a : AV} (h : Cl a) : ∀ c ∈ (Blk.mk wd [a]).flat, Cl c := fun c hc => by
  simp only [Blk.flat, List.flatMap_cons, List.flatMap_nil, List.append_nil] at hc
  exact a2w h c hc
theorem b5g : ((8 : Int) = 0) = False := by decide
end Go.Abs
namespace Go.Abs
theorem d2Y {H L : Heap} {wd len lo hi mx : Nat} {X : List AV} {oc : Option Nat} {k k' k2 : IntKind} (h1 : lo ≤ hi) (h2 : hi ≤ mx) (h3 : mx ≤ len) :
    slcV (hap H (some ⟨wd, X⟩ :: L)) wd (.mu (lid H 0) 0 len oc) (some (.int k lo)) (some (.int k' hi)) (some (.int k2 mx)) = some (.mu (lid H 0) lo (hi - lo) (some (mx - lo))) := by
  simp only [slcV, a1I, a3X, List.getElem?_cons_zero, Option.join_some, Option.bind_some]
  rw [if_pos ⟨trivial, rfl, by omega, by omega, by omega, by omega⟩]
  simp
theorem Safe.drop2n {x : Cx} {todo : List AItem} {env : Env} {R : AV → Heap → Prop} {H : Heap} {a b c : Option Blk} (hH : a0S H) (hx : x.n0 = H.length) (he : env.all (fun p => nref (lid H 2) p.2) = true)
    (hL : ∀ r, some r ∈ [a, b] → ∀ v ∈ r.flat, nref (lid H 2) v = true) (h : Safe x todo env (hap H [a, b]) R) : Safe x todo env (hap H [a, b, c]) R := Safe.drop (L := [a, b]) hH hx he hL h
/-- The entries aXs they come, column after column. -/
def colF (b : List (List ZI)) (t : Nat) : Int := zg (mg b (t % b.length)) (t / b.length)
theorem c7V (b : List (List ZI)) {k i : Nat} (hi : i < b.length) : colF b (k * b.length + i) = zg (mg b i) k := by
  unfold colF
  rw [Nat.add_comm, Nat.add_mul_mod_self_right, Nat.mod_eq_of_lt hi, Nat.add_mul_div_right _ _ (by omega), Nat.div_eq_of_lt hi, Nat.zero_add]
def a0p (H : Heap) (n k : Nat) : List AV := (List.range k).map fun j => .mu (lid H 0) (j * n) n (some n)
theorem b8E (H : Heap) (n k : Nat) : a0p H n (k + 1) = a0p H n k ++ [.mu (lid H 0) (k * n) n (some n)] := by simp [a0p, List.range_succ]
theorem b2d (H : Heap) (n k : Nat) : (a0p H n k).flatMap AV.cells = a0p H n k := by
  unfold a0p
  induction (List.range k) with
  | nil => rfl
  | cons j l ih => rw [List.map_cons, List.flatMap_cons, ih]; rfl
theorem c1i {H : Heap} {n k : Nat} {a : AV} (h : a ∈ a0p H n k) : ∃ j, a = .mu (lid H 0) (j * n) n (some n) := by
  obtain ⟨j, _, rfl⟩ := List.mem_map.1 h; exact ⟨j, rfl⟩
theorem c6Q (H : Heap) (b : List (List ZI)) : (a0p H b.length (wid b)).map (frz (lid H 0) ⟨2, (vec (wid b * b.length) (colF b)).map ZI.av⟩) = (c0N b).map vecV := by
  apply List.ext_getElem
  · simp [a0p, c0N, a0m]
  · intro j h1 h2
    have hj : j < wid b := by simpa [a0p] using h1
    have hle : (j + 1) * b.length ≤ wid b * b.length := Nat.mul_le_mul_right _ hj
    rw [Nat.succ_mul] at hle
    simp only [a0p, List.getElem_map, List.getElem_range, c0N, c2W]
    rw [b7I _ _ _ _ _ _ (by rw [List.length_map, a0l]; omega)]
    show AV.sl 2 _ = AV.sl 2 _
    congr 1
    apply List.ext_getElem
    · simp [a0l]; omega
    · intro i g1 g2
      have hi : i < b.length := by simpa [a0l] using g2
      simp only [List.getElem_take, List.getElem_drop, List.getElem_map, b9u, c7V b hi]
theorem c6p (b : List (List ZI)) (p : Nat) (hb : Mok p b) (hp : p ≤ 17592186044416) (hr : Rect b) : a0g Pr a2e [matV b] (.tup [matV (c0N b), .int .i64 0]) := by
  have hbl := hb.len
  have hwl := (hb.row 0).len
  rw [show (mg b 0).length = wid b from rfl] at hwl
  have hnm : b.length * wid b ≤ 2097152 * 2097152 := Nat.mul_le_mul hbl hwl
  have hcm : wid b * b.length = b.length * wid b := Nat.mul_comm _ _
  have hmw : IntKind.wrap .i64 ((b.length : Int) * (wid b : Int)) = ((b.length * wid b : Nat) : Int) := by
    rw [← Int.natCast_mul, a0e] <;> omega
  refine a0g.intro b7d b7c (Nat.le_of_ble_eq_true rfl) (b7O (a1Y _) (.int _ _)) fun H hH => ?_
  refine Safe.rg rfl ?_
  simp only [a9N, E3, seval]
  refine Safe.rg rfl ?_
  simp only [a9M, E3, seval]
  first | refine (a2k b p hb hr).acall ?_ | refine (a2k b p hb hr).dcall ?_ | refine (a2k b p hb hr).dgcall ?_
  try simp only [E3, seval]
  refine Safe.rg rfl ?_
  simp only [a9L, E3, seval]
  refine Safe.cd rfl ?_
  simp only [E3, seval]
  refine Safe.rg rfl ?_
  simp only [b7a, hmw, a3p _ [] 2 32 _ _ _ (b.length * wid b) (by decide) (by omega) (by omega), E3, seval]
  refine Safe.rg rfl ?_
  simp only [b6Z, E3, seval]
  refine Safe.nilrow 8 1 (by decide) (by simp only [E3, seval]) ?_
  refine Safe.rg rfl ?_
  simp only [b6Y, E3, seval]
  refine Safe.lp rfl ?_
  refine Safe.keep [0, 4, 7, 8, 24, 25] ?_
  simp only [E3, seval]
  refine Safe.loopN (wid b) (fun k => [(0, matV b), (4, .int .i64 b.length), (7, .mu (lid H 0) 0 (k * b.length) (some (b.length * wid b))), (8, .mu (lid H 1) 0 k none), (24, .int .i64 (wid b)), (25, .int .i64 k)])
    (fun k => hap H [some ⟨2, (vec (k * b.length) (colF b)).map ZI.av⟩, some ⟨1, a0p H b.length k⟩]) (by simp only [Nat.zero_mul]; rfl) (by simp only [Nat.zero_mul]; rfl) (fun k hk ih => ?_) ?_
  · have hlt : (k : Int) < (wid b : Int) := by omega
    have hle : (k + 1) * b.length ≤ wid b * b.length := Nat.mul_le_mul_right _ hk
    rw [Nat.succ_mul] at hle ih
    have hiw : IntKind.wrap .i64 ((k : Int) + 1) = ((k + 1 : Nat) : Int) := by rw [a0e] <;> omega
    have hk0 : IntKind.wrap .i64 ((k : Int) * (b.length : Int)) = ((k * b.length : Nat) : Int) := by
      rw [← Int.natCast_mul, a0e] <;> omega
    have hk1 : IntKind.wrap .i64 (((k + 1 : Nat) : Int) * (b.length : Int)) = ((k * b.length + b.length : Nat) : Int) := by
      rw [← Int.natCast_mul, Nat.succ_mul, a0e] <;> omega
    refine Safe.inLoop ?_
    refine Safe.rg rfl ?_
    simp only [a9K, hlt, E3, seval]
    refine Safe.cd rfl ?_
    simp only [E3, seval]
    refine Safe.rg rfl ?_
    simp only [b6X, E3, seval]
    refine Safe.rg rfl ?_
    simp only [b6W, E3, seval]
    refine Safe.lp rfl ?_
    refine Safe.keep [0, 4, 7, 8, 9, 24, 25, 28, 29] ?_
    simp only [E3, seval]
    refine Safe.loopN b.length (fun i => [(0, matV b), (4, .int .i64 b.length), (7, .mu (lid H 0) 0 (k * b.length + i) (some (b.length * wid b))), (8, .mu (lid H 1) 0 k none), (9, .int .i64 k), (24, .int .i64 (wid b)), (25, .int .i64 k), (28, .int .i64 b.length), (29, .int .i64 i)])
      (fun i => hap H [some ⟨2, (vec (k * b.length + i) (colF b)).map ZI.av⟩, some ⟨1, a0p H b.length k⟩]) rfl rfl (fun i hi ih2 => ?_) ?_
    · have hlt2 : (i : Int) < (b.length : Int) := by omega
      have hjw : IntKind.wrap .i64 ((i : Int) + 1) = ((i + 1 : Nat) : Int) := by rw [a0e] <;> omega
      have hri := c1g hr hi
      have hf := b8w b[i][k] (((hb.get hi).get (by omega)).mono hp)
      rw [mgz hi (by omega), ← c7V b hi] at hf
      refine Safe.inLoop ?_
      refine Safe.rg rfl ?_
      simp only [a7y, hlt2, E3, seval]
      refine Safe.cd rfl ?_
      simp only [E3, seval]
      refine Safe.rg rfl ?_
      simp only [b3T, E3, seval]
      refine Safe.rg rfl ?_
      simp only [b3S, a1o _ b _ i hi, a0I _ b[i] _ k (by omega), E3, seval]
      first | refine (hf).acall ?_ | refine (hf).dcall ?_ | refine (hf).dgcall ?_
      try simp only [E3, seval]
      rw [b1P (H := H) 0 (a0V H 0) (f := ZI.av) (vec (k * b.length + i) (colF b)) (canZ (colF b (k * b.length + i))) (vec (k * b.length + i + 1) (colF b)) ?hlen ?hl ?hy ?hl2 ?hc]
      case hlen => first | rfl | (simp only [a0l, a0m, List.length_map, List.length_take]; done) | (simp only [a0l, a0m, List.length_map, List.length_take]; omega)
      case hl => rfl
      case hy => rfl
      case hl2 => first | exact a8k _ _ | exact a8q _ _ | exact a5c _ (by omega) | exact a1E _ _ (by omega)
      case hc => omega
      simp only [E3, seval]
      refine Safe.rg rfl ?_
      simp only [b3R, hjw, E3, seval]
      refine Safe.keep [0, 4, 7, 8, 9, 24, 25, 28, 29] ?_
      simp only [E3, seval]
      exact ih2
    · refine Safe.inLoop ?_
      refine Safe.rg rfl ?_
      simp only [a7y, Int.lt_irrefl, E3, seval]
      refine Safe.cd rfl ?_
      simp only [E3, seval]
      have hsub : k * b.length + b.length - k * b.length = b.length := by omega
      have happ : ∀ env, appV H.length 1 24 false (.mu (lid H 1) 0 k none) (.mu (lid H 2) 0 1 (some 1)) env (hap H [some ⟨2, (vec (k * b.length + b.length) (colF b)).map ZI.av⟩, some ⟨1, a0p H b.length k⟩, some ⟨1, [.mu (lid H 0) (k * b.length) b.length (some b.length)]⟩]) =
          some (.mu (lid H 1) 0 (k + 1) none, scrub (lid H 1) env, hap H [some ⟨2, (vec (k * b.length + b.length) (colF b)).map ZI.av⟩, some ⟨1, a0p H b.length (k + 1)⟩, some ⟨1, [.mu (lid H 0) (k * b.length) b.length (some b.length)]⟩]) := by
        intro env
        have h01 : lid H 0 ≠ lid H 1 := by simp [lid]
        have := a8s H.length env H [some ⟨2, (vec (k * b.length + b.length) (colF b)).map ZI.av⟩, some ⟨1, a0p H b.length k⟩, some ⟨1, [.mu (lid H 0) (k * b.length) b.length (some b.length)]⟩] 1 24 false 1 k none (.mu (lid H 2) 0 1 (some 1)) (a0p H b.length k) [.mu (lid H 0) (k * b.length) b.length (some b.length)] hH rfl (by simp [a0p]) (a0V H 1)
          (c6y H _ 1 2 0 1 (some 1) [.mu (lid H 0) (k * b.length) b.length (some b.length)] rfl (Nat.le_refl _)) (by
            intro j r hj a ha
            match j with
            | 0 => cases hj; exact (a1d 2 ZI.av _ ZI.cl a ha).ref
            | 1 =>
              cases hj
              rw [show (Blk.mk 1 (a0p H b.length k)).flat = _ from b2d H b.length k] at ha
              obtain ⟨j, rfl⟩ := c1i ha
              exact .mu _ _ _ _ h01
            | 2 =>
              cases hj
              simp [Blk.flat, AV.cells] at ha
              subst ha
              exact .mu _ _ _ _ h01
            | j + 3 => simp at hj) (by
            intro a ha
            simp [AV.cells] at ha
            subst ha
            exact .mu _ _ _ _ h01) (by simp; omega) (by simp; omega) rfl
        simp only [a0Q, Option.bind_none, List.length_cons, List.length_nil, Nat.zero_add, List.set_cons_succ, List.set_cons_zero, ← b8E] at this
        exact this
      refine Safe.rg rfl ?_
      simp only [b3Q, hk0, hiw, hk1, d2Y (Nat.le_add_right (k * b.length) b.length) (Nat.le_refl _) (Nat.le_refl _), hsub, happ, E3, seval]
      refine Safe.rg rfl ?_
      simp only [b3P, hiw, E3, seval]
      refine Safe.keep [0, 4, 7, 8, 24, 25] ?_
      simp only [E3, seval]
      refine Safe.drop2n hH rfl (by simp only [E3, seval]) (by
        intro r hr v hv
        simp only [List.mem_cons, Option.some.injEq, List.not_mem_nil, or_false] at hr
        rcases hr with rfl | rfl
        · exact a1n (a1d 2 ZI.av _ ZI.cl v hv)
        · rw [show (Blk.mk 1 (a0p H b.length (k + 1))).flat = _ from b2d H b.length (k + 1)] at hv
          obtain ⟨j, rfl⟩ := c1i hv
          simp only [E3, seval]) ?_
      exact ih
  · refine Safe.inLoop ?_
    refine Safe.rg rfl ?_
    simp only [a9K, Int.lt_irrefl, E3, seval]
    refine Safe.cd rfl ?_
    simp only [E3, seval]
    refine Safe.freeze 0 hH rfl rfl (a1d 2 ZI.av _ ZI.cl) ?_
    refine Safe.keep [8] ?_
    simp only [a4G, c6Q, E3, seval]
    refine Safe.freeze 1 hH rfl rfl (a1d 1 vecV _ a0n) ?_
    refine Safe.keep [8] ?_
    simp only [c7G H 1 (c0N b) (wid b) none (by simp only [c0N, a0m]), E3, seval]
    refine Safe.rg rfl ?_
    simp only [b3O, E3, seval]
    refine Safe.rt rfl ?_
    simp only [E3, seval]
    first | exact ⟨rfl, _, rfl⟩ | exact ⟨_, rfl⟩ | exact ⟨trivial, _, rfl⟩
theorem c8A (b : List (List ZI)) (p : Nat) (hb : Mok p b) (hr : ¬ Rect b) : a0g Pr a2e [matV b] (.tup [matV [], .int .i64 8]) := by
  refine a0g.introL b7d b7c (Nat.le_of_ble_eq_true rfl) (b7O (a1Y _) (.int _ _)) fun H hH => ?_
  refine Safe.rg rfl ?_
  simp only [a9N, E3, seval]
  refine Safe.rg rfl ?_
  simp only [a9M, E3, seval]
  first | refine (a1G b p hb hr).acall ?_ | refine (a1G b p hb hr).dcall ?_ | refine (a1G b p hb hr).dgcall ?_
  try simp only [E3, seval]
  refine Safe.rg rfl ?_
  simp only [a9L, b5g, E3, seval]
  refine Safe.cd rfl ?_
  simp only [E3, seval]
  refine Safe.rg rfl ?_
  simp only [b7b, E3, seval]
  refine Safe.rt rfl ?_
  simp only [E3, seval]
  exact ⟨Le.tup2 Le.nilmat (Le.refl _), _, rfl⟩
theorem c6J (b : List (List ZI)) (p : Nat) (hb : Mok p b) (hr : ¬ Rect b) : a0g Pr a2M [matV b] (.tup [matV [], .int .i64 8]) := by
  refine a0g.introL b0p b0o (Nat.le_of_ble_eq_true rfl) (b7O (a1Y _) (.int _ _)) fun H hH => ?_
  refine Safe.rg rfl ?_
  simp only [a5z, E3, seval]
  refine Safe.rg rfl ?_
  simp only [a5y, E3, seval]
  first | refine (b1Z b p hb hr).acall ?_ | refine (b1Z b p hb hr).dcall ?_ | refine (b1Z b p hb hr).dgcall ?_
  try simp only [E3, seval]
  refine Safe.rg rfl ?_
  simp only [a5x, b5g, E3, seval]
  refine Safe.cd rfl ?_
  simp only [E3, seval]
  refine Safe.rg rfl ?_
  simp only [b0n, E3, seval]
  refine Safe.rt rfl ?_
  simp only [E3, seval]
  exact ⟨Le.tup2 Le.nilmat (Le.refl _), _, rfl⟩
theorem c4V (b : List (List ZI)) (p : Nat) (hb : Mok p b) (hp : p ≤ 17592186044416) (hr : Rect b) : a0g Pr a2M [matV b] (.tup [matV (c0N b), .int .i64 0]) := by
  have hbl := hb.len
  have hwl := (hb.row 0).len
  rw [show (mg b 0).length = wid b from rfl] at hwl
  refine a0g.intro b0p b0o (Nat.le_of_ble_eq_true rfl) (b7O (a1Y _) (.int _ _)) fun H hH => ?_
  refine Safe.rg rfl ?_
  simp only [a5z, E3, seval]
  refine Safe.rg rfl ?_
  simp only [a5y, E3, seval]
  first | refine (b5I b p hb hr).acall ?_ | refine (b5I b p hb hr).dcall ?_ | refine (b5I b p hb hr).dgcall ?_
  try simp only [E3, seval]
  refine Safe.rg rfl ?_
  simp only [a5x, E3, seval]
  refine Safe.cd rfl ?_
  simp only [E3, seval]
  refine Safe.rg rfl ?_
  simp only [b0m, E3, seval]
  refine Safe.nilrow 7 1 (by decide) (by simp only [E3, seval]) ?_
  refine Safe.rg rfl ?_
  simp only [b0l, E3, seval]
  refine Safe.lp rfl ?_
  refine Safe.keep [0, 5, 7, 8] ?_
  try simp only [E3, seval]
  refine Safe.loopN (wid b) (fun i => [(0, matV b), (5, .int .i64 (wid b)), (7, .mu (lid H 0) 0 i none), (8, .int .i64 i)]) (fun i => hap H [some ⟨1, (mat i fun k => vec b.length fun i => zg (mg b i) k).map vecV⟩]) rfl rfl (fun i hi ih => ?_) ?_
  · have hlt : (i : Int) < (wid b : Int) := by omega
    have hiw : IntKind.wrap .i64 ((i : Int) + 1) = ((i + 1 : Nat) : Int) := by rw [a0e] <;> omega
    refine Safe.inLoop ?_
    refine Safe.rg rfl ?_
    simp only [a5w, hlt, E3, seval]
    refine Safe.cd rfl ?_
    simp only [E3, seval]
    refine Safe.rg rfl ?_
    simp only [b0k, E3, seval]
    refine Safe.nilrow 9 2 (by decide) (by simp only [E3, seval]) ?_
    refine Safe.rg rfl ?_
    simp only [b0j, E3, seval]
    refine Safe.lp rfl ?_
    refine Safe.keep [0, 5, 7, 8, 9, 10] ?_
    simp only [E3, seval]
    refine Safe.loopN b.length (fun j => [(0, matV b), (5, .int .i64 (wid b)), (7, .mu (lid H 0) 0 i none), (8, .int .i64 i), (9, .mu (lid H 1) 0 j none), (10, .int .i64 j)]) (fun j => hap H [some ⟨1, (mat i fun k => vec b.length fun i => zg (mg b i) k).map vecV⟩, some ⟨2, (vec j fun j => zg (mg b j) i).map ZI.av⟩]) rfl rfl (fun j hj ih2 => ?_) ?_
    · have hlt2 : (j : Int) < (b.length : Int) := by omega
      have hjw : IntKind.wrap .i64 ((j : Int) + 1) = ((j + 1 : Nat) : Int) := by rw [a0e] <;> omega
      have hri := c1g hr hj
      have hf := c2D b[j][i] (((hb.get hj).get (by omega)).mono hp)
      rw [mgz hj (by omega)] at hf
      refine Safe.inLoop ?_
      refine Safe.rg rfl ?_
      simp only [a5v, hlt2, E3, seval]
      refine Safe.cd rfl ?_
      simp only [E3, seval]
      refine Safe.rg rfl ?_
      simp only [a8G, a1o _ b _ j hj, a0I _ b[j] _ i (by omega), E3, seval]
      first | refine (hf).acall ?_ | refine (hf).dcall ?_ | refine (hf).dgcall ?_
      try simp only [E3, seval]
      rw [c3R hH 1 (a0V H 1) ZI.cl (vec j fun j => zg (mg b j) i) (canZ (zg (mg b j) i)) (vec (j + 1) fun j => zg (mg b j) i) ?hlen ?hl ?hL ?hy ?hl2 ?hb ?hbb]
      case hlen => first | rfl | (simp only [a0l, a0m, List.length_map, List.length_take]; done) | (simp only [a0l, a0m, List.length_map, List.length_take]; omega)
      case hl => rfl
      case hL => repeat (first | exact RC.nil | refine RC.none ?_ | refine RC.mo ?_ | refine RC.io ?_ | refine RC.row ZI.cl ?_ | refine RC.cons (a0Y _) ?_ | refine RC.row a0n ?_ | refine RC.emp ?_ | refine RC.zero ?_ | refine RC.one (Z_cl _) ?_ | refine RC.one (ZI.cl _) ?_ | refine RC.one (a0n _) ?_)
      case hy => rfl
      case hl2 => first | exact a8k _ _ | exact a8q _ _ | exact a5c _ (by omega) | exact a1E _ _ (by omega)
      case hb => omega
      case hbb => omega
      simp only [E3, seval]
      refine Safe.rg rfl ?_
      simp only [a8F, hjw, E3, seval]
      refine Safe.keep [0, 5, 7, 8, 9, 10] ?_
      simp only [E3, seval]
      exact ih2
    · refine Safe.inLoop ?_
      refine Safe.rg rfl ?_
      simp only [a5v, Int.lt_irrefl, E3, seval]
      refine Safe.cd rfl ?_
      simp only [E3, seval]
      refine Safe.freeze 1 hH rfl rfl (a1d 2 ZI.av _ ZI.cl) ?_
      refine Safe.keep [0, 5, 7, 8, 9] ?_
      simp only [c7F H 1 (vec b.length fun j => zg (mg b j) i) (b.length) (none) (by simp only [a0l, a0m]), a4G, a2q, a9U, a9V, E3, seval]
      refine Safe.rg rfl ?_
      simp only [a8E, E3, seval]
      rw [c3R hH 0 (a0V H 0) a0n (mat i fun k => vec b.length fun i => zg (mg b i) k) (vec b.length fun j => zg (mg b j) i) (mat (i + 1) fun k => vec b.length fun i => zg (mg b i) k) ?hlen ?hl ?hL ?hy ?hl2 ?hb ?hbb]
      case hlen => first | rfl | (simp only [a0l, a0m, List.length_map, List.length_take]; done) | (simp only [a0l, a0m, List.length_map, List.length_take]; omega)
      case hl => rfl
      case hL => repeat (first | exact RC.nil | refine RC.none ?_ | refine RC.mo ?_ | refine RC.io ?_ | refine RC.row ZI.cl ?_ | refine RC.cons (a0Y _) ?_ | refine RC.row a0n ?_ | refine RC.emp ?_ | refine RC.zero ?_ | refine RC.one (Z_cl _) ?_ | refine RC.one (ZI.cl _) ?_ | refine RC.one (a0n _) ?_)
      case hy => rfl
      case hl2 => first | exact a8k _ _ | exact a8q _ _ | exact a5c _ (by omega) | exact a1E _ _ (by omega)
      case hb => omega
      case hbb => omega
      simp only [E3, seval]
      refine Safe.rg rfl ?_
      simp only [a8D, hiw, E3, seval]
      refine Safe.keep [0, 5, 7, 8] ?_
      simp only [E3, seval]
      refine Safe.drop1 hH rfl (by simp only [List.all_cons, List.all_nil, E3, seval]) (by repeat (first | exact RC.nil | refine RC.none ?_ | refine RC.mo ?_ | refine RC.io ?_ | refine RC.row ZI.cl ?_ | refine RC.cons (a0Y _) ?_ | refine RC.row a0n ?_ | refine RC.emp ?_ | refine RC.zero ?_ | refine RC.one (Z_cl _) ?_ | refine RC.one (ZI.cl _) ?_ | refine RC.one (a0n _) ?_)) ?_
      exact ih
  · refine Safe.inLoop ?_
    refine Safe.rg rfl ?_
    simp only [a5w, Int.lt_irrefl, E3, seval]
    refine Safe.cd rfl ?_
    simp only [E3, seval]
    refine Safe.freeze 0 hH rfl rfl (a1d 1 vecV _ a0n) ?_
    refine Safe.keep [7] ?_
    simp only [c7G H 0 (mat (wid b) fun k => vec b.length fun i => zg (mg b i) k) (wid b) (none) (by simp only [a0l, a0m]), a4G, a2q, a9U, a9V, E3, seval]
    refine Safe.rg rfl ?_
    simp only [a8C, E3, seval]
    refine Safe.rt rfl ?_
    simp only [E3, seval]
    first | exact ⟨rfl, _, rfl⟩ | exact ⟨_, rfl⟩ | exact ⟨trivial, _, rfl⟩
end Go.Abs
namespace Go.Abs
section
variable {H L : Heap} {env : Env} {n0 : Nat}
theorem d1i (i q : Nat) (qs : List Nat) : (List.replicate (i + 1) 0 ++ qs).set i q = List.replicate i 0 ++ q :: qs := by
  rw [List.replicate_succ', List.append_assoc]
  simp
theorem b5y {n : Nat} (h : n < 18446744073709551616) : IntKind.wrap .u64 (n : Int) = (n : Int) := a0H (Int.natCast_nonneg _) (by omega)
theorem c0K {n : Nat} (h : n < 4294967296) : IntKind.wrap .u32 (n : Int) = (n : Int) := a3k (Int.natCast_nonneg _) (by omega)
theorem c7r {r x : Nat} (hr : r < 4294967296) (hx : x < 4294967296) : r * LB + x < 18446744073709551616 := by
  have : r * LB ≤ 4294967295 * 4294967296 := Nat.mul_le_mul (by omega) (Nat.le_refl _)
  omega
theorem c4h {r : Nat} (hr : r < 4294967296) : r * LB < 18446744073709551616 := Nat.lt_of_le_of_lt (Nat.le_add_right _ _) (c7r hr (show 0 < 4294967296 by decide))
theorem d1c (r : Nat) (h : r < 4294967296) : b4F .shl .u64 (r : Int) 32 = some (.int .u64 ((r * LB : Nat) : Int)) := by
  have hLB : LB = 4294967296 := rfl
  simp only [b4F]
  rw [if_neg (by decide), show min (Int.toNat 32) (IntKind.bits .u64) = 32 by decide, show (r : Int) * 2 ^ 32 = ((r * LB : Nat) : Int) by rw [Int.natCast_mul]; rfl, b5y (c4h h)]
theorem d3k (r x : Nat) (hr : r < 4294967296) (hx : x < 4294967296) : IntKind.wrap .u64 ((BitVec.ofInt (IntKind.bits .u64) ((r * LB : Nat) : Int) ||| BitVec.ofInt (IntKind.bits .u64) (x : Int)).toNat : Int) = ((r * LB + x : Nat) : Int) := by
  have hLB : LB = 4294967296 := rfl
  have e : (BitVec.ofInt (IntKind.bits .u64) ((r * LB : Nat) : Int) ||| BitVec.ofInt (IntKind.bits .u64) (x : Int)).toNat = r * LB + x := by
    show (BitVec.ofInt 64 ((r * LB : Nat) : Int) ||| BitVec.ofInt 64 (x : Int)).toNat = r * LB + x
    rw [BitVec.toNat_or, BitVec.ofInt_natCast, BitVec.ofInt_natCast, BitVec.toNat_ofNat, BitVec.toNat_ofNat, Nat.mod_eq_of_lt (c4h hr), Nat.mod_eq_of_lt (by omega)]
    have := Nat.shiftLeft_add_eq_or_of_lt (b := x) (i := 32) (by simpa using hx) r
    rw [Nat.shiftLeft_eq] at this
    exact this.symm
  rw [e, b5y (c7r hr hx)]
theorem d1l (t d : Nat) (hd : 0 < d) (ht : t < 18446744073709551616) : binV .quo (.int .u64 (t : Int)) (.int .u64 (d : Int)) = some (.int .u64 ((t / d : Nat) : Int)) := by
  rw [c0z _ _ _ (by omega), Int.tdiv_eq_ediv_of_nonneg (by omega)]
  have : (t : Int) / (d : Int) = ((t / d : Nat) : Int) := rfl
  have h2 : t / d ≤ t := Nat.div_le_self _ _
  rw [this, b5y (by omega)]
theorem d1j (t d : Nat) (hd : 0 < d) : binV .rem (.int .u64 (t : Int)) (.int .u64 (d : Int)) = some (.int .u64 ((t % d : Nat) : Int)) := by
  rw [c0y _ _ _ (by omega), Int.tmod_eq_emod_of_nonneg (by omega)]; rfl
theorem d1m (k : IntKind) (hk : ∀ n : Nat, n < 4294967296 → k.wrap (n : Int) = n) (t : Nat) (ht : t < 4294967296) : binV .quo (.int k (t : Int)) (.int k 10) = some (.int k ((t / 10 : Nat) : Int)) := by
  rw [c0z _ _ _ (by decide), Int.tdiv_eq_ediv_of_nonneg (by omega)]
  have : (t : Int) / 10 = ((t / 10 : Nat) : Int) := rfl
  rw [this, hk _ (by omega)]
theorem d1k (k : IntKind) (t : Nat) : binV .rem (.int k (t : Int)) (.int k 10) = some (.int k ((t % 10 : Nat) : Int)) := by
  rw [c0y _ _ _ (by decide), Int.tmod_eq_emod_of_nonneg (by omega)]; rfl
end
theorem c4T (a : List Nat) (d : Nat) (ha : Nt a) (hd : 0 < d) (hd2 : d < 4294967296) : a0g Pr a9Z [natV a, .int .u32 d] (.tup [natV (limbs (val a / d)), .int .u32 ((val a % d : Nat) : Int)]) := by
  have hLB : LB = 4294967296 := rfl
  have hal := ha.len
  have hla := ha.lim
  have hw0 : IntKind.wrap .i64 ((a.length : Int) - 1) = (a.length : Int) - 1 := by rw [a0e] <;> omega
  have hwd : IntKind.wrap .u64 (d : Int) = (d : Int) := a0H (by omega) (by omega)
  refine a0g.intro c1o c1m (Nat.le_of_ble_eq_true rfl) (.tup _ (by intro c hc; simp only [List.mem_cons, List.not_mem_nil, or_false] at hc; rcases hc with rfl | rfl; exact a2j _; exact .int _ _)) fun H hH => ?_
  refine Safe.rg rfl ?_
  simp only [b3H, E2, Nat.reduceLeDiff, Nat.reduceSub, Nat.reduceAdd, Nat.reduceEqDiff, reduceCtorEq, ↓reduceIte]
  refine Safe.rg rfl ?_
  simp only [b3G, a5M _ H [] .i64 .i64 a.length (by omega), E2, Nat.reduceLeDiff, Nat.reduceSub, Nat.reduceAdd, Nat.reduceEqDiff, reduceCtorEq, ↓reduceIte]
  refine Safe.rg rfl ?_
  simp only [b3F, E2, Nat.reduceLeDiff, Nat.reduceSub, Nat.reduceAdd, Nat.reduceEqDiff, reduceCtorEq, ↓reduceIte]
  refine Safe.rg rfl ?_
  simp only [b3E, hw0, E2, Nat.reduceLeDiff, Nat.reduceSub, Nat.reduceAdd, Nat.reduceEqDiff, reduceCtorEq, ↓reduceIte]
  refine Safe.lp rfl ?_
  refine Safe.keep [0, 1, 6, 7, 8] ?_
  simp only [E2, Nat.reduceLeDiff, Nat.reduceSub, Nat.reduceAdd, Nat.reduceEqDiff, reduceCtorEq, ↓reduceIte]
  refine Safe.loopD a.length (fun i => [(0, natV a), (1, .int .u32 d), (6, .mu (lid H 0) 0 a.length (some a.length)), (7, .int .u64 ((sdiv d (a.drop i)).2 : Nat)), (8, .int .i64 ((i : Int) - 1))]) (fun i => hap H [some ⟨1, u32s (List.replicate i 0 ++ (sdiv d (a.drop i)).1)⟩]) (by simp [sdiv]) (by simp [sdiv]) (fun i hi ih => ?_) ?_
  · have hidx : ((i + 1 : Nat) : Int) - 1 = (i : Int) := by omega
    have hr := b4W hd (a.drop (i + 1))
    have hx : a.getD i 0 < 4294967296 := by
      rw [List.getD_eq_getElem?_getD, List.getElem?_eq_getElem hi]; exact hla _ (List.getElem_mem hi)
    have hdrop : a.drop i = a.getD i 0 :: a.drop (i + 1) := by
      rw [List.drop_eq_getElem_cons hi, List.getD_eq_getElem?_getD, List.getElem?_eq_getElem hi]; rfl
    rw [hdrop, a6V] at ih
    generalize hs : sdiv d (a.drop (i + 1)) = s at *
    obtain ⟨qs, r⟩ := s
    simp only at hr ih
    have hql : qs.length = a.length - (i + 1) := by have := b9A d (a.drop (i + 1)); rw [hs, List.length_drop] at this; exact this
    generalize hx2 : a.getD i 0 = x0 at *
    have ht : r * LB + x0 < 18446744073709551616 := by
      have : r * LB ≤ 4294967294 * LB := Nat.mul_le_mul_right _ (by omega)
      omega
    have hq : (r * LB + x0) / d < 4294967296 := by
      rw [Nat.div_lt_iff_lt_mul hd]
      have : r * LB ≤ (d - 1) * LB := Nat.mul_le_mul_right _ (by omega)
      have e : (d - 1) * LB + LB = 4294967296 * d := by rw [← Nat.succ_mul, Nat.mul_comm]; congr 1; omega
      omega
    have hwx : IntKind.wrap .u64 (x0 : Int) = (x0 : Int) := a0H (by omega) (by omega)
    have hwq : IntKind.wrap .u32 (((r * LB + x0) / d : Nat) : Int) = (((r * LB + x0) / d : Nat) : Int) := c0K hq
    have hw1 : IntKind.wrap .i64 ((i : Int) - 1) = (i : Int) - 1 := by rw [a0e] <;> omega
    refine Safe.inLoop ?_
    refine Safe.rg rfl ?_
    simp only [a7e, hidx, ge_iff_le, Int.natCast_nonneg, E2, Nat.reduceLeDiff, Nat.reduceSub, Nat.reduceAdd, Nat.reduceEqDiff, reduceCtorEq, ↓reduceIte]
    refine Safe.cd rfl ?_
    simp only [E2, Nat.reduceLeDiff, Nat.reduceSub, Nat.reduceAdd, Nat.reduceEqDiff, reduceCtorEq, ↓reduceIte]
    refine Safe.rg rfl ?_
    simp only [b3D, hidx, d1c r (by omega), a0L _ a _ i hi, hx2, hwx, d3k r x0 (by omega) hx, E2, Nat.reduceLeDiff, Nat.reduceSub, Nat.reduceAdd, Nat.reduceEqDiff, reduceCtorEq, ↓reduceIte]
    refine Safe.rg rfl ?_
    simp only [b3C, hidx, hwd, d1l _ d hd ht, hwq, c7A hi, b3y H _ (List.replicate (i + 1) 0 ++ qs) i ((r * LB + x0) / d) (by simp; omega), d1i, E2, Nat.reduceLeDiff, Nat.reduceSub, Nat.reduceAdd, Nat.reduceEqDiff, reduceCtorEq, ↓reduceIte]
    refine Safe.rg rfl ?_
    simp only [b3B, hwd, d1j _ d hd, E2, Nat.reduceLeDiff, Nat.reduceSub, Nat.reduceAdd, Nat.reduceEqDiff, reduceCtorEq, ↓reduceIte]
    refine Safe.rg rfl ?_
    simp only [b3A, hidx, hw1, E2, Nat.reduceLeDiff, Nat.reduceSub, Nat.reduceAdd, Nat.reduceEqDiff, reduceCtorEq, ↓reduceIte]
    refine Safe.keep [0, 1, 6, 7, 8] ?_
    simp only [E2, Nat.reduceLeDiff, Nat.reduceSub, Nat.reduceAdd, Nat.reduceEqDiff, reduceCtorEq, ↓reduceIte]
    exact ih
  · refine Safe.inLoop ?_
    refine Safe.rg rfl ?_
    simp only [a7e, Int.natCast_zero, Int.zero_sub, show ¬ (-1 : Int) ≥ 0 by decide, show ¬ (0 : Int) ≤ -1 by decide, E2, Nat.reduceLeDiff, Nat.reduceSub, Nat.reduceAdd, Nat.reduceEqDiff, reduceCtorEq, ↓reduceIte]
    refine Safe.cd rfl ?_
    simp only [E2, Nat.reduceLeDiff, Nat.reduceSub, Nat.reduceAdd, Nat.reduceEqDiff, reduceCtorEq, ↓reduceIte]
    have hl : ((sdiv d a).1).length = a.length := b9A d a
    have hfm : frz (lid H 0) ⟨1, u32s (sdiv d a).1⟩ (.mu (lid H 0) 0 a.length (some a.length)) = natV (sdiv d a).1 := by
      have := b2A H 0 (sdiv d a).1 (some a.length)
      rwa [hl] at this
    simp only [List.replicate_zero, List.nil_append, List.drop_zero]
    refine Safe.freeze 0 hH rfl rfl (a0Y _) ?_
    refine Safe.keep [6, 7] ?_
    simp only [hfm, E2, Nat.reduceLeDiff, Nat.reduceSub, Nat.reduceAdd, Nat.reduceEqDiff, reduceCtorEq, ↓reduceIte]
    have htr := a1f (sdiv d a).1 (c3Z hd hla) (by rw [hl]; exact hal)
    rw [c8M hd] at htr
    have hm : val a % d < 4294967296 := Nat.lt_trans (Nat.mod_lt _ hd) hd2
    have hwm : IntKind.wrap .u32 ((val a % d : Nat) : Int) = ((val a % d : Nat) : Int) := a3k (by omega) (by omega)
    rw [c8L hd]
    refine Safe.rg rfl ?_
    simp only [b3z, E2, Nat.reduceLeDiff, Nat.reduceSub, Nat.reduceAdd, Nat.reduceEqDiff, reduceCtorEq, ↓reduceIte]
    first | refine (htr).acall ?_ | refine (htr).dcall ?_ | refine (htr).dgcall ?_
    try simp only [E2, Nat.reduceLeDiff, Nat.reduceSub, Nat.reduceAdd, Nat.reduceEqDiff, reduceCtorEq, ↓reduceIte]
    simp only [hwm, E2, Nat.reduceLeDiff, Nat.reduceSub, Nat.reduceAdd, Nat.reduceEqDiff, reduceCtorEq, ↓reduceIte]
    refine Safe.rt rfl ?_
    simp only [E2, Nat.reduceLeDiff, Nat.reduceSub, Nat.reduceAdd, Nat.reduceEqDiff, reduceCtorEq, ↓reduceIte]
    first | exact ⟨rfl, _, rfl⟩ | exact ⟨_, rfl⟩ | exact ⟨trivial, _, rfl⟩
section
variable {H L : Heap} {env : Env} {n0 : Nat}
/-- One byte, or many, behind a row of bytes. -/
theorem d2M (hH : a0S H) (hn : n0 ≤ lid H 0) (hL : RC L) (l m : List UInt8) (len : Nat) (y : AV) (str : Bool) (hy : a0C (hap H (some ⟨1, byts l⟩ :: L)) 1 str y = some (byts m)) (hlen : len = l.length) (hb : l.length + m.length ≤ 140737488355328) :
    appV n0 1 1 str (.mu (lid H 0) 0 len none) y env (hap H (some ⟨1, byts l⟩ :: L)) = some (.mu (lid H 0) 0 (len + m.length) none, scrub (lid H 0) env, hap H (some ⟨1, byts (l ++ m)⟩ :: L)) := by
  have := a8s n0 env H (some ⟨1, byts l⟩ :: L) 1 1 str 0 len none y (byts l) (byts m) hH rfl (by rw [a4I]; exact hlen) hn hy (a8r (RC.byts hL)) (by
    intro a ha
    rw [c2c] at ha
    obtain ⟨b, _, rfl⟩ := List.mem_map.1 ha
    exact .int _ _) (by rw [a4I]; omega) (by rw [a4I]; omega) rfl
  rw [a4I] at this
  simpa only [a0Q, Option.bind_none, List.set_cons_zero, ← c3O] using this
theorem d0Q {l : List UInt8} {j : Nat} (h : j < l.length) : atV (hap H (some ⟨1, byts l⟩ :: L)) (.loc (lid H 0) j 0) = some [.int .u8 ((l.getD j 0).toNat : Int)] := by
  rw [c4f H _ 0 j rfl (by rw [a4I]; exact h)]
  have : (byts l).getD j .top = .int .u8 ((l.getD j 0).toNat : Int) := by simp [byts, h]
  rw [this]; rfl
theorem d0C {l : List UInt8} {j : Nat} {b : UInt8} (h : j < l.length) : a5d 1 (.loc (lid H 0) j 0) (.int .u8 (b.toNat : Int)) env (hap H (some ⟨1, byts l⟩ :: L)) = some (.top, env, hap H (some ⟨1, byts (l.set j b)⟩ :: L)) := by
  rw [b1W env H _ 1 0 j 0 _ rfl (by rw [a4I]; exact h) rfl rfl (Nat.le_refl 1)]
  have : (byts l).set j (.int .u8 (b.toNat : Int)) = byts (l.set j b) := by simp [byts, List.map_set]
  simp only [a6R, this, List.set_cons_zero]
theorem d3N (l : List UInt8) (len : Nat) (h : len = l.length) : b2sV (hap H (some ⟨1, byts l⟩ :: L)) (.mu (lid H 0) 0 len none) = some (strU l) := by
  subst h
  rw [d2G, a1I]
  simp only [List.getElem?_cons_zero, Option.join_some, Option.bind_some]
  rw [if_pos ⟨trivial, by rw [a4I]; omega⟩, List.drop_zero, ← a4I, List.take_length, c6v]
end
theorem c9Y (k : Nat) (h : k < 10) : IntKind.wrap .u8 ((48 : Int) + (k : Int)) = ((cdig k).toNat : Int) := by
  rw [d2s h]
  simp [IntKind.wrap, IntKind.bits, IntKind.signed]; omega
/-- The bytes turned about from both ends, i of them done. -/
def rvl (i : Nat) (l : List UInt8) : List UInt8 := (List.range l.length).map fun j => if j < i ∨ l.length - i ≤ j then l.getD (l.length - 1 - j) 0 else l.getD j 0
theorem c2x (i : Nat) (l : List UInt8) : (rvl i l).length = l.length := by simp [rvl]
theorem c8O (l : List UInt8) : rvl 0 l = l := by
  apply List.ext_getElem
  · simp [rvl]
  · intro j h1 h2
    simp only [rvl, List.getElem_map, List.getElem_range]
    rw [if_neg (by omega), List.getD_eq_getElem?_getD, List.getElem?_eq_getElem h2]; rfl
theorem c4a (i j : Nat) (l : List UInt8) (h : j < l.length) : (rvl i l).getD j 0 = if j < i ∨ l.length - i ≤ j then l.getD (l.length - 1 - j) 0 else l.getD j 0 := by
  rw [List.getD_eq_getElem?_getD, List.getElem?_eq_getElem (by rw [c2x]; exact h)]
  simp [rvl]
theorem c8Q (l : List UInt8) : rvl (l.length / 2) l = l.reverse := by
  apply List.ext_getElem
  · simp [rvl]
  · intro j h1 h2
    have hj : j < l.length := by simpa [rvl] using h1
    simp only [rvl, List.getElem_map, List.getElem_range, List.getElem_reverse]
    split
    · rw [List.getD_eq_getElem?_getD, List.getElem?_eq_getElem (by omega)]; rfl
    · rename_i h
      have e : l.length - 1 - j = j := by omega
      simp only [e]
      rw [List.getD_eq_getElem?_getD, List.getElem?_eq_getElem hj]; rfl
theorem c8P (i : Nat) (l : List UInt8) (h : i < l.length / 2) : ((rvl i l).set i (l.getD (l.length - 1 - i) 0)).set (l.length - 1 - i) (l.getD i 0) = rvl (i + 1) l := by
  apply List.ext_getElem
  · simp [rvl]
  · intro j h1 h2
    have hj : j < l.length := by simpa [rvl] using h2
    rw [List.getElem_set, List.getElem_set]
    simp only [rvl, List.getElem_map, List.getElem_range]
    by_cases e1 : l.length - 1 - i = j
    · rw [if_pos e1, if_pos (by omega)]
      congr 1; omega
    · rw [if_neg e1]
      by_cases e2 : i = j
      · subst e2
        rw [if_pos rfl, if_pos (by omega)]
      · rw [if_neg e2]
        by_cases e3 : j < i ∨ l.length - i ≤ j
        · rw [if_pos e3, if_pos (by omega)]
        · rw [if_neg e3, if_neg (by omega)]
theorem d1P {q r k : Nat} (hk : k < 9) : (q * 10 ^ (9 - k) + r) % 10 = r % 10 := by
  rw [show 9 - k = (8 - k) + 1 by omega, Nat.pow_succ, ← Nat.mul_assoc]; omega
theorem d1Q {q r k : Nat} (hk : k < 9) : (q * 10 ^ (9 - k) + r) / 10 = q * 10 ^ (9 - (k + 1)) + r / 10 := by
  rw [show 9 - k = (9 - (k + 1)) + 1 by omega, Nat.pow_succ, ← Nat.mul_assoc]; omega
theorem d3x {r k : Nat} (hk : k < 9) (h : r < 10 ^ (9 - k)) : r / 10 < 10 ^ (9 - (k + 1)) := by
  rw [show 9 - k = (9 - (k + 1)) + 1 by omega, Nat.pow_succ] at h; omega
theorem c9F {q k : Nat} (h : q * 10 ^ (9 - k) + 0 = 0) : q = 0 := by
  rcases Nat.eq_zero_or_pos q with h0 | h0
  · exact h0
  · have : 0 < q * 10 ^ (9 - k) := Nat.mul_pos h0 (Nat.pow_pos (by decide))
    omega
theorem b7w {m : Nat} (h : m ≠ 0) : ((limbs m).length : Int) > 0 := by
  rw [a2J h, List.length_cons]; omega
theorem c0h : ¬ ((limbs 0).length : Int) > 0 := by rw [a0x]; decide
theorem c1j (a : List Nat) (ha : Nt a) (hs : a.length ≤ 8796093022208) : a0g Pr a3z [natV a] (strU (dec (val a))) := by
  have hal := ha.len
  have hla := ha.lim
  generalize hn : val a = n
  have hlm : ∀ m, m ≤ n → Nt (limbs m) := fun m hm => ⟨a0T m, Nat.le_trans (a0R (Nat.lt_of_le_of_lt hm (by rw [← hn]; exact a2U hla))) hal⟩
  have hdl : (digs n).length ≤ 87960930222080 := Nat.le_trans (c0u (10 * a.length) n (Nat.lt_of_lt_of_le (by rw [← hn]; exact a2U hla) (d0G _))) (by omega)
  have hnorm := c6X a ha
  rw [hn] at hnorm
  refine a0g.intro c2N c2M (Nat.le_of_ble_eq_true rfl) (a2u _) fun H hH => ?_
  refine Safe.rg rfl ?_
  simp only [b6k, E2, seval]
  refine Safe.rg rfl ?_
  simp only [b6j, E2, seval]
  first | refine (hnorm).acall ?_ | refine (hnorm).dcall ?_ | refine (hnorm).dgcall ?_
  try simp only [E2, seval]
  refine Safe.rg rfl ?_
  simp only [b6i, E2, seval]
  refine Safe.cd rfl ?_
  simp only [E2, seval]
  by_cases h0 : n = 0
  · subst h0
    have hz : ((limbs 0).length : Int) = 0 := by rw [a0x]; rfl
    simp only [hz, E2, seval]
    refine Safe.rg rfl ?_
    simp only [b6h, E2, seval]
    refine Safe.rt rfl ?_
    simp only [E2, seval]
    exact ⟨rfl, _, rfl⟩
  · have hz : ¬ ((limbs n).length : Int) = 0 := by have := b7w h0; omega
    have hdec : dec n = (digs n).reverse := by simp [dec, h0]
    simp only [hz, E2, seval]
    refine Safe.rg rfl ?_
    simp only [b6g, E2, seval]
    refine Safe.nilrow 3 1 (by decide) (by simp only [E2, seval]) ?_
    refine Safe.lp rfl ?_
    refine Safe.keep [0, 3] ?_
    simp only [E2, seval]
    refine Safe.loopW (α := Nat × List UInt8) (fun p => p.1) (fun p => [(0, natV (limbs p.1)), (3, .mu (lid H 0) 0 p.2.length none)]) (fun p => hap H [some ⟨1, byts p.2⟩]) (fun p => p.1 ≤ n ∧ p.2 ++ digs p.1 = digs n) (n, []) rfl rfl ⟨Nat.le_refl _, rfl⟩ ?_
    rintro ⟨m, bs⟩ ⟨hm, hinv⟩ ih
    simp only at hm hinv ih ⊢
    refine Safe.inLoop ?_
    by_cases hm0 : m = 0
    · subst hm0
      rw [b1L, List.append_nil] at hinv
      subst hinv
      generalize hbs : digs n = bs at *
      have hb1 : 0 < bs.length := by
        rcases Nat.eq_zero_or_pos bs.length with h | h
        · rw [b5i h0] at hbs
          rw [← hbs] at h; simp at h
        · exact h
      refine Safe.rg rfl ?_
      simp only [a9u, c0h, E2, seval]
      refine Safe.cd rfl ?_
      simp only [E2, seval]
      have hw1 : IntKind.wrap .i64 ((bs.length : Int) - 1) = (bs.length : Int) - 1 := by rw [a0e] <;> omega
      refine Safe.rg rfl ?_
      simp only [a4n, hw1, E2, seval]
      refine Safe.lp rfl ?_
      refine Safe.keep [3, 7, 8] ?_
      simp only [E2, seval]
      refine Safe.loopN (bs.length / 2) (fun i => [(3, .mu (lid H 0) 0 bs.length none), (7, .int .i64 i), (8, .int .i64 ((bs.length : Int) - 1 - (i : Int)))]) (fun i => hap H [some ⟨1, byts (rvl i bs)⟩]) (by simp) (by rw [c8O]) (fun i hi ih3 => ?_) ?_
      · have hlt : (i : Int) < (bs.length : Int) - 1 - (i : Int) := by omega
        have hk : (bs.length : Int) - 1 - (i : Int) = ((bs.length - 1 - i : Nat) : Int) := by omega
        have hk2 : IntKind.wrap .i64 (((bs.length - 1 - i : Nat) : Int) - 1) = (bs.length : Int) - 1 - ((i + 1 : Nat) : Int) := by rw [a0e] <;> omega
        have l1 : i < (rvl i bs).length := by rw [c2x]; omega
        have l2 : bs.length - 1 - i < (rvl i bs).length := by rw [c2x]; omega
        have g1 := c4a i i bs (by omega)
        rw [if_neg (by omega)] at g1
        have g2 := c4a i (bs.length - 1 - i) bs (by omega)
        rw [if_neg (by omega)] at g2
        have hlt' : (i : Int) < ((bs.length - 1 - i : Nat) : Int) := by omega
        have hiw : IntKind.wrap .i64 ((i : Int) + 1) = ((i + 1 : Nat) : Int) := by rw [a0e] <;> omega
        refine Safe.inLoop ?_
        refine Safe.rg rfl ?_
        simp only [a7h, hk, hlt', E2, seval]
        refine Safe.cd rfl ?_
        simp only [E2, seval]
        refine Safe.rg rfl ?_
        simp only [b3J, hk, c7A (show bs.length - 1 - i < bs.length by omega), c7A (show i < bs.length by omega), d0Q l1, d0Q l2, g1, g2, d0C l1, d0C (show bs.length - 1 - i < ((rvl i bs).set i (bs.getD (bs.length - 1 - i) 0)).length by rw [List.length_set]; exact l2), c8P i bs hi, E2, seval]
        refine Safe.rg rfl ?_
        simp only [b3I, hk, hk2, hiw, E2, seval]
        refine Safe.keep [3, 7, 8] ?_
        simp only [E2, seval]
        exact ih3
      · have hlt : ¬ ((bs.length / 2 : Nat) : Int) < (bs.length : Int) - 1 - ((bs.length / 2 : Nat) : Int) := by omega
        refine Safe.inLoop ?_
        refine Safe.rg rfl ?_
        simp only [a7h, hlt, E2, seval]
        refine Safe.cd rfl ?_
        simp only [E2, seval]
        rw [c8Q]
        refine Safe.rg rfl ?_
        simp only [a4m, d3N bs.reverse bs.length (List.length_reverse).symm, E2, seval]
        refine Safe.rt rfl ?_
        simp only [E2, seval]
        rw [hdec]
        exact ⟨rfl, _, rfl⟩
    · have hsh := c4T (limbs m) 1000000000 (hlm m hm) (by decide) (by decide)
      rw [a0v] at hsh
      refine Safe.rg rfl ?_
      simp only [a9u, b7w hm0, E2, seval]
      refine Safe.cd rfl ?_
      simp only [E2, seval]
      refine Safe.rg rfl ?_
      simp only [b6f, E2, seval]
      first | refine (hsh).acall ?_ | refine (hsh).dcall ?_ | refine (hsh).dgcall ?_
      try simp only [E2, seval]
      refine Safe.rg rfl ?_
      simp only [b6e, E2, seval]
      refine Safe.lp rfl ?_
      refine Safe.keep [3, 4, 5, 6] ?_
      simp only [E2, seval]
      refine Safe.loopW (α := Nat × Nat × List UInt8) (fun p => 9 - p.1) (fun p => [(3, .mu (lid H 0) 0 p.2.2.length none), (4, natV (limbs (m / 1000000000))), (5, .int .u32 p.2.1), (6, .int .i64 p.1)]) (fun p => hap H [some ⟨1, byts p.2.2⟩])
        (fun p => p.1 ≤ 9 ∧ p.2.1 < 10 ^ (9 - p.1) ∧ p.2.2 ++ digs (m / 1000000000 * 10 ^ (9 - p.1) + p.2.1) = digs n) (0, m % 1000000000, bs) rfl rfl ⟨Nat.zero_le _, by show m % 1000000000 < 10 ^ 9; omega, by
          show bs ++ digs (m / 1000000000 * 10 ^ 9 + m % 1000000000) = digs n
          rw [show m / 1000000000 * 10 ^ 9 + m % 1000000000 = m by omega]; exact hinv⟩ ?_
      rintro ⟨k, r, cs⟩ ⟨hk9, hr, hinv2⟩ ih2
      simp only at hk9 hr hinv2 ih2 ⊢
      have hfin : m / 1000000000 * 10 ^ (9 - k) + r = m / 1000000000 → Safe ⟨Pr, fun _ _ => false, a3z, 71, [.tmp 2], H.length⟩ [.code (.region a4o false), .inBlock 1, .inLoop a9w, .inBlock 0, .code (.seq (.seq (.region a4n false) (.block 4 (.loop a9v))) (.seq (.region a4m false) (.ret)))]
          [(3, .mu (lid H 0) 0 cs.length none), (4, natV (limbs (m / 1000000000))), (5, .int .u32 r), (6, .int .i64 k)] (hap H [some ⟨1, byts cs⟩]) fun r' H' => r' = strU (dec n) ∧ ∃ L, H' = hap H L := by
        intro e
        rw [e] at hinv2
        refine Safe.rg rfl ?_
        simp only [a4o, E2, seval]
        repeat (first | refine Safe.seq ?_ | refine Safe.skip ?_ | refine Safe.inBlock ?_ | refine Safe.block ?_ | refine Safe.exit rfl ?_)
        refine Safe.keep [0, 3] ?_
        simp only [E2, seval]
        exact ih (m / 1000000000, cs) ⟨by omega, hinv2⟩ (by show m / 1000000000 < m; omega)
      refine Safe.inLoop ?_
      by_cases hk : k < 9
      · have hki : (k : Int) < 9 := by omega
        by_cases hv : m / 1000000000 * 10 ^ (9 - k) + r = 0
        · have hr0 : r = 0 := by omega
          subst hr0
          have hq0 := c9F hv
          have hri : ¬ ((0 : Nat) : Int) > 0 := by decide
          rw [hq0] at hfin ⊢
          refine Safe.rg rfl ?_
          simp only [a3D, hki, c0h, hri, E2, seval]
          refine Safe.cd rfl ?_
          simp only [E2, seval]
          repeat (first | refine Safe.seq ?_ | refine Safe.skip ?_ | refine Safe.inBlock ?_ | refine Safe.block ?_ | refine Safe.exit rfl ?_)
          refine Safe.keep [3, 4, 5, 6] ?_
          simp only [E2, seval]
          exact hfin (by simp)
        · have hbody : Safe ⟨Pr, fun _ _ => false, a3z, 71, [.tmp 2], H.length⟩ [.code (.block 3 (.seq (.region a9t false) (.region a7j false))), .code (.region a7i false), .inLoop b6l, .inBlock 2, .code (.region a4o false), .inBlock 1, .inLoop a9w, .inBlock 0, .code (.seq (.seq (.region a4n false) (.block 4 (.loop a9v))) (.seq (.region a4m false) (.ret)))]
              [(3, .mu (lid H 0) 0 cs.length none), (4, natV (limbs (m / 1000000000))), (5, .int .u32 r), (6, .int .i64 k)] (hap H [some ⟨1, byts cs⟩]) fun r' H' => r' = strU (dec n) ∧ ∃ L, H' = hap H L := by
            have hr9 : r < 4294967296 := Nat.lt_of_lt_of_le hr (Nat.le_trans (Nat.pow_le_pow_right (by decide) (show 9 - k ≤ 9 by omega)) (by decide))
            have hm10 : r % 10 < 10 := Nat.mod_lt _ (by decide)
            have hw48 : IntKind.wrap .u32 ((48 : Int) + ((r % 10 : Nat) : Int)) = (48 : Int) + ((r % 10 : Nat) : Int) := a3k (by omega) (by omega)
            rw [b5i hv, d1P hk, d1Q hk] at hinv2
            have hcl : cs.length < (digs n).length := by rw [← hinv2]; simp
            have happ := fun env => d2M (H := H) (L := []) (env := env) (n0 := H.length) hH (a0V H 0) RC.nil cs [cdig (r % 10)] cs.length (.sl 1 [.int .u8 ((cdig (r % 10)).toNat : Int)]) false (a1L _ 1 _) rfl (by simp only [List.length_cons, List.length_nil]; omega)
            have hkw : IntKind.wrap .i64 ((k : Int) + 1) = ((k + 1 : Nat) : Int) := by rw [a0e] <;> omega
            refine Safe.rg rfl ?_
            simp only [a9t, d1k, hw48, c9Y _ hm10, happ, E2, seval]
            refine Safe.rg rfl ?_
            simp only [a7j, d1m .u32 (fun n h => c0K h) r hr9, E2, seval]
            refine Safe.rg rfl ?_
            simp only [a7i, hkw, E2, seval]
            refine Safe.keep [3, 4, 5, 6] ?_
            simp only [E2, seval]
            have := ih2 (k + 1, r / 10, cs ++ [cdig (r % 10)]) ⟨by show k + 1 ≤ 9; omega, d3x hk hr, by rw [← hinv2]; simp⟩ (by show 9 - (k + 1) < 9 - k; omega)
            simpa only [List.length_append, List.length_cons, List.length_nil, Nat.zero_add] using this
          by_cases hq : m / 1000000000 = 0
          · have hri : (r : Int) > 0 := by rw [hq] at hv; omega
            rw [hq] at hbody ⊢
            refine Safe.rg rfl ?_
            simp only [a3D, hki, c0h, hri, E2, seval]
            refine Safe.cd rfl ?_
            simp only [E2, seval]
            refine Safe.skip (Safe.seq ?_)
            refine Safe.keep [3, 4, 5, 6] ?_
            simp only [E2, seval]
            exact hbody
          · refine Safe.rg rfl ?_
            simp only [a3D, hki, b7w hq, E2, seval]
            refine Safe.cd rfl ?_
            simp only [E2, seval]
            refine Safe.skip (Safe.seq ?_)
            refine Safe.keep [3, 4, 5, 6] ?_
            simp only [E2, seval]
            exact hbody
      · have hki : ¬ (k : Int) < 9 := by omega
        have hk' : k = 9 := by omega
        subst hk'
        have hr0 : r = 0 := by simpa using hr
        subst hr0
        refine Safe.rg rfl ?_
        simp only [a3D, hki, E2, seval]
        refine Safe.cd rfl ?_
        simp only [E2, seval]
        repeat (first | refine Safe.seq ?_ | refine Safe.skip ?_ | refine Safe.inBlock ?_ | refine Safe.block ?_ | refine Safe.exit rfl ?_)
        refine Safe.keep [3, 4, 5, 6] ?_
        simp only [E2, seval]
        exact hfin (by simp)
end Go.Abs
namespace Go.Proofs
open Go.Shelf
def Try.lays156_ren : Go.Shelf.Ren := ⟨fun | 156 => 49 | 165 => 60 | 166 => 61 | 169 => 62 | 240 => 69 | 241 => 70 | 276 => 72 | 277 => 73 | n => n, fun | 31 => 67 | 9 => 9 | 3 => 3 | 4 => 4 | 0 => 0 | 20 => 20 | 72 => 79 | 76 => 83 | 70 => 76 | 37 => 77 | 75 => 82 | 127 => 89 | 164 => 91 | 5 => 5 | 80 => 85 | n => n, fun | n => n⟩
theorem Try.lays156 : Go.Proofs.Lays.n156 Try.prog Try.lays156_ren := {
  mixed := by kernel_rfl
  f156 := Try.func49.trans (congrArg some (by kernel_rfl))
  f165 := Try.func60.trans (congrArg some (by kernel_rfl))
  f166 := Try.func61.trans (congrArg some (by kernel_rfl))
  f169 := Try.func62.trans (congrArg some (by kernel_rfl))
  f240 := Try.func69.trans (congrArg some (by kernel_rfl))
  f241 := Try.func70.trans (congrArg some (by kernel_rfl))
  f276 := Try.func72.trans (congrArg some (by kernel_rfl))
  f277 := Try.func73.trans (congrArg some (by kernel_rfl))
  t0 := Try.underlying0
  a0 := Try.isAgg0
  z0 := Try.sizeOf0
  v0 := Try.zeroValue0
  t3 := Try.underlying3
  a3 := Try.isAgg3
  z3 := Try.sizeOf3
  v3 := Try.zeroValue3
  t4 := Try.underlying4
  a4 := Try.isAgg4
  z4 := Try.sizeOf4
  v4 := Try.zeroValue4
  t9 := Try.underlying9
  a9 := Try.isAgg9
  z9 := Try.sizeOf9
  v9 := Try.zeroValue9
  t20 := Try.underlying20
  a20 := Try.isAgg20
  z20 := Try.sizeOf20
  v20 := Try.zeroValue20
  t31 := Try.underlying67
  a31 := Try.isAgg67
  z31 := Try.sizeOf67
  v31 := Try.zeroValue67
  t37 := Try.underlying77
  a37 := Try.isAgg77
  z37 := Try.sizeOf77
  v37 := Try.zeroValue77
  t70 := Try.underlying76
  a70 := Try.isAgg76
  z70 := Try.sizeOf76
  v70 := Try.zeroValue76
  t72 := Try.underlying79
  a72 := Try.isAgg79
  z72 := Try.sizeOf79
  v72 := Try.zeroValue79
  t75 := Try.underlying82
  a75 := Try.isAgg82
  z75 := Try.sizeOf82
  v75 := Try.zeroValue82
  t76 := Try.underlying83
  a76 := Try.isAgg83
  z76 := Try.sizeOf83
  v76 := Try.zeroValue83
  t127 := Try.underlying89
  a127 := Try.isAgg89
  z127 := Try.sizeOf89
  v127 := Try.zeroValue89
  t164 := Try.underlying91
  a164 := Try.isAgg91
  z164 := Try.sizeOf91
  v164 := Try.zeroValue91 }
theorem Try.Builder_Extra_156 : Builder.Extra Try.prog Try.lays156_ren := {
  sizeBuilder := by kernel_rfl
  liesBuilder := by kernel_rfl
  t5 := Try.underlying5
  a5 := Try.isAgg5
  z5 := Try.sizeOf5
  v5 := Try.zeroValue5
  infoByte := by kernel_rfl
  cellsByte := by kernel_rfl
  sizeByte := by kernel_rfl
  neB5 := by decide }
open Go.RowKit in
/-- No element: the empty string; the world is aXs it was. (Whatever the slice's address and capacity: a nil slice too.) (LAID: no walk: one application.) -/
theorem Try.strings_Join_none (a : Option Addr) (c : Nat) (sep : ByteArray) (w : World) :
    Calls Try.prog 49 #[.slice a 0 c, .string sep] w fun e w' => e = .returned (.string ⟨#[]⟩) ∧ w' = w := Any.strings_Join_none Try.lays156 Try.Builder_Extra_156 a c sep w
open Go.RowKit in
/-- strings.Join: "Join concatenates the elements of its first argument to create a single string. The separator string sep is placed between elements in the resulting string.": HOWEVER MANY ELEMENTS. Below the heap's end the world is aXs it was. (LAID: no walk: one application.) -/
theorem Try.strings_Join (bk o c : Nat) (xs : List ByteArray) (sep : ByteArray) (w : World) (hcells : ∀ (j : Nat) x, xs[j]? = some x → w.cell? ⟨bk, o + j, none⟩ = some (.string x)) (hbk : bk < w.heap.size) (hN : xs.length ≤ 140737488355328) (hcap : xs.length ≤ c) (hlen : (Lib.join (xs.map (·.data.toList)) sep.data.toList).length ≤ 140737488355328) :
    Calls Try.prog 49 #[.slice (some ⟨bk, o, none⟩) xs.length c, .string sep] w fun e w' => e = .returned (.string ⟨(Lib.join (xs.map (·.data.toList)) sep.data.toList).toArray⟩) ∧ Below w.heap.size w w' := Any.strings_Join Try.lays156 Try.Builder_Extra_156 bk o c xs sep w hcells hbk hN hcap hlen
end Go.Proofs
namespace Go.Abs
theorem c7L (xs : List (List UInt8)) : (xs.map strU).flatMap AV.cells = xs.map strU := by
  induction xs with
  | nil => rfl
  | cons x xs ih => rw [List.map_cons, List.flatMap_cons, ih]; rfl
theorem d2A {w : World} {b o : Nat} {v : Value} (h : w.cell? ⟨b, o, none⟩ = some v) : b < w.heap.size := by
  simp only [World.cell?] at h
  cases hb : w.heap[b]? with
  | none => simp [hb] at h
  | some o => exact (Array.getElem?_eq_some_iff.1 hb).1
theorem c1R (xs : List (List UInt8)) (sep : List UInt8) (hN : xs.length ≤ 140737488355328) (hlen : (Lib.join xs sep).length ≤ 140737488355328) : a0g Pr a1k [.sl 1 (xs.map strU), strU sep] (strU (Lib.join xs sep)) := by
  refine a0g.ofBelow (fn := Go.Proofs.Try.f49) Go.Proofs.Try.func49 (by kernel_rfl) (by kernel_rfl) ?_
  intro E vs hok hl hrep
  match vs, hl with
  | [v0, v1], _ =>
  have h0 := hrep 0 v0 _ rfl rfl
  have h1 := a2v (hrep 1 v1 _ rfl rfl)
  subst h1
  have key : ∀ (base : Option Addr) (cap : Nat), xs.length ≤ cap → (xs = [] ∨ ∃ b o, base = some ⟨b, o, none⟩ ∧ ∀ (j : Nat) l, xs[j]? = some l → E.w.cell? ⟨b, o + j, none⟩ = some (.string ⟨l.toArray⟩)) →
      Calls Pr a1k [.slice base xs.length cap, .string ⟨sep.toArray⟩].toArray E.w fun e w' => (∃ v, e = .returned v ∧ ∀ E', Rep E' v (strU (Lib.join xs sep))) ∧ Go.RowKit.Below E.w.heap.size E.w w' := by
    intro base cap hcap hb
    rcases hb with rfl | ⟨b, o, rfl, hc⟩
    · refine (Go.Proofs.Try.strings_Join_none base cap ⟨sep.toArray⟩ E.w).mono ?_
      rintro e w' ⟨rfl, rfl⟩
      exact ⟨⟨_, rfl, fun _ => .str _⟩, Go.RowKit.Below.refl _ _⟩
    · by_cases hx : xs = []
      · subst hx
        refine (Go.Proofs.Try.strings_Join_none (some ⟨b, o, none⟩) cap ⟨sep.toArray⟩ E.w).mono ?_
        rintro e w' ⟨rfl, rfl⟩
        exact ⟨⟨_, rfl, fun _ => .str _⟩, Go.RowKit.Below.refl _ _⟩
      have hpos : 0 < xs.length := List.length_pos_iff.2 hx
      have hmm : (xs.map fun l => ByteArray.mk l.toArray).map (·.data.toList) = xs := by
        rw [List.map_map]
        conv => rhs; rw [← List.map_id xs]
        exact List.map_congr_left fun l _ => rfl
      have := Go.Proofs.Try.strings_Join b o cap (xs.map fun l => ByteArray.mk l.toArray) ⟨sep.toArray⟩ E.w (by
        intro j x hj
        rw [List.getElem?_map, Option.map_eq_some_iff] at hj
        obtain ⟨l, hl, rfl⟩ := hj
        exact hc j l hl) (d2A (hc 0 _ (List.getElem?_eq_getElem hpos))) (by rw [List.length_map]; exact hN) (by rw [List.length_map]; exact hcap) (by rw [hmm]; exact hlen)
      rw [List.length_map, hmm] at this
      refine this.mono ?_
      rintro e w' ⟨rfl, hbl⟩
      exact ⟨⟨_, rfl, fun _ => .str _⟩, hbl⟩
  generalize hx : xs.map strU = ys at h0
  cases h0 with
  | sl base cap wd _ vs' b o hcap hpos hw hcl hbase hlen2 hcell hrep2 =>
    subst hx
    rw [List.length_map] at hcap ⊢
    refine key base cap hcap ?_
    rcases hbase with h | ⟨h, _⟩
    · exact .inl (List.map_eq_nil_iff.1 h)
    · refine .inr ⟨b, o, h, fun j l hj => ?_⟩
      rw [c7L] at hlen2 hrep2
      have hjl := (List.getElem?_eq_some_iff.1 hj).1
      have hv : vs'[j]? = some (vs'[j]'(by rw [hlen2, List.length_map]; exact hjl)) := List.getElem?_eq_getElem _
      have hr := hrep2 j _ (strU l) hv (by rw [List.getElem?_map, hj]; rfl)
      have := (hcell j _ hv).1
      rw [a2v hr] at this
      exact this
  | dead _ _ i hr hd h1 => simp [AV.ref] at hr
theorem c4y (x : ZI) (hx : Zok 8796093022208 x) : a0g Pr a6b [x.av] (strU (decI x.z)) := by
  have hx' := hx.mono (show 8796093022208 ≤ 17592186044416 by omega)
  have hs := a0o x hx'
  have ht := c1j x.mag ⟨hx'.lim, hx'.len⟩ hx.len
  have hab : x.z.natAbs = val x.mag := by unfold ZI.z; rw [c2w]
  have hdl : (dec (val x.mag)).length ≤ 10 * x.mag.length + 1 := c7S (a2U hx.lim)
  have hxl := hx.len
  have hadd : binV .add (.str ⟨#[45]⟩) (strU (dec (val x.mag))) = some (strU (45 :: dec (val x.mag))) := c6I [45] _ (by simp only [List.length_cons, List.length_nil]; omega)
  by_cases hn : x.z < 0
  · have hd : decI x.z = 45 :: dec (val x.mag) := by rw [decI, if_pos hn, hab]
    rw [hd]
    obtain ⟨n, m⟩ := x
    simp only [ZI.av] at hs ht hadd ⊢
    refine a0g.intro b2W b2V (Nat.le_of_ble_eq_true rfl) (a2u _) fun H hH => ?_
    refine Safe.rg rfl ?_
    simp only [a6I, E3, seval]
    refine Safe.rg rfl ?_
    simp only [a6H, E3, seval]
    first | refine (hs).acall ?_ | refine (hs).dcall ?_ | refine (hs).dgcall ?_
    try simp only [E3, seval]
    refine Safe.cd rfl ?_
    simp only [a6S, hn, E3, seval]
    refine Safe.rg rfl ?_
    simp only [b2U, E3, seval]
    first | refine (ht).acall ?_ | refine (ht).dcall ?_ | refine (ht).dgcall ?_
    try simp only [E3, seval]
    simp only [hadd, E3, seval]
    refine Safe.rt rfl ?_
    simp only [E3, seval]
    first | exact ⟨rfl, _, rfl⟩ | exact ⟨_, rfl⟩ | exact ⟨trivial, _, rfl⟩
  · have hd : decI x.z = dec (val x.mag) := by rw [decI, if_neg hn, hab]
    rw [hd]
    obtain ⟨n, m⟩ := x
    simp only [ZI.av] at hs ht hadd ⊢
    refine a0g.intro b2W b2V (Nat.le_of_ble_eq_true rfl) (a2u _) fun H hH => ?_
    refine Safe.rg rfl ?_
    simp only [a6I, E3, seval]
    refine Safe.rg rfl ?_
    simp only [a6H, E3, seval]
    first | refine (hs).acall ?_ | refine (hs).dcall ?_ | refine (hs).dgcall ?_
    try simp only [E3, seval]
    refine Safe.cd rfl ?_
    simp only [a6S, hn, E3, seval]
    refine Safe.rg rfl ?_
    simp only [b2T, E3, seval]
    first | refine (ht).acall ?_ | refine (ht).dcall ?_ | refine (ht).dgcall ?_
    try simp only [E3, seval]
    refine Safe.rt rfl ?_
    simp only [E3, seval]
    first | exact ⟨rfl, _, rfl⟩ | exact ⟨_, rfl⟩ | exact ⟨trivial, _, rfl⟩
theorem d2n (g : FuncId) (caps : List AV) (v : List ZI) (f : Nat → List UInt8) (hv : v.length ≤ 2097152) (hc : ∀ c ∈ caps, Cl c) (hf : ∀ (i : Nat) (h : i < v.length), a0g Pr g (v[i].av :: caps) (strU (f i))) : a0g Pr a2a [vecV v, .fn g caps] (.sl 1 ((tx v.length f).map strU)) := by
  have hcl : ∀ id, caps.all (nref id) = true := fun id => List.all_eq_true.2 fun c h => a1n (hc c h)
  refine a0g.intro a8y a8w (Nat.le_of_ble_eq_true rfl) (d0d 1 strU _ a2u) fun H hH => ?_
  refine Safe.rg rfl ?_
  simp only [a3j, E3, seval]
  refine Safe.rg rfl ?_
  simp only [a3i, a3p _ _ 1 16 _ _ _ v.length (by decide) (by omega) (by omega), E3, seval]
  refine Safe.rg rfl ?_
  simp only [a3h, E3, seval]
  refine Safe.lp rfl ?_
  refine Safe.keep [1, 5, 11, 12, 13] ?_
  try simp only [E3, seval]
  refine Safe.loopN (v.length) (fun i => [(1, .fn g caps), (5, .mu (lid H 0) 0 i (some v.length)), (11, vecV v), (12, .int .i64 v.length), (13, .int .i64 i)]) (fun i => hap H [some ⟨1, (tx i f).map strU⟩]) rfl rfl (fun i hi ih => ?_) ?_
  · have hlt : (i : Int) < (v.length : Int) := by omega
    have hiw : IntKind.wrap .i64 ((i : Int) + 1) = ((i + 1 : Nat) : Int) := by rw [a0e] <;> omega
    refine Safe.inLoop ?_
    refine Safe.rg rfl ?_
    simp only [a1K, hlt, E3, seval]
    refine Safe.cd rfl ?_
    simp only [E3, seval]
    refine Safe.rg rfl ?_
    simp only [a3g, a0I _ v _ i (by omega), E3, seval]
    refine Safe.rg rfl ?_
    simp only [a3f, E3, seval]
    first | refine (hf i hi).acall ?_ | refine (hf i hi).dcall ?_ | refine (hf i hi).dgcall ?_
    try simp only [E3, seval]
    simp only [ES, E3, seval]
    rw [b1P (H := H) 0 (a0V H 0) (f := strU) (tx i f) (f i) (tx (i + 1) f) (a5b _ _).symm rfl rfl (b5D _ _) (by omega)]
    simp only [hcl, E3, seval]
    refine Safe.rg rfl ?_
    simp only [a3e, hiw, E3, seval]
    refine Safe.keep [1, 5, 11, 12, 13] ?_
    simp only [E3, seval]
    refine Safe.drop1 hH rfl (by simp only [List.all_cons, List.all_nil, hcl, E3, seval]) (RC.row a2u RC.nil) ?_
    exact ih
  · refine Safe.inLoop ?_
    refine Safe.rg rfl ?_
    simp only [a1K, Int.lt_irrefl, E3, seval]
    refine Safe.cd rfl ?_
    simp only [E3, seval]
    refine Safe.freeze 0 hH rfl rfl (a1d 1 strU _ a2u) ?_
    refine Safe.keep [5] ?_
    simp only [a9X 0 1 strU (tx v.length f) v.length (some v.length) (a5b _ _).symm, E3, seval]
    refine Safe.rg rfl ?_
    simp only [a3d, E3, seval]
    refine Safe.rt rfl ?_
    simp only [E3, seval]
    first | exact ⟨rfl, _, rfl⟩ | exact ⟨_, rfl⟩ | exact ⟨trivial, _, rfl⟩
theorem d2m (g : FuncId) (caps : List AV) (v : List (List ZI)) (f : Nat → List UInt8) (hv : v.length ≤ 2097152) (hc : ∀ c ∈ caps, Cl c) (hf : ∀ (i : Nat) (h : i < v.length), a0g Pr g (vecV v[i] :: caps) (strU (f i))) : a0g Pr a1Z [matV v, .fn g caps] (.sl 1 ((tx v.length f).map strU)) := by
  have hcl : ∀ id, caps.all (nref id) = true := fun id => List.all_eq_true.2 fun c h => a1n (hc c h)
  refine a0g.intro a8v a8t (Nat.le_of_ble_eq_true rfl) (d0d 1 strU _ a2u) fun H hH => ?_
  refine Safe.rg rfl ?_
  simp only [a3c, E3, seval]
  refine Safe.rg rfl ?_
  simp only [a3b, a3p _ _ 1 16 _ _ _ v.length (by decide) (by omega) (by omega), E3, seval]
  refine Safe.rg rfl ?_
  simp only [a3a, E3, seval]
  refine Safe.lp rfl ?_
  refine Safe.keep [1, 5, 11, 12, 13] ?_
  try simp only [E3, seval]
  refine Safe.loopN (v.length) (fun i => [(1, .fn g caps), (5, .mu (lid H 0) 0 i (some v.length)), (11, matV v), (12, .int .i64 v.length), (13, .int .i64 i)]) (fun i => hap H [some ⟨1, (tx i f).map strU⟩]) rfl rfl (fun i hi ih => ?_) ?_
  · have hlt : (i : Int) < (v.length : Int) := by omega
    have hiw : IntKind.wrap .i64 ((i : Int) + 1) = ((i + 1 : Nat) : Int) := by rw [a0e] <;> omega
    refine Safe.inLoop ?_
    refine Safe.rg rfl ?_
    simp only [a1J, hlt, E3, seval]
    refine Safe.cd rfl ?_
    simp only [E3, seval]
    refine Safe.rg rfl ?_
    simp only [a2Z, a1o _ v _ i (by omega), E3, seval]
    refine Safe.rg rfl ?_
    simp only [a2Y, E3, seval]
    first | refine (hf i hi).acall ?_ | refine (hf i hi).dcall ?_ | refine (hf i hi).dgcall ?_
    try simp only [E3, seval]
    simp only [ES, E3, seval]
    rw [b1P (H := H) 0 (a0V H 0) (f := strU) (tx i f) (f i) (tx (i + 1) f) (a5b _ _).symm rfl rfl (b5D _ _) (by omega)]
    simp only [hcl, E3, seval]
    refine Safe.rg rfl ?_
    simp only [a2X, hiw, E3, seval]
    refine Safe.keep [1, 5, 11, 12, 13] ?_
    simp only [E3, seval]
    exact ih
  · refine Safe.inLoop ?_
    refine Safe.rg rfl ?_
    simp only [a1J, Int.lt_irrefl, E3, seval]
    refine Safe.cd rfl ?_
    simp only [E3, seval]
    refine Safe.freeze 0 hH rfl rfl (a1d 1 strU _ a2u) ?_
    refine Safe.keep [5] ?_
    simp only [a9X 0 1 strU (tx v.length f) v.length (some v.length) (a5b _ _).symm, E3, seval]
    refine Safe.rg rfl ?_
    simp only [a2W, E3, seval]
    refine Safe.rt rfl ?_
    simp only [E3, seval]
    first | exact ⟨rfl, _, rfl⟩ | exact ⟨_, rfl⟩ | exact ⟨trivial, _, rfl⟩
theorem c6o (v : List ZI) (hv : Vok 8796093022208 v) (hs : (txV v).length ≤ 70368744177664) : a0g Pr a1W [vecV v] (strU (txV v)) := by
  have hvl := hv.len
  have he := d2n a6b [] v (fun i => decI (zg v i)) hv.len (by simp) fun i h => by
    have := c4y v[i] (hv.get h)
    rwa [← a4M h] at this
  have hj : a0g Pr a1k [.sl 1 ((tx v.length fun i => decI (zg v i)).map strU), .str ⟨#[32]⟩] (strU (txV v)) := c1R _ [32] (by rw [a5b]; omega) (Nat.le_trans hs (by decide))
  refine a0g.intro b2q b2p (Nat.le_of_ble_eq_true rfl) (a2u _) fun H hH => ?_
  refine Safe.rg rfl ?_
  simp only [a5i, E3, seval]
  refine Safe.rg rfl ?_
  simp only [a5h, E3, seval]
  first | refine (he).acall ?_ | refine (he).dcall ?_ | refine (he).dgcall ?_
  try simp only [E3, seval]
  first | refine (hj).acall ?_ | refine (hj).dcall ?_ | refine (hj).dgcall ?_
  try simp only [E3, seval]
  refine Safe.rt rfl ?_
  simp only [E3, seval]
  first | exact ⟨rfl, _, rfl⟩ | exact ⟨_, rfl⟩ | exact ⟨trivial, _, rfl⟩
theorem c6r (b : List (List ZI)) (hb : Mok 8796093022208 b) (hs : (txM b).length ≤ 70368744177664) (hv : ∀ i, i < b.length → (txV (mg b i)).length ≤ 70368744177664) : a0g Pr b2M [matV b] (strU (txM b)) := by
  have hvl := hb.len
  have he := d2m a1W [] b (fun i => txV (mg b i)) hb.len (by simp) fun i h => by
    have hvi := hv i h
    rw [a5N h] at hvi ⊢
    exact c6o b[i] (hb.get h) hvi
  have hj : a0g Pr a1k [.sl 1 ((tx b.length fun i => txV (mg b i)).map strU), .str ⟨#[59, 32]⟩] (strU (txM b)) := c1R _ [59, 32] (by rw [a5b]; omega) (Nat.le_trans hs (by decide))
  refine a0g.intro c3k c3j (Nat.le_of_ble_eq_true rfl) (a2u _) fun H hH => ?_
  refine Safe.rg rfl ?_
  simp only [b7f, E3, seval]
  refine Safe.rg rfl ?_
  simp only [b7e, E3, seval]
  first | refine (he).acall ?_ | refine (he).dcall ?_ | refine (he).dgcall ?_
  try simp only [E3, seval]
  first | refine (hj).acall ?_ | refine (hj).dcall ?_ | refine (hj).dgcall ?_
  try simp only [E3, seval]
  refine Safe.rt rfl ?_
  simp only [E3, seval]
  first | exact ⟨rfl, _, rfl⟩ | exact ⟨_, rfl⟩ | exact ⟨trivial, _, rfl⟩
def sumL (v : List ZI) : Nat := (v.map fun z => z.mag.length).sum
structure TotV (v : List ZI) : Prop where
  len : v.length ≤ 1048576
  sum : sumL v ≤ 1048576
structure TotM (b : List (List ZI)) : Prop where
  len : b.length ≤ 1048576
  cells : (b.map fun v => v.length).sum ≤ 1048576
  sum : (b.map sumL).sum ≤ 1048576
theorem d3s {α : Type} (l : List α) (g : Nat → List UInt8) (W : List UInt8 → Nat) (B : α → Nat) (h : ∀ i (hi : i < l.length), W (g i) ≤ B l[i]) : ((tx l.length g).map W).sum ≤ (l.map B).sum := by
  suffices ∀ n, n ≤ l.length → ((tx n g).map W).sum ≤ ((l.take n).map B).sum by
    have := this l.length (Nat.le_refl _)
    rwa [List.take_length] at this
  intro n
  induction n with
  | zero => intro _; simp [tx]
  | succ n ih =>
    intro hn
    rw [b5D, List.take_succ_eq_append_getElem (by omega)]
    simp only [List.map_append, List.sum_append, List.map_cons, List.map_nil, List.sum_cons, List.sum_nil]
    have := ih (by omega)
    have := h n (by omega)
    omega
theorem d0Y (v : List ZI) : (v.map fun z => 10 * z.mag.length + 3).sum = 10 * sumL v + 3 * v.length := by
  induction v with
  | nil => rfl
  | cons z v ih => simp only [List.map_cons, List.sum_cons, ih, sumL, List.length_cons]; simp only [sumL] at ih; omega
theorem d0W {k : Nat} (v : List ZI) (hv : Vok k v) : (txV v).length ≤ 10 * sumL v + 3 * v.length := by
  rw [← d0Y]
  refine Nat.le_trans (c4i _ _ _) (d3s v _ _ _ fun i hi => ?_)
  have h := d0a (k := v[i].mag.length) (z := v[i].z) (by unfold ZI.z; rw [c2w]; exact a2U (hv.get hi).lim)
  rw [a4M hi]
  simp only [List.length_cons, List.length_nil]
  omega
theorem b2n {α : Type} (f : α → Nat) : ∀ {l : List α} {x : α}, x ∈ l → f x ≤ (l.map f).sum
  | a :: l, x, h => by
    rcases List.mem_cons.1 h with e | e
    · subst e; simp
    · have := b2n f e
      simp only [List.map_cons, List.sum_cons]; omega
theorem TotM.row {b : List (List ZI)} (h : TotM b) {i : Nat} (hi : i < b.length) : sumL (mg b i) ≤ 1048576 ∧ (mg b i).length ≤ 1048576 := by
  rw [a5N hi]
  exact ⟨Nat.le_trans (b2n sumL (List.getElem_mem hi)) h.sum, Nat.le_trans (b2n (fun v : List ZI => v.length) (List.getElem_mem hi)) h.cells⟩
theorem c9X : digs 1 = [49] := by rw [b5i (by decide)]; rw [show 1 / 10 = 0 by decide, b1L]; rfl
theorem b9n : txM (b5A 2) = [49, 32, 48, 59, 32, 48, 32, 49] := by
  have h0 : decI 0 = [48] := rfl
  have h1 : decI 1 = [49] := by
    show (if (1 : Nat) = 0 then [48] else (digs 1).reverse) = _
    rw [if_neg (by decide), c9X]; rfl
  have e : b5A 2 = [[canZ 1, canZ 0], [canZ 0, canZ 1]] := rfl
  rw [e]
  simp only [txM, txV, tx, List.length_cons, List.length_nil, List.range_succ, List.range_zero, List.map_append, List.map_cons, List.map_nil, List.nil_append, mg, zg, List.getD_cons_zero, List.getD_cons_succ, Nat.zero_add, c2a, h0, h1, List.cons_append]
  rfl
theorem b2I : a0g Pr a6c [] (.bool true) := by
  have hu := c9o 2 (by decide)
  have ht := c6r (b5A 2) (hu.mono (by decide)) (by rw [b9n]; decide) (fun i hi => by
    have h2 : i < 2 := by simpa [b5A, a0m] using hi
    have hl := d0W (mg (b5A 2) i) (hu.row i)
    have h1 : (mg (b5A 2) i).length = 2 := by rw [b5A, d3r h2, a0l]
    have h3 : sumL (mg (b5A 2) i) ≤ (mg (b5A 2) i).length := by
      have : ∀ v : List ZI, (∀ z ∈ v, z.mag.length ≤ 1) → sumL v ≤ v.length := by
        intro v
        induction v with
        | nil => intro _; exact Nat.le_refl _
        | cons z v ih =>
          intro h
          have a1 := h z (by simp)
          have a2 := ih fun y hy => h y (by simp [hy])
          simp only [sumL, List.map_cons, List.sum_cons, List.length_cons] at a2 ⊢
          omega
      exact this _ fun z hz => ((hu.row i).el z hz).len
    omega)
  rw [b9n] at ht
  have heq : binV .eql (strU [49, 32, 48, 59, 32, 48, 32, 49]) (.str ⟨#[49, 32, 48, 59, 32, 48, 32, 49]⟩) = some (.bool true) := by
    have := c6F [49, 32, 48, 59, 32, 48, 32, 49] [49, 32, 48, 59, 32, 48, 32, 49]
    rw [beq_self_eq_true] at this
    exact this
  refine a0g.intro b8o b8n (Nat.le_of_ble_eq_true rfl) (.bool _) fun H hH => ?_
  refine Safe.rg rfl ?_
  simp only [a9e, E3, Nat.reduceLeDiff, Nat.reduceSub, Nat.reduceAdd, Nat.reduceEqDiff, reduceCtorEq, ↓reduceIte]
  refine Safe.rg rfl ?_
  simp only [a9d, E3, Nat.reduceLeDiff, Nat.reduceSub, Nat.reduceAdd, Nat.reduceEqDiff, reduceCtorEq, ↓reduceIte]
  first | refine (b9W 2 (by decide)).acall ?_ | refine (b9W 2 (by decide)).dcall ?_ | refine (b9W 2 (by decide)).dgcall ?_
  try simp only [E3, Nat.reduceLeDiff, Nat.reduceSub, Nat.reduceAdd, Nat.reduceEqDiff, reduceCtorEq, ↓reduceIte]
  refine Safe.rg rfl ?_
  simp only [a9c, E3, Nat.reduceLeDiff, Nat.reduceSub, Nat.reduceAdd, Nat.reduceEqDiff, reduceCtorEq, ↓reduceIte]
  first | refine (ht).acall ?_ | refine (ht).dcall ?_ | refine (ht).dgcall ?_
  try simp only [E3, Nat.reduceLeDiff, Nat.reduceSub, Nat.reduceAdd, Nat.reduceEqDiff, reduceCtorEq, ↓reduceIte]
  simp only [heq, E3, Nat.reduceLeDiff, Nat.reduceSub, Nat.reduceAdd, Nat.reduceEqDiff, reduceCtorEq, ↓reduceIte]
  refine Safe.rt rfl ?_
  simp only [E3, Nat.reduceLeDiff, Nat.reduceSub, Nat.reduceAdd, Nat.reduceEqDiff, reduceCtorEq, ↓reduceIte]
  first | exact ⟨rfl, _, rfl⟩ | exact ⟨_, rfl⟩ | exact ⟨trivial, _, rfl⟩
end Go.Abs

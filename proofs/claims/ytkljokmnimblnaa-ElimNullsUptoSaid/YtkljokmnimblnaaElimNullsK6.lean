/- Part 6 of the proof of ElimNulls: W1, W2, W3, W4, W5, W6, W8. -/
import Derived.Test.YtkljokmnimblnaaElimNullsK5
set_option linter.unusedVariables false
set_option linter.unusedSimpArgs false
namespace Go.Abs
theorem a0w (l : List Nat) (hl : Lim l) (hb : l.length ≤ 17592186044416) : a0d Pr a0u [natV l] (natV (limbs (val l))) := by
  refine a0d.intro c4L c4J (by simp only [List.length_cons, List.length_nil]; omega) (a0X _) fun H hH => ?_
  refine Safe.seq (Safe.region ?_)
  simp only [b4o, E1, seval]
  refine Safe.seq (Safe.block (Safe.loop ?_))
  refine Safe.keep [0] ?_
  simp only [E1, seval]
  generalize hv : val l = v
  have stop : ∀ (l : List Nat) (ts : Env), Lim l → val l = v → (l.getLast?).getD 1 ≠ 0 → look ts 0 = natV l → Safe ⟨Pr, fun _ _ => false, a0u, 21, [.tmp 2], H.length⟩ [.code ((ACode.region a4a false).seq ACode.ret)] ts (hap H []) fun r' H' => r' = natV (limbs v) ∧ ∃ L, H' = hap H L := by
    intro l ts hl hv hn h0
    refine Safe.seq (Safe.region ?_)
    simp only [a4a, E1, seval, h0]
    refine Safe.retn ?_
    simp only [E1, seval]
    rw [← hv, a7F hl hn]
    exact ⟨rfl, [], rfl⟩
  induction hn : l.length using Nat.strongRecOn generalizing l with
  | _ n ih =>
  refine Safe.inLoop (Safe.seq (Safe.seq (Safe.region ?_)))
  rcases List.eq_nil_or_concat l with rfl | ⟨l', d, rfl⟩
  · simp only [a5y, E1, seval, a6o, Int.natCast_zero, Int.lt_irrefl]
    refine Safe.cond ?_
    simp only [E1, seval]
    refine Safe.exit rfl ?_
    exact stop [] _ hl hv (by simp) (by simp only [E1, seval])
  · simp only [List.concat_eq_append] at *
    have hlen : (l' ++ [d]).length = l'.length + 1 := by simp
    have h0 : (0 : Int) < ((l' ++ [d]).length : Int) := by omega
    have hw : IntKind.i64.wrap (((l' ++ [d]).length : Int) - 1) = (l'.length : Int) := by rw [hlen, a0a] <;> omega
    have hg : (l' ++ [d]).getD l'.length 0 = d := by simp
    simp only [a5y, E1, seval, a6o, h0, hw, a0C _ (l' ++ [d]) _ l'.length (by omega), hg]
    refine Safe.cond ?_
    simp only [E1, seval]
    by_cases hd : d = 0
    · subst hd
      simp only [Int.natCast_zero, E1, seval]
      refine Safe.skip (Safe.block (Safe.region ?_))
      simp only [b4n, E1, seval, a6o, hw, e3V _ (l' ++ [0]) _ l'.length (by omega)]
      refine Safe.inBlock (Safe.keep [0] ?_)
      simp only [E1, seval, List.take_left']
      exact ih l'.length (by omega) l' (b9o.1 hl).1 (by omega) (by rw [← hv, d9U]) rfl
    · have : ¬ ((d : Int) = 0) := by omega
      simp only [this, E1, seval]
      refine Safe.exit rfl ?_
      exact stop (l' ++ [d]) _ hl hv (by simpa using hd) (by simp only [E1, seval])
theorem a7D (l : List Nat) (hl : Nt l) : a0d Pr a7R [natV l] (natV (limbs (val l))) := by
  refine a0d.intro d5w d5v (by simp only [List.length_cons, List.length_nil]; omega) (a0X _) fun H hH => ?_
  refine Safe.seq (Safe.region ?_)
  simp only [c5a, E1, seval]
  refine Safe.seq (Safe.region ?_)
  simp only [c4Z, E1, seval]
  refine (a0w l hl.lim hl.len).acall ?_
  simp only [E1, seval, b4M _ _ H [] _ hl.limbs.len]
  refine Safe.freeze 0 (b := ⟨1, u32s (limbs (val l))⟩) hH rfl rfl (a0r _) ?_
  refine Safe.retn ?_
  simp only [E1, seval]
  first | exact ⟨rfl, _, rfl⟩ | exact ⟨_, rfl⟩ | exact ⟨trivial, _, rfl⟩
def cmpI (a b : Nat) : Int := if a < b then -1 else if b < a then 1 else 0
theorem b8I {a b : Nat} (h : (limbs a).length < (limbs b).length) : a < b := by
  have h1 : limbs b ≠ [] := by intro h0; rw [h0] at h; simp at h
  have := d3u h1
  have h2 := a1e (a0c a)
  rw [a0b] at h2
  have h3 : LB ^ (limbs a).length ≤ LB ^ ((limbs b).length - 1) := Nat.pow_le_pow_right (by decide) (by omega)
  omega
theorem b4m (a b : List Nat) (ha : Nt a) (hb : Nt b) : a0d Pr a7T [natV a, natV b] (.int .i64 (cmpI (val a) (val b))) := by
  refine a0d.intro d9d d9c (by simp only [List.length_cons, List.length_nil]; omega) (.int _ _) fun H hH => ?_
  refine Safe.seq (Safe.region ?_)
  simp only [c8C, E1, seval]
  refine Safe.seq (Safe.region ?_)
  simp only [c8B, E1, seval]
  refine (a0w a ha.lim ha.len).acall ?_
  try simp only [E1, seval]
  refine (a0w b hb.lim hb.len).acall ?_
  try simp only [E1, seval]
  have na := ha.limbs
  have nb := hb.limbs
  have va := a0b (val a)
  have vb := a0b (val b)
  generalize hA : limbs (val a) = A at na va ⊢
  generalize hB : limbs (val b) = B at nb vb ⊢
  refine Safe.keep [0, 1] (Safe.seq (Safe.seq (Safe.region ?_)))
  simp only [c8A, E1, seval, a6o]
  refine Safe.cond ?_
  simp only [E1, seval]
  by_cases hlen : A.length = B.length
  · have : ((A.length : Int) = B.length) := by omega
    simp only [this, E1, seval]
    refine Safe.skip (Safe.seq (Safe.seq (Safe.region ?_)))
    simp only [c8w, E1, seval, a6o]
    refine Safe.block (Safe.loop ?_)
    have key : ∀ n, n ≤ A.length → A.drop n = B.drop n → Safe ⟨Pr, fun _ _ => false, a7T, 45, [.tmp 4], H.length⟩ [.inLoop c8D, .inBlock 0, .code ((ACode.region b4y false).seq .ret)]
        [(0, natV A), (1, natV B), (5, .int .i64 ((n : Int) - 1))] (hap H []) fun r' H' => r' = .int .i64 (cmpI (val a) (val b)) ∧ ∃ L, H' = hap H L := by
      intro n
      induction n with
      | zero =>
        intro _ hd
        refine Safe.inLoop (Safe.seq (Safe.seq (Safe.region ?_)))
        simp only [b9d, E1, seval]
        refine Safe.cond ?_
        simp only [E1, seval, show ¬ ((0 : Int) ≤ ((0 : Nat) : Int) - 1) by omega]
        refine Safe.exit rfl (Safe.seq (Safe.region ?_))
        simp only [b4y, E1, seval]
        refine Safe.retn ?_
        simp only [E1, seval]
        have : val a = val b := by
          simp only [List.drop_zero] at hd
          rw [← va, ← vb, hd]
        refine ⟨?_, [], rfl⟩
        simp [cmpI, this]
      | succ m ih =>
        intro hm hd
        refine Safe.inLoop (Safe.seq (Safe.seq (Safe.region ?_)))
        simp only [b9d, E1, seval]
        refine Safe.cond ?_
        have e1 : ((m + 1 : Nat) : Int) - 1 = (m : Int) := by omega
        simp only [E1, seval, e1, Int.natCast_nonneg]
        refine Safe.skip (Safe.seq (Safe.block (Safe.seq (Safe.regionD ?_))))
        simp only [c8v, E1, seval, a0C _ A _ m (by omega), a0C _ B _ m (by omega)]
        refine Safe.cond ?_
        simp only [E1, seval]
        by_cases hq : A.getD m 0 = B.getD m 0
        · simp only [hq, E1, seval]
          refine Safe.skip (Safe.inBlock (Safe.region ?_))
          simp only [c5o, E1, seval]
          refine Safe.keep [0, 1, 5] ?_
          have := na.len
          simp only [E1, seval, a0a (n := (m : Int) - 1) (by omega) (by omega)]
          refine ih (by omega) ?_
          rw [List.drop_eq_getElem_cons (by omega), List.drop_eq_getElem_cons (l := B) (by omega), hd]
          simp only [List.getD_eq_getElem?_getD, List.getElem?_eq_getElem (show m < A.length by omega), List.getElem?_eq_getElem (show m < B.length by omega), Option.getD_some] at hq
          rw [hq]
        · have hq' : ¬ ((A.getD m 0 : Nat) : Int) = ((B.getD m 0 : Nat) : Int) := by omega
          simp only [hq', E1, seval]
          refine Safe.seq (Safe.seq (Safe.regionD ?_))
          simp only [c8u, E1, seval, a0C _ A _ m (by omega), a0C _ B _ m (by omega)]
          refine Safe.cond ?_
          simp only [E1, seval]
          by_cases hlt : A.getD m 0 < B.getD m 0
          · have hlt' : ((A.getD m 0 : Nat) : Int) < ((B.getD m 0 : Nat) : Int) := by omega
            simp only [hlt', E1, seval]
            refine Safe.seq (Safe.region ?_)
            simp only [c5q, E1, seval]
            refine Safe.retn ?_
            simp only [E1, seval]
            have := b5i na.lim nb.lim hd (by omega) (by omega) hlen hlt
            refine ⟨?_, [], rfl⟩
            rw [← va, ← vb]; simp [cmpI, this]
          · have hlt' : ¬ ((A.getD m 0 : Nat) : Int) < ((B.getD m 0 : Nat) : Int) := by omega
            simp only [hlt', E1, seval]
            refine Safe.skip (Safe.seq (Safe.region ?_))
            simp only [c5p, E1, seval]
            refine Safe.retn ?_
            simp only [E1, seval]
            have := b5i nb.lim na.lim hd.symm (by omega) (by omega) hlen.symm (show B.getD m 0 < A.getD m 0 by omega)
            refine ⟨?_, [], rfl⟩
            rw [← va, ← vb]; simp [cmpI, this, Nat.lt_asymm this]
    refine Safe.keep [0, 1, 5] ?_
    have := na.len
    have hk := key A.length (Nat.le_refl _) (by rw [List.drop_length, hlen, List.drop_length])
    simp only [E1, seval, ← hlen, a0a (n := (A.length : Int) - 1) (by omega) (by omega)]
    exact hk
  · have : ¬ ((A.length : Int) = B.length) := by omega
    simp only [this, E1, seval]
    refine Safe.seq (Safe.seq (Safe.region ?_))
    simp only [c8z, E1, seval, a6o]
    refine Safe.cond ?_
    simp only [E1, seval]
    by_cases hlt : A.length < B.length
    · have hlt' : ((A.length : Int) < B.length) := by omega
      simp only [hlt', E1, seval]
      refine Safe.seq (Safe.region ?_)
      simp only [c8y, E1, seval]
      refine Safe.retn ?_
      simp only [E1, seval]
      have : val a < val b := b8I (by rw [hA, hB]; exact hlt)
      refine ⟨?_, [], rfl⟩
      simp [cmpI, this]
    · have hlt' : ¬ ((A.length : Int) < B.length) := by omega
      simp only [hlt', E1, seval]
      refine Safe.skip (Safe.seq (Safe.region ?_))
      simp only [c8x, E1, seval]
      refine Safe.retn ?_
      simp only [E1, seval]
      have : val b < val a := b8I (by rw [hA, hB]; omega)
      refine ⟨?_, [], rfl⟩
      simp [cmpI, this, Nat.lt_asymm this]
theorem b9q (n : Nat) (h : n < 4294967296) : a0d Pr a1D [.int .u32 n] (.int .i64 (blen n)) := by
  refine a0d.intro b7r b7q (by simp only [List.length_cons, List.length_nil]; omega) (.int _ _) fun H hH => ?_
  refine Safe.seq (Safe.region ?_)
  simp only [a6t, E1, Nat.reduceAdd, Nat.reduceEqDiff, reduceCtorEq, ↓reduceIte]
  have stop : ∀ (m s : Nat) (env : Env), m < 256 → s ≤ 24 → look env 0 = .int .u32 m → look env 2 = .int .i64 s → s + blen m = blen n → Safe ⟨Pr, fun _ _ => false, a1D, 19, [.tmp 2], H.length⟩ [.code ((ACode.region a2m false).seq .ret)] env (hap H [])
      fun r' H' => r' = .int .i64 (blen n) ∧ ∃ L, H' = hap H L := by
    intro m s env hm hs h0 h2 hb
    refine Safe.seq (Safe.region ?_)
    have hw : IntKind.wrap .u8 (m : Int) = m := by simp [IntKind.wrap, IntKind.bits, IntKind.signed]; omega
    simp only [a2m, E1, Nat.reduceAdd, Nat.reduceEqDiff, reduceCtorEq, ↓reduceIte, h0, h2, hw, d7J]
    have tab : ∀ m : Fin 256, e3k.data.toList.getD m.val 0 = UInt8.ofNat (blen m.val) ∧ blen m.val ≤ 8 := by decide +kernel
    have ht : e3k.data.toList.getD m 0 = UInt8.ofNat (blen m) ∧ blen m ≤ 8 := tab ⟨m, hm⟩
    have hsz : e3k.size = 256 := by decide +kernel
    rw [if_pos (by rw [hsz]; omega)]
    simp only [Int.toNat_natCast, ht.1, E1, Nat.reduceAdd, Nat.reduceEqDiff, reduceCtorEq, ↓reduceIte]
    have h8 : ((UInt8.ofNat (blen m)).toNat : Nat) = blen m := by
      have := ht.2
      simp [UInt8.toNat_ofNat']; omega
    refine Safe.retn ?_
    have := ht.2
    simp only [E1, Nat.reduceAdd, Nat.reduceEqDiff, reduceCtorEq, ↓reduceIte, h8, a0a (n := (blen m : Int)) (by omega) (by omega)]
    rw [a0a (by omega) (by omega)]
    exact ⟨by rw [← hb]; rfl, [], rfl⟩
  have mid : ∀ (m s : Nat) (env : Env), m < 65536 → s ≤ 16 → look env 0 = .int .u32 m → look env 2 = .int .i64 s → s + blen m = blen n → Safe ⟨Pr, fun _ _ => false, a1D, 19, [.tmp 2], H.length⟩
      [.code ((((ACode.region a3y false).seq (.cond (.t 8) ((ACode.region a3x false).seq (.region a3w false)) .skip)).seq ((ACode.region a2m false).seq .ret)))] env (hap H [])
      fun r' H' => r' = .int .i64 (blen n) ∧ ∃ L, H' = hap H L := by
    intro m s env hm hs h0 h2 hb
    refine Safe.seq (Safe.seq (Safe.region ?_))
    simp only [a3y, E1, Nat.reduceAdd, Nat.reduceEqDiff, reduceCtorEq, ↓reduceIte, h0]
    refine Safe.cond ?_
    simp only [E1, Nat.reduceAdd, Nat.reduceEqDiff, reduceCtorEq, ↓reduceIte]
    by_cases hc : 256 ≤ m
    · have hc' : (256 : Int) ≤ (m : Int) := by omega
      simp only [hc', E1, Nat.reduceAdd, Nat.reduceEqDiff, reduceCtorEq, ↓reduceIte]
      refine Safe.seq (Safe.region ?_)
      simp only [a3x, E1, Nat.reduceAdd, Nat.reduceEqDiff, reduceCtorEq, ↓reduceIte, h0, a3o _ _ _ (show (0 : Int) ≤ 8 by decide)]
      refine Safe.region ?_
      simp only [a3w, E1, Nat.reduceAdd, Nat.reduceEqDiff, reduceCtorEq, ↓reduceIte, h2]
      have e1 : Int.fdiv (m : Int) (2 ^ min (Int.toNat 8) IntKind.u32.bits) = ((m / 256 : Nat) : Int) := by
        rw [show (2 : Int) ^ min (Int.toNat 8) IntKind.u32.bits = 256 by decide, Int.fdiv_eq_ediv_of_nonneg _ (by decide)]; omega
      have e2 : IntKind.wrap .i64 ((s : Int) + 8) = ((s + 8 : Nat) : Int) := by rw [a0a] <;> omega
      refine stop (m / 256) (s + 8) _ (by omega) (by omega) (by simp only [E1, Nat.reduceAdd, Nat.reduceEqDiff, reduceCtorEq, ↓reduceIte, e1]) (by simp only [E1, Nat.reduceAdd, Nat.reduceEqDiff, reduceCtorEq, ↓reduceIte, e2]) ?_
      have := d1j (n := m) (k := 8) (by omega)
      simp only [Nat.reducePow] at this
      omega
    · have hc' : ¬ (256 : Int) ≤ (m : Int) := by omega
      simp only [hc', E1, Nat.reduceAdd, Nat.reduceEqDiff, reduceCtorEq, ↓reduceIte]
      exact Safe.skip (stop m s _ (by omega) (by omega) (by simp only [E1, Nat.reduceAdd, Nat.reduceEqDiff, reduceCtorEq, ↓reduceIte, h0]) (by simp only [E1, Nat.reduceAdd, Nat.reduceEqDiff, reduceCtorEq, ↓reduceIte, h2]) hb)
  refine Safe.seq (Safe.seq (Safe.region ?_))
  simp only [a6s, E1, Nat.reduceAdd, Nat.reduceEqDiff, reduceCtorEq, ↓reduceIte]
  refine Safe.cond ?_
  simp only [E1, Nat.reduceAdd, Nat.reduceEqDiff, reduceCtorEq, ↓reduceIte]
  by_cases hc : 65536 ≤ n
  · have hc' : (65536 : Int) ≤ (n : Int) := by omega
    simp only [hc', E1, Nat.reduceAdd, Nat.reduceEqDiff, reduceCtorEq, ↓reduceIte]
    refine Safe.seq (Safe.region ?_)
    simp only [a6r, E1, Nat.reduceAdd, Nat.reduceEqDiff, reduceCtorEq, ↓reduceIte, a3o _ _ _ (show (0 : Int) ≤ 16 by decide)]
    refine Safe.region ?_
    simp only [a6q, E1, Nat.reduceAdd, Nat.reduceEqDiff, reduceCtorEq, ↓reduceIte]
    have e1 : Int.fdiv (n : Int) (2 ^ min (Int.toNat 16) IntKind.u32.bits) = ((n / 65536 : Nat) : Int) := by
      rw [show (2 : Int) ^ min (Int.toNat 16) IntKind.u32.bits = 65536 by decide, Int.fdiv_eq_ediv_of_nonneg _ (by decide)]; omega
    refine mid (n / 65536) 16 _ (by omega) (by omega) (by simp only [E1, Nat.reduceAdd, Nat.reduceEqDiff, reduceCtorEq, ↓reduceIte, e1]) (by simp only [E1, Nat.reduceAdd, Nat.reduceEqDiff, reduceCtorEq, ↓reduceIte]; rfl) ?_
    have := d1j (n := n) (k := 16) (by omega)
    simp only [Nat.reducePow] at this
    omega
  · have hc' : ¬ (65536 : Int) ≤ (n : Int) := by omega
    simp only [hc', E1, Nat.reduceAdd, Nat.reduceEqDiff, reduceCtorEq, ↓reduceIte]
    exact Safe.skip (mid n 0 _ (by omega) (by omega) (by simp only [E1, Nat.reduceAdd, Nat.reduceEqDiff, reduceCtorEq, ↓reduceIte]) (by simp only [E1, Nat.reduceAdd, Nat.reduceEqDiff, reduceCtorEq, ↓reduceIte]; rfl) (by omega))
theorem d3i (l : List Nat) (hl : Nt l) : a0d Pr b9L [natV l] (.int .i64 (blen (val l))) := by
  refine a0d.intro d5y d5x (by simp only [List.length_cons, List.length_nil]; omega) (.int _ _) fun H hH => ?_
  refine Safe.seq (Safe.region ?_)
  simp only [c5v, E1, seval]
  refine Safe.seq (Safe.region ?_)
  simp only [c5u, E1, seval]
  refine (a0w l hl.lim hl.len).acall ?_
  try simp only [E1, seval]
  have nl := hl.limbs
  have vl := a0b (val l)
  have hlast := a5s (val l)
  generalize hA : limbs (val l) = A at nl vl hlast ⊢
  refine Safe.keep [0] (Safe.seq (Safe.seq (Safe.region ?_)))
  simp only [c5t, E1, seval]
  refine Safe.cond ?_
  simp only [E1, seval]
  rcases List.eq_nil_or_concat A with rfl | ⟨A', d, rfl⟩
  · simp only [E1, seval, Int.natCast_zero]
    refine Safe.seq (Safe.region ?_)
    simp only [c5s, E1, seval]
    refine Safe.retn ?_
    simp only [E1, seval]
    rw [← vl]
    exact ⟨rfl, [], rfl⟩
  · simp only [List.concat_eq_append] at *
    have hlen : (A' ++ [d]).length = A'.length + 1 := by simp
    have hn0 : ¬ (((A' ++ [d]).length : Int) = 0) := by omega
    have hg : (A' ++ [d]).getD A'.length 0 = d := by simp
    have hd : d ≠ 0 := by simpa using hlast
    have hlt : d < 4294967296 := nl.lim d (by simp)
    have := nl.len
    have hw : IntKind.i64.wrap (((A' ++ [d]).length : Int) - 1) = (A'.length : Int) := by rw [hlen, a0a] <;> omega
    simp only [hn0, E1, seval]
    refine Safe.skip (Safe.seq (Safe.region ?_))
    simp only [c5r, E1, seval, hw, a0C _ (A' ++ [d]) _ A'.length (by omega), hg]
    refine (b9q d hlt).acall ?_
    simp only [E1, seval]
    refine Safe.retn ?_
    simp only [E1, seval]
    have hb : blen d ≤ 32 := by
      rcases Nat.lt_or_ge 32 (blen d) with h | h
      · have := b9I hd
        have := Nat.pow_le_pow_right (show 0 < 2 by decide) (show 32 ≤ blen d - 1 by omega)
        omega
      · exact h
    rw [a0a (n := 32 * (A'.length : Int)) (by omega) (by omega), a0a (by omega) (by omega)]
    refine ⟨?_, [], rfl⟩
    rw [← vl, b9H (b9o.1 nl.lim).1 hd]
    congr 1
theorem d5q (a b : List Nat) (la : Lim a) (lb : Lim b) (ha : a.length < 17592186044416) (hb : b.length < 17592186044416) : a0d Pr a7U [natV a, natV b] (natV (limbs (val a + val b))) := by
  refine a0d.intro d9g d9f (by simp only [List.length_cons, List.length_nil]; omega) (a0X _) fun H hH => ?_
  refine Safe.seq (Safe.region ?_)
  have hLB : LB = 4294967296 := rfl
  simp only [c8J, E1, Nat.reduceAdd, Nat.reduceEqDiff, reduceCtorEq, ↓reduceIte]
  have main : ∀ (a b : List Nat) (env : Env) (s : Nat), Lim a → Lim b → b.length ≤ a.length → a.length < 17592186044416 → val a + val b = s → look env 0 = natV a → look env 1 = natV b →
      Safe ⟨Pr, fun _ _ => false, a7U, 58, [.tmp 4], H.length⟩ [.code ((ACode.region b9h false).seq ((ACode.region b9g false).seq (((ACode.region b9f false).seq (.block 0 (.loop b1M))).seq ((ACode.region a5A false).seq ((ACode.region a5z false).seq .ret)))))]
        env (hap H []) fun r' H' => r' = natV (limbs s) ∧ ∃ L, H' = hap H L := by
    intro a b env s la lb hle ha hs h0 h1
    refine Safe.seq (Safe.region ?_)
    have hw : IntKind.wrap .i64 ((a.length : Int) + 1) = ((a.length + 1 : Nat) : Int) := by rw [a0a] <;> omega
    simp only [b9h, E1, Nat.reduceAdd, Nat.reduceEqDiff, reduceCtorEq, ↓reduceIte, h0, hw, b1N _ H [] _ _ (a.length + 1) (by omega)]
    refine Safe.seq (Safe.region ?_)
    simp only [b9g, E1, Nat.reduceAdd, Nat.reduceEqDiff, reduceCtorEq, ↓reduceIte]
    refine Safe.seq (Safe.seq (Safe.region ?_))
    simp only [b9f, E1, Nat.reduceAdd, Nat.reduceEqDiff, reduceCtorEq, ↓reduceIte, h0]
    refine Safe.block (Safe.loop ?_)
    have key : ∀ (k i c : Nat) (x : List Nat), i + k = a.length → x.length = i → Lim x → c ≤ 1 → val x + LB ^ i * c = val (a.take i) + val (b.take i) →
        Safe ⟨Pr, fun _ _ => false, a7U, 58, [.tmp 4], H.length⟩ [.inLoop b1M, .inBlock 0, .code ((ACode.region a5A false).seq ((ACode.region a5z false).seq .ret))]
          [(0, natV a), (1, natV b), (5, .mu (lid H 0) 0 (a.length + 1) (some (a.length + 1))), (6, .int .u64 c), (20, .int .i64 a.length), (21, .int .i64 i)]
          (hap H [some ⟨1, u32s (x ++ List.replicate (k + 1) 0)⟩]) fun r' H' => r' = natV (limbs s) ∧ ∃ L, H' = hap H L := by
      intro k
      induction k with
      | zero =>
        intro i c x hik hx lx hc hv
        have hi : i = a.length := by omega
        subst hi
        refine Safe.inLoop (Safe.seq (Safe.region ?_))
        simp only [b9e, E1, Nat.reduceAdd, Nat.reduceEqDiff, reduceCtorEq, ↓reduceIte]
        refine Safe.seq (Safe.cond ?_)
        simp only [E1, Nat.reduceAdd, Nat.reduceEqDiff, reduceCtorEq, ↓reduceIte, Int.lt_irrefl]
        refine Safe.exit rfl (Safe.seq (Safe.region ?_))
        have hcw : IntKind.wrap .u32 (c : Int) = (c : Int) := a3l (by omega) (by omega)
        simp only [a5A, E1, Nat.reduceAdd, Nat.reduceEqDiff, reduceCtorEq, ↓reduceIte, a8J _ _ _ _ _ _ a.length (Nat.lt_succ_self _), hcw, c4D _ _ _ a.length c (show a.length < (x ++ List.replicate (0 + 1) 0).length by simp [hx])]
        rw [← hx, c4l, hx]
        simp only [List.replicate_zero, List.append_nil]
        have hlen : a.length + 1 = (x ++ [c]).length := by simp [hx]
        refine Safe.freeze 0 (b := ⟨1, u32s (x ++ [c])⟩) hH rfl rfl (a0r _) ?_
        refine Safe.seq (Safe.region ?_)
        simp only [a5z, E1, Nat.reduceAdd, Nat.reduceEqDiff, reduceCtorEq, ↓reduceIte, hlen]
        refine (a0w (x ++ [c]) (a1A lx (by omega)) (by omega)).acall ?_
        try simp only [E1, Nat.reduceAdd, Nat.reduceEqDiff, reduceCtorEq, ↓reduceIte]
        refine Safe.retn ?_
        simp only [E1, Nat.reduceAdd, Nat.reduceEqDiff, reduceCtorEq, ↓reduceIte]
        rw [List.take_length, List.take_of_length_le hle] at hv
        rw [a2F, hx, hv, hs]
        first | exact ⟨rfl, _, rfl⟩ | exact ⟨_, rfl⟩ | exact ⟨trivial, _, rfl⟩
      | succ k ih =>
        intro i c x hik hx lx hc hv
        refine Safe.inLoop (Safe.seq (Safe.region ?_))
        simp only [b9e, E1, Nat.reduceAdd, Nat.reduceEqDiff, reduceCtorEq, ↓reduceIte]
        refine Safe.seq (Safe.cond ?_)
        have hlt : (i : Int) < (a.length : Int) := by omega
        simp only [E1, Nat.reduceAdd, Nat.reduceEqDiff, reduceCtorEq, ↓reduceIte, hlt]
        refine Safe.skip (Safe.seq (Safe.block (Safe.seq (Safe.region ?_))))
        simp only [c8G, E1, Nat.reduceAdd, Nat.reduceEqDiff, reduceCtorEq, ↓reduceIte]
        refine Safe.seq (Safe.region ?_)
        have xa := a0O la i
        have xb := a0O lb i
        have h1w : IntKind.wrap .u64 ((a.getD i 0 : Nat) : Int) = ((a.getD i 0 : Nat) : Int) := a0G (by omega) (by omega)
        have h2w : IntKind.wrap .u64 ((c : Int) + ((a.getD i 0 : Nat) : Int)) = ((c + a.getD i 0 : Nat) : Int) := by rw [a0G] <;> omega
        simp only [c8F, E1, Nat.reduceAdd, Nat.reduceEqDiff, reduceCtorEq, ↓reduceIte, a0C _ a _ i (by omega), h1w, h2w]
        refine Safe.seq (Safe.seq (Safe.region ?_))
        simp only [c8E, E1, Nat.reduceAdd, Nat.reduceEqDiff, reduceCtorEq, ↓reduceIte]
        refine Safe.cond ?_
        simp only [E1, Nat.reduceAdd, Nat.reduceEqDiff, reduceCtorEq, ↓reduceIte]
        have rest : ∀ env : Env, look env 0 = natV a → look env 1 = natV b → look env 5 = .mu (lid H 0) 0 (a.length + 1) (some (a.length + 1)) → look env 6 = .int .u64 (c + a.getD i 0 + b.getD i 0 : Nat) → look env 7 = .int .i64 i → look env 20 = .int .i64 a.length → look env 21 = .int .i64 i →
            Safe ⟨Pr, fun _ _ => false, a7U, 58, [.tmp 4], H.length⟩ [.code ((ACode.region b4B false).seq (.region b4A false)), .inBlock 1, .code (.region b4z false), .inLoop b1M, .inBlock 0, .code ((ACode.region a5A false).seq ((ACode.region a5z false).seq .ret))]
              env (hap H [some ⟨1, u32s (x ++ List.replicate (k + 1 + 1) 0)⟩]) fun r' H' => r' = natV (limbs s) ∧ ∃ L, H' = hap H L := by
          intro env e0 e1 e5 e6 e7 e20 e21
          refine Safe.seq (Safe.region ?_)
          have hcw : IntKind.wrap .u32 ((c + a.getD i 0 + b.getD i 0 : Nat) : Int) = (((c + a.getD i 0 + b.getD i 0) % LB : Nat) : Int) := a1Y _
          simp only [b4B, E1, Nat.reduceAdd, Nat.reduceEqDiff, reduceCtorEq, ↓reduceIte, e5, e6, e7, a8J _ _ _ _ _ _ i (show i < a.length + 1 by omega), hcw, c4D _ _ _ i _ (show i < (x ++ List.replicate (k + 1 + 1) 0).length by simp [hx] <;> omega)]
          refine Safe.region ?_
          have hs32 : Int.fdiv ((c + a.getD i 0 + b.getD i 0 : Nat) : Int) (2 ^ min (Int.toNat 32) IntKind.u64.bits) = (((c + a.getD i 0 + b.getD i 0) / LB : Nat) : Int) := by
            rw [show (2 : Int) ^ min (Int.toNat 32) IntKind.u64.bits = (LB : Int) by decide, Int.fdiv_eq_ediv_of_nonneg _ (by decide)]; rfl
          simp only [b4A, E1, Nat.reduceAdd, Nat.reduceEqDiff, reduceCtorEq, ↓reduceIte, e6, a3o _ _ _ (show (0 : Int) ≤ 32 by decide), hs32]
          refine Safe.inBlock (Safe.region ?_)
          have hiw : IntKind.wrap .i64 ((i : Int) + 1) = ((i + 1 : Nat) : Int) := by rw [a0a] <;> omega
          simp only [b4z, E1, Nat.reduceAdd, Nat.reduceEqDiff, reduceCtorEq, ↓reduceIte, e21, hiw]
          refine Safe.keep [0, 1, 5, 6, 20, 21] ?_
          simp only [E1, Nat.reduceAdd, Nat.reduceEqDiff, reduceCtorEq, ↓reduceIte, e0, e1, e5, e20]
          have hset : (x ++ List.replicate (k + 1 + 1) 0).set i ((c + a.getD i 0 + b.getD i 0) % LB) = (x ++ [(c + a.getD i 0 + b.getD i 0) % LB]) ++ List.replicate (k + 1) 0 := by subst hx; exact c4l _ _ _
          rw [hset]
          refine ih (i + 1) _ _ (by omega) (by simp [hx]) (a1A lx (Nat.mod_lt _ (by decide))) ?_ ?_
          · have : c + a.getD i 0 + b.getD i 0 < LB * 2 := by omega
            have := Nat.div_lt_of_lt_mul this
            omega
          · rw [a2F, hx, a0i, a0i, Nat.pow_succ]
            exact c9q (i := 0) hv
        by_cases hib : i < b.length
        · have hib' : (i : Int) < (b.length : Int) := by omega
          simp only [hib', E1, Nat.reduceAdd, Nat.reduceEqDiff, reduceCtorEq, ↓reduceIte]
          refine Safe.region ?_
          have h3w : IntKind.wrap .u64 ((b.getD i 0 : Nat) : Int) = ((b.getD i 0 : Nat) : Int) := a0G (by omega) (by omega)
          have h4w : IntKind.wrap .u64 (((c + a.getD i 0 : Nat) : Int) + ((b.getD i 0 : Nat) : Int)) = ((c + a.getD i 0 + b.getD i 0 : Nat) : Int) := by rw [a0G] <;> omega
          simp only [c5w, E1, Nat.reduceAdd, Nat.reduceEqDiff, reduceCtorEq, ↓reduceIte, a0C _ b _ i hib, h3w, h4w]
          exact rest _ (by simp only [E1, Nat.reduceAdd, Nat.reduceEqDiff, reduceCtorEq, ↓reduceIte]) (by simp only [E1, Nat.reduceAdd, Nat.reduceEqDiff, reduceCtorEq, ↓reduceIte]) (by simp only [E1, Nat.reduceAdd, Nat.reduceEqDiff, reduceCtorEq, ↓reduceIte]) (by simp only [E1, Nat.reduceAdd, Nat.reduceEqDiff, reduceCtorEq, ↓reduceIte]) (by simp only [E1, Nat.reduceAdd, Nat.reduceEqDiff, reduceCtorEq, ↓reduceIte]) (by simp only [E1, Nat.reduceAdd, Nat.reduceEqDiff, reduceCtorEq, ↓reduceIte]) (by simp only [E1, Nat.reduceAdd, Nat.reduceEqDiff, reduceCtorEq, ↓reduceIte])
        · have hib' : ¬ (i : Int) < (b.length : Int) := by omega
          simp only [hib', E1, Nat.reduceAdd, Nat.reduceEqDiff, reduceCtorEq, ↓reduceIte]
          have hz : b.getD i 0 = 0 := by rw [List.getD_eq_getElem?_getD, List.getElem?_eq_none (by omega)]; rfl
          refine Safe.skip (rest _ (by simp only [E1, Nat.reduceAdd, Nat.reduceEqDiff, reduceCtorEq, ↓reduceIte]) (by simp only [E1, Nat.reduceAdd, Nat.reduceEqDiff, reduceCtorEq, ↓reduceIte]) (by simp only [E1, Nat.reduceAdd, Nat.reduceEqDiff, reduceCtorEq, ↓reduceIte]) (by simp only [E1, Nat.reduceAdd, Nat.reduceEqDiff, reduceCtorEq, ↓reduceIte, hz]) (by simp only [E1, Nat.reduceAdd, Nat.reduceEqDiff, reduceCtorEq, ↓reduceIte]) (by simp only [E1, Nat.reduceAdd, Nat.reduceEqDiff, reduceCtorEq, ↓reduceIte]) (by simp only [E1, Nat.reduceAdd, Nat.reduceEqDiff, reduceCtorEq, ↓reduceIte]))
    refine Safe.keep [0, 1, 5, 6, 20, 21] ?_
    simp only [E1, Nat.reduceAdd, Nat.reduceEqDiff, reduceCtorEq, ↓reduceIte, h0, h1]
    exact key a.length 0 0 [] (by omega) rfl b9m (by omega) (by simp [val])
  refine Safe.seq (Safe.seq (Safe.region ?_))
  simp only [c8I, E1, Nat.reduceAdd, Nat.reduceEqDiff, reduceCtorEq, ↓reduceIte]
  refine Safe.cond ?_
  simp only [E1, Nat.reduceAdd, Nat.reduceEqDiff, reduceCtorEq, ↓reduceIte]
  by_cases hlt : a.length < b.length
  · have hlt' : (a.length : Int) < (b.length : Int) := by omega
    simp only [hlt', E1, Nat.reduceAdd, Nat.reduceEqDiff, reduceCtorEq, ↓reduceIte]
    refine Safe.region ?_
    simp only [c8H, E1, Nat.reduceAdd, Nat.reduceEqDiff, reduceCtorEq, ↓reduceIte]
    exact main b a _ _ lb la (by omega) hb (Nat.add_comm _ _) (by simp only [E1, Nat.reduceAdd, Nat.reduceEqDiff, reduceCtorEq, ↓reduceIte]) (by simp only [E1, Nat.reduceAdd, Nat.reduceEqDiff, reduceCtorEq, ↓reduceIte])
  · have hlt' : ¬ (a.length : Int) < (b.length : Int) := by omega
    simp only [hlt', E1, Nat.reduceAdd, Nat.reduceEqDiff, reduceCtorEq, ↓reduceIte]
    exact Safe.skip (main a b _ _ la lb (by omega) ha rfl (by simp only [E1, Nat.reduceAdd, Nat.reduceEqDiff, reduceCtorEq, ↓reduceIte]) (by simp only [E1, Nat.reduceAdd, Nat.reduceEqDiff, reduceCtorEq, ↓reduceIte]))
theorem d3h (a b : List Nat) (la : Lim a) (lb : Lim b) (ha : a.length ≤ 17592186044416) (hb : b.length ≤ a.length) (hv : val b ≤ val a) : a0d Pr a7Q [natV a, natV b] (natV (limbs (val a - val b))) := by
  refine a0d.intro d5t d5s (by simp only [List.length_cons, List.length_nil]; omega) (a0X _) fun H hH => ?_
  refine Safe.seq (Safe.region ?_)
  have hLB : LB = 4294967296 := rfl
  simp only [c4Y, E1, Nat.reduceAdd, Nat.reduceEqDiff, reduceCtorEq, ↓reduceIte]
  refine Safe.seq (Safe.region ?_)
  simp only [c4X, E1, Nat.reduceAdd, Nat.reduceEqDiff, reduceCtorEq, ↓reduceIte, b1N _ H [] _ _ a.length (by omega)]
  refine Safe.seq (Safe.region ?_)
  simp only [c4W, E1, Nat.reduceAdd, Nat.reduceEqDiff, reduceCtorEq, ↓reduceIte]
  refine Safe.seq (Safe.seq (Safe.region ?_))
  simp only [c4V, E1, Nat.reduceAdd, Nat.reduceEqDiff, reduceCtorEq, ↓reduceIte]
  refine Safe.block (Safe.loop ?_)
  have key : ∀ (k i c : Nat) (x : List Nat), i + k = a.length → x.length = i → Lim x → c ≤ 1 → val (a.take i) + LB ^ i * c = val x + val (b.take i) →
        Safe ⟨Pr, fun _ _ => false, a7Q, 45, [.tmp 4], H.length⟩ [.inLoop b4v, .inBlock 0, .code ((ACode.region a6l false).seq .ret)]
          [(0, natV a), (1, natV b), (5, .mu (lid H 0) 0 a.length (some a.length)), (6, .int .u64 c), (13, .int .i64 a.length), (14, .int .i64 i)]
          (hap H [some ⟨1, u32s (x ++ List.replicate k 0)⟩]) fun r' H' => r' = natV (limbs (val a - val b)) ∧ ∃ L, H' = hap H L := by
    intro k
    induction k with
    | zero =>
      intro i c x hik hx lx hc hv2
      have hi : i = a.length := by omega
      subst hi
      refine Safe.inLoop (Safe.seq (Safe.region ?_))
      simp only [b4u, E1, Nat.reduceAdd, Nat.reduceEqDiff, reduceCtorEq, ↓reduceIte]
      refine Safe.seq (Safe.cond ?_)
      simp only [E1, Nat.reduceAdd, Nat.reduceEqDiff, reduceCtorEq, ↓reduceIte, Int.lt_irrefl]
      refine Safe.exit rfl ?_
      simp only [List.replicate_zero, List.append_nil]
      refine Safe.freeze 0 (b := ⟨1, u32s x⟩) hH rfl rfl (a0r _) ?_
      refine Safe.seq (Safe.region ?_)
      simp only [a6l, E1, Nat.reduceAdd, Nat.reduceEqDiff, reduceCtorEq, ↓reduceIte, ← hx]
      refine (a0w x lx (by omega)).acall ?_
      try simp only [E1, Nat.reduceAdd, Nat.reduceEqDiff, reduceCtorEq, ↓reduceIte]
      refine Safe.retn ?_
      simp only [E1, Nat.reduceAdd, Nat.reduceEqDiff, reduceCtorEq, ↓reduceIte]
      rw [List.take_length, List.take_of_length_le hb] at hv2
      have h1 := a1e lx
      rw [hx] at h1
      have hc0 : c = 0 := by
        rcases Nat.eq_zero_or_pos c with h | h
        · exact h
        · have : c = 1 := by omega
          subst this
          omega
      subst hc0
      have : val x = val a - val b := by omega
      rw [this]
      first | exact ⟨rfl, _, rfl⟩ | exact ⟨_, rfl⟩ | exact ⟨trivial, _, rfl⟩
    | succ k ih =>
      intro i c x hik hx lx hc hv2
      refine Safe.inLoop (Safe.seq (Safe.region ?_))
      simp only [b4u, E1, Nat.reduceAdd, Nat.reduceEqDiff, reduceCtorEq, ↓reduceIte]
      refine Safe.seq (Safe.cond ?_)
      have hlt : (i : Int) < (a.length : Int) := by omega
      simp only [E1, Nat.reduceAdd, Nat.reduceEqDiff, reduceCtorEq, ↓reduceIte, hlt]
      refine Safe.skip (Safe.seq (Safe.block (Safe.seq (Safe.region ?_))))
      simp only [c4U, E1, Nat.reduceAdd, Nat.reduceEqDiff, reduceCtorEq, ↓reduceIte]
      refine Safe.seq (Safe.region ?_)
      have xa := a0O la i
      have xb := a0O lb i
      have h1w : IntKind.wrap .u64 ((a.getD i 0 : Nat) : Int) = ((a.getD i 0 : Nat) : Int) := a0G (by omega) (by omega)
      simp only [c4T, E1, Nat.reduceAdd, Nat.reduceEqDiff, reduceCtorEq, ↓reduceIte, a0C _ a _ i (by omega), h1w]
      refine Safe.seq (Safe.seq (Safe.region ?_))
      simp only [c4S, E1, Nat.reduceAdd, Nat.reduceEqDiff, reduceCtorEq, ↓reduceIte]
      refine Safe.cond ?_
      simp only [E1, Nat.reduceAdd, Nat.reduceEqDiff, reduceCtorEq, ↓reduceIte]
      have rest : ∀ env : Env, look env 0 = natV a → look env 1 = natV b → look env 5 = .mu (lid H 0) 0 a.length (some a.length) → look env 8 = .int .u64 (((a.getD i 0 : Nat) - (c : Int) - (b.getD i 0 : Nat)) % 18446744073709551616) → look env 7 = .int .i64 i → look env 13 = .int .i64 a.length → look env 14 = .int .i64 i →
            Safe ⟨Pr, fun _ _ => false, a7Q, 45, [.tmp 4], H.length⟩ [.code ((ACode.region b4t false).seq (.region b0R false)), .inBlock 1, .code (.region b0Q false), .inLoop b4v, .inBlock 0, .code ((ACode.region a6l false).seq .ret)]
              env (hap H [some ⟨1, u32s (x ++ List.replicate (k + 1) 0)⟩]) fun r' H' => r' = natV (limbs (val a - val b)) ∧ ∃ L, H' = hap H L := by
        intro env e0 e1 e5 e8 e7 e13 e14
        refine Safe.seq (Safe.region ?_)
        obtain ⟨d, bo, hd, hbo, hdl, hD, hB⟩ : ∃ d bo : Nat, a.getD i 0 + LB * bo = d + c + b.getD i 0 ∧ bo ≤ 1 ∧ d < LB ∧ (((a.getD i 0 : Nat) - (c : Int) - (b.getD i 0 : Nat)) % 18446744073709551616) % 4294967296 = (d : Int) ∧ (((a.getD i 0 : Nat) - (c : Int) - (b.getD i 0 : Nat)) % 18446744073709551616) / 9223372036854775808 = (bo : Int) := by
          by_cases hlt : a.getD i 0 < c + b.getD i 0
          · exact ⟨a.getD i 0 + LB - c - b.getD i 0, 1, by omega, by omega, by omega, by omega, by omega⟩
          · exact ⟨a.getD i 0 - c - b.getD i 0, 0, by omega, by omega, by omega, by omega, by omega⟩
        simp only [b4t, E1, Nat.reduceAdd, Nat.reduceEqDiff, reduceCtorEq, ↓reduceIte, e5, e8, e7, a8J _ _ _ _ _ _ i (show i < a.length by omega), b5g, hD, c4D _ _ _ i _ (show i < (x ++ List.replicate (k + 1) 0).length by simp [hx])]
        refine Safe.region ?_
        have hs63 : ∀ n : Int, Int.fdiv n (2 ^ min (Int.toNat 63) IntKind.u64.bits) = n / 9223372036854775808 := by
          intro n
          rw [show (2 : Int) ^ min (Int.toNat 63) IntKind.u64.bits = 9223372036854775808 by decide, Int.fdiv_eq_ediv_of_nonneg _ (by decide)]
        simp only [b0R, E1, Nat.reduceAdd, Nat.reduceEqDiff, reduceCtorEq, ↓reduceIte, e8, a3o _ _ _ (show (0 : Int) ≤ 63 by decide), hs63, hB]
        refine Safe.inBlock (Safe.region ?_)
        have hiw : IntKind.wrap .i64 ((i : Int) + 1) = ((i + 1 : Nat) : Int) := by rw [a0a] <;> omega
        simp only [b0Q, E1, Nat.reduceAdd, Nat.reduceEqDiff, reduceCtorEq, ↓reduceIte, e14, hiw]
        refine Safe.keep [0, 1, 5, 6, 13, 14] ?_
        simp only [E1, Nat.reduceAdd, Nat.reduceEqDiff, reduceCtorEq, ↓reduceIte, e0, e1, e5, e13]
        have hset : (x ++ List.replicate (k + 1) 0).set i d = (x ++ [d]) ++ List.replicate k 0 := by subst hx; exact c4l _ _ _
        rw [hset]
        refine ih (i + 1) bo _ (by omega) (by simp [hx]) (a1A lx hdl) hbo ?_
        rw [a2F, hx, a0i, a0i, Nat.pow_succ]
        exact d3v hv2 hd
      by_cases hib : i < b.length
      · have hib' : (i : Int) < (b.length : Int) := by omega
        simp only [hib', E1, Nat.reduceAdd, Nat.reduceEqDiff, reduceCtorEq, ↓reduceIte]
        refine Safe.region ?_
        have h3w : IntKind.wrap .u64 ((b.getD i 0 : Nat) : Int) = ((b.getD i 0 : Nat) : Int) := a0G (by omega) (by omega)
        have h4w : IntKind.wrap .u64 (IntKind.wrap .u64 (((a.getD i 0 : Nat) : Int) - c) - ((b.getD i 0 : Nat) : Int)) = ((a.getD i 0 : Nat) - (c : Int) - (b.getD i 0 : Nat)) % 18446744073709551616 := by
          rw [a1l, a1l]; omega
        simp only [c4R, E1, Nat.reduceAdd, Nat.reduceEqDiff, reduceCtorEq, ↓reduceIte, a0C _ b _ i hib, h3w, h4w]
        exact rest _ (by simp only [E1, Nat.reduceAdd, Nat.reduceEqDiff, reduceCtorEq, ↓reduceIte]) (by simp only [E1, Nat.reduceAdd, Nat.reduceEqDiff, reduceCtorEq, ↓reduceIte]) (by simp only [E1, Nat.reduceAdd, Nat.reduceEqDiff, reduceCtorEq, ↓reduceIte]) (by simp only [E1, Nat.reduceAdd, Nat.reduceEqDiff, reduceCtorEq, ↓reduceIte]) (by simp only [E1, Nat.reduceAdd, Nat.reduceEqDiff, reduceCtorEq, ↓reduceIte]) (by simp only [E1, Nat.reduceAdd, Nat.reduceEqDiff, reduceCtorEq, ↓reduceIte]) (by simp only [E1, Nat.reduceAdd, Nat.reduceEqDiff, reduceCtorEq, ↓reduceIte])
      · have hib' : ¬ (i : Int) < (b.length : Int) := by omega
        simp only [hib', E1, Nat.reduceAdd, Nat.reduceEqDiff, reduceCtorEq, ↓reduceIte]
        have hz : b.getD i 0 = 0 := by rw [List.getD_eq_getElem?_getD, List.getElem?_eq_none (by omega)]; rfl
        refine Safe.skip (rest _ (by simp only [E1, Nat.reduceAdd, Nat.reduceEqDiff, reduceCtorEq, ↓reduceIte]) (by simp only [E1, Nat.reduceAdd, Nat.reduceEqDiff, reduceCtorEq, ↓reduceIte]) (by simp only [E1, Nat.reduceAdd, Nat.reduceEqDiff, reduceCtorEq, ↓reduceIte]) (by simp only [E1, Nat.reduceAdd, Nat.reduceEqDiff, reduceCtorEq, ↓reduceIte, hz, a1l]; simp) (by simp only [E1, Nat.reduceAdd, Nat.reduceEqDiff, reduceCtorEq, ↓reduceIte]) (by simp only [E1, Nat.reduceAdd, Nat.reduceEqDiff, reduceCtorEq, ↓reduceIte]) (by simp only [E1, Nat.reduceAdd, Nat.reduceEqDiff, reduceCtorEq, ↓reduceIte]))
  refine Safe.keep [0, 1, 5, 6, 13, 14] ?_
  simp only [E1, Nat.reduceAdd, Nat.reduceEqDiff, reduceCtorEq, ↓reduceIte]
  exact key a.length 0 0 [] (by omega) rfl b9m (by omega) (by simp [val])
theorem c4H (a b : List Nat) (ha : Nt a) (hb : Nt b) (hv : val b ≤ val a) : a0d Pr c6E [natV a, natV b] (.tup [natV (limbs (val a - val b)), .int .i64 0]) := by
  refine a0d.intro d8R d8Q (by simp only [List.length_cons, List.length_nil]; omega) (.tup _ (by intro c hc; simp at hc; rcases hc with rfl | rfl; exact a0X _; exact .int _ _)) fun H hH => ?_
  refine Safe.seq (Safe.region ?_)
  simp only [c7W, E1, seval]
  refine Safe.seq (Safe.seq (Safe.region ?_))
  simp only [c7V, E1, seval]
  refine (b4m a b ha hb).acall ?_
  have h0 : ¬ (cmpI (val a) (val b) < 0) := by unfold cmpI; split <;> (try split) <;> omega
  simp only [E1, seval, h0]
  refine Safe.cond ?_
  simp only [E1, seval]
  refine Safe.skip (Safe.seq (Safe.region ?_))
  simp only [c7U, E1, seval]
  refine (a0w a ha.lim ha.len).acall ?_
  try simp only [E1, seval]
  refine (a0w b hb.lim hb.len).acall ?_
  try simp only [E1, seval]
  have hlen : (limbs (val b)).length ≤ (limbs (val a)).length := by
    rcases Nat.lt_or_ge (limbs (val a)).length (limbs (val b)).length with h | h
    · have := b8I h; omega
    · exact h
  have := d3h (limbs (val a)) (limbs (val b)) (a0c _) (a0c _) ha.limbs.len hlen (by rw [a0b, a0b]; exact hv)
  rw [a0b, a0b] at this
  refine this.acall ?_
  try simp only [E1, seval]
  refine Safe.retn ?_
  simp only [E1, seval]
  first | exact ⟨rfl, _, rfl⟩ | exact ⟨_, rfl⟩ | exact ⟨trivial, _, rfl⟩
theorem d6N (w r : List Nat) (k d : Nat) (h : k < w.length) : (w ++ r).set k d = w.set k d ++ r := List.set_append_left _ _ h
theorem d3P (w r : List Nat) (k : Nat) (h : k < w.length) : (w ++ r).getD k 0 = w.getD k 0 := by
  simp [List.getElem?_append_left h]
theorem d5p (a b : List Nat) (ha : Nt a) (hb : Nt b) (hab : a.length + b.length ≤ 17592186044416) : a0d Pr a7S [natV a, natV b] (natV (limbs (val a * val b))) := by
  refine a0d.intro d8U d8T (by simp only [List.length_cons, List.length_nil]; omega) (a0X _) fun H hH => ?_
  refine Safe.seq (Safe.region ?_)
  have hLB : LB = 4294967296 := rfl
  simp only [c8e, E1, Nat.reduceAdd, Nat.reduceEqDiff, reduceCtorEq, ↓reduceIte]
  refine Safe.seq (Safe.region ?_)
  simp only [c8d, E1, Nat.reduceAdd, Nat.reduceEqDiff, reduceCtorEq, ↓reduceIte]
  refine (a0w a ha.lim ha.len).acall ?_
  try simp only [E1, Nat.reduceAdd, Nat.reduceEqDiff, reduceCtorEq, ↓reduceIte]
  refine (a0w b hb.lim hb.len).acall ?_
  try simp only [E1, Nat.reduceAdd, Nat.reduceEqDiff, reduceCtorEq, ↓reduceIte]
  have la := a0c (val a)
  have lb := a0c (val b)
  have va := a0b (val a)
  have vb := a0b (val b)
  have hA := a0Y ha.lim
  have hB := a0Y hb.lim
  generalize limbs (val a) = A at la va hA ⊢
  generalize limbs (val b) = B at lb vb hB ⊢
  refine Safe.keep [0, 1] (Safe.seq (Safe.region ?_))
  have hw : IntKind.wrap .i64 ((A.length : Int) + (B.length : Int)) = ((A.length + B.length : Nat) : Int) := by rw [a0a] <;> omega
  simp only [c8c, E1, Nat.reduceAdd, Nat.reduceEqDiff, reduceCtorEq, ↓reduceIte, hw, b1N _ H [] _ _ (A.length + B.length) (by omega)]
  refine Safe.seq (Safe.seq (Safe.region ?_))
  simp only [c8b, E1, Nat.reduceAdd, Nat.reduceEqDiff, reduceCtorEq, ↓reduceIte]
  refine Safe.block (Safe.loop ?_)
  -- the inner loop
  have inner : ∀ (todo : List AItem) (i x : Nat) (z vx : Nat), i < A.length → x = A.getD i 0 → 
      (∀ (w : List Nat) (c : Nat) (env : Env), w.length = i + B.length → Lim w → c < LB → val w + LB ^ (i + B.length) * c = vx + LB ^ i * (x * val B) →
        look env 0 = natV A → look env 1 = natV B → look env 5 = .mu (lid H 0) 0 (A.length + B.length) (some (A.length + B.length)) → look env 6 = .int .i64 i → look env 7 = .int .u64 c → look env 20 = .int .i64 A.length → look env 21 = .int .i64 i →
        Safe ⟨Pr, fun _ _ => false, a7S, 71, [.tmp 4], H.length⟩ todo env (hap H [some ⟨1, u32s (w ++ List.replicate z 0)⟩]) fun r' H' => r' = natV (limbs (val a * val b)) ∧ ∃ L, H' = hap H L) →
      ∀ (k j c : Nat) (w : List Nat), j + k = B.length → w.length = i + B.length → Lim w → c < LB → val w + LB ^ (i + j) * c = vx + LB ^ i * (x * val (B.take j)) →
        Safe ⟨Pr, fun _ _ => false, a7S, 71, [.tmp 4], H.length⟩ (.inLoop c8f :: .inBlock 2 :: todo)
          [(0, natV A), (1, natV B), (5, .mu (lid H 0) 0 (A.length + B.length) (some (A.length + B.length))), (6, .int .i64 i), (7, .int .u64 c), (20, .int .i64 A.length), (21, .int .i64 i), (25, .int .i64 B.length), (26, .int .i64 j)]
          (hap H [some ⟨1, u32s (w ++ List.replicate z 0)⟩]) fun r' H' => r' = natV (limbs (val a * val b)) ∧ ∃ L, H' = hap H L := by
    intro todo i x z vx hi hx hk k
    induction k with
    | zero =>
      intro j c w hjk hw lw hc hv
      have hj : j = B.length := by omega
      subst hj
      refine Safe.inLoop (Safe.seq (Safe.region ?_))
      simp only [b8Z, E1, Nat.reduceAdd, Nat.reduceEqDiff, reduceCtorEq, ↓reduceIte]
      refine Safe.seq (Safe.cond ?_)
      simp only [E1, Nat.reduceAdd, Nat.reduceEqDiff, reduceCtorEq, ↓reduceIte, Int.lt_irrefl]
      refine Safe.exit rfl ?_
      rw [List.take_length] at hv
      exact hk w c _ hw lw hc hv (by simp only [E1, Nat.reduceAdd, Nat.reduceEqDiff, reduceCtorEq, ↓reduceIte]) (by simp only [E1, Nat.reduceAdd, Nat.reduceEqDiff, reduceCtorEq, ↓reduceIte]) (by simp only [E1, Nat.reduceAdd, Nat.reduceEqDiff, reduceCtorEq, ↓reduceIte]) (by simp only [E1, Nat.reduceAdd, Nat.reduceEqDiff, reduceCtorEq, ↓reduceIte]) (by simp only [E1, Nat.reduceAdd, Nat.reduceEqDiff, reduceCtorEq, ↓reduceIte]) (by simp only [E1, Nat.reduceAdd, Nat.reduceEqDiff, reduceCtorEq, ↓reduceIte]) (by simp only [E1, Nat.reduceAdd, Nat.reduceEqDiff, reduceCtorEq, ↓reduceIte])
    | succ k ih =>
      intro j c w hjk hw lw hc hv
      refine Safe.inLoop (Safe.seq (Safe.region ?_))
      simp only [b8Z, E1, Nat.reduceAdd, Nat.reduceEqDiff, reduceCtorEq, ↓reduceIte]
      refine Safe.seq (Safe.cond ?_)
      have hlt : (j : Int) < (B.length : Int) := by omega
      simp only [E1, Nat.reduceAdd, Nat.reduceEqDiff, reduceCtorEq, ↓reduceIte, hlt]
      refine Safe.skip (Safe.seq (Safe.block (Safe.seq (Safe.region ?_))))
      simp only [c7X, E1, Nat.reduceAdd, Nat.reduceEqDiff, reduceCtorEq, ↓reduceIte]
      refine Safe.seq (Safe.regionD ?_)
      have xa := a0O la i
      have xb := a0O lb j
      have xw := a0O lw (i + j)
      have hfit := d6Y hc xa xb xw
      have hLL : LB * LB = 18446744073709551616 := by decide
      have h1w : IntKind.wrap .u64 ((A.getD i 0 : Nat) : Int) = ((A.getD i 0 : Nat) : Int) := a0G (by omega) (by omega)
      have h2w : IntKind.wrap .u64 ((B.getD j 0 : Nat) : Int) = ((B.getD j 0 : Nat) : Int) := a0G (by omega) (by omega)
      have h3w : IntKind.wrap .u64 ((w.getD (i + j) 0 : Nat) : Int) = ((w.getD (i + j) 0 : Nat) : Int) := a0G (by omega) (by omega)
      have h4w : IntKind.wrap .u64 (((A.getD i 0 : Nat) : Int) * ((B.getD j 0 : Nat) : Int)) = ((A.getD i 0 * B.getD j 0 : Nat) : Int) := by rw [← Int.natCast_mul, a0G] <;> omega
      have h5w : IntKind.wrap .u64 (((A.getD i 0 * B.getD j 0 : Nat) : Int) + ((w.getD (i + j) 0 : Nat) : Int)) = ((A.getD i 0 * B.getD j 0 + w.getD (i + j) 0 : Nat) : Int) := by rw [a0G] <;> omega
      have h6w : IntKind.wrap .u64 ((c : Int) + ((A.getD i 0 * B.getD j 0 + w.getD (i + j) 0 : Nat) : Int)) = ((c + A.getD i 0 * B.getD j 0 + w.getD (i + j) 0 : Nat) : Int) := by rw [a0G] <;> omega
      have h7w : IntKind.wrap .i64 ((i : Int) + (j : Int)) = ((i + j : Nat) : Int) := by rw [a0a] <;> omega
      simp only [c5g, E1, Nat.reduceAdd, Nat.reduceEqDiff, reduceCtorEq, ↓reduceIte, a0C _ A _ i hi, a0C _ B _ j (by omega), h1w, h2w, h3w, h4w, h7w, a8J _ _ _ _ _ _ (i + j) (show i + j < A.length + B.length by omega), e5F _ _ (i + j) (show i + j < (w ++ List.replicate z 0).length by simp [hw]; omega),
        d3P w _ (i + j) (show i + j < w.length by omega), h5w, h6w]
      refine Safe.seq (Safe.region ?_)
      have hcw : IntKind.wrap .u32 ((c + A.getD i 0 * B.getD j 0 + w.getD (i + j) 0 : Nat) : Int) = (((c + A.getD i 0 * B.getD j 0 + w.getD (i + j) 0) % LB : Nat) : Int) := a1Y _
      simp only [c5f, E1, Nat.reduceAdd, Nat.reduceEqDiff, reduceCtorEq, ↓reduceIte, h7w, hcw, a8J _ _ _ _ _ _ (i + j) (show i + j < A.length + B.length by omega), c4D _ _ _ (i + j) _ (show i + j < (w ++ List.replicate z 0).length by simp [hw]; omega), d6N w _ (i + j) _ (show i + j < w.length by omega)]
      refine Safe.region ?_
      simp only [c5e, E1, Nat.reduceAdd, Nat.reduceEqDiff, reduceCtorEq, ↓reduceIte, a3o _ _ _ (show (0 : Int) ≤ 32 by decide), e6l]
      refine Safe.inBlock (Safe.region ?_)
      have hiw : IntKind.wrap .i64 ((j : Int) + 1) = ((j + 1 : Nat) : Int) := by rw [a0a] <;> omega
      simp only [c5d, E1, Nat.reduceAdd, Nat.reduceEqDiff, reduceCtorEq, ↓reduceIte, hiw]
      refine Safe.keep [0, 1, 5, 6, 7, 20, 21, 25, 26] ?_
      simp only [E1, Nat.reduceAdd, Nat.reduceEqDiff, reduceCtorEq, ↓reduceIte]
      refine ih (j + 1) _ _ (by omega) (by simp [hw]) (e1o lw (Nat.mod_lt _ (by decide))) ?_ ?_
      · exact Nat.div_lt_of_lt_mul hfit
      · rw [a0i, show i + (j + 1) = (i + j) + 1 by omega, Nat.pow_succ]
        subst hx
        exact d6X (Nat.pow_add LB i j) hv (d9V (by omega)) rfl
  have outer : ∀ (k i : Nat) (x : List Nat), i + k = A.length → x.length = i + B.length → Lim x → val x = val (A.take i) * val B →
        Safe ⟨Pr, fun _ _ => false, a7S, 71, [.tmp 4], H.length⟩ [.inLoop c8g, .inBlock 0, .code ((ACode.region b4w false).seq .ret)]
          [(0, natV A), (1, natV B), (5, .mu (lid H 0) 0 (A.length + B.length) (some (A.length + B.length))), (20, .int .i64 A.length), (21, .int .i64 i)]
          (hap H [some ⟨1, u32s (x ++ List.replicate k 0)⟩]) fun r' H' => r' = natV (limbs (val a * val b)) ∧ ∃ L, H' = hap H L := by
    intro k
    induction k with
    | zero =>
      intro i x hik hx lx hv
      have hi : i = A.length := by omega
      subst hi
      refine Safe.inLoop (Safe.seq (Safe.region ?_))
      simp only [b9a, E1, Nat.reduceAdd, Nat.reduceEqDiff, reduceCtorEq, ↓reduceIte]
      refine Safe.seq (Safe.cond ?_)
      simp only [E1, Nat.reduceAdd, Nat.reduceEqDiff, reduceCtorEq, ↓reduceIte, Int.lt_irrefl]
      refine Safe.exit rfl ?_
      simp only [List.replicate_zero, List.append_nil]
      refine Safe.freeze 0 (b := ⟨1, u32s x⟩) hH rfl rfl (a0r _) ?_
      refine Safe.seq (Safe.region ?_)
      simp only [b4w, E1, Nat.reduceAdd, Nat.reduceEqDiff, reduceCtorEq, ↓reduceIte, ← hx]
      refine (a0w x lx (by omega)).acall ?_
      try simp only [E1, Nat.reduceAdd, Nat.reduceEqDiff, reduceCtorEq, ↓reduceIte]
      refine Safe.retn ?_
      simp only [E1, Nat.reduceAdd, Nat.reduceEqDiff, reduceCtorEq, ↓reduceIte]
      rw [List.take_length] at hv
      rw [hv, va, vb]
      first | exact ⟨rfl, _, rfl⟩ | exact ⟨_, rfl⟩ | exact ⟨trivial, _, rfl⟩
    | succ k ih =>
      intro i x hik hx lx hv
      refine Safe.inLoop (Safe.seq (Safe.region ?_))
      simp only [b9a, E1, Nat.reduceAdd, Nat.reduceEqDiff, reduceCtorEq, ↓reduceIte]
      refine Safe.seq (Safe.cond ?_)
      have hlt : (i : Int) < (A.length : Int) := by omega
      simp only [E1, Nat.reduceAdd, Nat.reduceEqDiff, reduceCtorEq, ↓reduceIte, hlt]
      refine Safe.skip (Safe.seq (Safe.block (Safe.seq (Safe.region ?_))))
      simp only [c8a, E1, Nat.reduceAdd, Nat.reduceEqDiff, reduceCtorEq, ↓reduceIte]
      refine Safe.seq (Safe.region ?_)
      simp only [c7Z, E1, Nat.reduceAdd, Nat.reduceEqDiff, reduceCtorEq, ↓reduceIte]
      refine Safe.seq (Safe.seq (Safe.region ?_))
      simp only [c7Y, E1, Nat.reduceAdd, Nat.reduceEqDiff, reduceCtorEq, ↓reduceIte]
      refine Safe.block (Safe.loop ?_)
      refine Safe.keep [0, 1, 5, 6, 7, 20, 21, 25, 26] ?_
      simp only [E1, Nat.reduceAdd, Nat.reduceEqDiff, reduceCtorEq, ↓reduceIte]
      refine inner _ i _ (k + 1) (val x) (by omega) rfl ?_ B.length 0 0 x (by omega) hx lx (by decide) (by simp [val])
      intro w c env hw lw hc hv2 e0 e1 e5 e6 e7 e20 e21
      refine Safe.region ?_
      have h7w : IntKind.wrap .i64 ((i : Int) + (B.length : Int)) = ((i + B.length : Nat) : Int) := by rw [a0a] <;> omega
      have hcw : IntKind.wrap .u32 (c : Int) = (c : Int) := a3l (by omega) (by omega)
      simp only [c5c, E1, Nat.reduceAdd, Nat.reduceEqDiff, reduceCtorEq, ↓reduceIte, e0, e1, e5, e6, e7, h7w, hcw, a8J _ _ _ _ _ _ (i + B.length) (show i + B.length < A.length + B.length by omega), c4D _ _ _ (i + B.length) _ (show i + B.length < (w ++ List.replicate (k + 1) 0).length by simp [hw])]
      refine Safe.inBlock (Safe.region ?_)
      have hiw : IntKind.wrap .i64 ((i : Int) + 1) = ((i + 1 : Nat) : Int) := by rw [a0a] <;> omega
      simp only [c5b, E1, Nat.reduceAdd, Nat.reduceEqDiff, reduceCtorEq, ↓reduceIte, e21, hiw]
      refine Safe.keep [0, 1, 5, 20, 21] ?_
      simp only [E1, Nat.reduceAdd, Nat.reduceEqDiff, reduceCtorEq, ↓reduceIte, e0, e1, e5, e20]
      have hset : (w ++ List.replicate (k + 1) 0).set (i + B.length) c = (w ++ [c]) ++ List.replicate k 0 := by rw [← hw]; exact c4l _ _ _
      rw [hset]
      refine ih (i + 1) _ (by omega) (by simp [hw]; omega) (a1A lw hc) ?_
      rw [a2F, hw, hv2, a0i, hv, Nat.add_mul, Nat.mul_assoc]
  refine Safe.keep [0, 1, 5, 20, 21] ?_
  simp only [E1, Nat.reduceAdd, Nat.reduceEqDiff, reduceCtorEq, ↓reduceIte]
  have := outer A.length 0 (List.replicate B.length 0) (by omega) (by simp) (by intro d hd; simp at hd; omega) (by simp [b5h, val])
  rw [List.replicate_append_replicate, Nat.add_comm B.length] at this
  exact this
end Go.Abs
namespace Go.Abs
theorem a0v (l : List Nat) (hl : Nt l) : a0d Pr a0A [natV l] (natV (limbs (val l))) := by
  refine a0d.intro d0k d0j (by simp only [List.length_cons, List.length_nil]; omega) (a0X _) fun H hH => ?_
  have hll := hl.len
  refine Safe.seq (Safe.region ?_)
  simp only [b6C, E1, seval]
  refine Safe.seq (Safe.region ?_)
  simp only [b6B, E1, seval]
  refine Safe.seq (Safe.block (Safe.loop ?_))
  -- the copy
  have copy : ∀ (n : Nat), n ≤ l.length → limbs (val l) = l.take n → ∀ env : Env, look env 0 = natV l → look env 3 = .int .i64 n →
      Safe ⟨Pr, fun _ _ => false, a0A, 33, [.tmp 2], H.length⟩ [.code ((ACode.region a5b false).seq (((ACode.region a5a false).seq (.block 2 (.loop a5c))).seq ((ACode.region a3s false).seq .ret)))]
        env (hap H []) fun r' H' => r' = natV (limbs (val l)) ∧ ∃ L, H' = hap H L := by
    intro n hn hlim env e0 e3
    refine Safe.seq (Safe.region ?_)
    simp only [a5b, E1, seval]
    refine Safe.seq (Safe.seq (Safe.region ?_))
    simp only [a5a, E1, seval]
    refine Safe.nilrow 4 1 (by decide) (by simp only [E1, seval]) ?_
    refine Safe.block (Safe.loop ?_)
    have key : ∀ (k i : Nat), i + k = n → Safe ⟨Pr, fun _ _ => false, a0A, 33, [.tmp 2], H.length⟩ [.inLoop a5c, .inBlock 2, .code ((ACode.region a3s false).seq .ret)]
        [(0, natV l), (3, .int .i64 n), (4, .mu (lid H 0) 0 (l.take i).length none), (5, .int .i64 i)] (hap H [some ⟨1, u32s (l.take i)⟩]) fun r' H' => r' = natV (limbs (val l)) ∧ ∃ L, H' = hap H L := by
      intro k
      induction k with
      | zero =>
        intro i hi
        have hi : i = n := by omega
        subst hi
        refine Safe.inLoop (Safe.seq (Safe.seq (Safe.region ?_)))
        simp only [a8t, E1, seval, Int.lt_irrefl]
        refine Safe.cond ?_
        simp only [E1, seval]
        refine Safe.exit rfl ?_
        refine Safe.freeze 0 (b := ⟨1, u32s (l.take i)⟩) hH rfl rfl (a0r _) ?_
        refine Safe.seq (Safe.region ?_)
        simp only [a3s, E1, seval]
        refine Safe.retn ?_
        simp only [E1, seval, hlim]
        first | exact ⟨rfl, _, rfl⟩ | exact ⟨_, rfl⟩ | exact ⟨trivial, _, rfl⟩
      | succ k ih =>
        intro i hi
        refine Safe.inLoop (Safe.seq (Safe.seq (Safe.region ?_)))
        have hlt : (i : Int) < (n : Int) := by omega
        simp only [a8t, E1, seval, hlt]
        refine Safe.cond ?_
        simp only [E1, seval]
        refine Safe.skip (Safe.seq (Safe.block (Safe.region ?_)))
        simp only [b6z, E1, seval, a0C _ l _ i (by omega), c4E H hH _ (a1q H 0) _ (l.take i) (l.getD i 0) (by rw [List.length_take]; omega)]
        refine Safe.inBlock (Safe.region ?_)
        have hiw : IntKind.wrap .i64 ((i : Int) + 1) = ((i + 1 : Nat) : Int) := by rw [a0a] <;> omega
        simp only [b6y, E1, seval, hiw]
        refine Safe.keep [0, 3, 4, 5] ?_
        simp only [E1, seval, d3o]
        have := ih (i + 1) (by omega)
        rw [a7p (by omega)] at this
        simpa only [List.length_append, List.length_cons, List.length_nil] using this
    refine Safe.keep [0, 3, 4, 5] ?_
    simp only [E1, seval, e0, e3]
    exact key n 0 (by omega)
  have key : ∀ (n : Nat), n ≤ l.length → val (l.take n) = val l → ∀ env : Env, look env 0 = natV l → look env 3 = .int .i64 n →
      Safe ⟨Pr, fun _ _ => false, a0A, 33, [.tmp 2], H.length⟩ [.inLoop b6D, .inBlock 0, .code ((ACode.region a5b false).seq (((ACode.region a5a false).seq (.block 2 (.loop a5c))).seq ((ACode.region a3s false).seq .ret)))]
        env (hap H []) fun r' H' => r' = natV (limbs (val l)) ∧ ∃ L, H' = hap H L := by
    intro n
    induction n with
    | zero =>
      intro hn hv env e0 e3
      refine Safe.inLoop (Safe.seq (Safe.seq (Safe.region ?_)))
      simp only [a8u, E1, seval, e0, e3, Int.natCast_zero, Int.lt_irrefl]
      refine Safe.cond ?_
      simp only [E1, seval]
      refine Safe.exit rfl (copy 0 hn ?_ _ (by simp only [E1, seval, e0]) (by simp only [E1, seval, e3] <;> rfl))
      rw [← hv]; simp [val, a0I]
    | succ n ih =>
      intro hn hv env e0 e3
      refine Safe.inLoop (Safe.seq (Safe.seq (Safe.region ?_)))
      have h0 : (0 : Int) < ((n + 1 : Nat) : Int) := by omega
      have hw : IntKind.wrap .i64 (((n + 1 : Nat) : Int) - 1) = (n : Int) := by rw [a0a] <;> omega
      simp only [a8u, E1, seval, e0, e3, h0, hw, a0C _ l _ n (by omega)]
      refine Safe.cond ?_
      simp only [E1, seval]
      by_cases hd : l.getD n 0 = 0
      · simp only [hd, Int.natCast_zero, E1, seval]
        refine Safe.skip (Safe.block (Safe.region ?_))
        simp only [b6A, E1, seval, e3, hw]
        refine Safe.inBlock (ih (by omega) ?_ _ (by simp only [E1, seval, e0]) (by simp only [E1, seval]))
        rw [← hv, a0i, hd]; simp
      · have hd' : ¬ (((l.getD n 0 : Nat) : Int) = 0) := by omega
        simp only [hd', E1, seval]
        refine Safe.exit rfl (copy (n + 1) hn ?_ _ (by simp only [E1, seval, e0]) (by simp only [E1, seval, e3]))
        rw [← hv, a7F (hl.lim.take _)]
        rw [a7p (by omega)]; simpa using hd
  exact key l.length (Nat.le_refl _) (by rw [List.take_length]) _ (by simp only [E1, seval]) (by simp only [E1, seval])
theorem a1y (l : List Nat) (i : Nat) (hl : Lim l) (hb : l.length ≤ 17592186044416) : a0d Pr a0U [natV l, .int .i64 i] (.int .u64 (l.getD i 0 : Nat)) := by
  refine a0d.intro d0g d0f (by simp only [List.length_cons, List.length_nil]; omega) (.int _ _) fun H hH => ?_
  have hd := a0O hl i
  have hLB : LB = 4294967296 := rfl
  refine Safe.seq (Safe.region ?_)
  simp only [b6m, E1, seval]
  refine Safe.seq (Safe.seq (Safe.region ?_))
  simp only [b6l, E1, seval]
  refine Safe.cond ?_
  simp only [E1, seval]
  by_cases h : i < l.length
  · have h' : (i : Int) < (l.length : Int) := by omega
    simp only [h', E1, seval]
    refine Safe.seq (Safe.region ?_)
    simp only [b6k, E1, seval, a0C _ l _ i h, a0G (n := ((l.getD i 0 : Nat) : Int)) (by omega) (by omega)]
    refine Safe.retn ?_
    simp only [E1, seval]
    first | exact ⟨rfl, _, rfl⟩ | exact ⟨_, rfl⟩ | exact ⟨trivial, _, rfl⟩
  · have h' : ¬ (i : Int) < (l.length : Int) := by omega
    simp only [h', E1, seval]
    refine Safe.skip (Safe.seq (Safe.region ?_))
    simp only [b6j, E1, seval]
    refine Safe.retn ?_
    simp only [E1, seval]
    rw [a6D (by omega)]
    first | exact ⟨rfl, _, rfl⟩ | exact ⟨_, rfl⟩ | exact ⟨trivial, _, rfl⟩
theorem c5y (a b : Nat) : a0d Pr a6J [.int .i64 a, .int .i64 b] (.int .i64 (max a b : Nat)) := by
  refine a0d.intro d0e d0d (by simp only [List.length_cons, List.length_nil]; omega) (.int _ _) fun H hH => ?_
  refine Safe.seq (Safe.region ?_)
  simp only [b6i, E1, seval]
  refine Safe.seq (Safe.seq (Safe.region ?_))
  simp only [b6h, E1, seval]
  refine Safe.cond ?_
  simp only [E1, seval]
  by_cases h : b < a
  · have h' : (b : Int) < (a : Int) := by omega
    simp only [h', E1, seval]
    refine Safe.seq (Safe.region ?_)
    simp only [b6g, E1, seval]
    refine Safe.retn ?_
    simp only [E1, seval]
    rw [Nat.max_eq_left (by omega)]
    first | exact ⟨rfl, _, rfl⟩ | exact ⟨_, rfl⟩ | exact ⟨trivial, _, rfl⟩
  · have h' : ¬ (b : Int) < (a : Int) := by omega
    simp only [h', E1, seval]
    refine Safe.skip (Safe.seq (Safe.region ?_))
    simp only [b6f, E1, seval]
    refine Safe.retn ?_
    simp only [E1, seval]
    rw [Nat.max_eq_right (by omega)]
    first | exact ⟨rfl, _, rfl⟩ | exact ⟨_, rfl⟩ | exact ⟨trivial, _, rfl⟩
theorem a8d (a b : List Nat) (ha : Nt a) (hb : Nt b) : a0d Pr a3c [natV a, natV b] (.int .i64 (cmpI (val a) (val b))) := by
  refine a0d.intro d2W d2V (by simp only [List.length_cons, List.length_nil]; omega) (.int _ _) fun H hH => ?_
  have hal := ha.len
  have hbl := hb.len
  refine Safe.seq (Safe.region ?_)
  simp only [c1G, E1, seval]
  refine Safe.seq (Safe.seq (Safe.region ?_))
  simp only [c1F, E1, seval]
  refine (c5y _ _).acall ?_
  have hm : max a.length b.length ≤ 17592186044416 := Nat.max_le.2 ⟨hal, hbl⟩
  simp only [E1, seval, a0a (n := ((max a.length b.length : Nat) : Int) - 1) (by omega) (by omega)]
  refine Safe.block (Safe.loop ?_)
  have key : ∀ (n : Nat), n ≤ max a.length b.length → (∀ j, n ≤ j → a.getD j 0 = b.getD j 0) → 
      Safe ⟨Pr, fun _ _ => false, a3c, 30, [.tmp 4], H.length⟩ [.inLoop c1H, .inBlock 0, .code ((ACode.region a8D false).seq .ret)]
        [(0, natV a), (1, natV b), (5, .int .i64 ((n : Int) - 1))] (hap H []) fun r' H' => r' = .int .i64 (cmpI (val a) (val b)) ∧ ∃ L, H' = hap H L := by
    intro n
    induction n with
    | zero =>
      intro hn hd
      refine Safe.inLoop (Safe.seq (Safe.seq (Safe.region ?_)))
      simp only [b0J, E1, seval, show ¬ ((0 : Int) ≤ ((0 : Nat) : Int) - 1) by omega]
      refine Safe.cond ?_
      simp only [E1, seval]
      refine Safe.exit rfl (Safe.seq (Safe.region ?_))
      simp only [a8D, E1, seval]
      refine Safe.retn ?_
      simp only [E1, seval]
      have : val a = val b := c4c fun i => hd i (Nat.zero_le _)
      exact ⟨by simp [cmpI, this], [], rfl⟩
    | succ n ih =>
      intro hn hd
      refine Safe.inLoop (Safe.seq (Safe.seq (Safe.region ?_)))
      have e1 : ((n + 1 : Nat) : Int) - 1 = (n : Int) := by omega
      simp only [b0J, E1, seval, e1, Int.natCast_nonneg]
      refine Safe.cond ?_
      simp only [E1, seval]
      refine Safe.skip (Safe.seq (Safe.block (Safe.seq (Safe.region ?_))))
      simp only [c1E, E1, seval]
      refine (a1y a n ha.lim hal).acall ?_
      try simp only [E1, seval]
      refine Safe.seq (Safe.region ?_)
      simp only [c1D, E1, seval]
      refine (a1y b n hb.lim hbl).acall ?_
      try simp only [E1, seval]
      refine Safe.seq (Safe.seq (Safe.region ?_))
      simp only [c1C, E1, seval]
      refine Safe.cond ?_
      simp only [E1, seval]
      by_cases h1 : a.getD n 0 < b.getD n 0
      · have h1' : ((a.getD n 0 : Nat) : Int) < ((b.getD n 0 : Nat) : Int) := by omega
        simp only [h1', E1, seval]
        refine Safe.seq (Safe.region ?_)
        simp only [c1B, E1, seval]
        refine Safe.retn ?_
        simp only [E1, seval]
        have := b0n ha.lim hb.lim (fun j hj => hd j (by omega)) h1
        exact ⟨by simp [cmpI, this], [], rfl⟩
      · have h1' : ¬ ((a.getD n 0 : Nat) : Int) < ((b.getD n 0 : Nat) : Int) := by omega
        simp only [h1', E1, seval]
        refine Safe.skip (Safe.seq (Safe.region ?_))
        simp only [c1A, E1, seval]
        refine Safe.cond ?_
        simp only [E1, seval]
        by_cases h2 : b.getD n 0 < a.getD n 0
        · have h2' : ((b.getD n 0 : Nat) : Int) < ((a.getD n 0 : Nat) : Int) := by omega
          simp only [h2', E1, seval]
          refine Safe.seq (Safe.region ?_)
          simp only [c1z, E1, seval]
          refine Safe.retn ?_
          simp only [E1, seval]
          have := b0n hb.lim ha.lim (fun j hj => (hd j (by omega)).symm) h2
          exact ⟨by simp [cmpI, this, Nat.lt_asymm this], [], rfl⟩
        · have h2' : ¬ ((b.getD n 0 : Nat) : Int) < ((a.getD n 0 : Nat) : Int) := by omega
          simp only [h2', E1, seval]
          refine Safe.skip (Safe.inBlock (Safe.region ?_))
          simp only [c1y, E1, seval, a0a (n := (n : Int) - 1) (by omega) (by omega)]
          refine Safe.keep [0, 1, 5] ?_
          simp only [E1, seval]
          refine ih (by omega) fun j hj => ?_
          rcases Nat.eq_or_lt_of_le hj with rfl | hj
          · omega
          · exact hd j hj
  refine Safe.keep [0, 1, 5] ?_
  simp only [E1, seval]
  refine key _ (Nat.le_refl _) fun j hj => ?_
  rw [a6D (by have := Nat.le_max_left a.length b.length; omega), a6D (by have := Nat.le_max_right a.length b.length; omega)]
theorem d4O (a b : List Nat) (la : Lim a) (lb : Lim b) (ha : a.length < 17592186044416) (hb : b.length < 17592186044416) : a0d Pr a9B [natV a, natV b] (natV (limbs (val a + val b))) := by
  refine a0d.intro d2Z d2Y (by simp only [List.length_cons, List.length_nil]; omega) (a0X _) fun H hH => ?_
  have hLB : LB = 4294967296 := rfl
  refine Safe.seq (Safe.region ?_)
  simp only [c1P, E1, seval]
  refine Safe.seq (Safe.region ?_)
  simp only [c1O, E1, seval]
  refine Safe.seq (Safe.region ?_)
  simp only [c1N, E1, seval]
  refine Safe.seq (Safe.seq (Safe.region ?_))
  simp only [c1M, E1, seval]
  refine Safe.nilrow 5 1 (by decide) (by simp only [E1, seval]) ?_
  refine Safe.block (Safe.loop ?_)
  have hm : max a.length b.length < 17592186044416 := Nat.max_lt.2 ⟨ha, hb⟩
  have m1 := Nat.le_max_left a.length b.length
  have m2 := Nat.le_max_right a.length b.length
  generalize hM : max a.length b.length = M at hm m1 m2
  have key : ∀ (k i c : Nat) (x : List Nat), i + k = M → x.length = i → Lim x → c ≤ 1 → val x + LB ^ i * c = val (a.take i) + val (b.take i) →
      Safe ⟨Pr, fun _ _ => false, a9B, 41, [.tmp 4], H.length⟩ [.inLoop c1Q, .inBlock 0, .code ((ACode.region b0K false).seq ((ACode.region a8H false).seq .ret))]
        [(0, natV a), (1, natV b), (5, .mu (lid H 0) 0 x.length none), (6, .int .u64 c), (7, .int .i64 i)] (hap H [some ⟨1, u32s x⟩]) fun r' H' => r' = natV (limbs (val a + val b)) ∧ ∃ L, H' = hap H L := by
    intro k
    induction k with
    | zero =>
      intro i c x hik hx lx hc hv
      refine Safe.inLoop (Safe.seq (Safe.seq (Safe.region ?_)))
      simp only [b0L, E1, seval]
      refine (c5y _ _).acall ?_
      have : ¬ (i : Int) < (M : Int) := by omega
      rw [hM]
      simp only [E1, seval, this]
      refine Safe.cond ?_
      simp only [E1, seval]
      refine Safe.exit rfl (Safe.seq (Safe.region ?_))
      simp only [b0K, E1, seval, a3l (n := (c : Int)) (by omega) (by omega), c4E H hH _ (a1q H 0) _ x c (by omega)]
      have hlen : x.length + 1 = (x ++ [c]).length := by simp
      refine Safe.freeze 0 (b := ⟨1, u32s (x ++ [c])⟩) hH rfl rfl (a0r _) ?_
      refine Safe.seq (Safe.region ?_)
      simp only [a8H, E1, seval, hlen]
      refine (a0v (x ++ [c]) ⟨a1A lx (by omega), by simp; omega⟩).acall ?_
      try simp only [E1, seval]
      refine Safe.retn ?_
      simp only [E1, seval]
      rw [List.take_of_length_le (by omega), List.take_of_length_le (by omega)] at hv
      rw [a2F, hx, hv]
      first | exact ⟨rfl, _, rfl⟩ | exact ⟨_, rfl⟩ | exact ⟨trivial, _, rfl⟩
    | succ k ih =>
      intro i c x hik hx lx hc hv
      refine Safe.inLoop (Safe.seq (Safe.seq (Safe.region ?_)))
      simp only [b0L, E1, seval]
      refine (c5y _ _).acall ?_
      have : (i : Int) < (M : Int) := by omega
      rw [hM]
      simp only [E1, seval, this]
      refine Safe.cond ?_
      simp only [E1, seval]
      refine Safe.skip (Safe.seq (Safe.block (Safe.seq (Safe.region ?_))))
      simp only [c1L, E1, seval]
      have xa := a0O la i
      have xb := a0O lb i
      refine (a1y a i la (by omega)).acall ?_
      have w1 : IntKind.wrap .u64 ((c : Int) + ((a.getD i 0 : Nat) : Int)) = ((c + a.getD i 0 : Nat) : Int) := by rw [a0G] <;> omega
      simp only [E1, seval, w1]
      refine (a1y b i lb (by omega)).acall ?_
      have w2 : IntKind.wrap .u64 (((c + a.getD i 0 : Nat) : Int) + ((b.getD i 0 : Nat) : Int)) = ((c + a.getD i 0 + b.getD i 0 : Nat) : Int) := by rw [a0G] <;> omega
      simp only [E1, seval, w2]
      refine Safe.seq (Safe.region ?_)
      have hmod := Nat.mod_lt (c + a.getD i 0 + b.getD i 0) (show 0 < LB by decide)
      have w3 : IntKind.wrap .u32 (((c + a.getD i 0 + b.getD i 0) % LB : Nat) : Int) = (((c + a.getD i 0 + b.getD i 0) % LB : Nat) : Int) := a3l (by omega) (by omega)
      simp only [c1K, E1, seval, e0z, w3, c4E H hH _ (a1q H 0) _ x _ (show x.length < 35184372088832 by omega)]
      refine Safe.region ?_
      simp only [c1J, E1, seval, e5E _ (show c + a.getD i 0 + b.getD i 0 < 18446744073709551616 by omega)]
      refine Safe.inBlock (Safe.region ?_)
      have hiw : IntKind.wrap .i64 ((i : Int) + 1) = ((i + 1 : Nat) : Int) := by rw [a0a] <;> omega
      simp only [c1I, E1, seval, hiw]
      refine Safe.keep [0, 1, 5, 6, 7] ?_
      simp only [E1, seval]
      have hlen : x.length + 1 = (x ++ [(c + a.getD i 0 + b.getD i 0) % LB]).length := by simp
      rw [hlen]
      refine ih (i + 1) _ _ (by omega) (by simp [hx]) (a1A lx hmod) ?_ ?_
      · have : c + a.getD i 0 + b.getD i 0 < LB * 2 := by omega
        have := Nat.div_lt_of_lt_mul this
        omega
      · rw [a2F, hx, a0i, a0i, Nat.pow_succ]
        exact c9q (i := 0) hv
  refine Safe.keep [0, 1, 5, 6, 7] ?_
  simp only [E1, seval]
  exact key M 0 0 [] (by omega) rfl b9m (by omega) (by simp [val])
theorem a4x (a b : List Nat) (la : Lim a) (lb : Lim b) (ha : a.length ≤ 17592186044416) (hb : b.length ≤ 17592186044416) (hv : val b ≤ val a) : a0d Pr a2D [natV a, natV b] (natV (limbs (val a - val b))) := by
  refine a0d.intro d0i d0h (by simp only [List.length_cons, List.length_nil]; omega) (a0X _) fun H hH => ?_
  have hLB : LB = 4294967296 := rfl
  refine Safe.seq (Safe.region ?_)
  simp only [b6v, E1, seval]
  refine Safe.seq (Safe.region ?_)
  simp only [b6u, E1, seval]
  refine Safe.seq (Safe.region ?_)
  simp only [b6t, E1, seval]
  refine Safe.seq (Safe.seq (Safe.region ?_))
  simp only [b6s, E1, seval]
  refine Safe.nilrow 5 1 (by decide) (by simp only [E1, seval]) ?_
  refine Safe.block (Safe.loop ?_)
  have key : ∀ (k i c : Nat) (x : List Nat), i + k = a.length → x.length = i → Lim x → c ≤ 1 → val (a.take i) + LB ^ i * c = val x + val (b.take i) →
      Safe ⟨Pr, fun _ _ => false, a2D, 38, [.tmp 4], H.length⟩ [.inLoop a8s, .inBlock 0, .code ((ACode.region a4r false).seq .ret)]
        [(0, natV a), (1, natV b), (5, .mu (lid H 0) 0 x.length none), (6, .int .u64 c), (7, .int .i64 i)] (hap H [some ⟨1, u32s x⟩]) fun r' H' => r' = natV (limbs (val a - val b)) ∧ ∃ L, H' = hap H L := by
    intro k
    induction k with
    | zero =>
      intro i c x hik hx lx hc hv2
      refine Safe.inLoop (Safe.seq (Safe.seq (Safe.region ?_)))
      have : ¬ (i : Int) < (a.length : Int) := by omega
      simp only [a8r, E1, seval, this]
      refine Safe.cond ?_
      simp only [E1, seval]
      refine Safe.exit rfl ?_
      refine Safe.freeze 0 (b := ⟨1, u32s x⟩) hH rfl rfl (a0r _) ?_
      refine Safe.seq (Safe.region ?_)
      simp only [a4r, E1, seval]
      refine (a0v x ⟨lx, by omega⟩).acall ?_
      try simp only [E1, seval]
      refine Safe.retn ?_
      simp only [E1, seval]
      rw [List.take_of_length_le (by omega)] at hv2
      have h1 := a1e lx
      rw [hx] at h1
      have h3 := a3m b i
      have hc0 : c = 0 ∧ val b = val (b.take i) := by
        rcases Nat.eq_zero_or_pos (val (b.drop i)) with h0 | h0
        · rw [h0, Nat.mul_zero] at h3
          rcases Nat.eq_zero_or_pos c with h | h
          · exact ⟨h, by omega⟩
          · have : c = 1 := by omega
            subst this
            omega
        · exfalso
          have h4 : LB ^ i * 1 ≤ LB ^ i * val (b.drop i) := Nat.mul_le_mul_left _ h0
          have h5 := a1e la
          have : a.length = i := by omega
          rw [this] at h5
          omega
      obtain ⟨rfl, hb2⟩ := hc0
      have : val x = val a - val b := by omega
      rw [this]
      first | exact ⟨rfl, _, rfl⟩ | exact ⟨_, rfl⟩ | exact ⟨trivial, _, rfl⟩
    | succ k ih =>
      intro i c x hik hx lx hc hv2
      refine Safe.inLoop (Safe.seq (Safe.seq (Safe.region ?_)))
      have : (i : Int) < (a.length : Int) := by omega
      simp only [a8r, E1, seval, this]
      refine Safe.cond ?_
      simp only [E1, seval]
      refine Safe.skip (Safe.seq (Safe.block (Safe.seq (Safe.region ?_))))
      simp only [b6r, E1, seval]
      have xa := a0O la i
      have xb := a0O lb i
      refine (a1y a i la ha).acall ?_
      try simp only [E1, seval]
      refine Safe.seq (Safe.region ?_)
      simp only [b6q, E1, seval]
      refine (a1y b i lb hb).acall ?_
      have w1 : IntKind.wrap .u64 (((b.getD i 0 : Nat) : Int) + (c : Int)) = ((b.getD i 0 + c : Nat) : Int) := by rw [a0G] <;> omega
      simp only [E1, seval, w1]
      refine Safe.seq (Safe.region ?_)
      simp only [b6p, E1, seval]
      refine Safe.seq (Safe.seq (Safe.region ?_))
      simp only [b6o, E1, seval]
      refine Safe.cond ?_
      simp only [E1, seval]
      have rest : ∀ (X bo d : Nat) (env : Env), X = d + (b.getD i 0 + c) → X < 18446744073709551616 → bo ≤ 1 → d < LB → a.getD i 0 + LB * bo = d + c + b.getD i 0 → look env 0 = natV a → look env 1 = natV b → look env 5 = .mu (lid H 0) 0 x.length none → look env 6 = .int .u64 bo → look env 7 = .int .i64 i → look env 8 = .int .u64 X → look env 9 = .int .u64 (b.getD i 0 + c : Nat) →
          Safe ⟨Pr, fun _ _ => false, a2D, 38, [.tmp 4], H.length⟩ [.code (.region a7d false), .inBlock 1, .code (.region a7c false), .inLoop a8s, .inBlock 0, .code ((ACode.region a4r false).seq .ret)]
            env (hap H [some ⟨1, u32s x⟩]) fun r' H' => r' = natV (limbs (val a - val b)) ∧ ∃ L, H' = hap H L := by
        intro X bo d env hX hX64 hbo hd hdig e0 e1 e5 e6 e7 e8 e9
        refine Safe.region ?_
        have w2 : IntKind.wrap .u64 ((X : Int) - ((b.getD i 0 + c : Nat) : Int)) = (d : Int) := by rw [a0G] <;> omega
        have w3 : IntKind.wrap .u32 (d : Int) = (d : Int) := a3l (by omega) (by omega)
        simp only [a7d, E1, seval, e5, e8, e9, w2, w3, c4E H hH _ (a1q H 0) _ x _ (show x.length < 35184372088832 by omega)]
        refine Safe.inBlock (Safe.region ?_)
        have hiw : IntKind.wrap .i64 ((i : Int) + 1) = ((i + 1 : Nat) : Int) := by rw [a0a] <;> omega
        simp only [a7c, E1, seval, a1X, e7, hiw]
        refine Safe.keep [0, 1, 5, 6, 7] ?_
        simp only [E1, seval, a1X, e0, e1, e6]
        have hlen : x.length + 1 = (x ++ [d]).length := by simp
        rw [hlen]
        refine ih (i + 1) _ _ (by omega) (by simp [hx]) (a1A lx hd) hbo ?_
        rw [a2F, hx, a0i, a0i, Nat.pow_succ]
        exact d3v hv2 hdig
      by_cases hlt : a.getD i 0 < b.getD i 0 + c
      · have hlt' : ((a.getD i 0 : Nat) : Int) < ((b.getD i 0 + c : Nat) : Int) := by omega
        simp only [hlt', E1, seval]
        refine Safe.seq (Safe.region ?_)
        have w4 : IntKind.wrap .u64 (((a.getD i 0 : Nat) : Int) + 4294967296) = ((a.getD i 0 + 4294967296 : Nat) : Int) := by rw [a0G] <;> omega
        simp only [b6n, E1, seval, w4]
        refine Safe.region ?_
        simp only [b3p, E1, seval]
        exact rest (a.getD i 0 + 4294967296) 1 (a.getD i 0 + 4294967296 - (b.getD i 0 + c)) _ (by omega) (by omega) (by omega) (by omega) (by omega) (by simp only [E1, seval]) (by simp only [E1, seval]) (by simp only [E1, seval]) (by simp only [E1, seval] <;> rfl) (by simp only [E1, seval]) (by simp only [E1, seval]) (by simp only [E1, seval])
      · have hlt' : ¬ ((a.getD i 0 : Nat) : Int) < ((b.getD i 0 + c : Nat) : Int) := by omega
        simp only [hlt', E1, seval]
        exact Safe.skip (rest (a.getD i 0) 0 (a.getD i 0 - (b.getD i 0 + c)) _ (by omega) (by omega) (by omega) (by omega) (by omega) (by simp only [E1, seval]) (by simp only [E1, seval]) (by simp only [E1, seval]) (by simp only [E1, seval] <;> rfl) (by simp only [E1, seval]) (by simp only [E1, seval]) (by simp only [E1, seval]))
  refine Safe.keep [0, 1, 5, 6, 7] ?_
  simp only [E1, seval]
  exact key a.length 0 0 [] (by omega) rfl b9m (by omega) (by simp [val])
theorem c4p (a b : List Nat) (ha : Nt a) (hb : Nt b) (hv : val b ≤ val a) : a0d Pr a9z [natV a, natV b] (.tup [natV (limbs (val a - val b)), .int .i64 0]) := by
  refine a0d.intro d2H d2G (by simp only [List.length_cons, List.length_nil]; omega) (.tup _ (by intro c hc; simp at hc; rcases hc with rfl | rfl; exact a0X _; exact .int _ _)) fun H hH => ?_
  refine Safe.seq (Safe.region ?_)
  simp only [c0O, E1, seval]
  refine Safe.seq (Safe.seq (Safe.region ?_))
  simp only [c0N, E1, seval]
  refine (a8d a b ha hb).acall ?_
  have h0 : ¬ (cmpI (val a) (val b) < 0) := by unfold cmpI; split <;> (try split) <;> omega
  simp only [E1, seval, h0]
  refine Safe.cond ?_
  simp only [E1, seval]
  refine Safe.skip (Safe.seq (Safe.region ?_))
  simp only [c0M, E1, seval]
  refine (a4x a b ha.lim hb.lim ha.len hb.len hv).acall ?_
  try simp only [E1, seval]
  refine Safe.retn ?_
  simp only [E1, seval]
  first | exact ⟨rfl, _, rfl⟩ | exact ⟨_, rfl⟩ | exact ⟨trivial, _, rfl⟩
theorem a2Z (A B : List Nat) (ha : Nt A) (hb : Nt B) (hab : A.length + B.length ≤ 17592186044416) : a0d Pr a2c [natV A, natV B] (natV (limbs (val A * val B))) := by
  refine a0d.intro d2O d2N (by simp only [List.length_cons, List.length_nil]; omega) (a0X _) fun H hH => ?_
  have la := ha.lim
  have lb := hb.lim
  refine Safe.seq (Safe.region ?_)
  have hLB : LB = 4294967296 := rfl
  simp only [c1e, E1, seval]
  refine Safe.seq (Safe.region ?_)
  have hw : IntKind.wrap .i64 ((A.length : Int) + (B.length : Int)) = ((A.length + B.length : Nat) : Int) := by rw [a0a] <;> omega
  simp only [c1d, E1, seval, hw, b1N _ H [] _ _ (A.length + B.length) (by omega)]
  refine Safe.seq (Safe.seq (Safe.region ?_))
  simp only [c1c, E1, seval]
  refine Safe.block (Safe.loop ?_)
  have inner : ∀ (todo : List AItem) (i x : Nat) (z vx : Nat), i < A.length → x = A.getD i 0 → 
      (∀ (w : List Nat) (c : Nat) (env : Env), w.length = i + B.length → Lim w → c < LB → val w + LB ^ (i + B.length) * c = vx + LB ^ i * (x * val B) →
        look env 0 = natV A → look env 1 = natV B → look env 5 = .mu (lid H 0) 0 (A.length + B.length) (some (A.length + B.length)) → look env 6 = .int .i64 i → look env 7 = .int .u64 c →
        Safe ⟨Pr, fun _ _ => false, a2c, 68, [.tmp 4], H.length⟩ todo env (hap H [some ⟨1, u32s (w ++ List.replicate z 0)⟩]) fun r' H' => r' = natV (limbs (val A * val B)) ∧ ∃ L, H' = hap H L) →
      ∀ (k j c : Nat) (w : List Nat), j + k = B.length → w.length = i + B.length → Lim w → c < LB → val w + LB ^ (i + j) * c = vx + LB ^ i * (x * val (B.take j)) →
        Safe ⟨Pr, fun _ _ => false, a2c, 68, [.tmp 4], H.length⟩ (.inLoop c1f :: .inBlock 2 :: todo)
          [(0, natV A), (1, natV B), (5, .mu (lid H 0) 0 (A.length + B.length) (some (A.length + B.length))), (6, .int .i64 i), (7, .int .u64 c), (8, .int .i64 j)]
          (hap H [some ⟨1, u32s (w ++ List.replicate z 0)⟩]) fun r' H' => r' = natV (limbs (val A * val B)) ∧ ∃ L, H' = hap H L := by
    intro todo i x z vx hi hx hk k
    induction k with
    | zero =>
      intro j c w hjk hw lw hc hv
      have hj : j = B.length := by omega
      subst hj
      refine Safe.inLoop (Safe.seq (Safe.seq (Safe.region ?_)))
      simp only [b0F, E1, seval, Int.lt_irrefl]
      refine Safe.cond ?_
      simp only [E1, seval]
      refine Safe.exit rfl ?_
      rw [List.take_length] at hv
      exact hk w c _ hw lw hc hv (by simp only [E1, seval]) (by simp only [E1, seval]) (by simp only [E1, seval]) (by simp only [E1, seval]) (by simp only [E1, seval])
    | succ k ih =>
      intro j c w hjk hw lw hc hv
      refine Safe.inLoop (Safe.seq (Safe.seq (Safe.region ?_)))
      have hlt : (j : Int) < (B.length : Int) := by omega
      simp only [b0F, E1, seval, hlt]
      refine Safe.cond ?_
      simp only [E1, seval]
      refine Safe.skip (Safe.seq (Safe.block (Safe.seq (Safe.regionD ?_))))
      have xa := a0O la i
      have xb := a0O lb j
      have xw := a0O lw (i + j)
      have hfit := d6Y hc xa xb xw
      have hLL : LB * LB = 18446744073709551616 := by decide
      have h1w : IntKind.wrap .u64 ((A.getD i 0 : Nat) : Int) = ((A.getD i 0 : Nat) : Int) := a0G (by omega) (by omega)
      have h2w : IntKind.wrap .u64 ((B.getD j 0 : Nat) : Int) = ((B.getD j 0 : Nat) : Int) := a0G (by omega) (by omega)
      have h3w : IntKind.wrap .u64 ((w.getD (i + j) 0 : Nat) : Int) = ((w.getD (i + j) 0 : Nat) : Int) := a0G (by omega) (by omega)
      have h4w : IntKind.wrap .u64 (((A.getD i 0 : Nat) : Int) * ((B.getD j 0 : Nat) : Int)) = ((A.getD i 0 * B.getD j 0 : Nat) : Int) := by rw [← Int.natCast_mul, a0G] <;> omega
      have h5w : IntKind.wrap .u64 ((c : Int) + ((w.getD (i + j) 0 : Nat) : Int)) = ((c + w.getD (i + j) 0 : Nat) : Int) := by rw [a0G] <;> omega
      have h6w : IntKind.wrap .u64 (((c + w.getD (i + j) 0 : Nat) : Int) + ((A.getD i 0 * B.getD j 0 : Nat) : Int)) = ((c + A.getD i 0 * B.getD j 0 + w.getD (i + j) 0 : Nat) : Int) := by rw [a0G] <;> omega
      have h7w : IntKind.wrap .i64 ((i : Int) + (j : Int)) = ((i + j : Nat) : Int) := by rw [a0a] <;> omega
      simp only [c0Z, E1, seval, a0C _ A _ i hi, a0C _ B _ j (by omega), h1w, h2w, h3w, h4w, h7w, a8J _ _ _ _ _ _ (i + j) (show i + j < A.length + B.length by omega), e5F _ _ (i + j) (show i + j < (w ++ List.replicate z 0).length by simp [hw]; omega),
        d3P w _ (i + j) (show i + j < w.length by omega), h5w, h6w]
      refine Safe.seq (Safe.region ?_)
      have hmod := Nat.mod_lt (c + A.getD i 0 * B.getD j 0 + w.getD (i + j) 0) (show 0 < LB by decide)
      have hcw : IntKind.wrap .u32 (((c + A.getD i 0 * B.getD j 0 + w.getD (i + j) 0) % LB : Nat) : Int) = (((c + A.getD i 0 * B.getD j 0 + w.getD (i + j) 0) % LB : Nat) : Int) := a3l (by omega) (by omega)
      simp only [c0Y, E1, seval, h7w, e0z, hcw, a8J _ _ _ _ _ _ (i + j) (show i + j < A.length + B.length by omega), c4D _ _ _ (i + j) _ (show i + j < (w ++ List.replicate z 0).length by simp [hw]; omega), d6N w _ (i + j) _ (show i + j < w.length by omega)]
      refine Safe.region ?_
      simp only [c0X, E1, seval, e5E _ (show c + A.getD i 0 * B.getD j 0 + w.getD (i + j) 0 < 18446744073709551616 by omega)]
      refine Safe.inBlock (Safe.region ?_)
      have hiw : IntKind.wrap .i64 ((j : Int) + 1) = ((j + 1 : Nat) : Int) := by rw [a0a] <;> omega
      simp only [b6G, E1, seval, hiw]
      refine Safe.keep [0, 1, 5, 6, 7, 8] ?_
      simp only [E1, seval]
      refine ih (j + 1) _ _ (by omega) (by simp [hw]) (e1o lw hmod) ?_ ?_
      · exact Nat.div_lt_of_lt_mul hfit
      · rw [a0i, show i + (j + 1) = (i + j) + 1 by omega, Nat.pow_succ]
        subst hx
        exact d6X (Nat.pow_add LB i j) hv (d9V (by omega)) rfl
  have outer : ∀ (k i : Nat) (x : List Nat), i + k = A.length → x.length = i + B.length → Lim x → val x = val (A.take i) * val B →
        Safe ⟨Pr, fun _ _ => false, a2c, 68, [.tmp 4], H.length⟩ [.inLoop c1g, .inBlock 0, .code ((ACode.region a8v false).seq .ret)]
          [(0, natV A), (1, natV B), (5, .mu (lid H 0) 0 (A.length + B.length) (some (A.length + B.length))), (6, .int .i64 i)]
          (hap H [some ⟨1, u32s (x ++ List.replicate k 0)⟩]) fun r' H' => r' = natV (limbs (val A * val B)) ∧ ∃ L, H' = hap H L := by
    intro k
    induction k with
    | zero =>
      intro i x hik hx lx hv
      have hi : i = A.length := by omega
      subst hi
      refine Safe.inLoop (Safe.seq (Safe.seq (Safe.region ?_)))
      simp only [b0G, E1, seval, Int.lt_irrefl]
      refine Safe.cond ?_
      simp only [E1, seval]
      refine Safe.exit rfl ?_
      simp only [List.replicate_zero, List.append_nil]
      refine Safe.freeze 0 (b := ⟨1, u32s x⟩) hH rfl rfl (a0r _) ?_
      refine Safe.seq (Safe.region ?_)
      simp only [a8v, E1, seval, ← hx]
      refine (a0v x ⟨lx, by omega⟩).acall ?_
      try simp only [E1, seval]
      refine Safe.retn ?_
      simp only [E1, seval]
      rw [List.take_length] at hv
      rw [hv]
      first | exact ⟨rfl, _, rfl⟩ | exact ⟨_, rfl⟩ | exact ⟨trivial, _, rfl⟩
    | succ k ih =>
      intro i x hik hx lx hv
      refine Safe.inLoop (Safe.seq (Safe.seq (Safe.region ?_)))
      have hlt : (i : Int) < (A.length : Int) := by omega
      simp only [b0G, E1, seval, hlt]
      refine Safe.cond ?_
      simp only [E1, seval]
      refine Safe.skip (Safe.seq (Safe.block (Safe.seq (Safe.region ?_))))
      simp only [c1b, E1, seval]
      refine Safe.seq (Safe.seq (Safe.region ?_))
      simp only [c1a, E1, seval]
      refine Safe.block (Safe.loop ?_)
      refine Safe.keep [0, 1, 5, 6, 7, 8] ?_
      simp only [E1, seval]
      refine inner _ i _ (k + 1) (val x) (by omega) rfl ?_ B.length 0 0 x (by omega) hx lx (by decide) (by simp [val])
      intro w c env hw lw hc hv2 e0 e1 e5 e6 e7
      refine Safe.region ?_
      have h7w : IntKind.wrap .i64 ((i : Int) + (B.length : Int)) = ((i + B.length : Nat) : Int) := by rw [a0a] <;> omega
      have hcw : IntKind.wrap .u32 (c : Int) = (c : Int) := a3l (by omega) (by omega)
      simp only [b6F, E1, seval, e0, e1, e5, e6, e7, h7w, hcw, a8J _ _ _ _ _ _ (i + B.length) (show i + B.length < A.length + B.length by omega), c4D _ _ _ (i + B.length) _ (show i + B.length < (w ++ List.replicate (k + 1) 0).length by simp [hw])]
      refine Safe.inBlock (Safe.region ?_)
      have hiw : IntKind.wrap .i64 ((i : Int) + 1) = ((i + 1 : Nat) : Int) := by rw [a0a] <;> omega
      simp only [b6E, E1, seval, e6, hiw]
      refine Safe.keep [0, 1, 5, 6] ?_
      simp only [E1, seval, e0, e1, e5]
      have hset : (w ++ List.replicate (k + 1) 0).set (i + B.length) c = (w ++ [c]) ++ List.replicate k 0 := by rw [← hw]; exact c4l _ _ _
      rw [hset]
      refine ih (i + 1) _ (by omega) (by simp [hw]; omega) (a1A lw hc) ?_
      rw [a2F, hw, hv2, a0i, hv, Nat.add_mul, Nat.mul_assoc]
  refine Safe.keep [0, 1, 5, 6] ?_
  simp only [E1, seval]
  have := outer A.length 0 (List.replicate B.length 0) (by omega) (by simp) (by intro d hd; simp at hd; omega) (by simp [b5h, val])
  rw [List.replicate_append_replicate, Nat.add_comm B.length] at this
  exact this
theorem a4y (l : List Nat) (hl : Nt l) : a0d Pr a2E [natV l] (.int .i64 (blen (val l))) := by
  refine a0d.intro d0m d0l (by simp only [List.length_cons, List.length_nil]; omega) (.int _ _) fun H hH => ?_
  have hll := hl.len
  refine Safe.seq (Safe.region ?_)
  simp only [b6X, E1, seval]
  refine Safe.seq (Safe.seq (Safe.region ?_))
  have hw : IntKind.wrap .i64 ((l.length : Int) - 1) = (l.length : Int) - 1 := a0a (by omega) (by omega)
  simp only [b6W, E1, seval, hw]
  refine Safe.block (Safe.loop ?_)
  have inner : ∀ (todo : List AItem) (m s : Nat), m < 4294967296 → s + blen m = blen (val l) → s + blen m ≤ 32 * l.length →
      Safe ⟨Pr, fun _ _ => false, a2E, 31, [.tmp 2], H.length⟩ (.inLoop b6Y :: .inBlock 2 :: .code ((ACode.region a8E false).seq .ret) :: todo)
        [(4, .int .i64 s), (5, .int .u32 m)] (hap H []) fun r' H' => r' = .int .i64 (blen (val l)) ∧ ∃ L, H' = hap H L := by
    intro todo m
    induction m using Nat.strongRecOn with
    | _ m ih =>
    intro s hm hs hb
    refine Safe.inLoop (Safe.seq (Safe.seq (Safe.region ?_)))
    by_cases h0 : m = 0
    · subst h0
      simp only [a8F, E1, seval, Int.natCast_zero, Int.lt_irrefl]
      refine Safe.cond ?_
      simp only [E1, seval]
      refine Safe.exit rfl (Safe.seq (Safe.region ?_))
      simp only [a8E, E1, seval]
      refine Safe.retn ?_
      simp only [E1, seval]
      rw [← hs]
      exact ⟨rfl, [], rfl⟩
    · have h0' : (0 : Int) < (m : Int) := by omega
      simp only [a8F, E1, seval, h0']
      refine Safe.cond ?_
      simp only [E1, seval]
      refine Safe.skip (Safe.seq (Safe.block (Safe.region ?_)))
      have hbl : blen m = 1 + blen (m / 2) := by
        by_cases h1 : m = 1
        · subst h1; rfl
        · have := d1j (n := m) (k := 1) (by omega)
          simpa using this
      have w1 : IntKind.wrap .i64 ((s : Int) + 1) = ((s + 1 : Nat) : Int) := by rw [a0a] <;> omega
      simp only [b6S, E1, seval, w1]
      refine Safe.inBlock (Safe.region ?_)
      have w2 : binV .quo (.int .u32 (m : Int)) (.int .u32 2) = some (.int .u32 ((m / 2 : Nat) : Int)) := by
        rw [c3G _ _ _ (by decide), Int.tdiv_eq_ediv_of_nonneg (by omega)]
        have : (m : Int) / 2 = ((m / 2 : Nat) : Int) := rfl
        rw [this, a3l (by omega) (by omega)]
      simp only [b6R, E1, seval, w2]
      refine Safe.keep [4, 5] ?_
      simp only [E1, seval]
      exact ih (m / 2) (by omega) (s + 1) (by omega) (by omega) (by omega)
  have key : ∀ (n : Nat), n ≤ l.length → val (l.take n) = val l → 
      Safe ⟨Pr, fun _ _ => false, a2E, 31, [.tmp 2], H.length⟩ [.inLoop b6Z, .inBlock 0, .code ((ACode.region a7e false).seq .ret)]
        [(0, natV l), (3, .int .i64 ((n : Int) - 1))] (hap H []) fun r' H' => r' = .int .i64 (blen (val l)) ∧ ∃ L, H' = hap H L := by
    intro n
    induction n with
    | zero =>
      intro hn hv
      refine Safe.inLoop (Safe.seq (Safe.seq (Safe.region ?_)))
      simp only [a8G, E1, seval, show ¬ ((0 : Int) ≤ ((0 : Nat) : Int) - 1) by omega]
      refine Safe.cond ?_
      simp only [E1, seval]
      refine Safe.exit rfl (Safe.seq (Safe.region ?_))
      simp only [a7e, E1, seval]
      refine Safe.retn ?_
      simp only [E1, seval]
      rw [← hv]
      exact ⟨rfl, [], rfl⟩
    | succ n ih =>
      intro hn hv
      refine Safe.inLoop (Safe.seq (Safe.seq (Safe.region ?_)))
      have e1 : ((n + 1 : Nat) : Int) - 1 = (n : Int) := by omega
      simp only [a8G, E1, seval, e1, Int.natCast_nonneg]
      refine Safe.cond ?_
      simp only [E1, seval]
      refine Safe.skip (Safe.seq (Safe.block (Safe.seq (Safe.region ?_))))
      simp only [b6V, E1, seval, a0C _ l _ n (by omega)]
      refine Safe.cond ?_
      simp only [E1, seval]
      by_cases hd : l.getD n 0 = 0
      · simp only [hd, Int.natCast_zero, E1, seval]
        refine Safe.skip (Safe.inBlock (Safe.region ?_))
        simp only [b3q, E1, seval, a0a (n := (n : Int) - 1) (by omega) (by omega)]
        refine Safe.keep [0, 3] ?_
        simp only [E1, seval]
        refine ih (by omega) ?_
        rw [← hv, a0i, hd]; simp
      · have hd' : ¬ (((l.getD n 0 : Nat) : Int) = 0) := by omega
        simp only [hd', E1, seval]
        refine Safe.seq (Safe.region ?_)
        have w1 : IntKind.wrap .i64 (32 * (n : Int)) = ((32 * n : Nat) : Int) := by rw [a0a] <;> omega
        simp only [b6U, E1, seval, w1]
        refine Safe.seq (Safe.seq (Safe.region ?_))
        simp only [b6T, E1, seval, a0C _ l _ n (by omega)]
        refine Safe.block (Safe.loop ?_)
        refine Safe.keep [4, 5] ?_
        simp only [E1, seval]
        have hlt : l.getD n 0 < 4294967296 := a0O hl.lim n
        have hbv : blen (val l) = 32 * n + blen (l.getD n 0) := by
          rw [← hv, a7p (by omega), b9H (hl.lim.take n) hd, List.length_take, Nat.min_eq_left (by omega)]
        refine inner _ _ (32 * n) hlt hbv.symm ?_
        rw [← hbv]
        have h1 := a1e hl.lim
        rw [e1q] at h1
        rcases Nat.lt_or_ge (32 * l.length) (blen (val l)) with h | h
        · have h0 : val l ≠ 0 := by intro h0; rw [h0] at h; simp [blen] at h
          have h2 := b9I h0
          have h3 := Nat.pow_le_pow_right (show 0 < 2 by decide) (show 32 * l.length ≤ blen (val l) - 1 by omega)
          omega
        · exact h
  refine Safe.keep [0, 3] ?_
  simp only [E1, seval]
  exact key l.length (Nat.le_refl _) (by rw [List.take_length])
end Go.Abs
namespace Go.Abs
theorem a1m (neg : Bool) (l : List Nat) (hl : Nt l) : a0d Pr a1o [.bool neg, natV l] (Z (sgn neg (val l))) := by
  refine a0d.intro c9W c9V (by simp only [List.length_cons, List.length_nil]; omega) (Z_cl _) fun H hH => ?_
  refine Safe.seq (Safe.region ?_)
  simp only [b5V, E2, seval]
  refine Safe.seq (Safe.region ?_)
  simp only [b5U, E2, seval]
  refine (a0v l hl).acall ?_
  try simp only [E2, seval]
  refine Safe.seq (Safe.region ?_)
  have e0 : decide ((0 : Int) < ((limbs (val l)).length : Int)) = decide (0 < val l) := by
    rcases Nat.eq_zero_or_pos (val l) with h | h
    · rw [h, a0I]; rfl
    · rw [a5H (by omega)]; simp [h] <;> omega
  cases neg
  · simp only [a8q, E2, seval]
    refine Safe.retn ?_
    simp only [E2, seval]
    rw [← e7V]
    simp only [Bool.false_and]
    first | exact ⟨rfl, _, rfl⟩ | exact ⟨_, rfl⟩ | exact ⟨trivial, _, rfl⟩
  · simp only [a8q, E2, seval, e0, d3e]
    refine Safe.retn ?_
    simp only [E2, seval]
    rw [← e7V]
    simp only [Bool.true_and]
    first | exact ⟨rfl, _, rfl⟩ | exact ⟨_, rfl⟩ | exact ⟨trivial, _, rfl⟩
theorem a2w (neg : Bool) (l : List Nat) (hl : Nt l) : a0d Pr a1i [.bool neg, natV l] (Z (sgn neg (val l))) := by
  refine a0d.introL d1q d1p (by simp only [List.length_cons, List.length_nil]; omega) (Z_cl _) fun H hH => ?_
  have hll := hl.len
  refine Safe.seq (Safe.region ?_)
  simp only [b9R, E2, seval]
  refine Safe.seq (Safe.region ?_)
  simp only [b9Q, E2, seval]
  refine Safe.seq (Safe.block (Safe.loop ?_))
  have copy : ∀ (n : Nat), n ≤ l.length → limbs (val l) = l.take n → ∀ env : Env, look env 0 = .bool neg → look env 1 = natV l → look env 4 = .loc (lid H 0) 0 0 → look env 5 = .int .i64 n →
      Safe ⟨Pr, fun _ _ => false, a1i, 32, [.cell 4 (some 2)], H.length⟩ [.code (((ACode.region a6h false).seq (.cond (.t 22) ((ACode.region a6g false).seq .ret) .skip)).seq ((ACode.region a6f false).seq ((ACode.region a6e false).seq ((ACode.region a6d false).seq .ret))))]
        env (hap H [some ⟨2, [.agg [.bool false, .nil]]⟩]) fun r' H' => Le r' (Z (sgn neg (val l))) ∧ ∃ L, H' = hap H L := by
    intro n hn hlim env e0 e1 e4 e5
    refine Safe.seq (Safe.seq (Safe.region ?_))
    simp only [a6h, E2, seval, e5]
    refine Safe.cond ?_
    simp only [E2, seval]
    by_cases h0 : n = 0
    · subst h0
      simp only [Int.natCast_zero, E2, seval]
      refine Safe.seq (Safe.region ?_)
      simp only [a6g, E2, seval, e4]
      refine Safe.retn ?_
      simp only [E2, seval, e4]
      refine ⟨?_, _, rfl⟩
      have : val l = 0 := by
        have := a0b (val l)
        rw [hlim] at this
        simpa [val] using this.symm
      rw [this, a4Y]
      exact le_zero
    · have h0' : ¬ ((n : Int) = 0) := by omega
      simp only [h0', E2, seval]
      refine Safe.skip (Safe.seq (Safe.region ?_))
      simp only [a6f, E2, seval, e5, b1N _ H [some ⟨2, [.agg [.bool false, .nil]]⟩] _ _ n (by omega)]
      refine Safe.seq (Safe.region ?_)
      have hc := d7D ((28, .int .i64 n) :: []) H [some ⟨2, [.agg [.bool false, .nil]]⟩, some ⟨1, u32s (List.replicate n 0)⟩] 1 1 n (some n) (natV l) (u32s (List.replicate n 0)) (u32s l) rfl (by simp [a0x]) (b7o _ l) (by rw [a0x]; exact hn)
      simp only [a6e, E2, seval, e1]
      rw [d7D _ H [some ⟨2, [.agg [.bool false, .nil]]⟩, some ⟨1, u32s (List.replicate n 0)⟩] 1 1 n (some n) (natV l) (u32s (List.replicate n 0)) (u32s l) rfl (by simp [a0x]) (b7o _ l) (by rw [a0x]; exact hn)]
      simp only [E2, seval, b5j]
      refine Safe.freeze 1 (b := ⟨1, u32s (l.take n)⟩) hH rfl rfl (a0r _) ?_
      have hlen : n = (l.take n).length := by rw [List.length_take]; omega
      have hfm : frz (lid H 1) ⟨1, u32s (l.take n)⟩ (.mu (lid H 1) 0 n (some n)) = natV (l.take n) := by
        have := a7M H 1 (l.take n) (some n)
        rwa [← hlen] at this
      refine Safe.keep [0, 4, 6] ?_
      simp only [E2, seval, d3t, e0, e4, hfm, a1O H 1 0 _ 0 0 (by decide)]
      refine Safe.seq (Safe.region ?_)
      simp only [a6d, E2, seval]
      refine Safe.retn ?_
      simp only [E2, seval]
      refine ⟨?_, _, rfl⟩
      rw [← e7V, hlim]
      have hp : 0 < val l := by
        rcases Nat.eq_zero_or_pos (val l) with h | h
        · rw [h, a0I] at hlim
          have := congrArg List.length hlim
          simp at this; omega
        · exact h
      simp only [hp, decide_true, Bool.and_true]
      exact Le.refl _
  have key : ∀ (n : Nat), n ≤ l.length → val (l.take n) = val l → ∀ env : Env, look env 0 = .bool neg → look env 1 = natV l → look env 4 = .loc (lid H 0) 0 0 → look env 5 = .int .i64 n →
      Safe ⟨Pr, fun _ _ => false, a1i, 32, [.cell 4 (some 2)], H.length⟩ [.inLoop b9S, .inBlock 0, .code (((ACode.region a6h false).seq (.cond (.t 22) ((ACode.region a6g false).seq .ret) .skip)).seq ((ACode.region a6f false).seq ((ACode.region a6e false).seq ((ACode.region a6d false).seq .ret))))]
        env (hap H [some ⟨2, [.agg [.bool false, .nil]]⟩]) fun r' H' => Le r' (Z (sgn neg (val l))) ∧ ∃ L, H' = hap H L := by
    intro n
    induction n with
    | zero =>
      intro hn hv env e0 e1 e4 e5
      refine Safe.inLoop (Safe.seq (Safe.seq (Safe.region ?_)))
      simp only [b0l, E2, seval, e1, e5, Int.natCast_zero, Int.lt_irrefl]
      refine Safe.cond ?_
      simp only [E2, seval]
      refine Safe.exit rfl (copy 0 hn ?_ _ (by simp only [E2, seval, e0]) (by simp only [E2, seval, e1]) (by simp only [E2, seval, e4]) (by simp only [E2, seval, e5] <;> rfl))
      rw [← hv]; simp [val, a0I]
    | succ n ih =>
      intro hn hv env e0 e1 e4 e5
      refine Safe.inLoop (Safe.seq (Safe.seq (Safe.region ?_)))
      have h0 : (0 : Int) < ((n + 1 : Nat) : Int) := by omega
      have hw : IntKind.wrap .i64 (((n + 1 : Nat) : Int) - 1) = (n : Int) := by rw [a0a] <;> omega
      simp only [b0l, E2, seval, e1, e5, h0, hw, a0C _ l _ n (by omega)]
      refine Safe.cond ?_
      simp only [E2, seval]
      by_cases hd : l.getD n 0 = 0
      · simp only [hd, Int.natCast_zero, E2, seval]
        refine Safe.skip (Safe.block (Safe.region ?_))
        simp only [b9P, E2, seval, e5, hw]
        refine Safe.inBlock (ih (by omega) ?_ _ (by simp only [E2, seval, e0]) (by simp only [E2, seval, e1]) (by simp only [E2, seval, e4]) (by simp only [E2, seval]))
        rw [← hv, a0i, hd]; simp
      · have hd' : ¬ (((l.getD n 0 : Nat) : Int) = 0) := by omega
        simp only [hd', E2, seval]
        refine Safe.exit rfl (copy (n + 1) hn ?_ _ (by simp only [E2, seval, e0]) (by simp only [E2, seval, e1]) (by simp only [E2, seval, e4]) (by simp only [E2, seval, e5]))
        rw [← hv, a7F (hl.lim.take _)]
        rw [a7p (by omega)]; simpa using hd
  exact key l.length (Nat.le_refl _) (by rw [List.take_length]) _ (by simp only [E2, seval]) (by simp only [E2, seval]) (by simp only [E2, seval]) (by simp only [E2, seval])
theorem d4N (n : Bool) (a b : Nat) : sgn n a + sgn n b = sgn n (a + b) := by cases n <;> simp [sgn] <;> omega
theorem e0k (m n : Bool) (a b : Nat) (h : m ≠ n) (hb : b ≤ a) : sgn m a + sgn n b = sgn m (a - b) := by
  cases m <;> cases n <;> simp [sgn] at h ⊢ <;> omega
theorem d6M (m n : Bool) (a b : Nat) (h : m ≠ n) (hb : a ≤ b) : sgn m a + sgn n b = sgn n (b - a) := by
  cases m <;> cases n <;> simp [sgn] at h ⊢ <;> omega
theorem c9t (m n : Bool) (a b : Nat) : sgn m a * sgn n b = sgn (!(m == n)) (a * b) := by
  cases m <;> cases n <;> simp [sgn, Int.neg_mul, Int.mul_neg]
theorem e0l (n : Bool) (a : Nat) : sgn (!n) a = - sgn n a := by cases n <;> simp [sgn]
theorem e2p (a b : Nat) : (0 ≤ cmpI a b) = (b ≤ a) := by unfold cmpI; split <;> (try split) <;> simp <;> omega
theorem b9D (a b : Nat) : (cmpI a b < 0) = (a < b) := by unfold cmpI; split <;> (try split) <;> simp <;> omega
theorem a3a (x : ZI) (hx : Zok 17592186044416 x) : a0d Pr a3i [x.av] (Z x.z) := by
  obtain ⟨n, m⟩ := x
  have hm : Nt m := ⟨hx.lim, hx.len⟩
  simp only [ZI.av, ZI.z]
  refine a0d.intro d0a c9Z (by simp only [List.length_cons, List.length_nil]; omega) (Z_cl _) fun H hH => ?_
  refine Safe.seq (Safe.region ?_)
  simp only [b6e, E2, seval]
  refine Safe.seq (Safe.region ?_)
  simp only [b6d, E2, seval]
  refine (a1m n m hm).acall ?_
  simp only [Z, E2, seval]
  refine Safe.retn ?_
  simp only [E2, seval]
  first | exact ⟨rfl, _, rfl⟩ | exact ⟨_, rfl⟩ | exact ⟨trivial, _, rfl⟩
theorem b1L (x : ZI) (hx : Zok 17592186044416 x) : a0d Pr a4h [x.av] (Z (-x.z)) := by
  obtain ⟨n, m⟩ := x
  have hm : Nt m := ⟨hx.lim, hx.len⟩
  simp only [ZI.av, ZI.z]
  refine a0d.intro d2q d2p (by simp only [List.length_cons, List.length_nil]; omega) (Z_cl _) fun H hH => ?_
  refine Safe.seq (Safe.region ?_)
  simp only [c0u, E2, seval]
  refine Safe.seq (Safe.region ?_)
  simp only [c0t, E2, seval]
  refine (a1m (!n) m hm).acall ?_
  rw [e0l]
  simp only [Z, E2, seval]
  refine Safe.retn ?_
  simp only [E2, seval]
  first | exact ⟨rfl, _, rfl⟩ | exact ⟨_, rfl⟩ | exact ⟨trivial, _, rfl⟩
theorem a2J (x y : ZI) (k l : Nat) (hx : Zok k x) (hy : Zok l y) (hkl : k + l ≤ 17592186044416) : a0d Pr a1b [x.av, y.av] (Z (x.z * y.z)) := by
  obtain ⟨n, a⟩ := x
  obtain ⟨m, b⟩ := y
  have hal := hx.len
  have hbl := hy.len
  simp only at hal hbl
  have ha : Nt a := ⟨hx.lim, by omega⟩
  have hb : Nt b := ⟨hy.lim, by omega⟩
  simp only [ZI.av, ZI.z]
  refine a0d.intro d2s d2r (by simp only [List.length_cons, List.length_nil]; omega) (Z_cl _) fun H hH => ?_
  refine Safe.seq (Safe.region ?_)
  simp only [c0w, E2, seval]
  refine Safe.seq (Safe.regionD ?_)
  simp only [c0v, E2, seval]
  refine (a2Z a b ha hb (by omega)).dcall ?_
  try simp only [E2, seval]
  have hn : Nt (limbs (val a * val b)) := ⟨a0c _, by
    have h1 := a1e ha.lim
    have h2 := a1e hb.lim
    have h3 : val a * val b < LB ^ (a.length + b.length) := by
      rw [Nat.pow_add]
      exact Nat.mul_lt_mul'' h1 h2
    exact Nat.le_trans (a0j h3) (by omega)⟩
  refine (a1m _ _ hn).dcall ?_
  rw [a0b, ← c9t]
  simp only [Z, E2, seval]
  refine Safe.retn ?_
  simp only [E2, seval]
  first | exact ⟨rfl, _, rfl⟩ | exact ⟨_, rfl⟩ | exact ⟨trivial, _, rfl⟩
theorem b8R (x y : ZI) (k : Nat) (hx : Zok k x) (hy : Zok k y) (hk : k < 17592186044416) : a0d Pr a4i [x.av, y.av] (Z (x.z + y.z)) := by
  obtain ⟨n, a⟩ := x
  obtain ⟨m, b⟩ := y
  have hal := hx.len
  have hbl := hy.len
  have hav := hx.lt
  have hbv := hy.lt
  simp only at hal hbl hav hbv
  have ha : Nt a := ⟨hx.lim, by omega⟩
  have hb : Nt b := ⟨hy.lim, by omega⟩
  have hle : ∀ v, v < LB ^ k → Nt (limbs v) := fun v hv => ⟨a0c _, Nat.le_trans (a0j hv) (by omega)⟩
  simp only [ZI.av, ZI.z]
  refine a0d.intro d2w d2v (by simp only [List.length_cons, List.length_nil]; omega) (Z_cl _) fun H hH => ?_
  refine Safe.seq (Safe.region ?_)
  simp only [c0G, E2, seval]
  refine Safe.seq (Safe.seq (Safe.region ?_))
  simp only [c0F, E2, seval]
  refine Safe.cond ?_
  simp only [E2, seval]
  by_cases hnm : n = m
  · subst hnm
    simp only [beq_self_eq_true, E2, seval]
    refine Safe.seq (Safe.regionD ?_)
    simp only [c0E, E2, seval]
    refine (d4O a b ha.lim hb.lim (by omega) (by omega)).dcall ?_
    try simp only [E2, seval]
    have hn : Nt (limbs (val a + val b)) := ⟨a0c _, by
      have h3 : val a + val b < LB ^ (k + 1) := by
        rw [Nat.pow_succ]
        have : LB ^ k * 2 ≤ LB ^ k * LB := Nat.mul_le_mul_left _ (by decide)
        omega
      exact Nat.le_trans (a0j h3) (by omega)⟩
    refine (a1m _ _ hn).dcall ?_
    rw [a0b, d4N]
    simp only [Z, E2, seval]
    refine Safe.retn ?_
    simp only [E2, seval]
    first | exact ⟨rfl, _, rfl⟩ | exact ⟨_, rfl⟩ | exact ⟨trivial, _, rfl⟩
  · have hnm' : (n == m) = false := by simpa using hnm
    simp only [hnm', E2, seval]
    refine Safe.skip (Safe.seq (Safe.seq (Safe.region ?_)))
    simp only [c0D, E2, seval]
    refine (a8d a b ha hb).acall ?_
    simp only [E2, seval, b9D, e2p]
    refine Safe.cond ?_
    simp only [E2, seval]
    by_cases hlt : val b ≤ val a
    · simp only [hlt, E2, seval]
      refine Safe.seq (Safe.region ?_)
      simp only [c0C, E2, seval]
      refine (c4p a b ha hb (by omega)).acall ?_
      simp only [E2, seval]
      refine Safe.seq (Safe.region ?_)
      simp only [c0B, E2, seval]
      refine (a1m _ _ (hle (val a - val b) (by omega))).acall ?_
      rw [a0b, e0k n m _ _ hnm (by omega)]
      simp only [Z, E2, seval]
      refine Safe.retn ?_
      simp only [E2, seval]
      first | exact ⟨rfl, _, rfl⟩ | exact ⟨_, rfl⟩ | exact ⟨trivial, _, rfl⟩
    · simp only [hlt, E2, seval]
      refine Safe.skip (Safe.seq (Safe.region ?_))
      simp only [c0A, E2, seval]
      refine (c4p b a hb ha (by omega)).acall ?_
      simp only [E2, seval]
      refine Safe.seq (Safe.region ?_)
      simp only [c0z, E2, seval]
      refine (a1m _ _ (hle (val b - val a) (by omega))).acall ?_
      rw [a0b, d6M n m _ _ hnm (by omega)]
      simp only [Z, E2, seval]
      refine Safe.retn ?_
      simp only [E2, seval]
      first | exact ⟨rfl, _, rfl⟩ | exact ⟨_, rfl⟩ | exact ⟨trivial, _, rfl⟩
theorem c7y (x y : ZI) (k : Nat) (hx : Zok k x) (hy : Zok k y) (hk : k < 17592186044416) : a0d Pr a5X [x.av, y.av] (Z (x.z - y.z)) := by
  have hadd := b8R x (canZ (-y.z)) k hx (a0l (by rw [Int.natAbs_neg]; exact hy.abs)) hk
  rw [a0o, a2A] at hadd
  have hneg := b1L y (hy.mono (by omega))
  obtain ⟨n, a⟩ := x
  obtain ⟨m, b⟩ := y
  simp only [ZI.av] at hadd hneg ⊢
  refine a0d.intro d2m d2l (by simp only [List.length_cons, List.length_nil]; omega) (Z_cl _) fun H hH => ?_
  refine Safe.seq (Safe.region ?_)
  simp only [c0s, E2, seval]
  refine Safe.seq (Safe.regionD ?_)
  simp only [c0r, E2, seval]
  refine hneg.dcall ?_
  try simp only [E2, seval]
  refine hadd.dcall ?_
  rw [← Int.sub_eq_add_neg]
  simp only [Z, E2, seval]
  refine Safe.retn ?_
  simp only [E2, seval]
  first | exact ⟨rfl, _, rfl⟩ | exact ⟨_, rfl⟩ | exact ⟨trivial, _, rfl⟩
theorem a0Q (n : Int) (h0 : -9223372036854775808 ≤ n) (h1 : n < 9223372036854775808) : a0d Pr a1K [.int .i64 n] (Z n) := by
  refine a0d.intro d4Z d4Y (by simp only [List.length_cons, List.length_nil]; omega) (Z_cl _) fun H hH => ?_
  have hLB : LB = 4294967296 := rfl
  refine Safe.seq (Safe.region ?_)
  simp only [c4y, E2, Nat.reduceLeDiff, Nat.reduceSub, Nat.reduceAdd, Nat.reduceEqDiff, reduceCtorEq, ↓reduceIte]
  refine Safe.seq (Safe.region ?_)
  simp only [c4x, E2, Nat.reduceLeDiff, Nat.reduceSub, Nat.reduceAdd, Nat.reduceEqDiff, reduceCtorEq, ↓reduceIte]
  refine Safe.seq (Safe.seq (Safe.region ?_))
  simp only [c4w, E2, Nat.reduceLeDiff, Nat.reduceSub, Nat.reduceAdd, Nat.reduceEqDiff, reduceCtorEq, ↓reduceIte]
  refine Safe.cond ?_
  simp only [E2, Nat.reduceLeDiff, Nat.reduceSub, Nat.reduceAdd, Nat.reduceEqDiff, reduceCtorEq, ↓reduceIte]
  have rest : ∀ (env : Env), look env 0 = .int .i64 n → look env 2 = .loc (lid H 0) 0 0 → look env 3 = .int .u64 (n.natAbs : Nat) →
      Safe ⟨Pr, fun _ _ => false, a1K, 19, [.cell 2 (some 2)], H.length⟩ [.code ((ACode.region b4j false).seq .ret)] env (hap H [some ⟨2, [.agg [.bool false, .nil]]⟩]) fun r' H' => r' = Z n ∧ ∃ L, H' = hap H L := by
    intro env e0 e2 e3
    refine Safe.seq (Safe.region ?_)
    have w1 : IntKind.wrap .u32 ((n.natAbs : Nat) : Int) = ((n.natAbs % LB : Nat) : Int) := a1Y _
    have hLL : LB * LB = 18446744073709551616 := by decide
    have hdiv : n.natAbs / LB < LB := Nat.div_lt_of_lt_mul (by omega)
    have w2 : IntKind.wrap .u32 ((n.natAbs / LB : Nat) : Int) = ((n.natAbs / LB : Nat) : Int) := a3l (Int.natCast_nonneg _) (by omega)
    simp only [b4j, E2, Nat.reduceLeDiff, Nat.reduceSub, Nat.reduceAdd, Nat.reduceEqDiff, reduceCtorEq, ↓reduceIte, e0, e3, e2, w1, a3o _ _ _ (show (0 : Int) ≤ 32 by decide), e6l, w2]
    have hm := Nat.mod_lt n.natAbs (show 0 < LB by decide)
    have := a1m (decide (n < 0)) [n.natAbs % LB, n.natAbs / LB] ⟨by intro d hd; simp at hd; omega, by simp⟩
    have hv : val [n.natAbs % LB, n.natAbs / LB] = n.natAbs := by
      simp only [val]; rw [Nat.mul_zero, Nat.add_zero, Nat.mod_add_div]
    rw [hv, show sgn (decide (n < 0)) n.natAbs = n by unfold sgn; by_cases h : n < 0 <;> simp [h] <;> omega] at this
    refine a0d.acall this ?_
    simp only [Z, E2, Nat.reduceLeDiff, Nat.reduceSub, Nat.reduceAdd, Nat.reduceEqDiff, reduceCtorEq, ↓reduceIte, e2]
    refine Safe.retn ?_
    simp only [E2, Nat.reduceLeDiff, Nat.reduceSub, Nat.reduceAdd, Nat.reduceEqDiff, reduceCtorEq, ↓reduceIte, e2]
    first | exact ⟨rfl, _, rfl⟩ | exact ⟨_, rfl⟩ | exact ⟨trivial, _, rfl⟩
  by_cases hn : n < 0
  · simp only [hn, E2, Nat.reduceLeDiff, Nat.reduceSub, Nat.reduceAdd, Nat.reduceEqDiff, reduceCtorEq, ↓reduceIte]
    refine Safe.region ?_
    have w : IntKind.wrap .u64 (0 - IntKind.wrap .u64 n) = ((n.natAbs : Nat) : Int) := by rw [a1l, a1l]; omega
    simp only [c4v, E2, Nat.reduceLeDiff, Nat.reduceSub, Nat.reduceAdd, Nat.reduceEqDiff, reduceCtorEq, ↓reduceIte, w]
    exact rest _ (by simp only [E2, Nat.reduceLeDiff, Nat.reduceSub, Nat.reduceAdd, Nat.reduceEqDiff, reduceCtorEq, ↓reduceIte]) (by simp only [E2, Nat.reduceLeDiff, Nat.reduceSub, Nat.reduceAdd, Nat.reduceEqDiff, reduceCtorEq, ↓reduceIte]) (by simp only [E2, Nat.reduceLeDiff, Nat.reduceSub, Nat.reduceAdd, Nat.reduceEqDiff, reduceCtorEq, ↓reduceIte])
  · have w : IntKind.wrap .u64 n = ((n.natAbs : Nat) : Int) := by rw [a1l]; omega
    simp only [hn, E2, Nat.reduceLeDiff, Nat.reduceSub, Nat.reduceAdd, Nat.reduceEqDiff, reduceCtorEq, ↓reduceIte]
    exact Safe.skip (rest _ (by simp only [E2, Nat.reduceLeDiff, Nat.reduceSub, Nat.reduceAdd, Nat.reduceEqDiff, reduceCtorEq, ↓reduceIte]) (by simp only [E2, Nat.reduceLeDiff, Nat.reduceSub, Nat.reduceAdd, Nat.reduceEqDiff, reduceCtorEq, ↓reduceIte]) (by simp only [E2, Nat.reduceLeDiff, Nat.reduceSub, Nat.reduceAdd, Nat.reduceEqDiff, reduceCtorEq, ↓reduceIte, w]))
theorem d7Y (x : ZI) (hx : Zok 17592186044416 x) : a0d Pr b4N [x.av] (Z x.z) := by
  obtain ⟨n, m⟩ := x
  have hm : Nt m := ⟨hx.lim, hx.len⟩
  simp only [ZI.av, ZI.z]
  refine a0d.intro d1u d1t (by simp only [List.length_cons, List.length_nil]; omega) (Z_cl _) fun H hH => ?_
  refine Safe.seq (Safe.region ?_)
  simp only [c0a, E2, seval]
  refine Safe.seq (Safe.region ?_)
  simp only [b9Z, E2, seval]
  refine (a2w n m hm).acall ?_
  simp only [Z, E2, seval]
  refine Safe.retn ?_
  simp only [E2, seval]
  first | exact ⟨rfl, _, rfl⟩ | exact ⟨_, rfl⟩ | exact ⟨trivial, _, rfl⟩
theorem c3K (x : ZI) (hx : Zok 17592186044416 x) : a0d Pr a7P [x.av] (Z (-x.z)) := by
  obtain ⟨n, m⟩ := x
  have hm : Nt m := ⟨hx.lim, hx.len⟩
  simp only [ZI.av, ZI.z]
  refine a0d.intro d4A d4z (by simp only [List.length_cons, List.length_nil]; omega) (Z_cl _) fun H hH => ?_
  refine Safe.seq (Safe.region ?_)
  simp only [c3P, E2, seval]
  refine Safe.seq (Safe.region ?_)
  simp only [c3O, E2, seval]
  refine (a2w (!n) m hm).acall ?_
  rw [e0l]
  simp only [Z, E2, seval]
  refine Safe.retn ?_
  simp only [E2, seval]
  first | exact ⟨rfl, _, rfl⟩ | exact ⟨_, rfl⟩ | exact ⟨trivial, _, rfl⟩
theorem a7n (x y : ZI) (k l : Nat) (hx : Zok k x) (hy : Zok l y) (hkl : k + l ≤ 17592186044416) : a0d Pr a3h [x.av, y.av] (Z (x.z * y.z)) := by
  obtain ⟨n, a⟩ := x
  obtain ⟨m, b⟩ := y
  have hal := hx.len
  have hbl := hy.len
  simp only at hal hbl
  have ha : Nt a := ⟨hx.lim, by omega⟩
  have hb : Nt b := ⟨hy.lim, by omega⟩
  simp only [ZI.av, ZI.z]
  refine a0d.intro d4C d4B (by simp only [List.length_cons, List.length_nil]; omega) (Z_cl _) fun H hH => ?_
  refine Safe.seq (Safe.region ?_)
  simp only [c3R, E2, seval]
  refine Safe.seq (Safe.regionD ?_)
  simp only [c3Q, E2, seval]
  refine (d5p a b ha hb (by omega)).dcall ?_
  try simp only [E2, seval]
  have hn : Nt (limbs (val a * val b)) := ⟨a0c _, by
    have h1 := a1e ha.lim
    have h2 := a1e hb.lim
    have h3 : val a * val b < LB ^ (a.length + b.length) := by
      rw [Nat.pow_add]
      exact Nat.mul_lt_mul'' h1 h2
    exact Nat.le_trans (a0j h3) (by omega)⟩
  refine (a2w _ _ hn).dcall ?_
  rw [a0b, ← c9t]
  simp only [Z, E2, seval]
  refine Safe.retn ?_
  simp only [E2, seval]
  first | exact ⟨rfl, _, rfl⟩ | exact ⟨_, rfl⟩ | exact ⟨trivial, _, rfl⟩
theorem d9N (x y : ZI) (k : Nat) (hx : Zok k x) (hy : Zok k y) (hk : k < 17592186044416) : a0d Pr b2b [x.av, y.av] (Z (x.z + y.z)) := by
  obtain ⟨n, a⟩ := x
  obtain ⟨m, b⟩ := y
  have hal := hx.len
  have hbl := hy.len
  have hav := hx.lt
  have hbv := hy.lt
  simp only at hal hbl hav hbv
  have ha : Nt a := ⟨hx.lim, by omega⟩
  have hb : Nt b := ⟨hy.lim, by omega⟩
  have hle : ∀ v, v < LB ^ k → Nt (limbs v) := fun v hv => ⟨a0c _, Nat.le_trans (a0j hv) (by omega)⟩
  simp only [ZI.av, ZI.z]
  refine a0d.intro d4H d4G (by simp only [List.length_cons, List.length_nil]; omega) (Z_cl _) fun H hH => ?_
  refine Safe.seq (Safe.region ?_)
  simp only [c3Y, E2, seval]
  refine Safe.seq (Safe.seq (Safe.region ?_))
  simp only [c3X, E2, seval]
  refine Safe.cond ?_
  simp only [E2, seval]
  by_cases hnm : n = m
  · subst hnm
    simp only [beq_self_eq_true, E2, seval]
    refine Safe.seq (Safe.regionD ?_)
    simp only [c3W, E2, seval]
    refine (d5q a b ha.lim hb.lim (by omega) (by omega)).dcall ?_
    try simp only [E2, seval]
    have hn : Nt (limbs (val a + val b)) := ⟨a0c _, by
      have h3 : val a + val b < LB ^ (k + 1) := by
        rw [Nat.pow_succ]
        have : LB ^ k * 2 ≤ LB ^ k * LB := Nat.mul_le_mul_left _ (by decide)
        omega
      exact Nat.le_trans (a0j h3) (by omega)⟩
    refine (a2w _ _ hn).dcall ?_
    rw [a0b, d4N]
    simp only [Z, E2, seval]
    refine Safe.retn ?_
    simp only [E2, seval]
    first | exact ⟨rfl, _, rfl⟩ | exact ⟨_, rfl⟩ | exact ⟨trivial, _, rfl⟩
  · have hnm' : (n == m) = false := by simpa using hnm
    simp only [hnm', E2, seval]
    refine Safe.skip (Safe.seq (Safe.seq (Safe.region ?_)))
    simp only [c3V, E2, seval]
    refine (b4m a b ha hb).acall ?_
    simp only [E2, seval, b9D, e2p]
    refine Safe.cond ?_
    simp only [E2, seval]
    by_cases hlt : val a < val b
    · simp only [hlt, E2, seval]
      refine Safe.region ?_
      simp only [c3U, E2, seval]
      refine Safe.seq (Safe.region ?_)
      simp only [b4e, E2, seval]
      refine (c4H b a hb ha (by omega)).acall ?_
      simp only [E2, seval]
      refine Safe.seq (Safe.region ?_)
      simp only [b4d, E2, seval]
      refine (a2w _ _ (hle (val b - val a) (by omega))).acall ?_
      rw [a0b, d6M n m _ _ hnm (by omega)]
      simp only [Z, E2, seval]
      refine Safe.retn ?_
      simp only [E2, seval]
      first | exact ⟨rfl, _, rfl⟩ | exact ⟨_, rfl⟩ | exact ⟨trivial, _, rfl⟩
    · simp only [hlt, E2, seval]
      refine Safe.skip (Safe.seq (Safe.region ?_))
      simp only [b4e, E2, seval]
      refine (c4H a b ha hb (by omega)).acall ?_
      simp only [E2, seval]
      refine Safe.seq (Safe.region ?_)
      simp only [b4d, E2, seval]
      refine (a2w _ _ (hle (val a - val b) (by omega))).acall ?_
      rw [a0b, e0k n m _ _ hnm (by omega)]
      simp only [Z, E2, seval]
      refine Safe.retn ?_
      simp only [E2, seval]
      first | exact ⟨rfl, _, rfl⟩ | exact ⟨_, rfl⟩ | exact ⟨trivial, _, rfl⟩
theorem d9K (x y : ZI) (k : Nat) (hx : Zok k x) (hy : Zok k y) (hk : k < 17592186044416) : a0d Pr a5u [x.av, y.av] (Z (x.z - y.z)) := by
  have hadd := d9N x (canZ (-y.z)) k hx (a0l (by rw [Int.natAbs_neg]; exact hy.abs)) hk
  rw [a0o, a2A] at hadd
  have hneg := c3K y (hy.mono (by omega))
  obtain ⟨n, a⟩ := x
  obtain ⟨m, b⟩ := y
  simp only [ZI.av] at hadd hneg ⊢
  refine a0d.intro d4x d4w (by simp only [List.length_cons, List.length_nil]; omega) (Z_cl _) fun H hH => ?_
  refine Safe.seq (Safe.region ?_)
  simp only [c3N, E2, seval]
  refine Safe.seq (Safe.regionD ?_)
  simp only [c3M, E2, seval]
  refine hneg.dcall ?_
  try simp only [E2, seval]
  refine hadd.dcall ?_
  rw [← Int.sub_eq_add_neg]
  simp only [Z, E2, seval]
  refine Safe.retn ?_
  simp only [E2, seval]
  first | exact ⟨rfl, _, rfl⟩ | exact ⟨_, rfl⟩ | exact ⟨trivial, _, rfl⟩
theorem c3o (n : Int) (h0 : -9223372036854775808 ≤ n) (h1 : n < 9223372036854775808) : a0d Pr a7O [.int .i64 n] (Z n) := by
  refine a0d.intro d7T d7S (by simp only [List.length_cons, List.length_nil]; omega) (Z_cl _) fun H hH => ?_
  have hLB : LB = 4294967296 := rfl
  refine Safe.seq (Safe.region ?_)
  simp only [c7k, E2, Nat.reduceLeDiff, Nat.reduceSub, Nat.reduceAdd, Nat.reduceEqDiff, reduceCtorEq, ↓reduceIte]
  refine Safe.seq (Safe.region ?_)
  simp only [c7j, E2, Nat.reduceLeDiff, Nat.reduceSub, Nat.reduceAdd, Nat.reduceEqDiff, reduceCtorEq, ↓reduceIte]
  refine Safe.seq (Safe.seq (Safe.region ?_))
  simp only [c7i, E2, Nat.reduceLeDiff, Nat.reduceSub, Nat.reduceAdd, Nat.reduceEqDiff, reduceCtorEq, ↓reduceIte]
  refine Safe.cond ?_
  simp only [E2, Nat.reduceLeDiff, Nat.reduceSub, Nat.reduceAdd, Nat.reduceEqDiff, reduceCtorEq, ↓reduceIte]
  have rest : ∀ (env : Env), look env 0 = .int .i64 n → look env 2 = .loc (lid H 0) 0 0 → look env 3 = .int .u64 (n.natAbs : Nat) →
      Safe ⟨Pr, fun _ _ => false, a7O, 19, [.cell 2 (some 2)], H.length⟩ [.code ((ACode.region b8G false).seq .ret)] env (hap H [some ⟨2, [.agg [.bool false, .nil]]⟩]) fun r' H' => r' = Z n ∧ ∃ L, H' = hap H L := by
    intro env e0 e2 e3
    refine Safe.seq (Safe.region ?_)
    have w1 : IntKind.wrap .u32 ((n.natAbs : Nat) : Int) = ((n.natAbs % LB : Nat) : Int) := a1Y _
    have hLL : LB * LB = 18446744073709551616 := by decide
    have hdiv : n.natAbs / LB < LB := Nat.div_lt_of_lt_mul (by omega)
    have w2 : IntKind.wrap .u32 ((n.natAbs / LB : Nat) : Int) = ((n.natAbs / LB : Nat) : Int) := a3l (Int.natCast_nonneg _) (by omega)
    simp only [b8G, E2, Nat.reduceLeDiff, Nat.reduceSub, Nat.reduceAdd, Nat.reduceEqDiff, reduceCtorEq, ↓reduceIte, e0, e3, e2, w1, a3o _ _ _ (show (0 : Int) ≤ 32 by decide), e6l, w2]
    have hm := Nat.mod_lt n.natAbs (show 0 < LB by decide)
    have := a2w (decide (n < 0)) [n.natAbs % LB, n.natAbs / LB] ⟨by intro d hd; simp at hd; omega, by simp⟩
    have hv : val [n.natAbs % LB, n.natAbs / LB] = n.natAbs := by
      simp only [val]; rw [Nat.mul_zero, Nat.add_zero, Nat.mod_add_div]
    rw [hv, show sgn (decide (n < 0)) n.natAbs = n by unfold sgn; by_cases h : n < 0 <;> simp [h] <;> omega] at this
    refine a0d.acall this ?_
    simp only [Z, E2, Nat.reduceLeDiff, Nat.reduceSub, Nat.reduceAdd, Nat.reduceEqDiff, reduceCtorEq, ↓reduceIte, e2]
    refine Safe.retn ?_
    simp only [E2, Nat.reduceLeDiff, Nat.reduceSub, Nat.reduceAdd, Nat.reduceEqDiff, reduceCtorEq, ↓reduceIte, e2]
    first | exact ⟨rfl, _, rfl⟩ | exact ⟨_, rfl⟩ | exact ⟨trivial, _, rfl⟩
  by_cases hn : n < 0
  · simp only [hn, E2, Nat.reduceLeDiff, Nat.reduceSub, Nat.reduceAdd, Nat.reduceEqDiff, reduceCtorEq, ↓reduceIte]
    refine Safe.region ?_
    have w : IntKind.wrap .u64 (0 - IntKind.wrap .u64 n) = ((n.natAbs : Nat) : Int) := by rw [a1l, a1l]; omega
    simp only [c7h, E2, Nat.reduceLeDiff, Nat.reduceSub, Nat.reduceAdd, Nat.reduceEqDiff, reduceCtorEq, ↓reduceIte, w]
    exact rest _ (by simp only [E2, Nat.reduceLeDiff, Nat.reduceSub, Nat.reduceAdd, Nat.reduceEqDiff, reduceCtorEq, ↓reduceIte]) (by simp only [E2, Nat.reduceLeDiff, Nat.reduceSub, Nat.reduceAdd, Nat.reduceEqDiff, reduceCtorEq, ↓reduceIte]) (by simp only [E2, Nat.reduceLeDiff, Nat.reduceSub, Nat.reduceAdd, Nat.reduceEqDiff, reduceCtorEq, ↓reduceIte])
  · have w : IntKind.wrap .u64 n = ((n.natAbs : Nat) : Int) := by rw [a1l]; omega
    simp only [hn, E2, Nat.reduceLeDiff, Nat.reduceSub, Nat.reduceAdd, Nat.reduceEqDiff, reduceCtorEq, ↓reduceIte]
    exact Safe.skip (rest _ (by simp only [E2, Nat.reduceLeDiff, Nat.reduceSub, Nat.reduceAdd, Nat.reduceEqDiff, reduceCtorEq, ↓reduceIte]) (by simp only [E2, Nat.reduceLeDiff, Nat.reduceSub, Nat.reduceAdd, Nat.reduceEqDiff, reduceCtorEq, ↓reduceIte]) (by simp only [E2, Nat.reduceLeDiff, Nat.reduceSub, Nat.reduceAdd, Nat.reduceEqDiff, reduceCtorEq, ↓reduceIte, w]))
theorem c3s (n : Bool) (a : Nat) : (sgn n a).sign = if a = 0 then 0 else if n then -1 else 1 := by
  rcases Nat.eq_zero_or_pos a with h | h
  · subst h; simp [a4Y]
  · rw [if_neg (by omega)]
    cases n
    · simp only [sgn, Bool.false_eq_true, if_false]
      exact Int.sign_eq_one_of_pos (by omega)
    · simp only [sgn, if_true]
      exact Int.sign_eq_neg_one_of_neg (by omega)
theorem d4l (n : Nat) : ((blen n : Nat) : Int) = 0 ↔ n = 0 := by
  unfold blen
  split
  · rename_i h; simp [h]
  · rename_i h; simp [h]; omega
theorem b3r (n : Nat) : (((limbs n).length : Nat) : Int) = 0 ↔ n = 0 := by
  constructor
  · intro h
    have : limbs n = [] := List.length_eq_zero_iff.1 (by omega)
    have := congrArg val this
    rwa [a0b] at this
  · intro h; rw [h, a0I]; rfl
theorem a1J (x : ZI) (hx : Zok 17592186044416 x) : a0d Pr a2b [x.av] (.int .i64 x.z.sign) := by
  obtain ⟨n, m⟩ := x
  have hm : Nt m := ⟨hx.lim, hx.len⟩
  simp only [ZI.av, ZI.z, c3s]
  refine a0d.intro d1s d1r (by simp only [List.length_cons, List.length_nil]; omega) (.int _ _) fun H hH => ?_
  refine Safe.seq (Safe.region ?_)
  simp only [b9Y, E2, seval]
  refine Safe.seq (Safe.block (Safe.seq (Safe.region ?_)))
  simp only [b9X, E2, seval]
  refine (d3i m hm).acall ?_
  simp only [E2, seval, d4l]
  refine Safe.cond ?_
  simp only [E2, seval]
  by_cases h0 : val m = 0
  · simp only [h0, E2, seval]
    refine Safe.seq (Safe.region ?_)
    simp only [b9W, E2, seval]
    refine Safe.retn ?_
    simp only [E2, seval]
    first | exact ⟨rfl, _, rfl⟩ | exact ⟨_, rfl⟩ | exact ⟨trivial, _, rfl⟩
  · simp only [h0, E2, seval]
    refine Safe.seq (Safe.region ?_)
    simp only [b9V, E2, seval]
    refine Safe.cond ?_
    simp only [E2, seval]
    cases n
    · simp only [E2, seval]
      refine Safe.skip (Safe.inBlock (Safe.seq (Safe.region ?_)))
      simp only [b9T, E2, seval]
      refine Safe.retn ?_
      simp only [E2, seval]
      first | exact ⟨rfl, _, rfl⟩ | exact ⟨_, rfl⟩ | exact ⟨trivial, _, rfl⟩
    · simp only [E2, seval]
      refine Safe.seq (Safe.region ?_)
      simp only [b9U, E2, seval]
      refine Safe.retn ?_
      simp only [E2, seval]
      first | exact ⟨rfl, _, rfl⟩ | exact ⟨_, rfl⟩ | exact ⟨trivial, _, rfl⟩
theorem a0K (x : ZI) (hx : Zok 17592186044416 x) : a0d Pr a1C [x.av] (.int .i64 x.z.sign) := by
  obtain ⟨n, m⟩ := x
  have hm : Nt m := ⟨hx.lim, hx.len⟩
  simp only [ZI.av, ZI.z, c3s]
  refine a0d.intro c9Y c9X (by simp only [List.length_cons, List.length_nil]; omega) (.int _ _) fun H hH => ?_
  refine Safe.seq (Safe.region ?_)
  simp only [b6c, E2, seval]
  refine Safe.seq (Safe.region ?_)
  simp only [b6b, E2, seval]
  refine (a0v m hm).acall ?_
  try simp only [E2, seval]
  refine Safe.seq (Safe.block (Safe.seq (Safe.region ?_)))
  simp only [b6a, E2, seval, b3r]
  refine Safe.cond ?_
  simp only [E2, seval]
  by_cases h0 : val m = 0
  · simp only [h0, E2, seval]
    refine Safe.seq (Safe.region ?_)
    simp only [b5Z, E2, seval]
    refine Safe.retn ?_
    simp only [E2, seval]
    first | exact ⟨rfl, _, rfl⟩ | exact ⟨_, rfl⟩ | exact ⟨trivial, _, rfl⟩
  · simp only [h0, E2, seval]
    refine Safe.seq (Safe.region ?_)
    simp only [b5Y, E2, seval]
    refine Safe.cond ?_
    simp only [E2, seval]
    cases n
    · simp only [E2, seval]
      refine Safe.skip (Safe.inBlock (Safe.seq (Safe.region ?_)))
      simp only [b5W, E2, seval]
      refine Safe.retn ?_
      simp only [E2, seval]
      first | exact ⟨rfl, _, rfl⟩ | exact ⟨_, rfl⟩ | exact ⟨trivial, _, rfl⟩
    · simp only [E2, seval]
      refine Safe.seq (Safe.region ?_)
      simp only [b5X, E2, seval]
      refine Safe.retn ?_
      simp only [E2, seval]
      first | exact ⟨rfl, _, rfl⟩ | exact ⟨_, rfl⟩ | exact ⟨trivial, _, rfl⟩
end Go.Abs
namespace Go.Abs
theorem e3D (x : ZI) (hx : Zok 17592186044416 x) : a0d Pr b4V [x.av] x.av := by
  obtain ⟨n, m⟩ := x
  have hm : Nt m := ⟨hx.lim, hx.len⟩
  have hml := hm.len
  simp only [ZI.av]
  refine a0d.intro d3B d3A (by simp only [List.length_cons, List.length_nil]; omega) (ZI.cl ⟨n, m⟩) fun H hH => ?_
  refine Safe.seq (Safe.region ?_)
  simp only [c2A, E2, Nat.reduceLeDiff, Nat.reduceSub, Nat.reduceAdd, Nat.reduceEqDiff, reduceCtorEq, ↓reduceIte]
  refine Safe.seq (Safe.region ?_)
  simp only [c2z, E2, Nat.reduceLeDiff, Nat.reduceSub, Nat.reduceAdd, Nat.reduceEqDiff, reduceCtorEq, ↓reduceIte]
  refine Safe.seq (Safe.region ?_)
  simp only [c2y, E2, Nat.reduceLeDiff, Nat.reduceSub, Nat.reduceAdd, Nat.reduceEqDiff, reduceCtorEq, ↓reduceIte, b4M _ _ H [some ⟨2, [.agg [.bool n, natV m]]⟩, some ⟨2, [.agg [.bool false, .nil]]⟩] m hml]
  refine Safe.seq (Safe.region ?_)
  have happ : ∀ (n0 : Nat) (env : Env), n0 ≤ lid H 2 → appV n0 1 4 false (.mu (lid H 2) 0 m.length none) (.sl 1 [.int .u32 77, .int .u32 78, .int .u32 79, .int .u32 80, .int .u32 81, .int .u32 82, .int .u32 83, .int .u32 84, .int .u32 85]) env
      (hap H [some ⟨2, [.agg [.bool n, natV m]]⟩, some ⟨2, [.agg [.bool false, .nil]]⟩, some ⟨1, u32s m⟩]) = some (.mu (lid H 2) 0 (m.length + 9) none, scrub (lid H 2) env, hap H [some ⟨2, [.agg [.bool n, natV m]]⟩, some ⟨2, [.agg [.bool false, .nil]]⟩, some ⟨1, u32s (m ++ [77, 78, 79, 80, 81, 82, 83, 84, 85])⟩]) := by
    intro n0 env hn0
    have := c6A n0 env H [some ⟨2, [.agg [.bool n, natV m]]⟩, some ⟨2, [.agg [.bool false, .nil]]⟩, some ⟨1, u32s m⟩] 2 m.length none (.sl 1 [.int .u32 77, .int .u32 78, .int .u32 79, .int .u32 80, .int .u32 81, .int .u32 82, .int .u32 83, .int .u32 84, .int .u32 85]) m [77, 78, 79, 80, 81, 82, 83, 84, 85] hH rfl rfl hn0 (b1Y fun b hb a ha => by
      simp only [List.mem_cons, Option.some.injEq, List.not_mem_nil, or_false] at hb
      rcases hb with rfl | rfl | rfl
      · exact a9t (ZI.cl ⟨n, m⟩) a (by simpa [Blk.flat, ZI.av] using ha)
      · simp [Blk.flat, AV.cells] at ha; rcases ha with rfl | rfl; exact .bool _; exact .nil
      · exact a0r m a ha) (a4v _ 1 _) (by simp; omega)
    exact this
  simp only [c2x, E2, Nat.reduceLeDiff, Nat.reduceSub, Nat.reduceAdd, Nat.reduceEqDiff, reduceCtorEq, ↓reduceIte, happ _ _ (a1q H 2)]
  refine Safe.seq (Safe.regionD ?_)
  have hslc : slcV (hap H [some ⟨2, [.agg [.bool n, natV m]]⟩, some ⟨2, [.agg [.bool false, .nil]]⟩, some ⟨1, u32s (m ++ [77, 78, 79, 80, 81, 82, 83, 84, 85])⟩]) 1 (.mu (lid H 2) 0 (m.length + 9) none) none (some (.int .i64 m.length)) none = some (.mu (lid H 2) 0 m.length none) := by
    simp only [slcV, a1k, E2, Nat.reduceLeDiff, Nat.reduceSub, Nat.reduceAdd, Nat.reduceEqDiff, reduceCtorEq, ↓reduceIte, a3C]
    rw [if_pos ⟨by omega, by omega, by omega⟩]
    simp
  simp only [c2w, E2, Nat.reduceLeDiff, Nat.reduceSub, Nat.reduceAdd, Nat.reduceEqDiff, reduceCtorEq, ↓reduceIte, hslc]
  refine Safe.freeze 2 (b := ⟨1, u32s (m ++ [77, 78, 79, 80, 81, 82, 83, 84, 85])⟩) hH rfl rfl (a0r _) ?_
  have hf : frz (lid H 2) ⟨1, u32s (m ++ [77, 78, 79, 80, 81, 82, 83, 84, 85])⟩ (.mu (lid H 2) 0 m.length none) = natV m := by
    rw [b4I _ _ _ _ _ _ (by simp [a0x])]
    simp [natV, b4f, List.take_append, a0x]
  refine Safe.keep [2] ?_
  simp only [E2, Nat.reduceLeDiff, Nat.reduceSub, Nat.reduceAdd, Nat.reduceEqDiff, reduceCtorEq, ↓reduceIte, hf, a1O H 2 1 _ 0 0 (by decide)]
  refine Safe.retn ?_
  simp only [E2, Nat.reduceLeDiff, Nat.reduceSub, Nat.reduceAdd, Nat.reduceEqDiff, reduceCtorEq, ↓reduceIte]
  first | exact ⟨rfl, _, rfl⟩ | exact ⟨_, rfl⟩ | exact ⟨trivial, _, rfl⟩
theorem e0G (v : List ZI) (hv : Vok 17592186044416 v) : a0d Pr a6K [vecV v] (vecV v) := by
  have hvl := hv.len
  refine a0d.intro d0D d0C (by simp only [List.length_cons, List.length_nil]; omega) (a0g v) fun H hH => ?_
  refine Safe.seq (Safe.region ?_)
  simp only [b7A, E3, seval]
  refine Safe.seq (Safe.region ?_)
  simp only [b7z, E3, seval]
  refine Safe.seq (Safe.seq (Safe.region ?_))
  simp only [b7y, E3, seval]
  refine Safe.nilrow 3 2 (by decide) (by simp only [E3, seval]) ?_
  refine Safe.block (Safe.loop ?_)
  have key : ∀ (k i : Nat), i + k = v.length → Safe ⟨Pr, fun _ _ => false, a6K, 20, [.tmp 2], H.length⟩ [.inLoop b7B, .inBlock 0, .code ((ACode.region a9a false).seq .ret)]
      [(0, vecV v), (3, .mu (lid H 0) 0 (v.take i).length none), (4, .int .i64 i)] (hap H [some ⟨2, (v.take i).map ZI.av⟩]) fun r' H' => r' = vecV v ∧ ∃ L, H' = hap H L := by
    intro k
    induction k with
    | zero =>
      intro i hi
      have hi' : i = v.length := by omega
      subst hi'
      refine Safe.inLoop (Safe.seq (Safe.seq (Safe.region ?_)))
      simp only [a9b, E3, seval, Int.lt_irrefl]
      refine Safe.cond ?_
      simp only [E3, seval]
      refine Safe.exit rfl ?_
      rw [List.take_length]
      refine Safe.freeze 0 (b := ⟨2, v.map ZI.av⟩) hH rfl rfl (a1H 2 ZI.av v ZI.cl) ?_
      refine Safe.seq (Safe.region ?_)
      simp only [a9a, E3, seval, a5t]
      refine Safe.retn ?_
      simp only [E3, seval]
      first | exact ⟨rfl, _, rfl⟩ | exact ⟨_, rfl⟩ | exact ⟨trivial, _, rfl⟩
    | succ k ih =>
      intro i hi
      refine Safe.inLoop (Safe.seq (Safe.seq (Safe.region ?_)))
      have hlt : (i : Int) < (v.length : Int) := by omega
      simp only [a9b, E3, seval, hlt]
      refine Safe.cond ?_
      simp only [E3, seval]
      refine Safe.skip (Safe.seq (Safe.block (Safe.region ?_)))
      simp only [b7x, E3, seval, a1h _ v _ i (by omega)]
      refine (e3D v[i] (hv.get (by omega))).acall ?_
      have hl : (v.take i).length = i := by rw [List.length_take]; omega
      simp only [E3, seval, d7M H hH _ (a1q H 0) _ 2 32 ZI.av ZI.cl (v.take i) v[i] (by omega) (by omega), c3x, c3E]
      refine Safe.inBlock (Safe.region ?_)
      have hiw : IntKind.wrap .i64 ((i : Int) + 1) = ((i + 1 : Nat) : Int) := by rw [a0a] <;> omega
      simp only [b7w, E3, seval, hiw]
      refine Safe.keep [0, 3, 4] ?_
      simp only [E3, seval]
      have := ih (i + 1) (by omega)
      rw [List.take_succ_eq_append_getElem (by omega)] at this
      simpa only [List.length_append, List.length_cons, List.length_nil] using this
  refine Safe.keep [0, 3, 4] ?_
  simp only [E3, seval]
  exact key v.length 0 (by omega)
theorem d3g (v : List (List ZI)) (hv : Mok 17592186044416 v) : a0d Pr a6L [matV v] (matV v) := by
  have hvl := hv.len
  refine a0d.intro d0F d0E (by simp only [List.length_cons, List.length_nil]; omega) (a5E v) fun H hH => ?_
  refine Safe.seq (Safe.region ?_)
  simp only [b7G, E3, seval]
  refine Safe.seq (Safe.region ?_)
  simp only [b7F, E3, seval]
  refine Safe.seq (Safe.seq (Safe.region ?_))
  simp only [b7E, E3, seval]
  refine Safe.nilrow 3 1 (by decide) (by simp only [E3, seval]) ?_
  refine Safe.block (Safe.loop ?_)
  have key : ∀ (k i : Nat), i + k = v.length → Safe ⟨Pr, fun _ _ => false, a6L, 20, [.tmp 2], H.length⟩ [.inLoop b7H, .inBlock 0, .code ((ACode.region a9c false).seq .ret)]
      [(0, matV v), (3, .mu (lid H 0) 0 (v.take i).length none), (4, .int .i64 i)] (hap H [some ⟨1, (v.take i).map vecV⟩]) fun r' H' => r' = matV v ∧ ∃ L, H' = hap H L := by
    intro k
    induction k with
    | zero =>
      intro i hi
      have hi' : i = v.length := by omega
      subst hi'
      refine Safe.inLoop (Safe.seq (Safe.seq (Safe.region ?_)))
      simp only [a9d, E3, seval, Int.lt_irrefl]
      refine Safe.cond ?_
      simp only [E3, seval]
      refine Safe.exit rfl ?_
      rw [List.take_length]
      refine Safe.freeze 0 (b := ⟨1, v.map vecV⟩) hH rfl rfl (a1H 1 vecV v a0g) ?_
      refine Safe.seq (Safe.region ?_)
      simp only [a9c, E3, seval, a5t]
      refine Safe.retn ?_
      simp only [E3, seval]
      first | exact ⟨rfl, _, rfl⟩ | exact ⟨_, rfl⟩ | exact ⟨trivial, _, rfl⟩
    | succ k ih =>
      intro i hi
      refine Safe.inLoop (Safe.seq (Safe.seq (Safe.region ?_)))
      have hlt : (i : Int) < (v.length : Int) := by omega
      simp only [a9d, E3, seval, hlt]
      refine Safe.cond ?_
      simp only [E3, seval]
      refine Safe.skip (Safe.seq (Safe.block (Safe.region ?_)))
      simp only [b7D, E3, seval, a1W _ v _ i (by omega)]
      refine (e0G v[i] (hv.get (by omega))).acall ?_
      have hl : (v.take i).length = i := by rw [List.length_take]; omega
      simp only [E3, seval, d7M H hH _ (a1q H 0) _ 1 24 vecV a0g (v.take i) v[i] (by omega) (by omega), c3x, c3E]
      refine Safe.inBlock (Safe.region ?_)
      have hiw : IntKind.wrap .i64 ((i : Int) + 1) = ((i + 1 : Nat) : Int) := by rw [a0a] <;> omega
      simp only [b7C, E3, seval, hiw]
      refine Safe.keep [0, 3, 4] ?_
      simp only [E3, seval]
      have := ih (i + 1) (by omega)
      rw [List.take_succ_eq_append_getElem (by omega)] at this
      simpa only [List.length_append, List.length_cons, List.length_nil] using this
  refine Safe.keep [0, 3, 4] ?_
  simp only [E3, seval]
  exact key v.length 0 (by omega)
/-- Numbers in their one form. -/
def cans (v : List Int) : List ZI := v.map canZ
theorem d8e (k : ZI) (v : List ZI) (p q : Nat) (hk : Zok p k) (hv : Vok q v) (hpq : p + q ≤ 17592186044416) : a0d Pr a2N [k.av, vecV v] (vecV (cans (v.map fun x => k.z * x.z))) := by
  have hvl := hv.len
  obtain ⟨kn, km⟩ := k
  simp only [ZI.av]
  refine a0d.intro c6O c6N (by simp only [List.length_cons, List.length_nil]; omega) (a0g _) fun H hH => ?_
  refine Safe.seq (Safe.region ?_)
  simp only [b2R, E3, seval]
  refine Safe.seq (Safe.region ?_)
  simp only [b2Q, E3, seval]
  refine Safe.seq (Safe.seq (Safe.region ?_))
  simp only [b2P, E3, seval]
  refine Safe.nilrow 5 2 (by decide) (by simp only [E3, seval]) ?_
  refine Safe.block (Safe.loop ?_)
  have key : ∀ (m i : Nat), i + m = v.length → Safe ⟨Pr, fun _ _ => false, a2N, 23, [.tmp 4], H.length⟩ [.inLoop b2S, .inBlock 0, .code ((ACode.region a6W false).seq .ret)]
      [(1, vecV v), (2, .loc (lid H 0) 0 0), (5, .mu (lid H 1) 0 (cans ((v.take i).map fun x => (ZI.mk kn km).z * x.z)).length none), (6, .int .i64 i)] (hap H [some ⟨2, [.agg [.bool kn, natV km]]⟩, some ⟨2, (cans ((v.take i).map fun x => (ZI.mk kn km).z * x.z)).map ZI.av⟩])
        fun r' H' => r' = vecV (cans (v.map fun x => (ZI.mk kn km).z * x.z)) ∧ ∃ L, H' = hap H L := by
    intro m
    induction m with
    | zero =>
      intro i hi
      have hi' : i = v.length := by omega
      subst hi'
      refine Safe.inLoop (Safe.seq (Safe.seq (Safe.region ?_)))
      simp only [a6X, E3, seval, Int.lt_irrefl]
      refine Safe.cond ?_
      simp only [E3, seval]
      refine Safe.exit rfl ?_
      rw [List.take_length]
      refine Safe.freeze 1 (b := ⟨2, (cans (v.map fun x => (ZI.mk kn km).z * x.z)).map ZI.av⟩) hH rfl rfl (a1H 2 ZI.av _ ZI.cl) ?_
      refine Safe.keep [5] ?_
      simp only [E3, seval, a5t]
      refine Safe.seq (Safe.region ?_)
      simp only [a6W, E3, seval]
      refine Safe.retn ?_
      simp only [E3, seval]
      first | exact ⟨rfl, _, rfl⟩ | exact ⟨_, rfl⟩ | exact ⟨trivial, _, rfl⟩
    | succ m ih =>
      intro i hi
      refine Safe.inLoop (Safe.seq (Safe.seq (Safe.region ?_)))
      have hlt : (i : Int) < (v.length : Int) := by omega
      simp only [a6X, E3, seval, hlt]
      refine Safe.cond ?_
      simp only [E3, seval]
      refine Safe.skip (Safe.seq (Safe.block (Safe.regionD ?_)))
      simp only [b2O, E3, seval, a1h _ v _ i (by omega)]
      refine (a2J ⟨kn, km⟩ v[i] p q hk (hv.get (by omega)) hpq).dcall ?_
      have hl : (cans ((v.take i).map fun x => (ZI.mk kn km).z * x.z)).length = i := by simp [cans]; omega
      have happ := fun env => e2H H hH [some ⟨2, [.agg [.bool kn, natV km]]⟩, some ⟨2, (cans ((v.take i).map fun x => (ZI.mk kn km).z * x.z)).map ZI.av⟩] 1 _ (a1q H 1) env 2 32 ZI.av ZI.cl (cans ((v.take i).map fun x => (ZI.mk kn km).z * x.z)) (canZ ((ZI.mk kn km).z * v[i].z)) rfl (by
        intro b hb
        simp only [List.mem_cons, Option.some.injEq, List.not_mem_nil, or_false] at hb
        rcases hb with rfl | rfl
        · exact fun a ha => a9t (ZI.cl ⟨kn, km⟩) a (by simpa [Blk.flat, ZI.av] using ha)
        · exact a1H 2 ZI.av _ ZI.cl) (by omega) (by omega)
      rw [a2A] at happ
      simp only [E3, seval, happ, c3x, c3E]
      refine Safe.inBlock (Safe.region ?_)
      have hiw : IntKind.wrap .i64 ((i : Int) + 1) = ((i + 1 : Nat) : Int) := by rw [a0a] <;> omega
      simp only [b2N, E3, seval, hiw]
      refine Safe.keep [1, 2, 5, 6] ?_
      simp only [E3, seval]
      have := ih (i + 1) (by omega)
      rw [List.take_succ_eq_append_getElem (by omega), List.map_append] at this
      simpa only [cans, List.map_append, List.map_cons, List.map_nil, List.length_append, List.length_cons, List.length_nil] using this
  refine Safe.keep [1, 2, 5, 6] ?_
  simp only [E3, seval]
  exact key v.length 0 (by omega)
end Go.Abs
namespace Go.Abs
theorem e1Y (x : ZI) (hx : Zok 17592186044416 x) : a0d Pr b9O [x.av, x.av] (.bool true) := by
  obtain ⟨n, m⟩ := x
  have hml : m.length ≤ 17592186044416 := hx.len
  simp only [ZI.av]
  refine a0d.intro d5U d5S (Nat.le_of_ble_eq_true rfl) (.bool _) fun H hH => ?_
  refine Safe.rg rfl ?_
  simp only [c5W, E3, seval]
  refine Safe.rg rfl ?_
  simp only [c5V, beq_self_eq_true, E3, seval]
  refine Safe.cd rfl ?_
  simp only [E3, seval]
  refine Safe.rg rfl ?_
  simp only [c5U, E3, seval]
  refine Safe.lp rfl ?_
  refine Safe.keep [2, 3, 5] ?_
  try simp only [E3, seval]
  refine Safe.loopN (m.length) (fun i => [(2, .loc (lid H 0) 0 0), (3, .loc (lid H 1) 0 0), (5, .int .i64 i)]) (fun i => hap H [some ⟨2, [.agg [.bool n, natV m]]⟩, some ⟨2, [.agg [.bool n, natV m]]⟩]) rfl rfl (fun i hi ih => ?_) ?_
  · have hlt : (i : Int) < (m.length : Int) := by omega
    have hiw : IntKind.wrap .i64 ((i : Int) + 1) = ((i + 1 : Nat) : Int) := by rw [a0a] <;> omega
    refine Safe.inLoop ?_
    refine Safe.rg rfl ?_
    simp only [b4F, hlt, E3, seval]
    refine Safe.cd rfl ?_
    simp only [E3, seval]
    refine Safe.rg rfl ?_
    simp only [c5T, a0C _ m _ i (by omega), E3, seval]
    refine Safe.cd rfl ?_
    simp only [E3, seval]
    refine Safe.rg rfl ?_
    simp only [c5S, hiw, E3, seval]
    refine Safe.keep [2, 3, 5] ?_
    simp only [E3, seval]
    exact ih
  · refine Safe.inLoop ?_
    refine Safe.rg rfl ?_
    simp only [b4F, Int.lt_irrefl, E3, seval]
    refine Safe.cd rfl ?_
    simp only [E3, seval]
    refine Safe.rg rfl ?_
    simp only [c5R, E3, seval]
    refine Safe.rt rfl ?_
    simp only [E3, seval]
    first | exact ⟨rfl, _, rfl⟩ | exact ⟨_, rfl⟩ | exact ⟨trivial, _, rfl⟩
section
variable {a b : Int} {k l : Nat} (ha : a.natAbs < LB ^ k)
include ha
theorem d6B (hb : b.natAbs < LB ^ k) (hk : k < 17592186044416) : a0d Pr a5u [Z a, Z b] (Z (a - b)) := by
  have := d9K (canZ a) (canZ b) k (a0l ha) (a0l hb) hk
  rwa [a0o, a0o] at this
theorem e0C (hb : b.natAbs < LB ^ k) (hk : k < 17592186044416) : a0d Pr a4i [Z a, Z b] (Z (a + b)) := by
  have := b8R (canZ a) (canZ b) k (a0l ha) (a0l hb) hk
  rwa [a0o, a0o] at this
theorem e0B (hb : b.natAbs < LB ^ k) (hk : k < 17592186044416) : a0d Pr a5X [Z a, Z b] (Z (a - b)) := by
  have := c7y (canZ a) (canZ b) k (a0l ha) (a0l hb) hk
  rwa [a0o, a0o] at this
theorem c4B (hb : b.natAbs < LB ^ l) (hk : k + l ≤ 17592186044416) : a0d Pr a1b [Z a, Z b] (Z (a * b)) := by
  have := a2J (canZ a) (canZ b) k l (a0l ha) (a0l hb) hk
  rwa [a0o, a0o] at this
end
theorem a7m {a b : AV} (ha : Cl a) (hb : Cl b) : Cl (.tup [a, b]) := .tup _ (by
  intro c hc
  simp only [List.mem_cons, List.not_mem_nil, or_false] at hc
  rcases hc with rfl | rfl
  · exact ha
  · exact hb)
theorem d1g {a b d : AV} (ha : Cl a) (hb : Cl b) (hd : Cl d) : Cl (.tup [a, b, d]) := .tup _ (by
  intro c hc
  simp only [List.mem_cons, List.not_mem_nil, or_false] at hc
  rcases hc with rfl | rfl | rfl
  · exact ha
  · exact hb
  · exact hd)
theorem d6u (v : List ZI) (f : Int → Int) : cans (v.map fun x => f x.z) = vec v.length fun i => f (zg v i) := by
  apply List.ext_getElem
  · simp [cans, a0f]
  · intro i h1 h2
    simp only [cans, List.getElem_map, a3K]
    rw [b0k (by simpa [a0f] using h2)]
theorem d8s (k : ZI) (v : List ZI) (p q : Nat) (hk : Zok p k) (hv : Vok q v) (hpq : p + q ≤ 17592186044416) : a0d Pr a2N [k.av, vecV v] (vecV (vec v.length fun i => k.z * zg v i)) := by
  have := d8e k v p q hk hv hpq
  rwa [d6u v fun x => k.z * x] at this
theorem d7z (v : List ZI) (hv : Vok 17592186044416 v) : a0d Pr b4W [vecV v, vecV v] (.bool true) := by
  have hvl := hv.len
  refine a0d.intro d3G d3E (Nat.le_of_ble_eq_true rfl) (.bool _) fun H hH => ?_
  refine Safe.rg rfl ?_
  simp only [c2G, E3, seval]
  refine Safe.rg rfl ?_
  simp only [c2F, E3, seval]
  refine Safe.cd rfl ?_
  simp only [E3, seval]
  refine Safe.rg rfl ?_
  simp only [c2E, E3, seval]
  refine Safe.lp rfl ?_
  refine Safe.keep [0, 1, 5] ?_
  try simp only [E3, seval]
  refine Safe.loopN (v.length) (fun i => [(0, vecV v), (1, vecV v), (5, .int .i64 i)]) (fun i => hap H []) rfl rfl (fun i hi ih => ?_) ?_
  · have hlt : (i : Int) < (v.length : Int) := by omega
    have hiw : IntKind.wrap .i64 ((i : Int) + 1) = ((i + 1 : Nat) : Int) := by rw [a0a] <;> omega
    refine Safe.inLoop ?_
    refine Safe.rg rfl ?_
    simp only [b1a, hlt, E3, seval]
    refine Safe.cd rfl ?_
    simp only [E3, seval]
    refine Safe.rg rfl ?_
    simp only [c2D, a1h _ v _ i (by omega), E3, seval]
    first | refine (e1Y v[i] (hv.get hi)).acall ?_ | refine (e1Y v[i] (hv.get hi)).dcall ?_
    try simp only [E3, seval]
    refine Safe.cd rfl ?_
    simp only [E3, seval]
    refine Safe.rg rfl ?_
    simp only [c2C, hiw, E3, seval]
    refine Safe.keep [0, 1, 5] ?_
    simp only [E3, seval]
    exact ih
  · refine Safe.inLoop ?_
    refine Safe.rg rfl ?_
    simp only [b1a, Int.lt_irrefl, E3, seval]
    refine Safe.cd rfl ?_
    simp only [E3, seval]
    refine Safe.rg rfl ?_
    simp only [c2B, E3, seval]
    refine Safe.rt rfl ?_
    simp only [E3, seval]
    first | exact ⟨rfl, _, rfl⟩ | exact ⟨_, rfl⟩ | exact ⟨trivial, _, rfl⟩
theorem d7A (v : List (List ZI)) (hv : Mok 17592186044416 v) : a0d Pr b4X [matV v, matV v] (.bool true) := by
  have hvl := hv.len
  refine a0d.intro d3L d3J (Nat.le_of_ble_eq_true rfl) (.bool _) fun H hH => ?_
  refine Safe.rg rfl ?_
  simp only [c2M, E3, seval]
  refine Safe.rg rfl ?_
  simp only [c2L, E3, seval]
  refine Safe.cd rfl ?_
  simp only [E3, seval]
  refine Safe.rg rfl ?_
  simp only [c2K, E3, seval]
  refine Safe.lp rfl ?_
  refine Safe.keep [0, 1, 5] ?_
  try simp only [E3, seval]
  refine Safe.loopN (v.length) (fun i => [(0, matV v), (1, matV v), (5, .int .i64 i)]) (fun i => hap H []) rfl rfl (fun i hi ih => ?_) ?_
  · have hlt : (i : Int) < (v.length : Int) := by omega
    have hiw : IntKind.wrap .i64 ((i : Int) + 1) = ((i + 1 : Nat) : Int) := by rw [a0a] <;> omega
    refine Safe.inLoop ?_
    refine Safe.rg rfl ?_
    simp only [b1b, hlt, E3, seval]
    refine Safe.cd rfl ?_
    simp only [E3, seval]
    refine Safe.rg rfl ?_
    simp only [c2J, a1W _ v _ i (by omega), E3, seval]
    first | refine (d7z v[i] (hv.get hi)).acall ?_ | refine (d7z v[i] (hv.get hi)).dcall ?_
    try simp only [E3, seval]
    refine Safe.cd rfl ?_
    simp only [E3, seval]
    refine Safe.rg rfl ?_
    simp only [c2I, hiw, E3, seval]
    refine Safe.keep [0, 1, 5] ?_
    simp only [E3, seval]
    exact ih
  · refine Safe.inLoop ?_
    refine Safe.rg rfl ?_
    simp only [b1b, Int.lt_irrefl, E3, seval]
    refine Safe.cd rfl ?_
    simp only [E3, seval]
    refine Safe.rg rfl ?_
    simp only [c2H, E3, seval]
    refine Safe.rt rfl ?_
    simp only [E3, seval]
    first | exact ⟨rfl, _, rfl⟩ | exact ⟨_, rfl⟩ | exact ⟨trivial, _, rfl⟩
end Go.Abs
namespace Go.Abs
theorem sign_zero {z : Int} (h : z = 0) : z.sign = 0 := by rw [h]; rfl
theorem e0h {z : Int} (h : z ≠ 0) : ¬ z.sign = 0 := fun e => h (Int.sign_eq_zero_iff_zero.1 e)
theorem e0i (z : Int) : (z.sign < 0) = (z < 0) := by
  rw [eq_iff_iff]
  rcases Int.lt_trichotomy z 0 with h | h | h
  · rw [Int.sign_eq_neg_one_of_neg h]; simp [h]
  · rw [h]; simp
  · rw [Int.sign_eq_one_of_pos h]; constructor <;> intro <;> omega
theorem c8O (v : List ZI) (hv : Vok 17592186044416 v) : a0d Pr b9N [vecV v] (.int .i64 (d5L v)) := by
  have hvl := hv.len
  refine a0d.intro d5I d5G (Nat.le_of_ble_eq_true rfl) (.int _ _) fun H hH => ?_
  refine Safe.rg rfl ?_
  simp only [c5L, E3, seval]
  refine Safe.rg rfl ?_
  simp only [c5K, E3, seval]
  rcases a7G v with ⟨m, hm, h0, hz, hl, _⟩ | ⟨hz, hl, _⟩
  · rw [hl]
    refine Safe.lp rfl ?_
    refine Safe.keep [5, 6, 7] ?_
    try simp only [E3, seval]
    refine Safe.loopN (m) (fun i => [(5, vecV v), (6, .int .i64 v.length), (7, .int .i64 i)]) (fun i => hap H []) rfl rfl (fun i hi ih => ?_) ?_
    · have hlt : (i : Int) < (v.length : Int) := by omega
      have hs : v[i].z.sign = 0 := sign_zero (by rw [← b0k (by omega)]; exact hz i hi)
      have hiw : IntKind.wrap .i64 ((i : Int) + 1) = ((i + 1 : Nat) : Int) := by rw [a0a] <;> omega
      refine Safe.inLoop ?_
      refine Safe.rg rfl ?_
      simp only [a5D, hlt, E3, seval]
      refine Safe.cd rfl ?_
      simp only [E3, seval]
      refine Safe.rg rfl ?_
      simp only [a8Y, a1h _ v _ i (by omega), E3, seval]
      refine Safe.rg rfl ?_
      simp only [a8X, E3, seval]
      first | refine (a1J v[i] (hv.get (by omega))).acall ?_ | refine (a1J v[i] (hv.get (by omega))).dcall ?_
      try simp only [E3, seval]
      refine Safe.cd rfl ?_
      simp only [hs, E3, seval]
      refine Safe.rg rfl ?_
      simp only [b4E, hiw, E3, seval]
      refine Safe.keep [5, 6, 7] ?_
      simp only [E3, seval]
      refine Safe.drop0 hH rfl (by simp only [List.all_cons, List.all_nil, E3, seval]) (by repeat (first | exact RC.nil | refine RC.none ?_ | refine RC.mo ?_ | refine RC.io ?_ | refine RC.row ZI.cl ?_ | refine RC.cons (a0r _) ?_ | refine RC.row a0g ?_ | refine RC.emp ?_ | refine RC.zero ?_ | refine RC.one (Z_cl _) ?_ | refine RC.one (ZI.cl _) ?_ | refine RC.one (a0g _) ?_)) ?_
      exact ih
    · have hlt : (m : Int) < (v.length : Int) := by omega
      have hs : ¬ v[m].z.sign = 0 := e0h (by rw [← b0k (by omega)]; exact h0)
      refine Safe.inLoop ?_
      refine Safe.rg rfl ?_
      simp only [a5D, hlt, E3, seval]
      refine Safe.cd rfl ?_
      simp only [E3, seval]
      refine Safe.rg rfl ?_
      simp only [a8Y, a1h _ v _ m (by omega), E3, seval]
      refine Safe.rg rfl ?_
      simp only [a8X, E3, seval]
      first | refine (a1J v[m] (hv.get (by omega))).acall ?_ | refine (a1J v[m] (hv.get (by omega))).dcall ?_
      try simp only [E3, seval]
      refine Safe.cd rfl ?_
      simp only [hs, E3, seval]
      refine Safe.rg rfl ?_
      simp only [c5J, E3, seval]
      refine Safe.rt rfl ?_
      simp only [E3, seval]
      first | exact ⟨rfl, _, rfl⟩ | exact ⟨_, rfl⟩ | exact ⟨trivial, _, rfl⟩
  · rw [hl]
    refine Safe.lp rfl ?_
    refine Safe.keep [5, 6, 7] ?_
    try simp only [E3, seval]
    refine Safe.loopN (v.length) (fun i => [(5, vecV v), (6, .int .i64 v.length), (7, .int .i64 i)]) (fun i => hap H []) rfl rfl (fun i hi ih => ?_) ?_
    · have hlt : (i : Int) < (v.length : Int) := by omega
      have hs : v[i].z.sign = 0 := sign_zero (by rw [← b0k (by omega)]; exact hz i hi)
      have hiw : IntKind.wrap .i64 ((i : Int) + 1) = ((i + 1 : Nat) : Int) := by rw [a0a] <;> omega
      refine Safe.inLoop ?_
      refine Safe.rg rfl ?_
      simp only [a5D, hlt, E3, seval]
      refine Safe.cd rfl ?_
      simp only [E3, seval]
      refine Safe.rg rfl ?_
      simp only [a8Y, a1h _ v _ i (by omega), E3, seval]
      refine Safe.rg rfl ?_
      simp only [a8X, E3, seval]
      first | refine (a1J v[i] (hv.get (by omega))).acall ?_ | refine (a1J v[i] (hv.get (by omega))).dcall ?_
      try simp only [E3, seval]
      refine Safe.cd rfl ?_
      simp only [hs, E3, seval]
      refine Safe.rg rfl ?_
      simp only [b4E, hiw, E3, seval]
      refine Safe.keep [5, 6, 7] ?_
      simp only [E3, seval]
      refine Safe.drop0 hH rfl (by simp only [List.all_cons, List.all_nil, E3, seval]) (by repeat (first | exact RC.nil | refine RC.none ?_ | refine RC.mo ?_ | refine RC.io ?_ | refine RC.row ZI.cl ?_ | refine RC.cons (a0r _) ?_ | refine RC.row a0g ?_ | refine RC.emp ?_ | refine RC.zero ?_ | refine RC.one (Z_cl _) ?_ | refine RC.one (ZI.cl _) ?_ | refine RC.one (a0g _) ?_)) ?_
      exact ih
    · refine Safe.inLoop ?_
      refine Safe.rg rfl ?_
      simp only [a5D, Int.lt_irrefl, E3, seval]
      refine Safe.cd rfl ?_
      simp only [E3, seval]
      refine Safe.rg rfl ?_
      simp only [c5I, E3, seval]
      refine Safe.rt rfl ?_
      simp only [E3, seval]
      first | exact ⟨rfl, _, rfl⟩ | exact ⟨_, rfl⟩ | exact ⟨trivial, _, rfl⟩
theorem c7t (v : List ZI) (hv : Vok 17592186044416 v) : a0d Pr b1F [vecV v] (.int .i64 (d5L v)) := by
  have hvl := hv.len
  refine a0d.intro c9S c9Q (Nat.le_of_ble_eq_true rfl) (.int _ _) fun H hH => ?_
  refine Safe.rg rfl ?_
  simp only [b5N, E3, seval]
  refine Safe.rg rfl ?_
  simp only [b5M, E3, seval]
  rcases a7G v with ⟨m, hm, h0, hz, hl, _⟩ | ⟨hz, hl, _⟩
  · rw [hl]
    refine Safe.lp rfl ?_
    refine Safe.keep [0, 3] ?_
    try simp only [E3, seval]
    refine Safe.loopN (m) (fun i => [(0, vecV v), (3, .int .i64 i)]) (fun i => hap H []) rfl rfl (fun i hi ih => ?_) ?_
    · have hlt : (i : Int) < (v.length : Int) := by omega
      have hs : v[i].z.sign = 0 := sign_zero (by rw [← b0k (by omega)]; exact hz i hi)
      have hiw : IntKind.wrap .i64 ((i : Int) + 1) = ((i + 1 : Nat) : Int) := by rw [a0a] <;> omega
      refine Safe.inLoop ?_
      refine Safe.rg rfl ?_
      simp only [a3p, hlt, E3, seval]
      refine Safe.cd rfl ?_
      simp only [E3, seval]
      refine Safe.rg rfl ?_
      simp only [a4Z, a1h _ v _ i (by omega), E3, seval]
      first | refine (a0K v[i] (hv.get (by omega))).acall ?_ | refine (a0K v[i] (hv.get (by omega))).dcall ?_
      try simp only [E3, seval]
      refine Safe.cd rfl ?_
      simp only [hs, E3, seval]
      refine Safe.rg rfl ?_
      simp only [a8l, hiw, E3, seval]
      refine Safe.keep [0, 3] ?_
      simp only [E3, seval]
      exact ih
    · have hlt : (m : Int) < (v.length : Int) := by omega
      have hs : ¬ v[m].z.sign = 0 := e0h (by rw [← b0k (by omega)]; exact h0)
      refine Safe.inLoop ?_
      refine Safe.rg rfl ?_
      simp only [a3p, hlt, E3, seval]
      refine Safe.cd rfl ?_
      simp only [E3, seval]
      refine Safe.rg rfl ?_
      simp only [a4Z, a1h _ v _ m (by omega), E3, seval]
      first | refine (a0K v[m] (hv.get (by omega))).acall ?_ | refine (a0K v[m] (hv.get (by omega))).dcall ?_
      try simp only [E3, seval]
      refine Safe.cd rfl ?_
      simp only [hs, E3, seval]
      refine Safe.rg rfl ?_
      simp only [b5L, E3, seval]
      refine Safe.rt rfl ?_
      simp only [E3, seval]
      first | exact ⟨rfl, _, rfl⟩ | exact ⟨_, rfl⟩ | exact ⟨trivial, _, rfl⟩
  · rw [hl]
    refine Safe.lp rfl ?_
    refine Safe.keep [0, 3] ?_
    try simp only [E3, seval]
    refine Safe.loopN (v.length) (fun i => [(0, vecV v), (3, .int .i64 i)]) (fun i => hap H []) rfl rfl (fun i hi ih => ?_) ?_
    · have hlt : (i : Int) < (v.length : Int) := by omega
      have hs : v[i].z.sign = 0 := sign_zero (by rw [← b0k (by omega)]; exact hz i hi)
      have hiw : IntKind.wrap .i64 ((i : Int) + 1) = ((i + 1 : Nat) : Int) := by rw [a0a] <;> omega
      refine Safe.inLoop ?_
      refine Safe.rg rfl ?_
      simp only [a3p, hlt, E3, seval]
      refine Safe.cd rfl ?_
      simp only [E3, seval]
      refine Safe.rg rfl ?_
      simp only [a4Z, a1h _ v _ i (by omega), E3, seval]
      first | refine (a0K v[i] (hv.get (by omega))).acall ?_ | refine (a0K v[i] (hv.get (by omega))).dcall ?_
      try simp only [E3, seval]
      refine Safe.cd rfl ?_
      simp only [hs, E3, seval]
      refine Safe.rg rfl ?_
      simp only [a8l, hiw, E3, seval]
      refine Safe.keep [0, 3] ?_
      simp only [E3, seval]
      exact ih
    · refine Safe.inLoop ?_
      refine Safe.rg rfl ?_
      simp only [a3p, Int.lt_irrefl, E3, seval]
      refine Safe.cd rfl ?_
      simp only [E3, seval]
      refine Safe.rg rfl ?_
      simp only [b5K, E3, seval]
      refine Safe.rt rfl ?_
      simp only [E3, seval]
      first | exact ⟨rfl, _, rfl⟩ | exact ⟨_, rfl⟩ | exact ⟨trivial, _, rfl⟩
theorem e1M (m : Nat) : ((m : Int) ≥ 0) = True := eq_true (Int.natCast_nonneg m)
theorem b5k (v : List ZI) (hv : Vok 17592186044415 v) : a0d Pr a5V [vecV v] (vecV (vec v.length fun i => upS v * zg v i)) := by
  have hvl := hv.len
  have hv' := hv.mono (show 17592186044415 ≤ 17592186044416 by omega)
  have ht : ∀ s : Int, s = 1 ∨ s = -1 → a0d Pr a2N [Z s, vecV v] (vecV (vec v.length fun i => s * zg v i)) := fun s hs => by
    have := d8s (canZ s) v 1 17592186044415 (a0l (by rcases hs with rfl | rfl <;> decide)) hv (by omega)
    rwa [a0o] at this
  refine a0d.intro c3k c3j (Nat.le_of_ble_eq_true rfl) (a0g _) fun H hH => ?_
  refine Safe.rg rfl ?_
  simp only [b0b, E3, seval]
  refine Safe.rg rfl ?_
  simp only [b0a, E3, seval]
  refine Safe.rg rfl ?_
  simp only [a9Z, E3, seval]
  first | refine (c7t v hv').acall ?_ | refine (c7t v hv').dcall ?_
  try simp only [E3, seval]
  rcases a7G v with ⟨m, hm, h0, hz, hl, hu⟩ | ⟨hz, hl, hu⟩
  · by_cases hn : zg v m < 0
    · rw [if_pos hn] at hu
      rw [hl]
      have hs : v[m].z < 0 := by rwa [← b0k hm]
      refine Safe.rg rfl ?_
      simp only [a2T, e1M, ge_iff_le, Int.natCast_nonneg, a1h _ v _ m hm, E3, seval]
      first | refine (a0K v[m] (hv'.get (by omega))).acall ?_ | refine (a0K v[m] (hv'.get (by omega))).dcall ?_
      try simp only [E3, seval]
      refine Safe.cd rfl ?_
      simp only [e0i, hs, E3, seval]
      refine Safe.rg rfl ?_
      simp only [a9Y, E3, seval]
      refine Safe.rg rfl ?_
      simp only [a2S, E3, seval]
      first | refine (a0Q (-1) (by omega) (by omega)).acall ?_ | refine (a0Q (-1) (by omega) (by omega)).dcall ?_
      try simp only [E3, seval]
      rw [hu]
      first | refine (ht (-1) (.inr rfl)).acall ?_ | refine (ht (-1) (.inr rfl)).dcall ?_
      try simp only [E3, seval]
      refine Safe.rt rfl ?_
      simp only [E3, seval]
      first | exact ⟨rfl, _, rfl⟩ | exact ⟨_, rfl⟩ | exact ⟨trivial, _, rfl⟩
    · rw [if_neg hn] at hu
      rw [hl]
      have hs : ¬ v[m].z < 0 := by rwa [← b0k hm]
      refine Safe.rg rfl ?_
      simp only [a2T, e1M, ge_iff_le, Int.natCast_nonneg, a1h _ v _ m hm, E3, seval]
      first | refine (a0K v[m] (hv'.get (by omega))).acall ?_ | refine (a0K v[m] (hv'.get (by omega))).dcall ?_
      try simp only [E3, seval]
      refine Safe.cd rfl ?_
      simp only [e0i, hs, E3, seval]
      refine Safe.rg rfl ?_
      simp only [a2S, E3, seval]
      first | refine (a0Q 1 (by omega) (by omega)).acall ?_ | refine (a0Q 1 (by omega) (by omega)).dcall ?_
      try simp only [E3, seval]
      rw [hu]
      first | refine (ht 1 (.inl rfl)).acall ?_ | refine (ht 1 (.inl rfl)).dcall ?_
      try simp only [E3, seval]
      refine Safe.rt rfl ?_
      simp only [E3, seval]
      first | exact ⟨rfl, _, rfl⟩ | exact ⟨_, rfl⟩ | exact ⟨trivial, _, rfl⟩
  · rw [hl]
    refine Safe.rg rfl ?_
    simp only [a2T, show ¬ (-1 : Int) ≥ 0 by decide, show ¬ (0 : Int) ≤ -1 by decide, E3, seval]
    refine Safe.cd rfl ?_
    simp only [E3, seval]
    refine Safe.rg rfl ?_
    simp only [a2S, E3, seval]
    first | refine (a0Q 1 (by omega) (by omega)).acall ?_ | refine (a0Q 1 (by omega) (by omega)).dcall ?_
    try simp only [E3, seval]
    rw [hu]
    first | refine (ht 1 (.inl rfl)).acall ?_ | refine (ht 1 (.inl rfl)).dcall ?_
    try simp only [E3, seval]
    refine Safe.rt rfl ?_
    simp only [E3, seval]
    first | exact ⟨rfl, _, rfl⟩ | exact ⟨_, rfl⟩ | exact ⟨trivial, _, rfl⟩
theorem one3 (a b c : AV) : c3l [a, b, c] = .tup [a, b, c] := rfl
theorem cl3i (a b c : Int) : Cl (.tup [.int .i64 a, .int .i64 b, .int .i64 c]) := d1g (.int _ _) (.int _ _) (.int _ _)
theorem e0A {b : List (List ZI)} (hr : Rect b) {i : Nat} (hi : i < b.length) : (b[i].length : Int) = (b[0].length : Int) := by
  have := hr i hi
  rw [a3v hi, a3v (by omega)] at this
  omega
theorem e5z {b : List (List ZI)} (h : 0 < b.length) : wid b = b[0].length := by rw [wid, a3v h]
theorem a7E (b : List (List ZI)) (k : Nat) (hb : Mok k b) (hr : Rect b) : a0d Pr a5Y [matV b] (.tup [.int .i64 b.length, .int .i64 (wid b), .int .i64 0]) := by
  have hbl := hb.len
  refine a0d.intro c2v c2u (Nat.le_of_ble_eq_true rfl) (cl3i _ _ _) fun H hH => ?_
  refine Safe.rg rfl ?_
  simp only [b0Y, E3, seval]
  refine Safe.rg rfl ?_
  simp only [b0X, E3, seval]
  refine Safe.cd rfl ?_
  simp only [E3, seval]
  by_cases h0 : b.length = 0
  · have h0' : (b.length : Int) = 0 := by omega
    have hw : wid b = 0 := by simp [wid, mg, List.length_eq_zero_iff.1 h0]
    simp only [h0', E3, seval]
    refine Safe.rg rfl ?_
    simp only [c2t, E3, seval]
    refine Safe.rt rfl ?_
    simp only [one3, h0', hw, Int.natCast_zero, E3, seval]
    first | exact ⟨rfl, _, rfl⟩ | exact ⟨_, rfl⟩ | exact ⟨trivial, _, rfl⟩
  · have h0' : ¬ (b.length : Int) = 0 := by omega
    simp only [h0', E3, seval]
    refine Safe.rg rfl ?_
    simp only [b0W, E3, seval]
    refine Safe.lp rfl ?_
    refine Safe.keep [0, 10, 11, 12] ?_
    try simp only [E3, seval]
    refine Safe.loopN (b.length) (fun i => [(0, matV b), (10, matV b), (11, .int .i64 b.length), (12, .int .i64 i)]) (fun i => hap H []) rfl rfl (fun i hi ih => ?_) ?_
    · have hlt : (i : Int) < (b.length : Int) := by omega
      have hiw : IntKind.wrap .i64 ((i : Int) + 1) = ((i + 1 : Nat) : Int) := by rw [a0a] <;> omega
      refine Safe.inLoop ?_
      refine Safe.rg rfl ?_
      simp only [a4z, hlt, E3, seval]
      refine Safe.cd rfl ?_
      simp only [E3, seval]
      refine Safe.rg rfl ?_
      simp only [a6w, a1W _ b _ i hi, E3, seval]
      refine Safe.rg rfl ?_
      simp only [a6v, a6u _ b _ (show 0 < b.length by omega), e0A hr hi, E3, seval]
      refine Safe.cd rfl ?_
      simp only [E3, seval]
      refine Safe.rg rfl ?_
      simp only [b0V, hiw, E3, seval]
      refine Safe.keep [0, 10, 11, 12] ?_
      simp only [E3, seval]
      exact ih
    · refine Safe.inLoop ?_
      refine Safe.rg rfl ?_
      simp only [a4z, Int.lt_irrefl, E3, seval]
      refine Safe.cd rfl ?_
      simp only [E3, seval]
      refine Safe.rg rfl ?_
      simp only [c2r, a6u _ b _ (show 0 < b.length by omega), E3, seval]
      refine Safe.rt rfl ?_
      simp only [one3, e5z (show 0 < b.length by omega), E3, seval]
      first | exact ⟨rfl, _, rfl⟩ | exact ⟨_, rfl⟩ | exact ⟨trivial, _, rfl⟩
theorem c8L (b : List (List ZI)) (k : Nat) (hb : Mok k b) (hr : ¬ Rect b) : a0d Pr a5Y [matV b] (.tup [.int .i64 0, .int .i64 0, .int .i64 8]) := by
  have hbl := hb.len
  rcases c7v b with h | ⟨m, hm, h1, h2⟩
  · exact absurd h hr
  have h0' : ¬ (b.length : Int) = 0 := by omega
  refine a0d.intro c2v c2u (Nat.le_of_ble_eq_true rfl) (cl3i _ _ _) fun H hH => ?_
  refine Safe.rg rfl ?_
  simp only [b0Y, E3, seval]
  refine Safe.rg rfl ?_
  simp only [b0X, h0', E3, seval]
  refine Safe.cd rfl ?_
  simp only [E3, seval]
  refine Safe.rg rfl ?_
  simp only [b0W, E3, seval]
  refine Safe.lp rfl ?_
  refine Safe.keep [0, 10, 11, 12] ?_
  try simp only [E3, seval]
  refine Safe.loopN (m) (fun i => [(0, matV b), (10, matV b), (11, .int .i64 b.length), (12, .int .i64 i)]) (fun i => hap H []) rfl rfl (fun i hi ih => ?_) ?_
  · have hlt : (i : Int) < (b.length : Int) := by omega
    have he : (b[i].length : Int) = (b[0].length : Int) := by
      have := h2 i hi
      rw [a3v (by omega), a3v (by omega)] at this
      omega
    have hiw : IntKind.wrap .i64 ((i : Int) + 1) = ((i + 1 : Nat) : Int) := by rw [a0a] <;> omega
    refine Safe.inLoop ?_
    refine Safe.rg rfl ?_
    simp only [a4z, hlt, E3, seval]
    refine Safe.cd rfl ?_
    simp only [E3, seval]
    refine Safe.rg rfl ?_
    simp only [a6w, a1W _ b _ i (by omega), E3, seval]
    refine Safe.rg rfl ?_
    simp only [a6v, a6u _ b _ (show 0 < b.length by omega), he, E3, seval]
    refine Safe.cd rfl ?_
    simp only [E3, seval]
    refine Safe.rg rfl ?_
    simp only [b0V, hiw, E3, seval]
    refine Safe.keep [0, 10, 11, 12] ?_
    simp only [E3, seval]
    exact ih
  · have hlt : (m : Int) < (b.length : Int) := by omega
    have he : ¬ (b[m].length : Int) = (b[0].length : Int) := by
      rw [a3v hm, a3v (by omega)] at h1
      omega
    refine Safe.inLoop ?_
    refine Safe.rg rfl ?_
    simp only [a4z, hlt, E3, seval]
    refine Safe.cd rfl ?_
    simp only [E3, seval]
    refine Safe.rg rfl ?_
    simp only [a6w, a1W _ b _ m hm, E3, seval]
    refine Safe.rg rfl ?_
    simp only [a6v, a6u _ b _ (show 0 < b.length by omega), he, E3, seval]
    refine Safe.cd rfl ?_
    simp only [E3, seval]
    refine Safe.rg rfl ?_
    simp only [c2s, E3, seval]
    refine Safe.rt rfl ?_
    simp only [one3, E3, seval]
    first | exact ⟨rfl, _, rfl⟩ | exact ⟨_, rfl⟩ | exact ⟨trivial, _, rfl⟩
theorem a7r (b : List (List ZI)) (k : Nat) (hb : Mok k b) (hr : Rect b) : a0d Pr a3D [matV b] (.tup [.int .i64 b.length, .int .i64 (wid b), .int .i64 0]) := by
  have hbl := hb.len
  refine a0d.intro b2Y b2X (Nat.le_of_ble_eq_true rfl) (cl3i _ _ _) fun H hH => ?_
  refine Safe.rg rfl ?_
  simp only [a7a, E3, seval]
  refine Safe.rg rfl ?_
  simp only [a6Z, E3, seval]
  refine Safe.lp rfl ?_
  refine Safe.keep [0, 5] ?_
  try simp only [E3, seval]
  refine Safe.loopN (b.length) (fun i => [(0, matV b), (5, .int .i64 i)]) (fun i => hap H []) rfl rfl (fun i hi ih => ?_) ?_
  · have hlt : (i : Int) < (b.length : Int) := by omega
    have hiw : IntKind.wrap .i64 ((i : Int) + 1) = ((i + 1 : Nat) : Int) := by rw [a0a] <;> omega
    refine Safe.inLoop ?_
    refine Safe.rg rfl ?_
    simp only [a2Q, hlt, E3, seval]
    refine Safe.cd rfl ?_
    simp only [E3, seval]
    refine Safe.rg rfl ?_
    simp only [a4p, a1W _ b _ i hi, a6u _ b _ (show 0 < b.length by omega), e0A hr hi, E3, seval]
    refine Safe.cd rfl ?_
    simp only [E3, seval]
    refine Safe.rg rfl ?_
    simp only [a6Y, hiw, E3, seval]
    refine Safe.keep [0, 5] ?_
    simp only [E3, seval]
    exact ih
  · refine Safe.inLoop ?_
    refine Safe.rg rfl ?_
    simp only [a2Q, Int.lt_irrefl, E3, seval]
    refine Safe.cd rfl ?_
    simp only [E3, seval]
    refine Safe.rg rfl ?_
    simp only [b2V, E3, seval]
    refine Safe.cd rfl ?_
    simp only [E3, seval]
    by_cases h0 : b.length = 0
    · have h0' : (b.length : Int) = 0 := by omega
      have hw : wid b = 0 := by simp [wid, mg, List.length_eq_zero_iff.1 h0]
      simp only [h0', E3, seval]
      refine Safe.rg rfl ?_
      simp only [b2U, E3, seval]
      refine Safe.rt rfl ?_
      simp only [one3, h0', hw, Int.natCast_zero, E3, seval]
      first | exact ⟨rfl, _, rfl⟩ | exact ⟨_, rfl⟩ | exact ⟨trivial, _, rfl⟩
    · have h0' : ¬ (b.length : Int) = 0 := by omega
      simp only [h0', E3, seval]
      refine Safe.rg rfl ?_
      simp only [b2T, a6u _ b _ (show 0 < b.length by omega), E3, seval]
      refine Safe.rt rfl ?_
      simp only [one3, e5z (show 0 < b.length by omega), E3, seval]
      first | exact ⟨rfl, _, rfl⟩ | exact ⟨_, rfl⟩ | exact ⟨trivial, _, rfl⟩
theorem c7s (b : List (List ZI)) (k : Nat) (hb : Mok k b) (hr : ¬ Rect b) : a0d Pr a3D [matV b] (.tup [.int .i64 0, .int .i64 0, .int .i64 8]) := by
  have hbl := hb.len
  rcases c7v b with h | ⟨m, hm, h1, h2⟩
  · exact absurd h hr
  have h0' : ¬ (b.length : Int) = 0 := by omega
  refine a0d.intro b2Y b2X (Nat.le_of_ble_eq_true rfl) (cl3i _ _ _) fun H hH => ?_
  refine Safe.rg rfl ?_
  simp only [a7a, E3, seval]
  refine Safe.rg rfl ?_
  simp only [a6Z, E3, seval]
  refine Safe.lp rfl ?_
  refine Safe.keep [0, 5] ?_
  try simp only [E3, seval]
  refine Safe.loopN (m) (fun i => [(0, matV b), (5, .int .i64 i)]) (fun i => hap H []) rfl rfl (fun i hi ih => ?_) ?_
  · have hlt : (i : Int) < (b.length : Int) := by omega
    have he : (b[i].length : Int) = (b[0].length : Int) := by
      have := h2 i hi
      rw [a3v (by omega), a3v (by omega)] at this
      omega
    have hiw : IntKind.wrap .i64 ((i : Int) + 1) = ((i + 1 : Nat) : Int) := by rw [a0a] <;> omega
    refine Safe.inLoop ?_
    refine Safe.rg rfl ?_
    simp only [a2Q, hlt, E3, seval]
    refine Safe.cd rfl ?_
    simp only [E3, seval]
    refine Safe.rg rfl ?_
    simp only [a4p, a1W _ b _ i (by omega), a6u _ b _ (show 0 < b.length by omega), he, E3, seval]
    refine Safe.cd rfl ?_
    simp only [E3, seval]
    refine Safe.rg rfl ?_
    simp only [a6Y, hiw, E3, seval]
    refine Safe.keep [0, 5] ?_
    simp only [E3, seval]
    exact ih
  · have hlt : (m : Int) < (b.length : Int) := by omega
    have he : ¬ (b[m].length : Int) = (b[0].length : Int) := by
      rw [a3v hm, a3v (by omega)] at h1
      omega
    refine Safe.inLoop ?_
    refine Safe.rg rfl ?_
    simp only [a2Q, hlt, E3, seval]
    refine Safe.cd rfl ?_
    simp only [E3, seval]
    refine Safe.rg rfl ?_
    simp only [a4p, a1W _ b _ m hm, a6u _ b _ (show 0 < b.length by omega), he, E3, seval]
    refine Safe.cd rfl ?_
    simp only [E3, seval]
    refine Safe.rg rfl ?_
    simp only [b2W, E3, seval]
    refine Safe.rt rfl ?_
    simp only [one3, E3, seval]
    first | exact ⟨rfl, _, rfl⟩ | exact ⟨_, rfl⟩ | exact ⟨trivial, _, rfl⟩
end Go.Abs
namespace Go.Abs
theorem e8t {H L : Heap} {wd len lo hi mx : Nat} {X : List AV} {oc : Option Nat} {k k' k2 : IntKind} (h1 : lo ≤ hi) (h2 : hi ≤ mx) (h3 : mx ≤ len) :
    slcV (hap H (some ⟨wd, X⟩ :: L)) wd (.mu (lid H 0) 0 len oc) (some (.int k lo)) (some (.int k' hi)) (some (.int k2 mx)) = some (.mu (lid H 0) lo (hi - lo) (some (mx - lo))) := by
  simp only [slcV, a1k, a3C, List.getElem?_cons_zero, Option.join_some, Option.bind_some]
  rw [if_pos ⟨trivial, rfl, by omega, by omega, by omega, by omega⟩]
  simp
theorem Safe.drop2n {x : Cx} {todo : List AItem} {env : Env} {R : AV → Heap → Prop} {H : Heap} {a b c : Option Blk} (hH : a0F H) (hx : x.n0 = H.length) (he : env.all (fun p => nref (lid H 2) p.2) = true)
    (hL : ∀ r, some r ∈ [a, b] → ∀ v ∈ r.flat, nref (lid H 2) v = true) (h : Safe x todo env (hap H [a, b]) R) : Safe x todo env (hap H [a, b, c]) R := Safe.drop (L := [a, b]) hH hx he hL h
/-- The entries as they come, column after column. -/
def colF (b : List (List ZI)) (t : Nat) : Int := zg (mg b (t % b.length)) (t / b.length)
theorem e2n (b : List (List ZI)) {k i : Nat} (hi : i < b.length) : colF b (k * b.length + i) = zg (mg b i) k := by
  unfold colF
  rw [Nat.add_comm, Nat.add_mul_mod_self_right, Nat.mod_eq_of_lt hi, Nat.add_mul_div_right _ _ (by omega), Nat.div_eq_of_lt hi, Nat.zero_add]
def a0V (H : Heap) (n k : Nat) : List AV := (List.range k).map fun j => .mu (lid H 0) (j * n) n (some n)
theorem d8B (H : Heap) (n k : Nat) : a0V H n (k + 1) = a0V H n k ++ [.mu (lid H 0) (k * n) n (some n)] := by simp [a0V, List.range_succ]
theorem c7C (H : Heap) (n k : Nat) : (a0V H n k).flatMap AV.cells = a0V H n k := by
  unfold a0V
  induction (List.range k) with
  | nil => rfl
  | cons j l ih => rw [List.map_cons, List.flatMap_cons, ih]; rfl
theorem d3f {H : Heap} {n k : Nat} {a : AV} (h : a ∈ a0V H n k) : ∃ j, a = .mu (lid H 0) (j * n) n (some n) := by
  obtain ⟨j, _, rfl⟩ := List.mem_map.1 h; exact ⟨j, rfl⟩
theorem e0F (H : Heap) (b : List (List ZI)) : (a0V H b.length (wid b)).map (frz (lid H 0) ⟨2, (vec (wid b * b.length) (colF b)).map ZI.av⟩) = (a0q b).map vecV := by
  apply List.ext_getElem
  · simp [a0V, a0q, a0n]
  · intro j h1 h2
    have hj : j < wid b := by simpa [a0V] using h1
    have hle : (j + 1) * b.length ≤ wid b * b.length := Nat.mul_le_mul_right _ hj
    rw [Nat.succ_mul] at hle
    simp only [a0V, List.getElem_map, List.getElem_range, a0q, a8W]
    rw [b4I _ _ _ _ _ _ (by rw [List.length_map, a0f]; omega)]
    show AV.sl 2 _ = AV.sl 2 _
    congr 1
    apply List.ext_getElem
    · simp [a0f]; omega
    · intro i g1 g2
      have hi : i < b.length := by simpa [a0f] using g2
      simp only [List.getElem_take, List.getElem_drop, List.getElem_map, a3K, e2n b hi]
theorem d1B (b : List (List ZI)) (p : Nat) (hb : Mok p b) (hp : p ≤ 17592186044416) (hr : Rect b) : a0d Pr b9M [matV b] (.tup [matV (a0q b), .int .i64 0]) := by
  have hbl := hb.len
  have hwl := (hb.row 0).len
  rw [show (mg b 0).length = wid b from rfl] at hwl
  have hnm : b.length * wid b ≤ 2097152 * 2097152 := Nat.mul_le_mul hbl hwl
  have hcm : wid b * b.length = b.length * wid b := Nat.mul_comm _ _
  have hmw : IntKind.wrap .i64 ((b.length : Int) * (wid b : Int)) = ((b.length * wid b : Nat) : Int) := by
    rw [← Int.natCast_mul, a0a] <;> omega
  refine a0d.intro d5E d5B (Nat.le_of_ble_eq_true rfl) (a7m (a5E _) (.int _ _)) fun H hH => ?_
  refine Safe.rg rfl ?_
  simp only [c5H, E3, seval]
  refine Safe.rg rfl ?_
  simp only [c5G, E3, seval]
  first | refine (a7E b p hb hr).acall ?_ | refine (a7E b p hb hr).dcall ?_
  try simp only [E3, seval]
  refine Safe.rg rfl ?_
  simp only [c5F, E3, seval]
  refine Safe.cd rfl ?_
  simp only [E3, seval]
  refine Safe.rg rfl ?_
  simp only [c5E, hmw, e4b _ [] 2 32 _ _ _ (b.length * wid b) (by decide) (by omega) (by omega), E3, seval]
  refine Safe.rg rfl ?_
  simp only [c5D, E3, seval]
  refine Safe.nilrow 8 1 (by decide) (by simp only [E3, seval]) ?_
  refine Safe.rg rfl ?_
  simp only [c5C, E3, seval]
  refine Safe.lp rfl ?_
  refine Safe.keep [0, 4, 7, 8, 24, 25] ?_
  simp only [E3, seval]
  refine Safe.loopN (wid b) (fun k => [(0, matV b), (4, .int .i64 b.length), (7, .mu (lid H 0) 0 (k * b.length) (some (b.length * wid b))), (8, .mu (lid H 1) 0 k none), (24, .int .i64 (wid b)), (25, .int .i64 k)])
    (fun k => hap H [some ⟨2, (vec (k * b.length) (colF b)).map ZI.av⟩, some ⟨1, a0V H b.length k⟩]) (by simp only [Nat.zero_mul]; rfl) (by simp only [Nat.zero_mul]; rfl) (fun k hk ih => ?_) ?_
  · have hlt : (k : Int) < (wid b : Int) := by omega
    have hle : (k + 1) * b.length ≤ wid b * b.length := Nat.mul_le_mul_right _ hk
    rw [Nat.succ_mul] at hle ih
    have hiw : IntKind.wrap .i64 ((k : Int) + 1) = ((k + 1 : Nat) : Int) := by rw [a0a] <;> omega
    have hk0 : IntKind.wrap .i64 ((k : Int) * (b.length : Int)) = ((k * b.length : Nat) : Int) := by
      rw [← Int.natCast_mul, a0a] <;> omega
    have hk1 : IntKind.wrap .i64 (((k + 1 : Nat) : Int) * (b.length : Int)) = ((k * b.length + b.length : Nat) : Int) := by
      rw [← Int.natCast_mul, Nat.succ_mul, a0a] <;> omega
    refine Safe.inLoop ?_
    refine Safe.rg rfl ?_
    simp only [b4D, hlt, E3, seval]
    refine Safe.cd rfl ?_
    simp only [E3, seval]
    refine Safe.rg rfl ?_
    simp only [c5B, E3, seval]
    refine Safe.rg rfl ?_
    simp only [c5A, E3, seval]
    refine Safe.lp rfl ?_
    refine Safe.keep [0, 4, 7, 8, 9, 24, 25, 28, 29] ?_
    simp only [E3, seval]
    refine Safe.loopN b.length (fun i => [(0, matV b), (4, .int .i64 b.length), (7, .mu (lid H 0) 0 (k * b.length + i) (some (b.length * wid b))), (8, .mu (lid H 1) 0 k none), (9, .int .i64 k), (24, .int .i64 (wid b)), (25, .int .i64 k), (28, .int .i64 b.length), (29, .int .i64 i)])
      (fun i => hap H [some ⟨2, (vec (k * b.length + i) (colF b)).map ZI.av⟩, some ⟨1, a0V H b.length k⟩]) rfl rfl (fun i hi ih2 => ?_) ?_
    · have hlt2 : (i : Int) < (b.length : Int) := by omega
      have hjw : IntKind.wrap .i64 ((i : Int) + 1) = ((i + 1 : Nat) : Int) := by rw [a0a] <;> omega
      have hri := e8D hr hi
      have hf := d7Y b[i][k] (((hb.get hi).get (by omega)).mono hp)
      rw [mgz hi (by omega), ← e2n b hi] at hf
      refine Safe.inLoop ?_
      refine Safe.rg rfl ?_
      simp only [b0U, hlt2, E3, seval]
      refine Safe.cd rfl ?_
      simp only [E3, seval]
      refine Safe.rg rfl ?_
      simp only [c2q, E3, seval]
      refine Safe.rg rfl ?_
      simp only [c2p, a1W _ b _ i hi, a1h _ b[i] _ k (by omega), E3, seval]
      first | refine (hf).acall ?_ | refine (hf).dcall ?_
      try simp only [E3, seval]
      rw [e5o (H := H) 0 (a1q H 0) (f := ZI.av) (vec (k * b.length + i) (colF b)) (canZ (colF b (k * b.length + i))) (vec (k * b.length + i + 1) (colF b)) ?hlen ?hl ?hy ?hl2 ?hc]
      case hlen => first | rfl | (simp only [a0f, a0n, List.length_map, List.length_take]; done) | (simp only [a0f, a0n, List.length_map, List.length_take]; omega)
      case hl => rfl
      case hy => rfl
      case hl2 => first | exact c3p _ _ | exact b7s _ _ | exact c4e _ (by omega) | exact a7Y _ _ (by omega)
      case hc => omega
      simp only [E3, seval]
      refine Safe.rg rfl ?_
      simp only [c2o, hjw, E3, seval]
      refine Safe.keep [0, 4, 7, 8, 9, 24, 25, 28, 29] ?_
      simp only [E3, seval]
      exact ih2
    · refine Safe.inLoop ?_
      refine Safe.rg rfl ?_
      simp only [b0U, Int.lt_irrefl, E3, seval]
      refine Safe.cd rfl ?_
      simp only [E3, seval]
      have hsub : k * b.length + b.length - k * b.length = b.length := by omega
      have happ : ∀ env, appV H.length 1 24 false (.mu (lid H 1) 0 k none) (.mu (lid H 2) 0 1 (some 1)) env (hap H [some ⟨2, (vec (k * b.length + b.length) (colF b)).map ZI.av⟩, some ⟨1, a0V H b.length k⟩, some ⟨1, [.mu (lid H 0) (k * b.length) b.length (some b.length)]⟩]) =
          some (.mu (lid H 1) 0 (k + 1) none, scrub (lid H 1) env, hap H [some ⟨2, (vec (k * b.length + b.length) (colF b)).map ZI.av⟩, some ⟨1, a0V H b.length (k + 1)⟩, some ⟨1, [.mu (lid H 0) (k * b.length) b.length (some b.length)]⟩]) := by
        intro env
        have h01 : lid H 0 ≠ lid H 1 := by simp [lid]
        have := b1Z H.length env H [some ⟨2, (vec (k * b.length + b.length) (colF b)).map ZI.av⟩, some ⟨1, a0V H b.length k⟩, some ⟨1, [.mu (lid H 0) (k * b.length) b.length (some b.length)]⟩] 1 24 false 1 k none (.mu (lid H 2) 0 1 (some 1)) (a0V H b.length k) [.mu (lid H 0) (k * b.length) b.length (some b.length)] hH rfl (by simp [a0V]) (a1q H 1)
          (d1E H _ 1 2 0 1 (some 1) [.mu (lid H 0) (k * b.length) b.length (some b.length)] rfl (Nat.le_refl _)) (by
            intro j r hj a ha
            match j with
            | 0 => cases hj; exact (a1H 2 ZI.av _ ZI.cl a ha).ref
            | 1 =>
              cases hj
              rw [show (Blk.mk 1 (a0V H b.length k)).flat = _ from c7C H b.length k] at ha
              obtain ⟨j, rfl⟩ := d3f ha
              exact .mu _ _ _ _ h01
            | 2 =>
              cases hj
              simp [Blk.flat, AV.cells] at ha
              subst ha
              exact .mu _ _ _ _ h01
            | j + 3 => simp at hj) (by
            intro a ha
            simp [AV.cells] at ha
            subst ha
            exact .mu _ _ _ _ h01) (by simp; omega) (by simp; omega) rfl
        simp only [a1s, Option.bind_none, List.length_cons, List.length_nil, Nat.zero_add, List.set_cons_succ, List.set_cons_zero, ← d8B] at this
        exact this
      refine Safe.rg rfl ?_
      simp only [c2n, hk0, hiw, hk1, e8t (Nat.le_add_right (k * b.length) b.length) (Nat.le_refl _) (Nat.le_refl _), hsub, happ, E3, seval]
      refine Safe.rg rfl ?_
      simp only [c2m, hiw, E3, seval]
      refine Safe.keep [0, 4, 7, 8, 24, 25] ?_
      simp only [E3, seval]
      refine Safe.drop2n hH rfl (by simp only [E3, seval]) (by
        intro r hr v hv
        simp only [List.mem_cons, Option.some.injEq, List.not_mem_nil, or_false] at hr
        rcases hr with rfl | rfl
        · exact a1z (a1H 2 ZI.av _ ZI.cl v hv)
        · rw [show (Blk.mk 1 (a0V H b.length (k + 1))).flat = _ from c7C H b.length (k + 1)] at hv
          obtain ⟨j, rfl⟩ := d3f hv
          simp only [E3, seval]) ?_
      exact ih
  · refine Safe.inLoop ?_
    refine Safe.rg rfl ?_
    simp only [b4D, Int.lt_irrefl, E3, seval]
    refine Safe.cd rfl ?_
    simp only [E3, seval]
    refine Safe.freeze 0 hH rfl rfl (a1H 2 ZI.av _ ZI.cl) ?_
    refine Safe.keep [8] ?_
    simp only [a2x, e0F, E3, seval]
    refine Safe.freeze 1 hH rfl rfl (a1H 1 vecV _ a0g) ?_
    refine Safe.keep [8] ?_
    simp only [d0L H 1 (a0q b) (wid b) none (by simp only [a0q, a0n]), E3, seval]
    refine Safe.rg rfl ?_
    simp only [c2l, E3, seval]
    refine Safe.rt rfl ?_
    simp only [E3, seval]
    first | exact ⟨rfl, _, rfl⟩ | exact ⟨_, rfl⟩ | exact ⟨trivial, _, rfl⟩
end Go.Abs

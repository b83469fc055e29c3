/- Part 5 of the proof of ElimProducts: W1, W2, W3, W4, W5, W6, W7, W8, W9, W10, W11, W14, W15, W16, W18, W19. -/
import Derived.Test.YtkljokmnimblnaaElimProductsK4
set_option linter.unusedVariables false
set_option linter.unusedSimpArgs false
namespace Go.Abs
theorem trim_pure (l : List Nat) (hl : Lim l) (hb : l.length ≤ 17592186044416) : PureC Pr F_nat_trim [natV l] (natV (limbs (val l))) := by
  refine PureC.intro nat_trim_fn nat_trim_ok (by simp only [List.length_cons, List.length_nil]; omega) (natV_cl _) fun H hH => ?_
  refine Safe.seq (Safe.region ?_)
  simp only [nat_trim_r0, E1, seval]
  refine Safe.seq (Safe.block (Safe.loop ?_))
  refine Safe.keep [0] ?_
  simp only [E1, seval]
  generalize hv : val l = v
  have stop : ∀ (l : List Nat) (ts : Env), Lim l → val l = v → (l.getLast?).getD 1 ≠ 0 → look ts 0 = natV l → Safe ⟨Pr, fun _ _ => false, F_nat_trim, 21, [.tmp 2], H.length⟩ [.code ((ACode.region nat_trim_r3 false).seq ACode.ret)] ts (hap H []) fun r' H' => r' = natV (limbs v) ∧ ∃ L, H' = hap H L := by
    intro l ts hl hv hn h0
    refine Safe.seq (Safe.region ?_)
    simp only [nat_trim_r3, E1, seval, h0]
    refine Safe.retn ?_
    simp only [E1, seval]
    rw [← hv, limbs_val hl hn]
    exact ⟨rfl, [], rfl⟩
  induction hn : l.length using Nat.strongRecOn generalizing l with
  | _ n ih =>
  refine Safe.inLoop (Safe.seq (Safe.seq (Safe.region ?_)))
  rcases List.eq_nil_or_concat l with rfl | ⟨l', d, rfl⟩
  · simp only [nat_trim_r1, E1, seval, natV_len, Int.natCast_zero, Int.lt_irrefl]
    refine Safe.cond ?_
    simp only [E1, seval]
    refine Safe.exit rfl ?_
    exact stop [] _ hl hv (by simp) (by simp only [E1, seval])
  · simp only [List.concat_eq_append] at *
    have hlen : (l' ++ [d]).length = l'.length + 1 := by simp
    have h0 : (0 : Int) < ((l' ++ [d]).length : Int) := by omega
    have hw : IntKind.i64.wrap (((l' ++ [d]).length : Int) - 1) = (l'.length : Int) := by rw [hlen, wrap_i64] <;> omega
    have hg : (l' ++ [d]).getD l'.length 0 = d := by simp
    simp only [nat_trim_r1, E1, seval, natV_len, h0, hw, natV_idx _ (l' ++ [d]) _ l'.length (by omega), hg]
    refine Safe.cond ?_
    simp only [E1, seval]
    by_cases hd : d = 0
    · subst hd
      simp only [Int.natCast_zero, E1, seval]
      refine Safe.skip (Safe.block (Safe.region ?_))
      simp only [nat_trim_r2, E1, seval, natV_len, hw, natV_slc _ (l' ++ [0]) _ l'.length (by omega)]
      refine Safe.inBlock (Safe.keep [0] ?_)
      simp only [E1, seval, List.take_left']
      exact ih l'.length (by omega) l' (lim_append.1 hl).1 (by omega) (by rw [← hv, val_trim0]) rfl
    · have : ¬ ((d : Int) = 0) := by omega
      simp only [this, E1, seval]
      refine Safe.exit rfl ?_
      exact stop (l' ++ [d]) _ hl hv (by simpa using hd) (by simp only [E1, seval])
theorem norm_pure (l : List Nat) (hl : Nt l) : PureC Pr F_nat_Norm [natV l] (natV (limbs (val l))) := by
  refine PureC.intro nat_Norm_fn nat_Norm_ok (by simp only [List.length_cons, List.length_nil]; omega) (natV_cl _) fun H hH => ?_
  refine Safe.seq (Safe.region ?_)
  simp only [nat_Norm_r0, E1, seval]
  refine Safe.seq (Safe.region ?_)
  simp only [nat_Norm_r1, E1, seval]
  refine (trim_pure l hl.lim hl.len).acall ?_
  simp only [E1, seval, app_nil_nat _ _ H [] _ hl.limbs.len]
  refine Safe.freeze 0 (b := ⟨1, u32s (limbs (val l))⟩) hH rfl rfl (blk_u32 _) ?_
  refine Safe.retn ?_
  simp only [E1, seval]
  first | exact ⟨rfl, _, rfl⟩ | exact ⟨_, rfl⟩ | exact ⟨trivial, _, rfl⟩
def cmpI (a b : Nat) : Int := if a < b then -1 else if b < a then 1 else 0
theorem val_lt_len {a b : Nat} (h : (limbs a).length < (limbs b).length) : a < b := by
  have h1 : limbs b ≠ [] := by intro h0; rw [h0] at h; simp at h
  have := limbs_len_gt h1
  have h2 := val_lt (lim_limbs a)
  rw [val_limbs] at h2
  have h3 : LB ^ (limbs a).length ≤ LB ^ ((limbs b).length - 1) := Nat.pow_le_pow_right (by decide) (by omega)
  omega
theorem natcmp_pure (a b : List Nat) (ha : Nt a) (hb : Nt b) : PureC Pr F_nat_Cmp [natV a, natV b] (.int .i64 (cmpI (val a) (val b))) := by
  refine PureC.intro nat_Cmp_fn nat_Cmp_ok (by simp only [List.length_cons, List.length_nil]; omega) (.int _ _) fun H hH => ?_
  refine Safe.seq (Safe.region ?_)
  simp only [nat_Cmp_r0, E1, seval]
  refine Safe.seq (Safe.region ?_)
  simp only [nat_Cmp_r1, E1, seval]
  refine (trim_pure a ha.lim ha.len).acall ?_
  try simp only [E1, seval]
  refine (trim_pure b hb.lim hb.len).acall ?_
  try simp only [E1, seval]
  have na := ha.limbs
  have nb := hb.limbs
  have va := val_limbs (val a)
  have vb := val_limbs (val b)
  generalize hA : limbs (val a) = A at na va ⊢
  generalize hB : limbs (val b) = B at nb vb ⊢
  refine Safe.keep [0, 1] (Safe.seq (Safe.seq (Safe.region ?_)))
  simp only [nat_Cmp_r2, E1, seval, natV_len]
  refine Safe.cond ?_
  simp only [E1, seval]
  by_cases hlen : A.length = B.length
  · have : ((A.length : Int) = B.length) := by omega
    simp only [this, E1, seval]
    refine Safe.skip (Safe.seq (Safe.seq (Safe.region ?_)))
    simp only [nat_Cmp_r6, E1, seval, natV_len]
    refine Safe.block (Safe.loop ?_)
    have key : ∀ n, n ≤ A.length → A.drop n = B.drop n → Safe ⟨Pr, fun _ _ => false, F_nat_Cmp, 45, [.tmp 4], H.length⟩ [.inLoop nat_Cmp_l0, .inBlock 0, .code ((ACode.region nat_Cmp_r13 false).seq .ret)]
        [(0, natV A), (1, natV B), (5, .int .i64 ((n : Int) - 1))] (hap H []) fun r' H' => r' = .int .i64 (cmpI (val a) (val b)) ∧ ∃ L, H' = hap H L := by
      intro n
      induction n with
      | zero =>
        intro _ hd
        refine Safe.inLoop (Safe.seq (Safe.seq (Safe.region ?_)))
        simp only [nat_Cmp_r7, E1, seval]
        refine Safe.cond ?_
        simp only [E1, seval, show ¬ ((0 : Int) ≤ ((0 : Nat) : Int) - 1) by omega]
        refine Safe.exit rfl (Safe.seq (Safe.region ?_))
        simp only [nat_Cmp_r13, E1, seval]
        refine Safe.retn ?_
        simp only [E1, seval]
        have : val a = val b := by
          simp only [List.drop_zero] at hd
          rw [← va, ← vb, hd]
        refine ⟨?_, [], rfl⟩
        simp [cmpI, this]
      | succ m ih =>
        intro hm hd
        refine Safe.inLoop (Safe.seq (Safe.seq (Safe.region ?_)))
        simp only [nat_Cmp_r7, E1, seval]
        refine Safe.cond ?_
        have e1 : ((m + 1 : Nat) : Int) - 1 = (m : Int) := by omega
        simp only [E1, seval, e1, Int.natCast_nonneg]
        refine Safe.skip (Safe.seq (Safe.block (Safe.seq (Safe.regionD ?_))))
        simp only [nat_Cmp_r8, E1, seval, natV_idx _ A _ m (by omega), natV_idx _ B _ m (by omega)]
        refine Safe.cond ?_
        simp only [E1, seval]
        by_cases hq : A.getD m 0 = B.getD m 0
        · simp only [hq, E1, seval]
          refine Safe.skip (Safe.inBlock (Safe.region ?_))
          simp only [nat_Cmp_r12, E1, seval]
          refine Safe.keep [0, 1, 5] ?_
          have := na.len
          simp only [E1, seval, wrap_i64 (n := (m : Int) - 1) (by omega) (by omega)]
          refine ih (by omega) ?_
          rw [List.drop_eq_getElem_cons (by omega), List.drop_eq_getElem_cons (l := B) (by omega), hd]
          simp only [List.getD_eq_getElem?_getD, List.getElem?_eq_getElem (show m < A.length by omega), List.getElem?_eq_getElem (show m < B.length by omega), Option.getD_some] at hq
          rw [hq]
        · have hq' : ¬ ((A.getD m 0 : Nat) : Int) = ((B.getD m 0 : Nat) : Int) := by omega
          simp only [hq', E1, seval]
          refine Safe.seq (Safe.seq (Safe.regionD ?_))
          simp only [nat_Cmp_r9, E1, seval, natV_idx _ A _ m (by omega), natV_idx _ B _ m (by omega)]
          refine Safe.cond ?_
          simp only [E1, seval]
          by_cases hlt : A.getD m 0 < B.getD m 0
          · have hlt' : ((A.getD m 0 : Nat) : Int) < ((B.getD m 0 : Nat) : Int) := by omega
            simp only [hlt', E1, seval]
            refine Safe.seq (Safe.region ?_)
            simp only [nat_Cmp_r10, E1, seval]
            refine Safe.retn ?_
            simp only [E1, seval]
            have := val_lt_of_top na.lim nb.lim hd (by omega) (by omega) hlen hlt
            refine ⟨?_, [], rfl⟩
            rw [← va, ← vb]; simp [cmpI, this]
          · have hlt' : ¬ ((A.getD m 0 : Nat) : Int) < ((B.getD m 0 : Nat) : Int) := by omega
            simp only [hlt', E1, seval]
            refine Safe.skip (Safe.seq (Safe.region ?_))
            simp only [nat_Cmp_r11, E1, seval]
            refine Safe.retn ?_
            simp only [E1, seval]
            have := val_lt_of_top nb.lim na.lim hd.symm (by omega) (by omega) hlen.symm (show B.getD m 0 < A.getD m 0 by omega)
            refine ⟨?_, [], rfl⟩
            rw [← va, ← vb]; simp [cmpI, this, Nat.lt_asymm this]
    refine Safe.keep [0, 1, 5] ?_
    have := na.len
    have hk := key A.length (Nat.le_refl _) (by rw [List.drop_length, hlen, List.drop_length])
    simp only [E1, seval, ← hlen, wrap_i64 (n := (A.length : Int) - 1) (by omega) (by omega)]
    exact hk
  · have : ¬ ((A.length : Int) = B.length) := by omega
    simp only [this, E1, seval]
    refine Safe.seq (Safe.seq (Safe.region ?_))
    simp only [nat_Cmp_r3, E1, seval, natV_len]
    refine Safe.cond ?_
    simp only [E1, seval]
    by_cases hlt : A.length < B.length
    · have hlt' : ((A.length : Int) < B.length) := by omega
      simp only [hlt', E1, seval]
      refine Safe.seq (Safe.region ?_)
      simp only [nat_Cmp_r4, E1, seval]
      refine Safe.retn ?_
      simp only [E1, seval]
      have : val a < val b := val_lt_len (by rw [hA, hB]; exact hlt)
      refine ⟨?_, [], rfl⟩
      simp [cmpI, this]
    · have hlt' : ¬ ((A.length : Int) < B.length) := by omega
      simp only [hlt', E1, seval]
      refine Safe.skip (Safe.seq (Safe.region ?_))
      simp only [nat_Cmp_r5, E1, seval]
      refine Safe.retn ?_
      simp only [E1, seval]
      have : val b < val a := val_lt_len (by rw [hA, hB]; omega)
      refine ⟨?_, [], rfl⟩
      simp [cmpI, this, Nat.lt_asymm this]
theorem len32_pure (n : Nat) (h : n < 4294967296) : PureC Pr F_math_bits_Len32 [.int .u32 n] (.int .i64 (blen n)) := by
  refine PureC.intro math_bits_Len32_fn math_bits_Len32_ok (by simp only [List.length_cons, List.length_nil]; omega) (.int _ _) fun H hH => ?_
  refine Safe.seq (Safe.region ?_)
  simp only [math_bits_Len32_r0, E1, Nat.reduceAdd, Nat.reduceEqDiff, reduceCtorEq, ↓reduceIte]
  have stop : ∀ (m s : Nat) (env : Env), m < 256 → s ≤ 24 → look env 0 = .int .u32 m → look env 2 = .int .i64 s → s + blen m = blen n → Safe ⟨Pr, fun _ _ => false, F_math_bits_Len32, 19, [.tmp 2], H.length⟩ [.code ((ACode.region math_bits_Len32_r7 false).seq .ret)] env (hap H [])
      fun r' H' => r' = .int .i64 (blen n) ∧ ∃ L, H' = hap H L := by
    intro m s env hm hs h0 h2 hb
    refine Safe.seq (Safe.region ?_)
    have hw : IntKind.wrap .u8 (m : Int) = m := by simp [IntKind.wrap, IntKind.bits, IntKind.signed]; omega
    simp only [math_bits_Len32_r7, E1, Nat.reduceAdd, Nat.reduceEqDiff, reduceCtorEq, ↓reduceIte, h0, h2, hw, binV_add]
    have tab : ∀ m : Fin 256, str_0.data.toList.getD m.val 0 = UInt8.ofNat (blen m.val) ∧ blen m.val ≤ 8 := by decide +kernel
    have ht : str_0.data.toList.getD m 0 = UInt8.ofNat (blen m) ∧ blen m ≤ 8 := tab ⟨m, hm⟩
    have hsz : str_0.size = 256 := by decide +kernel
    rw [if_pos (by rw [hsz]; omega)]
    simp only [Int.toNat_natCast, ht.1, E1, Nat.reduceAdd, Nat.reduceEqDiff, reduceCtorEq, ↓reduceIte]
    have h8 : ((UInt8.ofNat (blen m)).toNat : Nat) = blen m := by
      have := ht.2
      simp [UInt8.toNat_ofNat']; omega
    refine Safe.retn ?_
    have := ht.2
    simp only [E1, Nat.reduceAdd, Nat.reduceEqDiff, reduceCtorEq, ↓reduceIte, h8, wrap_i64 (n := (blen m : Int)) (by omega) (by omega)]
    rw [wrap_i64 (by omega) (by omega)]
    exact ⟨by rw [← hb]; rfl, [], rfl⟩
  have mid : ∀ (m s : Nat) (env : Env), m < 65536 → s ≤ 16 → look env 0 = .int .u32 m → look env 2 = .int .i64 s → s + blen m = blen n → Safe ⟨Pr, fun _ _ => false, F_math_bits_Len32, 19, [.tmp 2], H.length⟩
      [.code ((((ACode.region math_bits_Len32_r4 false).seq (.cond (.t 8) ((ACode.region math_bits_Len32_r5 false).seq (.region math_bits_Len32_r6 false)) .skip)).seq ((ACode.region math_bits_Len32_r7 false).seq .ret)))] env (hap H [])
      fun r' H' => r' = .int .i64 (blen n) ∧ ∃ L, H' = hap H L := by
    intro m s env hm hs h0 h2 hb
    refine Safe.seq (Safe.seq (Safe.region ?_))
    simp only [math_bits_Len32_r4, E1, Nat.reduceAdd, Nat.reduceEqDiff, reduceCtorEq, ↓reduceIte, h0]
    refine Safe.cond ?_
    simp only [E1, Nat.reduceAdd, Nat.reduceEqDiff, reduceCtorEq, ↓reduceIte]
    by_cases hc : 256 ≤ m
    · have hc' : (256 : Int) ≤ (m : Int) := by omega
      simp only [hc', E1, Nat.reduceAdd, Nat.reduceEqDiff, reduceCtorEq, ↓reduceIte]
      refine Safe.seq (Safe.region ?_)
      simp only [math_bits_Len32_r5, E1, Nat.reduceAdd, Nat.reduceEqDiff, reduceCtorEq, ↓reduceIte, h0, shBin_shr _ _ _ (show (0 : Int) ≤ 8 by decide)]
      refine Safe.region ?_
      simp only [math_bits_Len32_r6, E1, Nat.reduceAdd, Nat.reduceEqDiff, reduceCtorEq, ↓reduceIte, h2]
      have e1 : Int.fdiv (m : Int) (2 ^ min (Int.toNat 8) IntKind.u32.bits) = ((m / 256 : Nat) : Int) := by
        rw [show (2 : Int) ^ min (Int.toNat 8) IntKind.u32.bits = 256 by decide, Int.fdiv_eq_ediv_of_nonneg _ (by decide)]; omega
      have e2 : IntKind.wrap .i64 ((s : Int) + 8) = ((s + 8 : Nat) : Int) := by rw [wrap_i64] <;> omega
      refine stop (m / 256) (s + 8) _ (by omega) (by omega) (by simp only [E1, Nat.reduceAdd, Nat.reduceEqDiff, reduceCtorEq, ↓reduceIte, e1]) (by simp only [E1, Nat.reduceAdd, Nat.reduceEqDiff, reduceCtorEq, ↓reduceIte, e2]) ?_
      have := blen_div (n := m) (k := 8) (by omega)
      simp only [Nat.reducePow] at this
      omega
    · have hc' : ¬ (256 : Int) ≤ (m : Int) := by omega
      simp only [hc', E1, Nat.reduceAdd, Nat.reduceEqDiff, reduceCtorEq, ↓reduceIte]
      exact Safe.skip (stop m s _ (by omega) (by omega) (by simp only [E1, Nat.reduceAdd, Nat.reduceEqDiff, reduceCtorEq, ↓reduceIte, h0]) (by simp only [E1, Nat.reduceAdd, Nat.reduceEqDiff, reduceCtorEq, ↓reduceIte, h2]) hb)
  refine Safe.seq (Safe.seq (Safe.region ?_))
  simp only [math_bits_Len32_r1, E1, Nat.reduceAdd, Nat.reduceEqDiff, reduceCtorEq, ↓reduceIte]
  refine Safe.cond ?_
  simp only [E1, Nat.reduceAdd, Nat.reduceEqDiff, reduceCtorEq, ↓reduceIte]
  by_cases hc : 65536 ≤ n
  · have hc' : (65536 : Int) ≤ (n : Int) := by omega
    simp only [hc', E1, Nat.reduceAdd, Nat.reduceEqDiff, reduceCtorEq, ↓reduceIte]
    refine Safe.seq (Safe.region ?_)
    simp only [math_bits_Len32_r2, E1, Nat.reduceAdd, Nat.reduceEqDiff, reduceCtorEq, ↓reduceIte, shBin_shr _ _ _ (show (0 : Int) ≤ 16 by decide)]
    refine Safe.region ?_
    simp only [math_bits_Len32_r3, E1, Nat.reduceAdd, Nat.reduceEqDiff, reduceCtorEq, ↓reduceIte]
    have e1 : Int.fdiv (n : Int) (2 ^ min (Int.toNat 16) IntKind.u32.bits) = ((n / 65536 : Nat) : Int) := by
      rw [show (2 : Int) ^ min (Int.toNat 16) IntKind.u32.bits = 65536 by decide, Int.fdiv_eq_ediv_of_nonneg _ (by decide)]; omega
    refine mid (n / 65536) 16 _ (by omega) (by omega) (by simp only [E1, Nat.reduceAdd, Nat.reduceEqDiff, reduceCtorEq, ↓reduceIte, e1]) (by simp only [E1, Nat.reduceAdd, Nat.reduceEqDiff, reduceCtorEq, ↓reduceIte]; rfl) ?_
    have := blen_div (n := n) (k := 16) (by omega)
    simp only [Nat.reducePow] at this
    omega
  · have hc' : ¬ (65536 : Int) ≤ (n : Int) := by omega
    simp only [hc', E1, Nat.reduceAdd, Nat.reduceEqDiff, reduceCtorEq, ↓reduceIte]
    exact Safe.skip (mid n 0 _ (by omega) (by omega) (by simp only [E1, Nat.reduceAdd, Nat.reduceEqDiff, reduceCtorEq, ↓reduceIte]) (by simp only [E1, Nat.reduceAdd, Nat.reduceEqDiff, reduceCtorEq, ↓reduceIte]; rfl) (by omega))
theorem natbits_pure (l : List Nat) (hl : Nt l) : PureC Pr F_nat_Bits [natV l] (.int .i64 (blen (val l))) := by
  refine PureC.intro nat_Bits_fn nat_Bits_ok (by simp only [List.length_cons, List.length_nil]; omega) (.int _ _) fun H hH => ?_
  refine Safe.seq (Safe.region ?_)
  simp only [nat_Bits_r0, E1, seval]
  refine Safe.seq (Safe.region ?_)
  simp only [nat_Bits_r1, E1, seval]
  refine (trim_pure l hl.lim hl.len).acall ?_
  try simp only [E1, seval]
  have nl := hl.limbs
  have vl := val_limbs (val l)
  have hlast := limbs_last (val l)
  generalize hA : limbs (val l) = A at nl vl hlast ⊢
  refine Safe.keep [0] (Safe.seq (Safe.seq (Safe.region ?_)))
  simp only [nat_Bits_r2, E1, seval]
  refine Safe.cond ?_
  simp only [E1, seval]
  rcases List.eq_nil_or_concat A with rfl | ⟨A', d, rfl⟩
  · simp only [E1, seval, Int.natCast_zero]
    refine Safe.seq (Safe.region ?_)
    simp only [nat_Bits_r3, E1, seval]
    refine Safe.retn ?_
    simp only [E1, seval]
    rw [← vl]
    exact ⟨rfl, [], rfl⟩
  · simp only [List.concat_eq_append] at *
    have hlen : (A' ++ [d]).length = A'.length + 1 := by simp
    have hn0 : ¬ (((A' ++ [d]).length : Int) = 0) := by omega
    have hg : (A' ++ [d]).getD A'.length 0 = d := by simp
    have hd : d ≠ 0 := by simpa using hlast
    have hlt : d < 4294967296 := nl.lim d (by simp)
    have := nl.len
    have hw : IntKind.i64.wrap (((A' ++ [d]).length : Int) - 1) = (A'.length : Int) := by rw [hlen, wrap_i64] <;> omega
    simp only [hn0, E1, seval]
    refine Safe.skip (Safe.seq (Safe.region ?_))
    simp only [nat_Bits_r4, E1, seval, hw, natV_idx _ (A' ++ [d]) _ A'.length (by omega), hg]
    refine (len32_pure d hlt).acall ?_
    simp only [E1, seval]
    refine Safe.retn ?_
    simp only [E1, seval]
    have hb : blen d ≤ 32 := by
      rcases Nat.lt_or_ge 32 (blen d) with h | h
      · have := blen_ge hd
        have := Nat.pow_le_pow_right (show 0 < 2 by decide) (show 32 ≤ blen d - 1 by omega)
        omega
      · exact h
    rw [wrap_i64 (n := 32 * (A'.length : Int)) (by omega) (by omega), wrap_i64 (by omega) (by omega)]
    refine ⟨?_, [], rfl⟩
    rw [← vl, blen_limbs (lim_append.1 nl.lim).1 hd]
    congr 1
theorem natadd_pure (a b : List Nat) (la : Lim a) (lb : Lim b) (ha : a.length < 17592186044416) (hb : b.length < 17592186044416) : PureC Pr F_nat_Add [natV a, natV b] (natV (limbs (val a + val b))) := by
  refine PureC.intro nat_Add_fn nat_Add_ok (by simp only [List.length_cons, List.length_nil]; omega) (natV_cl _) fun H hH => ?_
  refine Safe.seq (Safe.region ?_)
  have hLB : LB = 4294967296 := rfl
  simp only [nat_Add_r0, E1, Nat.reduceAdd, Nat.reduceEqDiff, reduceCtorEq, ↓reduceIte]
  have main : ∀ (a b : List Nat) (env : Env) (s : Nat), Lim a → Lim b → b.length ≤ a.length → a.length < 17592186044416 → val a + val b = s → look env 0 = natV a → look env 1 = natV b →
      Safe ⟨Pr, fun _ _ => false, F_nat_Add, 58, [.tmp 4], H.length⟩ [.code ((ACode.region nat_Add_r3 false).seq ((ACode.region nat_Add_r4 false).seq (((ACode.region nat_Add_r5 false).seq (.block 0 (.loop nat_Add_l0))).seq ((ACode.region nat_Add_r14 false).seq ((ACode.region nat_Add_r15 false).seq .ret)))))]
        env (hap H []) fun r' H' => r' = natV (limbs s) ∧ ∃ L, H' = hap H L := by
    intro a b env s la lb hle ha hs h0 h1
    refine Safe.seq (Safe.region ?_)
    have hw : IntKind.wrap .i64 ((a.length : Int) + 1) = ((a.length + 1 : Nat) : Int) := by rw [wrap_i64] <;> omega
    simp only [nat_Add_r3, E1, Nat.reduceAdd, Nat.reduceEqDiff, reduceCtorEq, ↓reduceIte, h0, hw, mksl_nat _ H [] _ _ (a.length + 1) (by omega)]
    refine Safe.seq (Safe.region ?_)
    simp only [nat_Add_r4, E1, Nat.reduceAdd, Nat.reduceEqDiff, reduceCtorEq, ↓reduceIte]
    refine Safe.seq (Safe.seq (Safe.region ?_))
    simp only [nat_Add_r5, E1, Nat.reduceAdd, Nat.reduceEqDiff, reduceCtorEq, ↓reduceIte, h0]
    refine Safe.block (Safe.loop ?_)
    have key : ∀ (k i c : Nat) (x : List Nat), i + k = a.length → x.length = i → Lim x → c ≤ 1 → val x + LB ^ i * c = val (a.take i) + val (b.take i) →
        Safe ⟨Pr, fun _ _ => false, F_nat_Add, 58, [.tmp 4], H.length⟩ [.inLoop nat_Add_l0, .inBlock 0, .code ((ACode.region nat_Add_r14 false).seq ((ACode.region nat_Add_r15 false).seq .ret))]
          [(0, natV a), (1, natV b), (5, .mu (lid H 0) 0 (a.length + 1) (some (a.length + 1))), (6, .int .u64 c), (20, .int .i64 a.length), (21, .int .i64 i)]
          (hap H [some ⟨1, u32s (x ++ List.replicate (k + 1) 0)⟩]) fun r' H' => r' = natV (limbs s) ∧ ∃ L, H' = hap H L := by
      intro k
      induction k with
      | zero =>
        intro i c x hik hx lx hc hv
        have hi : i = a.length := by omega
        subst hi
        refine Safe.inLoop (Safe.seq (Safe.region ?_))
        simp only [nat_Add_r6, E1, Nat.reduceAdd, Nat.reduceEqDiff, reduceCtorEq, ↓reduceIte]
        refine Safe.seq (Safe.cond ?_)
        simp only [E1, Nat.reduceAdd, Nat.reduceEqDiff, reduceCtorEq, ↓reduceIte, Int.lt_irrefl]
        refine Safe.exit rfl (Safe.seq (Safe.region ?_))
        have hcw : IntKind.wrap .u32 (c : Int) = (c : Int) := wrap_u32 (by omega) (by omega)
        simp only [nat_Add_r14, E1, Nat.reduceAdd, Nat.reduceEqDiff, reduceCtorEq, ↓reduceIte, one_idx _ _ _ _ _ _ a.length (Nat.lt_succ_self _), hcw, one_st _ _ _ a.length c (show a.length < (x ++ List.replicate (0 + 1) 0).length by simp [hx])]
        rw [← hx, set_rep, hx]
        simp only [List.replicate_zero, List.append_nil]
        have hlen : a.length + 1 = (x ++ [c]).length := by simp [hx]
        refine Safe.freeze 0 (b := ⟨1, u32s (x ++ [c])⟩) hH rfl rfl (blk_u32 _) ?_
        refine Safe.seq (Safe.region ?_)
        simp only [nat_Add_r15, E1, Nat.reduceAdd, Nat.reduceEqDiff, reduceCtorEq, ↓reduceIte, hlen]
        refine (trim_pure (x ++ [c]) (val_snoc_lim lx (by omega)) (by omega)).acall ?_
        try simp only [E1, Nat.reduceAdd, Nat.reduceEqDiff, reduceCtorEq, ↓reduceIte]
        refine Safe.retn ?_
        simp only [E1, Nat.reduceAdd, Nat.reduceEqDiff, reduceCtorEq, ↓reduceIte]
        rw [List.take_length, List.take_of_length_le hle] at hv
        rw [val_snoc, hx, hv, hs]
        first | exact ⟨rfl, _, rfl⟩ | exact ⟨_, rfl⟩ | exact ⟨trivial, _, rfl⟩
      | succ k ih =>
        intro i c x hik hx lx hc hv
        refine Safe.inLoop (Safe.seq (Safe.region ?_))
        simp only [nat_Add_r6, E1, Nat.reduceAdd, Nat.reduceEqDiff, reduceCtorEq, ↓reduceIte]
        refine Safe.seq (Safe.cond ?_)
        have hlt : (i : Int) < (a.length : Int) := by omega
        simp only [E1, Nat.reduceAdd, Nat.reduceEqDiff, reduceCtorEq, ↓reduceIte, hlt]
        refine Safe.skip (Safe.seq (Safe.block (Safe.seq (Safe.region ?_))))
        simp only [nat_Add_r7, E1, Nat.reduceAdd, Nat.reduceEqDiff, reduceCtorEq, ↓reduceIte]
        refine Safe.seq (Safe.region ?_)
        have xa := getD_lt la i
        have xb := getD_lt lb i
        have h1w : IntKind.wrap .u64 ((a.getD i 0 : Nat) : Int) = ((a.getD i 0 : Nat) : Int) := wrap_u64 (by omega) (by omega)
        have h2w : IntKind.wrap .u64 ((c : Int) + ((a.getD i 0 : Nat) : Int)) = ((c + a.getD i 0 : Nat) : Int) := by rw [wrap_u64] <;> omega
        simp only [nat_Add_r8, E1, Nat.reduceAdd, Nat.reduceEqDiff, reduceCtorEq, ↓reduceIte, natV_idx _ a _ i (by omega), h1w, h2w]
        refine Safe.seq (Safe.seq (Safe.region ?_))
        simp only [nat_Add_r9, E1, Nat.reduceAdd, Nat.reduceEqDiff, reduceCtorEq, ↓reduceIte]
        refine Safe.cond ?_
        simp only [E1, Nat.reduceAdd, Nat.reduceEqDiff, reduceCtorEq, ↓reduceIte]
        have rest : ∀ env : Env, look env 0 = natV a → look env 1 = natV b → look env 5 = .mu (lid H 0) 0 (a.length + 1) (some (a.length + 1)) → look env 6 = .int .u64 (c + a.getD i 0 + b.getD i 0 : Nat) → look env 7 = .int .i64 i → look env 20 = .int .i64 a.length → look env 21 = .int .i64 i →
            Safe ⟨Pr, fun _ _ => false, F_nat_Add, 58, [.tmp 4], H.length⟩ [.code ((ACode.region nat_Add_r11 false).seq (.region nat_Add_r12 false)), .inBlock 1, .code (.region nat_Add_r13 false), .inLoop nat_Add_l0, .inBlock 0, .code ((ACode.region nat_Add_r14 false).seq ((ACode.region nat_Add_r15 false).seq .ret))]
              env (hap H [some ⟨1, u32s (x ++ List.replicate (k + 1 + 1) 0)⟩]) fun r' H' => r' = natV (limbs s) ∧ ∃ L, H' = hap H L := by
          intro env e0 e1 e5 e6 e7 e20 e21
          refine Safe.seq (Safe.region ?_)
          have hcw : IntKind.wrap .u32 ((c + a.getD i 0 + b.getD i 0 : Nat) : Int) = (((c + a.getD i 0 + b.getD i 0) % LB : Nat) : Int) := wrap_u32_mod _
          simp only [nat_Add_r11, E1, Nat.reduceAdd, Nat.reduceEqDiff, reduceCtorEq, ↓reduceIte, e5, e6, e7, one_idx _ _ _ _ _ _ i (show i < a.length + 1 by omega), hcw, one_st _ _ _ i _ (show i < (x ++ List.replicate (k + 1 + 1) 0).length by simp [hx] <;> omega)]
          refine Safe.region ?_
          have hs32 : Int.fdiv ((c + a.getD i 0 + b.getD i 0 : Nat) : Int) (2 ^ min (Int.toNat 32) IntKind.u64.bits) = (((c + a.getD i 0 + b.getD i 0) / LB : Nat) : Int) := by
            rw [show (2 : Int) ^ min (Int.toNat 32) IntKind.u64.bits = (LB : Int) by decide, Int.fdiv_eq_ediv_of_nonneg _ (by decide)]; rfl
          simp only [nat_Add_r12, E1, Nat.reduceAdd, Nat.reduceEqDiff, reduceCtorEq, ↓reduceIte, e6, shBin_shr _ _ _ (show (0 : Int) ≤ 32 by decide), hs32]
          refine Safe.inBlock (Safe.region ?_)
          have hiw : IntKind.wrap .i64 ((i : Int) + 1) = ((i + 1 : Nat) : Int) := by rw [wrap_i64] <;> omega
          simp only [nat_Add_r13, E1, Nat.reduceAdd, Nat.reduceEqDiff, reduceCtorEq, ↓reduceIte, e21, hiw]
          refine Safe.keep [0, 1, 5, 6, 20, 21] ?_
          simp only [E1, Nat.reduceAdd, Nat.reduceEqDiff, reduceCtorEq, ↓reduceIte, e0, e1, e5, e20]
          have hset : (x ++ List.replicate (k + 1 + 1) 0).set i ((c + a.getD i 0 + b.getD i 0) % LB) = (x ++ [(c + a.getD i 0 + b.getD i 0) % LB]) ++ List.replicate (k + 1) 0 := by subst hx; exact set_rep _ _ _
          rw [hset]
          refine ih (i + 1) _ _ (by omega) (by simp [hx]) (val_snoc_lim lx (Nat.mod_lt _ (by decide))) ?_ ?_
          · have : c + a.getD i 0 + b.getD i 0 < LB * 2 := by omega
            have := Nat.div_lt_of_lt_mul this
            omega
          · rw [val_snoc, hx, val_take_getD, val_take_getD, Nat.pow_succ]
            exact sum_step (i := 0) hv
        by_cases hib : i < b.length
        · have hib' : (i : Int) < (b.length : Int) := by omega
          simp only [hib', E1, Nat.reduceAdd, Nat.reduceEqDiff, reduceCtorEq, ↓reduceIte]
          refine Safe.region ?_
          have h3w : IntKind.wrap .u64 ((b.getD i 0 : Nat) : Int) = ((b.getD i 0 : Nat) : Int) := wrap_u64 (by omega) (by omega)
          have h4w : IntKind.wrap .u64 (((c + a.getD i 0 : Nat) : Int) + ((b.getD i 0 : Nat) : Int)) = ((c + a.getD i 0 + b.getD i 0 : Nat) : Int) := by rw [wrap_u64] <;> omega
          simp only [nat_Add_r10, E1, Nat.reduceAdd, Nat.reduceEqDiff, reduceCtorEq, ↓reduceIte, natV_idx _ b _ i hib, h3w, h4w]
          exact rest _ (by simp only [E1, Nat.reduceAdd, Nat.reduceEqDiff, reduceCtorEq, ↓reduceIte]) (by simp only [E1, Nat.reduceAdd, Nat.reduceEqDiff, reduceCtorEq, ↓reduceIte]) (by simp only [E1, Nat.reduceAdd, Nat.reduceEqDiff, reduceCtorEq, ↓reduceIte]) (by simp only [E1, Nat.reduceAdd, Nat.reduceEqDiff, reduceCtorEq, ↓reduceIte]) (by simp only [E1, Nat.reduceAdd, Nat.reduceEqDiff, reduceCtorEq, ↓reduceIte]) (by simp only [E1, Nat.reduceAdd, Nat.reduceEqDiff, reduceCtorEq, ↓reduceIte]) (by simp only [E1, Nat.reduceAdd, Nat.reduceEqDiff, reduceCtorEq, ↓reduceIte])
        · have hib' : ¬ (i : Int) < (b.length : Int) := by omega
          simp only [hib', E1, Nat.reduceAdd, Nat.reduceEqDiff, reduceCtorEq, ↓reduceIte]
          have hz : b.getD i 0 = 0 := by rw [List.getD_eq_getElem?_getD, List.getElem?_eq_none (by omega)]; rfl
          refine Safe.skip (rest _ (by simp only [E1, Nat.reduceAdd, Nat.reduceEqDiff, reduceCtorEq, ↓reduceIte]) (by simp only [E1, Nat.reduceAdd, Nat.reduceEqDiff, reduceCtorEq, ↓reduceIte]) (by simp only [E1, Nat.reduceAdd, Nat.reduceEqDiff, reduceCtorEq, ↓reduceIte]) (by simp only [E1, Nat.reduceAdd, Nat.reduceEqDiff, reduceCtorEq, ↓reduceIte, hz]) (by simp only [E1, Nat.reduceAdd, Nat.reduceEqDiff, reduceCtorEq, ↓reduceIte]) (by simp only [E1, Nat.reduceAdd, Nat.reduceEqDiff, reduceCtorEq, ↓reduceIte]) (by simp only [E1, Nat.reduceAdd, Nat.reduceEqDiff, reduceCtorEq, ↓reduceIte]))
    refine Safe.keep [0, 1, 5, 6, 20, 21] ?_
    simp only [E1, Nat.reduceAdd, Nat.reduceEqDiff, reduceCtorEq, ↓reduceIte, h0, h1]
    exact key a.length 0 0 [] (by omega) rfl lim_nil (by omega) (by simp [val])
  refine Safe.seq (Safe.seq (Safe.region ?_))
  simp only [nat_Add_r1, E1, Nat.reduceAdd, Nat.reduceEqDiff, reduceCtorEq, ↓reduceIte]
  refine Safe.cond ?_
  simp only [E1, Nat.reduceAdd, Nat.reduceEqDiff, reduceCtorEq, ↓reduceIte]
  by_cases hlt : a.length < b.length
  · have hlt' : (a.length : Int) < (b.length : Int) := by omega
    simp only [hlt', E1, Nat.reduceAdd, Nat.reduceEqDiff, reduceCtorEq, ↓reduceIte]
    refine Safe.region ?_
    simp only [nat_Add_r2, E1, Nat.reduceAdd, Nat.reduceEqDiff, reduceCtorEq, ↓reduceIte]
    exact main b a _ _ lb la (by omega) hb (Nat.add_comm _ _) (by simp only [E1, Nat.reduceAdd, Nat.reduceEqDiff, reduceCtorEq, ↓reduceIte]) (by simp only [E1, Nat.reduceAdd, Nat.reduceEqDiff, reduceCtorEq, ↓reduceIte])
  · have hlt' : ¬ (a.length : Int) < (b.length : Int) := by omega
    simp only [hlt', E1, Nat.reduceAdd, Nat.reduceEqDiff, reduceCtorEq, ↓reduceIte]
    exact Safe.skip (main a b _ _ la lb (by omega) ha rfl (by simp only [E1, Nat.reduceAdd, Nat.reduceEqDiff, reduceCtorEq, ↓reduceIte]) (by simp only [E1, Nat.reduceAdd, Nat.reduceEqDiff, reduceCtorEq, ↓reduceIte]))
theorem natless_pure (a b : List Nat) (la : Lim a) (lb : Lim b) (ha : a.length ≤ 17592186044416) (hb : b.length ≤ a.length) (hv : val b ≤ val a) : PureC Pr F_nat_less [natV a, natV b] (natV (limbs (val a - val b))) := by
  refine PureC.intro nat_less_fn nat_less_ok (by simp only [List.length_cons, List.length_nil]; omega) (natV_cl _) fun H hH => ?_
  refine Safe.seq (Safe.region ?_)
  have hLB : LB = 4294967296 := rfl
  simp only [nat_less_r0, E1, Nat.reduceAdd, Nat.reduceEqDiff, reduceCtorEq, ↓reduceIte]
  refine Safe.seq (Safe.region ?_)
  simp only [nat_less_r1, E1, Nat.reduceAdd, Nat.reduceEqDiff, reduceCtorEq, ↓reduceIte, mksl_nat _ H [] _ _ a.length (by omega)]
  refine Safe.seq (Safe.region ?_)
  simp only [nat_less_r2, E1, Nat.reduceAdd, Nat.reduceEqDiff, reduceCtorEq, ↓reduceIte]
  refine Safe.seq (Safe.seq (Safe.region ?_))
  simp only [nat_less_r3, E1, Nat.reduceAdd, Nat.reduceEqDiff, reduceCtorEq, ↓reduceIte]
  refine Safe.block (Safe.loop ?_)
  have key : ∀ (k i c : Nat) (x : List Nat), i + k = a.length → x.length = i → Lim x → c ≤ 1 → val (a.take i) + LB ^ i * c = val x + val (b.take i) →
        Safe ⟨Pr, fun _ _ => false, F_nat_less, 45, [.tmp 4], H.length⟩ [.inLoop nat_less_l0, .inBlock 0, .code ((ACode.region nat_less_r12 false).seq .ret)]
          [(0, natV a), (1, natV b), (5, .mu (lid H 0) 0 a.length (some a.length)), (6, .int .u64 c), (13, .int .i64 a.length), (14, .int .i64 i)]
          (hap H [some ⟨1, u32s (x ++ List.replicate k 0)⟩]) fun r' H' => r' = natV (limbs (val a - val b)) ∧ ∃ L, H' = hap H L := by
    intro k
    induction k with
    | zero =>
      intro i c x hik hx lx hc hv2
      have hi : i = a.length := by omega
      subst hi
      refine Safe.inLoop (Safe.seq (Safe.region ?_))
      simp only [nat_less_r4, E1, Nat.reduceAdd, Nat.reduceEqDiff, reduceCtorEq, ↓reduceIte]
      refine Safe.seq (Safe.cond ?_)
      simp only [E1, Nat.reduceAdd, Nat.reduceEqDiff, reduceCtorEq, ↓reduceIte, Int.lt_irrefl]
      refine Safe.exit rfl ?_
      simp only [List.replicate_zero, List.append_nil]
      refine Safe.freeze 0 (b := ⟨1, u32s x⟩) hH rfl rfl (blk_u32 _) ?_
      refine Safe.seq (Safe.region ?_)
      simp only [nat_less_r12, E1, Nat.reduceAdd, Nat.reduceEqDiff, reduceCtorEq, ↓reduceIte, ← hx]
      refine (trim_pure x lx (by omega)).acall ?_
      try simp only [E1, Nat.reduceAdd, Nat.reduceEqDiff, reduceCtorEq, ↓reduceIte]
      refine Safe.retn ?_
      simp only [E1, Nat.reduceAdd, Nat.reduceEqDiff, reduceCtorEq, ↓reduceIte]
      rw [List.take_length, List.take_of_length_le hb] at hv2
      have h1 := val_lt lx
      rw [hx] at h1
      have hc0 : c = 0 := by
        rcases Nat.eq_zero_or_pos c with h | h
        · exact h
        · have : c = 1 := by omega
          subst this
          omega
      subst hc0
      have : val x = val a - val b := by omega
      rw [this]
      first | exact ⟨rfl, _, rfl⟩ | exact ⟨_, rfl⟩ | exact ⟨trivial, _, rfl⟩
    | succ k ih =>
      intro i c x hik hx lx hc hv2
      refine Safe.inLoop (Safe.seq (Safe.region ?_))
      simp only [nat_less_r4, E1, Nat.reduceAdd, Nat.reduceEqDiff, reduceCtorEq, ↓reduceIte]
      refine Safe.seq (Safe.cond ?_)
      have hlt : (i : Int) < (a.length : Int) := by omega
      simp only [E1, Nat.reduceAdd, Nat.reduceEqDiff, reduceCtorEq, ↓reduceIte, hlt]
      refine Safe.skip (Safe.seq (Safe.block (Safe.seq (Safe.region ?_))))
      simp only [nat_less_r5, E1, Nat.reduceAdd, Nat.reduceEqDiff, reduceCtorEq, ↓reduceIte]
      refine Safe.seq (Safe.region ?_)
      have xa := getD_lt la i
      have xb := getD_lt lb i
      have h1w : IntKind.wrap .u64 ((a.getD i 0 : Nat) : Int) = ((a.getD i 0 : Nat) : Int) := wrap_u64 (by omega) (by omega)
      simp only [nat_less_r6, E1, Nat.reduceAdd, Nat.reduceEqDiff, reduceCtorEq, ↓reduceIte, natV_idx _ a _ i (by omega), h1w]
      refine Safe.seq (Safe.seq (Safe.region ?_))
      simp only [nat_less_r7, E1, Nat.reduceAdd, Nat.reduceEqDiff, reduceCtorEq, ↓reduceIte]
      refine Safe.cond ?_
      simp only [E1, Nat.reduceAdd, Nat.reduceEqDiff, reduceCtorEq, ↓reduceIte]
      have rest : ∀ env : Env, look env 0 = natV a → look env 1 = natV b → look env 5 = .mu (lid H 0) 0 a.length (some a.length) → look env 8 = .int .u64 (((a.getD i 0 : Nat) - (c : Int) - (b.getD i 0 : Nat)) % 18446744073709551616) → look env 7 = .int .i64 i → look env 13 = .int .i64 a.length → look env 14 = .int .i64 i →
            Safe ⟨Pr, fun _ _ => false, F_nat_less, 45, [.tmp 4], H.length⟩ [.code ((ACode.region nat_less_r9 false).seq (.region nat_less_r10 false)), .inBlock 1, .code (.region nat_less_r11 false), .inLoop nat_less_l0, .inBlock 0, .code ((ACode.region nat_less_r12 false).seq .ret)]
              env (hap H [some ⟨1, u32s (x ++ List.replicate (k + 1) 0)⟩]) fun r' H' => r' = natV (limbs (val a - val b)) ∧ ∃ L, H' = hap H L := by
        intro env e0 e1 e5 e8 e7 e13 e14
        refine Safe.seq (Safe.region ?_)
        obtain ⟨d, bo, hd, hbo, hdl, hD, hB⟩ : ∃ d bo : Nat, a.getD i 0 + LB * bo = d + c + b.getD i 0 ∧ bo ≤ 1 ∧ d < LB ∧ (((a.getD i 0 : Nat) - (c : Int) - (b.getD i 0 : Nat)) % 18446744073709551616) % 4294967296 = (d : Int) ∧ (((a.getD i 0 : Nat) - (c : Int) - (b.getD i 0 : Nat)) % 18446744073709551616) / 9223372036854775808 = (bo : Int) := by
          by_cases hlt : a.getD i 0 < c + b.getD i 0
          · exact ⟨a.getD i 0 + LB - c - b.getD i 0, 1, by omega, by omega, by omega, by omega, by omega⟩
          · exact ⟨a.getD i 0 - c - b.getD i 0, 0, by omega, by omega, by omega, by omega, by omega⟩
        simp only [nat_less_r9, E1, Nat.reduceAdd, Nat.reduceEqDiff, reduceCtorEq, ↓reduceIte, e5, e8, e7, one_idx _ _ _ _ _ _ i (show i < a.length by omega), wrap_u32_emod, hD, one_st _ _ _ i _ (show i < (x ++ List.replicate (k + 1) 0).length by simp [hx])]
        refine Safe.region ?_
        have hs63 : ∀ n : Int, Int.fdiv n (2 ^ min (Int.toNat 63) IntKind.u64.bits) = n / 9223372036854775808 := by
          intro n
          rw [show (2 : Int) ^ min (Int.toNat 63) IntKind.u64.bits = 9223372036854775808 by decide, Int.fdiv_eq_ediv_of_nonneg _ (by decide)]
        simp only [nat_less_r10, E1, Nat.reduceAdd, Nat.reduceEqDiff, reduceCtorEq, ↓reduceIte, e8, shBin_shr _ _ _ (show (0 : Int) ≤ 63 by decide), hs63, hB]
        refine Safe.inBlock (Safe.region ?_)
        have hiw : IntKind.wrap .i64 ((i : Int) + 1) = ((i + 1 : Nat) : Int) := by rw [wrap_i64] <;> omega
        simp only [nat_less_r11, E1, Nat.reduceAdd, Nat.reduceEqDiff, reduceCtorEq, ↓reduceIte, e14, hiw]
        refine Safe.keep [0, 1, 5, 6, 13, 14] ?_
        simp only [E1, Nat.reduceAdd, Nat.reduceEqDiff, reduceCtorEq, ↓reduceIte, e0, e1, e5, e13]
        have hset : (x ++ List.replicate (k + 1) 0).set i d = (x ++ [d]) ++ List.replicate k 0 := by subst hx; exact set_rep _ _ _
        rw [hset]
        refine ih (i + 1) bo _ (by omega) (by simp [hx]) (val_snoc_lim lx hdl) hbo ?_
        rw [val_snoc, hx, val_take_getD, val_take_getD, Nat.pow_succ]
        exact less_step hv2 hd
      by_cases hib : i < b.length
      · have hib' : (i : Int) < (b.length : Int) := by omega
        simp only [hib', E1, Nat.reduceAdd, Nat.reduceEqDiff, reduceCtorEq, ↓reduceIte]
        refine Safe.region ?_
        have h3w : IntKind.wrap .u64 ((b.getD i 0 : Nat) : Int) = ((b.getD i 0 : Nat) : Int) := wrap_u64 (by omega) (by omega)
        have h4w : IntKind.wrap .u64 (IntKind.wrap .u64 (((a.getD i 0 : Nat) : Int) - c) - ((b.getD i 0 : Nat) : Int)) = ((a.getD i 0 : Nat) - (c : Int) - (b.getD i 0 : Nat)) % 18446744073709551616 := by
          rw [wrap_u64_mod, wrap_u64_mod]; omega
        simp only [nat_less_r8, E1, Nat.reduceAdd, Nat.reduceEqDiff, reduceCtorEq, ↓reduceIte, natV_idx _ b _ i hib, h3w, h4w]
        exact rest _ (by simp only [E1, Nat.reduceAdd, Nat.reduceEqDiff, reduceCtorEq, ↓reduceIte]) (by simp only [E1, Nat.reduceAdd, Nat.reduceEqDiff, reduceCtorEq, ↓reduceIte]) (by simp only [E1, Nat.reduceAdd, Nat.reduceEqDiff, reduceCtorEq, ↓reduceIte]) (by simp only [E1, Nat.reduceAdd, Nat.reduceEqDiff, reduceCtorEq, ↓reduceIte]) (by simp only [E1, Nat.reduceAdd, Nat.reduceEqDiff, reduceCtorEq, ↓reduceIte]) (by simp only [E1, Nat.reduceAdd, Nat.reduceEqDiff, reduceCtorEq, ↓reduceIte]) (by simp only [E1, Nat.reduceAdd, Nat.reduceEqDiff, reduceCtorEq, ↓reduceIte])
      · have hib' : ¬ (i : Int) < (b.length : Int) := by omega
        simp only [hib', E1, Nat.reduceAdd, Nat.reduceEqDiff, reduceCtorEq, ↓reduceIte]
        have hz : b.getD i 0 = 0 := by rw [List.getD_eq_getElem?_getD, List.getElem?_eq_none (by omega)]; rfl
        refine Safe.skip (rest _ (by simp only [E1, Nat.reduceAdd, Nat.reduceEqDiff, reduceCtorEq, ↓reduceIte]) (by simp only [E1, Nat.reduceAdd, Nat.reduceEqDiff, reduceCtorEq, ↓reduceIte]) (by simp only [E1, Nat.reduceAdd, Nat.reduceEqDiff, reduceCtorEq, ↓reduceIte]) (by simp only [E1, Nat.reduceAdd, Nat.reduceEqDiff, reduceCtorEq, ↓reduceIte, hz, wrap_u64_mod]; simp) (by simp only [E1, Nat.reduceAdd, Nat.reduceEqDiff, reduceCtorEq, ↓reduceIte]) (by simp only [E1, Nat.reduceAdd, Nat.reduceEqDiff, reduceCtorEq, ↓reduceIte]) (by simp only [E1, Nat.reduceAdd, Nat.reduceEqDiff, reduceCtorEq, ↓reduceIte]))
  refine Safe.keep [0, 1, 5, 6, 13, 14] ?_
  simp only [E1, Nat.reduceAdd, Nat.reduceEqDiff, reduceCtorEq, ↓reduceIte]
  exact key a.length 0 0 [] (by omega) rfl lim_nil (by omega) (by simp [val])
theorem natsub_pure (a b : List Nat) (ha : Nt a) (hb : Nt b) (hv : val b ≤ val a) : PureC Pr F_nat_Sub [natV a, natV b] (.tup [natV (limbs (val a - val b)), .int .i64 0]) := by
  refine PureC.intro nat_Sub_fn nat_Sub_ok (by simp only [List.length_cons, List.length_nil]; omega) (.tup _ (by intro c hc; simp at hc; rcases hc with rfl | rfl; exact natV_cl _; exact .int _ _)) fun H hH => ?_
  refine Safe.seq (Safe.region ?_)
  simp only [nat_Sub_r0, E1, seval]
  refine Safe.seq (Safe.seq (Safe.region ?_))
  simp only [nat_Sub_r1, E1, seval]
  refine (natcmp_pure a b ha hb).acall ?_
  have h0 : ¬ (cmpI (val a) (val b) < 0) := by unfold cmpI; split <;> (try split) <;> omega
  simp only [E1, seval, h0]
  refine Safe.cond ?_
  simp only [E1, seval]
  refine Safe.skip (Safe.seq (Safe.region ?_))
  simp only [nat_Sub_r3, E1, seval]
  refine (trim_pure a ha.lim ha.len).acall ?_
  try simp only [E1, seval]
  refine (trim_pure b hb.lim hb.len).acall ?_
  try simp only [E1, seval]
  have hlen : (limbs (val b)).length ≤ (limbs (val a)).length := by
    rcases Nat.lt_or_ge (limbs (val a)).length (limbs (val b)).length with h | h
    · have := val_lt_len h; omega
    · exact h
  have := natless_pure (limbs (val a)) (limbs (val b)) (lim_limbs _) (lim_limbs _) ha.limbs.len hlen (by rw [val_limbs, val_limbs]; exact hv)
  rw [val_limbs, val_limbs] at this
  refine this.acall ?_
  try simp only [E1, seval]
  refine Safe.retn ?_
  simp only [E1, seval]
  first | exact ⟨rfl, _, rfl⟩ | exact ⟨_, rfl⟩ | exact ⟨trivial, _, rfl⟩
theorem set_left (w r : List Nat) (k d : Nat) (h : k < w.length) : (w ++ r).set k d = w.set k d ++ r := List.set_append_left _ _ h
theorem getD_left (w r : List Nat) (k : Nat) (h : k < w.length) : (w ++ r).getD k 0 = w.getD k 0 := by
  simp [List.getElem?_append_left h]
theorem natmul_pure (a b : List Nat) (ha : Nt a) (hb : Nt b) (hab : a.length + b.length ≤ 17592186044416) : PureC Pr F_nat_Mul [natV a, natV b] (natV (limbs (val a * val b))) := by
  refine PureC.intro nat_Mul_fn nat_Mul_ok (by simp only [List.length_cons, List.length_nil]; omega) (natV_cl _) fun H hH => ?_
  refine Safe.seq (Safe.region ?_)
  have hLB : LB = 4294967296 := rfl
  simp only [nat_Mul_r0, E1, Nat.reduceAdd, Nat.reduceEqDiff, reduceCtorEq, ↓reduceIte]
  refine Safe.seq (Safe.region ?_)
  simp only [nat_Mul_r1, E1, Nat.reduceAdd, Nat.reduceEqDiff, reduceCtorEq, ↓reduceIte]
  refine (trim_pure a ha.lim ha.len).acall ?_
  try simp only [E1, Nat.reduceAdd, Nat.reduceEqDiff, reduceCtorEq, ↓reduceIte]
  refine (trim_pure b hb.lim hb.len).acall ?_
  try simp only [E1, Nat.reduceAdd, Nat.reduceEqDiff, reduceCtorEq, ↓reduceIte]
  have la := lim_limbs (val a)
  have lb := lim_limbs (val b)
  have va := val_limbs (val a)
  have vb := val_limbs (val b)
  have hA := limbs_val_len ha.lim
  have hB := limbs_val_len hb.lim
  generalize limbs (val a) = A at la va hA ⊢
  generalize limbs (val b) = B at lb vb hB ⊢
  refine Safe.keep [0, 1] (Safe.seq (Safe.region ?_))
  have hw : IntKind.wrap .i64 ((A.length : Int) + (B.length : Int)) = ((A.length + B.length : Nat) : Int) := by rw [wrap_i64] <;> omega
  simp only [nat_Mul_r2, E1, Nat.reduceAdd, Nat.reduceEqDiff, reduceCtorEq, ↓reduceIte, hw, mksl_nat _ H [] _ _ (A.length + B.length) (by omega)]
  refine Safe.seq (Safe.seq (Safe.region ?_))
  simp only [nat_Mul_r3, E1, Nat.reduceAdd, Nat.reduceEqDiff, reduceCtorEq, ↓reduceIte]
  refine Safe.block (Safe.loop ?_)
  -- the inner loop
  have inner : ∀ (todo : List AItem) (i x : Nat) (z vx : Nat), i < A.length → x = A.getD i 0 → 
      (∀ (w : List Nat) (c : Nat) (env : Env), w.length = i + B.length → Lim w → c < LB → val w + LB ^ (i + B.length) * c = vx + LB ^ i * (x * val B) →
        look env 0 = natV A → look env 1 = natV B → look env 5 = .mu (lid H 0) 0 (A.length + B.length) (some (A.length + B.length)) → look env 6 = .int .i64 i → look env 7 = .int .u64 c → look env 20 = .int .i64 A.length → look env 21 = .int .i64 i →
        Safe ⟨Pr, fun _ _ => false, F_nat_Mul, 71, [.tmp 4], H.length⟩ todo env (hap H [some ⟨1, u32s (w ++ List.replicate z 0)⟩]) fun r' H' => r' = natV (limbs (val a * val b)) ∧ ∃ L, H' = hap H L) →
      ∀ (k j c : Nat) (w : List Nat), j + k = B.length → w.length = i + B.length → Lim w → c < LB → val w + LB ^ (i + j) * c = vx + LB ^ i * (x * val (B.take j)) →
        Safe ⟨Pr, fun _ _ => false, F_nat_Mul, 71, [.tmp 4], H.length⟩ (.inLoop nat_Mul_l1 :: .inBlock 2 :: todo)
          [(0, natV A), (1, natV B), (5, .mu (lid H 0) 0 (A.length + B.length) (some (A.length + B.length))), (6, .int .i64 i), (7, .int .u64 c), (20, .int .i64 A.length), (21, .int .i64 i), (25, .int .i64 B.length), (26, .int .i64 j)]
          (hap H [some ⟨1, u32s (w ++ List.replicate z 0)⟩]) fun r' H' => r' = natV (limbs (val a * val b)) ∧ ∃ L, H' = hap H L := by
    intro todo i x z vx hi hx hk k
    induction k with
    | zero =>
      intro j c w hjk hw lw hc hv
      have hj : j = B.length := by omega
      subst hj
      refine Safe.inLoop (Safe.seq (Safe.region ?_))
      simp only [nat_Mul_r8, E1, Nat.reduceAdd, Nat.reduceEqDiff, reduceCtorEq, ↓reduceIte]
      refine Safe.seq (Safe.cond ?_)
      simp only [E1, Nat.reduceAdd, Nat.reduceEqDiff, reduceCtorEq, ↓reduceIte, Int.lt_irrefl]
      refine Safe.exit rfl ?_
      rw [List.take_length] at hv
      exact hk w c _ hw lw hc hv (by simp only [E1, Nat.reduceAdd, Nat.reduceEqDiff, reduceCtorEq, ↓reduceIte]) (by simp only [E1, Nat.reduceAdd, Nat.reduceEqDiff, reduceCtorEq, ↓reduceIte]) (by simp only [E1, Nat.reduceAdd, Nat.reduceEqDiff, reduceCtorEq, ↓reduceIte]) (by simp only [E1, Nat.reduceAdd, Nat.reduceEqDiff, reduceCtorEq, ↓reduceIte]) (by simp only [E1, Nat.reduceAdd, Nat.reduceEqDiff, reduceCtorEq, ↓reduceIte]) (by simp only [E1, Nat.reduceAdd, Nat.reduceEqDiff, reduceCtorEq, ↓reduceIte]) (by simp only [E1, Nat.reduceAdd, Nat.reduceEqDiff, reduceCtorEq, ↓reduceIte])
    | succ k ih =>
      intro j c w hjk hw lw hc hv
      refine Safe.inLoop (Safe.seq (Safe.region ?_))
      simp only [nat_Mul_r8, E1, Nat.reduceAdd, Nat.reduceEqDiff, reduceCtorEq, ↓reduceIte]
      refine Safe.seq (Safe.cond ?_)
      have hlt : (j : Int) < (B.length : Int) := by omega
      simp only [E1, Nat.reduceAdd, Nat.reduceEqDiff, reduceCtorEq, ↓reduceIte, hlt]
      refine Safe.skip (Safe.seq (Safe.block (Safe.seq (Safe.region ?_))))
      simp only [nat_Mul_r9, E1, Nat.reduceAdd, Nat.reduceEqDiff, reduceCtorEq, ↓reduceIte]
      refine Safe.seq (Safe.regionD ?_)
      have xa := getD_lt la i
      have xb := getD_lt lb j
      have xw := getD_lt lw (i + j)
      have hfit := mul_fits hc xa xb xw
      have hLL : LB * LB = 18446744073709551616 := by decide
      have h1w : IntKind.wrap .u64 ((A.getD i 0 : Nat) : Int) = ((A.getD i 0 : Nat) : Int) := wrap_u64 (by omega) (by omega)
      have h2w : IntKind.wrap .u64 ((B.getD j 0 : Nat) : Int) = ((B.getD j 0 : Nat) : Int) := wrap_u64 (by omega) (by omega)
      have h3w : IntKind.wrap .u64 ((w.getD (i + j) 0 : Nat) : Int) = ((w.getD (i + j) 0 : Nat) : Int) := wrap_u64 (by omega) (by omega)
      have h4w : IntKind.wrap .u64 (((A.getD i 0 : Nat) : Int) * ((B.getD j 0 : Nat) : Int)) = ((A.getD i 0 * B.getD j 0 : Nat) : Int) := by rw [← Int.natCast_mul, wrap_u64] <;> omega
      have h5w : IntKind.wrap .u64 (((A.getD i 0 * B.getD j 0 : Nat) : Int) + ((w.getD (i + j) 0 : Nat) : Int)) = ((A.getD i 0 * B.getD j 0 + w.getD (i + j) 0 : Nat) : Int) := by rw [wrap_u64] <;> omega
      have h6w : IntKind.wrap .u64 ((c : Int) + ((A.getD i 0 * B.getD j 0 + w.getD (i + j) 0 : Nat) : Int)) = ((c + A.getD i 0 * B.getD j 0 + w.getD (i + j) 0 : Nat) : Int) := by rw [wrap_u64] <;> omega
      have h7w : IntKind.wrap .i64 ((i : Int) + (j : Int)) = ((i + j : Nat) : Int) := by rw [wrap_i64] <;> omega
      simp only [nat_Mul_r10, E1, Nat.reduceAdd, Nat.reduceEqDiff, reduceCtorEq, ↓reduceIte, natV_idx _ A _ i hi, natV_idx _ B _ j (by omega), h1w, h2w, h3w, h4w, h7w, one_idx _ _ _ _ _ _ (i + j) (show i + j < A.length + B.length by omega), one_at _ _ (i + j) (show i + j < (w ++ List.replicate z 0).length by simp [hw]; omega),
        getD_left w _ (i + j) (show i + j < w.length by omega), h5w, h6w]
      refine Safe.seq (Safe.region ?_)
      have hcw : IntKind.wrap .u32 ((c + A.getD i 0 * B.getD j 0 + w.getD (i + j) 0 : Nat) : Int) = (((c + A.getD i 0 * B.getD j 0 + w.getD (i + j) 0) % LB : Nat) : Int) := wrap_u32_mod _
      simp only [nat_Mul_r11, E1, Nat.reduceAdd, Nat.reduceEqDiff, reduceCtorEq, ↓reduceIte, h7w, hcw, one_idx _ _ _ _ _ _ (i + j) (show i + j < A.length + B.length by omega), one_st _ _ _ (i + j) _ (show i + j < (w ++ List.replicate z 0).length by simp [hw]; omega), set_left w _ (i + j) _ (show i + j < w.length by omega)]
      refine Safe.region ?_
      simp only [nat_Mul_r12, E1, Nat.reduceAdd, Nat.reduceEqDiff, reduceCtorEq, ↓reduceIte, shBin_shr _ _ _ (show (0 : Int) ≤ 32 by decide), shr32]
      refine Safe.inBlock (Safe.region ?_)
      have hiw : IntKind.wrap .i64 ((j : Int) + 1) = ((j + 1 : Nat) : Int) := by rw [wrap_i64] <;> omega
      simp only [nat_Mul_r13, E1, Nat.reduceAdd, Nat.reduceEqDiff, reduceCtorEq, ↓reduceIte, hiw]
      refine Safe.keep [0, 1, 5, 6, 7, 20, 21, 25, 26] ?_
      simp only [E1, Nat.reduceAdd, Nat.reduceEqDiff, reduceCtorEq, ↓reduceIte]
      refine ih (j + 1) _ _ (by omega) (by simp [hw]) (lim_set lw (Nat.mod_lt _ (by decide))) ?_ ?_
      · exact Nat.div_lt_of_lt_mul hfit
      · rw [val_take_getD, show i + (j + 1) = (i + j) + 1 by omega, Nat.pow_succ]
        subst hx
        exact mul_step (Nat.pow_add LB i j) hv (val_set (by omega)) rfl
  have outer : ∀ (k i : Nat) (x : List Nat), i + k = A.length → x.length = i + B.length → Lim x → val x = val (A.take i) * val B →
        Safe ⟨Pr, fun _ _ => false, F_nat_Mul, 71, [.tmp 4], H.length⟩ [.inLoop nat_Mul_l0, .inBlock 0, .code ((ACode.region nat_Mul_r16 false).seq .ret)]
          [(0, natV A), (1, natV B), (5, .mu (lid H 0) 0 (A.length + B.length) (some (A.length + B.length))), (20, .int .i64 A.length), (21, .int .i64 i)]
          (hap H [some ⟨1, u32s (x ++ List.replicate k 0)⟩]) fun r' H' => r' = natV (limbs (val a * val b)) ∧ ∃ L, H' = hap H L := by
    intro k
    induction k with
    | zero =>
      intro i x hik hx lx hv
      have hi : i = A.length := by omega
      subst hi
      refine Safe.inLoop (Safe.seq (Safe.region ?_))
      simp only [nat_Mul_r4, E1, Nat.reduceAdd, Nat.reduceEqDiff, reduceCtorEq, ↓reduceIte]
      refine Safe.seq (Safe.cond ?_)
      simp only [E1, Nat.reduceAdd, Nat.reduceEqDiff, reduceCtorEq, ↓reduceIte, Int.lt_irrefl]
      refine Safe.exit rfl ?_
      simp only [List.replicate_zero, List.append_nil]
      refine Safe.freeze 0 (b := ⟨1, u32s x⟩) hH rfl rfl (blk_u32 _) ?_
      refine Safe.seq (Safe.region ?_)
      simp only [nat_Mul_r16, E1, Nat.reduceAdd, Nat.reduceEqDiff, reduceCtorEq, ↓reduceIte, ← hx]
      refine (trim_pure x lx (by omega)).acall ?_
      try simp only [E1, Nat.reduceAdd, Nat.reduceEqDiff, reduceCtorEq, ↓reduceIte]
      refine Safe.retn ?_
      simp only [E1, Nat.reduceAdd, Nat.reduceEqDiff, reduceCtorEq, ↓reduceIte]
      rw [List.take_length] at hv
      rw [hv, va, vb]
      first | exact ⟨rfl, _, rfl⟩ | exact ⟨_, rfl⟩ | exact ⟨trivial, _, rfl⟩
    | succ k ih =>
      intro i x hik hx lx hv
      refine Safe.inLoop (Safe.seq (Safe.region ?_))
      simp only [nat_Mul_r4, E1, Nat.reduceAdd, Nat.reduceEqDiff, reduceCtorEq, ↓reduceIte]
      refine Safe.seq (Safe.cond ?_)
      have hlt : (i : Int) < (A.length : Int) := by omega
      simp only [E1, Nat.reduceAdd, Nat.reduceEqDiff, reduceCtorEq, ↓reduceIte, hlt]
      refine Safe.skip (Safe.seq (Safe.block (Safe.seq (Safe.region ?_))))
      simp only [nat_Mul_r5, E1, Nat.reduceAdd, Nat.reduceEqDiff, reduceCtorEq, ↓reduceIte]
      refine Safe.seq (Safe.region ?_)
      simp only [nat_Mul_r6, E1, Nat.reduceAdd, Nat.reduceEqDiff, reduceCtorEq, ↓reduceIte]
      refine Safe.seq (Safe.seq (Safe.region ?_))
      simp only [nat_Mul_r7, E1, Nat.reduceAdd, Nat.reduceEqDiff, reduceCtorEq, ↓reduceIte]
      refine Safe.block (Safe.loop ?_)
      refine Safe.keep [0, 1, 5, 6, 7, 20, 21, 25, 26] ?_
      simp only [E1, Nat.reduceAdd, Nat.reduceEqDiff, reduceCtorEq, ↓reduceIte]
      refine inner _ i _ (k + 1) (val x) (by omega) rfl ?_ B.length 0 0 x (by omega) hx lx (by decide) (by simp [val])
      intro w c env hw lw hc hv2 e0 e1 e5 e6 e7 e20 e21
      refine Safe.region ?_
      have h7w : IntKind.wrap .i64 ((i : Int) + (B.length : Int)) = ((i + B.length : Nat) : Int) := by rw [wrap_i64] <;> omega
      have hcw : IntKind.wrap .u32 (c : Int) = (c : Int) := wrap_u32 (by omega) (by omega)
      simp only [nat_Mul_r14, E1, Nat.reduceAdd, Nat.reduceEqDiff, reduceCtorEq, ↓reduceIte, e0, e1, e5, e6, e7, h7w, hcw, one_idx _ _ _ _ _ _ (i + B.length) (show i + B.length < A.length + B.length by omega), one_st _ _ _ (i + B.length) _ (show i + B.length < (w ++ List.replicate (k + 1) 0).length by simp [hw])]
      refine Safe.inBlock (Safe.region ?_)
      have hiw : IntKind.wrap .i64 ((i : Int) + 1) = ((i + 1 : Nat) : Int) := by rw [wrap_i64] <;> omega
      simp only [nat_Mul_r15, E1, Nat.reduceAdd, Nat.reduceEqDiff, reduceCtorEq, ↓reduceIte, e21, hiw]
      refine Safe.keep [0, 1, 5, 20, 21] ?_
      simp only [E1, Nat.reduceAdd, Nat.reduceEqDiff, reduceCtorEq, ↓reduceIte, e0, e1, e5, e20]
      have hset : (w ++ List.replicate (k + 1) 0).set (i + B.length) c = (w ++ [c]) ++ List.replicate k 0 := by rw [← hw]; exact set_rep _ _ _
      rw [hset]
      refine ih (i + 1) _ (by omega) (by simp [hw]; omega) (val_snoc_lim lw hc) ?_
      rw [val_snoc, hw, hv2, val_take_getD, hv, Nat.add_mul, Nat.mul_assoc]
  refine Safe.keep [0, 1, 5, 20, 21] ?_
  simp only [E1, Nat.reduceAdd, Nat.reduceEqDiff, reduceCtorEq, ↓reduceIte]
  have := outer A.length 0 (List.replicate B.length 0) (by omega) (by simp) (by intro d hd; simp at hd; omega) (by simp [val_replicate, val])
  rw [List.replicate_append_replicate, Nat.add_comm B.length] at this
  exact this
end Go.Abs
set_option linter.unusedVariables false
set_option linter.unusedSimpArgs false
namespace Go.Abs
theorem refnorm_pure (l : List Nat) (hl : Nt l) : PureC Pr F_ref01_Norm [natV l] (natV (limbs (val l))) := by
  refine PureC.intro ref01_Norm_fn ref01_Norm_ok (by simp only [List.length_cons, List.length_nil]; omega) (natV_cl _) fun H hH => ?_
  have hll := hl.len
  refine Safe.seq (Safe.region ?_)
  simp only [ref01_Norm_r0, E1, seval]
  refine Safe.seq (Safe.region ?_)
  simp only [ref01_Norm_r1, E1, seval]
  refine Safe.seq (Safe.block (Safe.loop ?_))
  -- the copy
  have copy : ∀ (n : Nat), n ≤ l.length → limbs (val l) = l.take n → ∀ env : Env, look env 0 = natV l → look env 3 = .int .i64 n →
      Safe ⟨Pr, fun _ _ => false, F_ref01_Norm, 33, [.tmp 2], H.length⟩ [.code ((ACode.region ref01_Norm_r4 false).seq (((ACode.region ref01_Norm_r5 false).seq (.block 2 (.loop ref01_Norm_l1))).seq ((ACode.region ref01_Norm_r9 false).seq .ret)))]
        env (hap H []) fun r' H' => r' = natV (limbs (val l)) ∧ ∃ L, H' = hap H L := by
    intro n hn hlim env e0 e3
    refine Safe.seq (Safe.region ?_)
    simp only [ref01_Norm_r4, E1, seval]
    refine Safe.seq (Safe.seq (Safe.region ?_))
    simp only [ref01_Norm_r5, E1, seval]
    refine Safe.nilrow 4 1 (by decide) (by simp only [E1, seval]) ?_
    refine Safe.block (Safe.loop ?_)
    have key : ∀ (k i : Nat), i + k = n → Safe ⟨Pr, fun _ _ => false, F_ref01_Norm, 33, [.tmp 2], H.length⟩ [.inLoop ref01_Norm_l1, .inBlock 2, .code ((ACode.region ref01_Norm_r9 false).seq .ret)]
        [(0, natV l), (3, .int .i64 n), (4, .mu (lid H 0) 0 (l.take i).length none), (5, .int .i64 i)] (hap H [some ⟨1, u32s (l.take i)⟩]) fun r' H' => r' = natV (limbs (val l)) ∧ ∃ L, H' = hap H L := by
      intro k
      induction k with
      | zero =>
        intro i hi
        have hi : i = n := by omega
        subst hi
        refine Safe.inLoop (Safe.seq (Safe.seq (Safe.region ?_)))
        simp only [ref01_Norm_r6, E1, seval, Int.lt_irrefl]
        refine Safe.cond ?_
        simp only [E1, seval]
        refine Safe.exit rfl ?_
        refine Safe.freeze 0 (b := ⟨1, u32s (l.take i)⟩) hH rfl rfl (blk_u32 _) ?_
        refine Safe.seq (Safe.region ?_)
        simp only [ref01_Norm_r9, E1, seval]
        refine Safe.retn ?_
        simp only [E1, seval, hlim]
        first | exact ⟨rfl, _, rfl⟩ | exact ⟨_, rfl⟩ | exact ⟨trivial, _, rfl⟩
      | succ k ih =>
        intro i hi
        refine Safe.inLoop (Safe.seq (Safe.seq (Safe.region ?_)))
        have hlt : (i : Int) < (n : Int) := by omega
        simp only [ref01_Norm_r6, E1, seval, hlt]
        refine Safe.cond ?_
        simp only [E1, seval]
        refine Safe.skip (Safe.seq (Safe.block (Safe.region ?_)))
        simp only [ref01_Norm_r7, E1, seval, natV_idx _ l _ i (by omega), one_app H hH _ (lid_ge H 0) _ (l.take i) (l.getD i 0) (by rw [List.length_take]; omega)]
        refine Safe.inBlock (Safe.region ?_)
        have hiw : IntKind.wrap .i64 ((i : Int) + 1) = ((i + 1 : Nat) : Int) := by rw [wrap_i64] <;> omega
        simp only [ref01_Norm_r8, E1, seval, hiw]
        refine Safe.keep [0, 3, 4, 5] ?_
        simp only [E1, seval, natV_nref]
        have := ih (i + 1) (by omega)
        rw [take_snoc (by omega)] at this
        simpa only [List.length_append, List.length_cons, List.length_nil] using this
    refine Safe.keep [0, 3, 4, 5] ?_
    simp only [E1, seval, e0, e3]
    exact key n 0 (by omega)
  have key : ∀ (n : Nat), n ≤ l.length → val (l.take n) = val l → ∀ env : Env, look env 0 = natV l → look env 3 = .int .i64 n →
      Safe ⟨Pr, fun _ _ => false, F_ref01_Norm, 33, [.tmp 2], H.length⟩ [.inLoop ref01_Norm_l0, .inBlock 0, .code ((ACode.region ref01_Norm_r4 false).seq (((ACode.region ref01_Norm_r5 false).seq (.block 2 (.loop ref01_Norm_l1))).seq ((ACode.region ref01_Norm_r9 false).seq .ret)))]
        env (hap H []) fun r' H' => r' = natV (limbs (val l)) ∧ ∃ L, H' = hap H L := by
    intro n
    induction n with
    | zero =>
      intro hn hv env e0 e3
      refine Safe.inLoop (Safe.seq (Safe.seq (Safe.region ?_)))
      simp only [ref01_Norm_r2, E1, seval, e0, e3, Int.natCast_zero, Int.lt_irrefl]
      refine Safe.cond ?_
      simp only [E1, seval]
      refine Safe.exit rfl (copy 0 hn ?_ _ (by simp only [E1, seval, e0]) (by simp only [E1, seval, e3] <;> rfl))
      rw [← hv]; simp [val, limbs_zero]
    | succ n ih =>
      intro hn hv env e0 e3
      refine Safe.inLoop (Safe.seq (Safe.seq (Safe.region ?_)))
      have h0 : (0 : Int) < ((n + 1 : Nat) : Int) := by omega
      have hw : IntKind.wrap .i64 (((n + 1 : Nat) : Int) - 1) = (n : Int) := by rw [wrap_i64] <;> omega
      simp only [ref01_Norm_r2, E1, seval, e0, e3, h0, hw, natV_idx _ l _ n (by omega)]
      refine Safe.cond ?_
      simp only [E1, seval]
      by_cases hd : l.getD n 0 = 0
      · simp only [hd, Int.natCast_zero, E1, seval]
        refine Safe.skip (Safe.block (Safe.region ?_))
        simp only [ref01_Norm_r3, E1, seval, e3, hw]
        refine Safe.inBlock (ih (by omega) ?_ _ (by simp only [E1, seval, e0]) (by simp only [E1, seval]))
        rw [← hv, val_take_getD, hd]; simp
      · have hd' : ¬ (((l.getD n 0 : Nat) : Int) = 0) := by omega
        simp only [hd', E1, seval]
        refine Safe.exit rfl (copy (n + 1) hn ?_ _ (by simp only [E1, seval, e0]) (by simp only [E1, seval, e3]))
        rw [← hv, limbs_val (hl.lim.take _)]
        rw [take_snoc (by omega)]; simpa using hd
  exact key l.length (Nat.le_refl _) (by rw [List.take_length]) _ (by simp only [E1, seval]) (by simp only [E1, seval])
theorem refmul_pure (A B : List Nat) (ha : Nt A) (hb : Nt B) (hab : A.length + B.length ≤ 17592186044416) : PureC Pr F_ref01_Mul [natV A, natV B] (natV (limbs (val A * val B))) := by
  refine PureC.intro ref01_Mul_fn ref01_Mul_ok (by simp only [List.length_cons, List.length_nil]; omega) (natV_cl _) fun H hH => ?_
  have la := ha.lim
  have lb := hb.lim
  refine Safe.seq (Safe.region ?_)
  have hLB : LB = 4294967296 := rfl
  simp only [ref01_Mul_r0, E1, seval]
  refine Safe.seq (Safe.region ?_)
  have hw : IntKind.wrap .i64 ((A.length : Int) + (B.length : Int)) = ((A.length + B.length : Nat) : Int) := by rw [wrap_i64] <;> omega
  simp only [ref01_Mul_r1, E1, seval, hw, mksl_nat _ H [] _ _ (A.length + B.length) (by omega)]
  refine Safe.seq (Safe.seq (Safe.region ?_))
  simp only [ref01_Mul_r2, E1, seval]
  refine Safe.block (Safe.loop ?_)
  have inner : ∀ (todo : List AItem) (i x : Nat) (z vx : Nat), i < A.length → x = A.getD i 0 → 
      (∀ (w : List Nat) (c : Nat) (env : Env), w.length = i + B.length → Lim w → c < LB → val w + LB ^ (i + B.length) * c = vx + LB ^ i * (x * val B) →
        look env 0 = natV A → look env 1 = natV B → look env 5 = .mu (lid H 0) 0 (A.length + B.length) (some (A.length + B.length)) → look env 6 = .int .i64 i → look env 7 = .int .u64 c →
        Safe ⟨Pr, fun _ _ => false, F_ref01_Mul, 68, [.tmp 4], H.length⟩ todo env (hap H [some ⟨1, u32s (w ++ List.replicate z 0)⟩]) fun r' H' => r' = natV (limbs (val A * val B)) ∧ ∃ L, H' = hap H L) →
      ∀ (k j c : Nat) (w : List Nat), j + k = B.length → w.length = i + B.length → Lim w → c < LB → val w + LB ^ (i + j) * c = vx + LB ^ i * (x * val (B.take j)) →
        Safe ⟨Pr, fun _ _ => false, F_ref01_Mul, 68, [.tmp 4], H.length⟩ (.inLoop ref01_Mul_l1 :: .inBlock 2 :: todo)
          [(0, natV A), (1, natV B), (5, .mu (lid H 0) 0 (A.length + B.length) (some (A.length + B.length))), (6, .int .i64 i), (7, .int .u64 c), (8, .int .i64 j)]
          (hap H [some ⟨1, u32s (w ++ List.replicate z 0)⟩]) fun r' H' => r' = natV (limbs (val A * val B)) ∧ ∃ L, H' = hap H L := by
    intro todo i x z vx hi hx hk k
    induction k with
    | zero =>
      intro j c w hjk hw lw hc hv
      have hj : j = B.length := by omega
      subst hj
      refine Safe.inLoop (Safe.seq (Safe.seq (Safe.region ?_)))
      simp only [ref01_Mul_r6, E1, seval, Int.lt_irrefl]
      refine Safe.cond ?_
      simp only [E1, seval]
      refine Safe.exit rfl ?_
      rw [List.take_length] at hv
      exact hk w c _ hw lw hc hv (by simp only [E1, seval]) (by simp only [E1, seval]) (by simp only [E1, seval]) (by simp only [E1, seval]) (by simp only [E1, seval])
    | succ k ih =>
      intro j c w hjk hw lw hc hv
      refine Safe.inLoop (Safe.seq (Safe.seq (Safe.region ?_)))
      have hlt : (j : Int) < (B.length : Int) := by omega
      simp only [ref01_Mul_r6, E1, seval, hlt]
      refine Safe.cond ?_
      simp only [E1, seval]
      refine Safe.skip (Safe.seq (Safe.block (Safe.seq (Safe.regionD ?_))))
      have xa := getD_lt la i
      have xb := getD_lt lb j
      have xw := getD_lt lw (i + j)
      have hfit := mul_fits hc xa xb xw
      have hLL : LB * LB = 18446744073709551616 := by decide
      have h1w : IntKind.wrap .u64 ((A.getD i 0 : Nat) : Int) = ((A.getD i 0 : Nat) : Int) := wrap_u64 (by omega) (by omega)
      have h2w : IntKind.wrap .u64 ((B.getD j 0 : Nat) : Int) = ((B.getD j 0 : Nat) : Int) := wrap_u64 (by omega) (by omega)
      have h3w : IntKind.wrap .u64 ((w.getD (i + j) 0 : Nat) : Int) = ((w.getD (i + j) 0 : Nat) : Int) := wrap_u64 (by omega) (by omega)
      have h4w : IntKind.wrap .u64 (((A.getD i 0 : Nat) : Int) * ((B.getD j 0 : Nat) : Int)) = ((A.getD i 0 * B.getD j 0 : Nat) : Int) := by rw [← Int.natCast_mul, wrap_u64] <;> omega
      have h5w : IntKind.wrap .u64 ((c : Int) + ((w.getD (i + j) 0 : Nat) : Int)) = ((c + w.getD (i + j) 0 : Nat) : Int) := by rw [wrap_u64] <;> omega
      have h6w : IntKind.wrap .u64 (((c + w.getD (i + j) 0 : Nat) : Int) + ((A.getD i 0 * B.getD j 0 : Nat) : Int)) = ((c + A.getD i 0 * B.getD j 0 + w.getD (i + j) 0 : Nat) : Int) := by rw [wrap_u64] <;> omega
      have h7w : IntKind.wrap .i64 ((i : Int) + (j : Int)) = ((i + j : Nat) : Int) := by rw [wrap_i64] <;> omega
      simp only [ref01_Mul_r7, E1, seval, natV_idx _ A _ i hi, natV_idx _ B _ j (by omega), h1w, h2w, h3w, h4w, h7w, one_idx _ _ _ _ _ _ (i + j) (show i + j < A.length + B.length by omega), one_at _ _ (i + j) (show i + j < (w ++ List.replicate z 0).length by simp [hw]; omega),
        getD_left w _ (i + j) (show i + j < w.length by omega), h5w, h6w]
      refine Safe.seq (Safe.region ?_)
      have hmod := Nat.mod_lt (c + A.getD i 0 * B.getD j 0 + w.getD (i + j) 0) (show 0 < LB by decide)
      have hcw : IntKind.wrap .u32 (((c + A.getD i 0 * B.getD j 0 + w.getD (i + j) 0) % LB : Nat) : Int) = (((c + A.getD i 0 * B.getD j 0 + w.getD (i + j) 0) % LB : Nat) : Int) := wrap_u32 (by omega) (by omega)
      simp only [ref01_Mul_r8, E1, seval, h7w, rem_lb, hcw, one_idx _ _ _ _ _ _ (i + j) (show i + j < A.length + B.length by omega), one_st _ _ _ (i + j) _ (show i + j < (w ++ List.replicate z 0).length by simp [hw]; omega), set_left w _ (i + j) _ (show i + j < w.length by omega)]
      refine Safe.region ?_
      simp only [ref01_Mul_r9, E1, seval, quo_lb _ (show c + A.getD i 0 * B.getD j 0 + w.getD (i + j) 0 < 18446744073709551616 by omega)]
      refine Safe.inBlock (Safe.region ?_)
      have hiw : IntKind.wrap .i64 ((j : Int) + 1) = ((j + 1 : Nat) : Int) := by rw [wrap_i64] <;> omega
      simp only [ref01_Mul_r10, E1, seval, hiw]
      refine Safe.keep [0, 1, 5, 6, 7, 8] ?_
      simp only [E1, seval]
      refine ih (j + 1) _ _ (by omega) (by simp [hw]) (lim_set lw hmod) ?_ ?_
      · exact Nat.div_lt_of_lt_mul hfit
      · rw [val_take_getD, show i + (j + 1) = (i + j) + 1 by omega, Nat.pow_succ]
        subst hx
        exact mul_step (Nat.pow_add LB i j) hv (val_set (by omega)) rfl
  have outer : ∀ (k i : Nat) (x : List Nat), i + k = A.length → x.length = i + B.length → Lim x → val x = val (A.take i) * val B →
        Safe ⟨Pr, fun _ _ => false, F_ref01_Mul, 68, [.tmp 4], H.length⟩ [.inLoop ref01_Mul_l0, .inBlock 0, .code ((ACode.region ref01_Mul_r13 false).seq .ret)]
          [(0, natV A), (1, natV B), (5, .mu (lid H 0) 0 (A.length + B.length) (some (A.length + B.length))), (6, .int .i64 i)]
          (hap H [some ⟨1, u32s (x ++ List.replicate k 0)⟩]) fun r' H' => r' = natV (limbs (val A * val B)) ∧ ∃ L, H' = hap H L := by
    intro k
    induction k with
    | zero =>
      intro i x hik hx lx hv
      have hi : i = A.length := by omega
      subst hi
      refine Safe.inLoop (Safe.seq (Safe.seq (Safe.region ?_)))
      simp only [ref01_Mul_r3, E1, seval, Int.lt_irrefl]
      refine Safe.cond ?_
      simp only [E1, seval]
      refine Safe.exit rfl ?_
      simp only [List.replicate_zero, List.append_nil]
      refine Safe.freeze 0 (b := ⟨1, u32s x⟩) hH rfl rfl (blk_u32 _) ?_
      refine Safe.seq (Safe.region ?_)
      simp only [ref01_Mul_r13, E1, seval, ← hx]
      refine (refnorm_pure x ⟨lx, by omega⟩).acall ?_
      try simp only [E1, seval]
      refine Safe.retn ?_
      simp only [E1, seval]
      rw [List.take_length] at hv
      rw [hv]
      first | exact ⟨rfl, _, rfl⟩ | exact ⟨_, rfl⟩ | exact ⟨trivial, _, rfl⟩
    | succ k ih =>
      intro i x hik hx lx hv
      refine Safe.inLoop (Safe.seq (Safe.seq (Safe.region ?_)))
      have hlt : (i : Int) < (A.length : Int) := by omega
      simp only [ref01_Mul_r3, E1, seval, hlt]
      refine Safe.cond ?_
      simp only [E1, seval]
      refine Safe.skip (Safe.seq (Safe.block (Safe.seq (Safe.region ?_))))
      simp only [ref01_Mul_r4, E1, seval]
      refine Safe.seq (Safe.seq (Safe.region ?_))
      simp only [ref01_Mul_r5, E1, seval]
      refine Safe.block (Safe.loop ?_)
      refine Safe.keep [0, 1, 5, 6, 7, 8] ?_
      simp only [E1, seval]
      refine inner _ i _ (k + 1) (val x) (by omega) rfl ?_ B.length 0 0 x (by omega) hx lx (by decide) (by simp [val])
      intro w c env hw lw hc hv2 e0 e1 e5 e6 e7
      refine Safe.region ?_
      have h7w : IntKind.wrap .i64 ((i : Int) + (B.length : Int)) = ((i + B.length : Nat) : Int) := by rw [wrap_i64] <;> omega
      have hcw : IntKind.wrap .u32 (c : Int) = (c : Int) := wrap_u32 (by omega) (by omega)
      simp only [ref01_Mul_r11, E1, seval, e0, e1, e5, e6, e7, h7w, hcw, one_idx _ _ _ _ _ _ (i + B.length) (show i + B.length < A.length + B.length by omega), one_st _ _ _ (i + B.length) _ (show i + B.length < (w ++ List.replicate (k + 1) 0).length by simp [hw])]
      refine Safe.inBlock (Safe.region ?_)
      have hiw : IntKind.wrap .i64 ((i : Int) + 1) = ((i + 1 : Nat) : Int) := by rw [wrap_i64] <;> omega
      simp only [ref01_Mul_r12, E1, seval, e6, hiw]
      refine Safe.keep [0, 1, 5, 6] ?_
      simp only [E1, seval, e0, e1, e5]
      have hset : (w ++ List.replicate (k + 1) 0).set (i + B.length) c = (w ++ [c]) ++ List.replicate k 0 := by rw [← hw]; exact set_rep _ _ _
      rw [hset]
      refine ih (i + 1) _ (by omega) (by simp [hw]; omega) (val_snoc_lim lw hc) ?_
      rw [val_snoc, hw, hv2, val_take_getD, hv, Nat.add_mul, Nat.mul_assoc]
  refine Safe.keep [0, 1, 5, 6] ?_
  simp only [E1, seval]
  have := outer A.length 0 (List.replicate B.length 0) (by omega) (by simp) (by intro d hd; simp at hd; omega) (by simp [val_replicate, val])
  rw [List.replicate_append_replicate, Nat.add_comm B.length] at this
  exact this
end Go.Abs
set_option linter.unusedVariables false
set_option linter.unusedSimpArgs false
namespace Go.Abs
theorem refmade_pure (neg : Bool) (l : List Nat) (hl : Nt l) : PureC Pr F_ref02_made [.bool neg, natV l] (Z (sgn neg (val l))) := by
  refine PureC.intro ref02_made_fn ref02_made_ok (by simp only [List.length_cons, List.length_nil]; omega) (Z_cl _) fun H hH => ?_
  refine Safe.seq (Safe.region ?_)
  simp only [ref02_made_r0, E2, seval]
  refine Safe.seq (Safe.region ?_)
  simp only [ref02_made_r1, E2, seval]
  refine (refnorm_pure l hl).acall ?_
  try simp only [E2, seval]
  refine Safe.seq (Safe.region ?_)
  have e0 : decide ((0 : Int) < ((limbs (val l)).length : Int)) = decide (0 < val l) := by
    rcases Nat.eq_zero_or_pos (val l) with h | h
    · rw [h, limbs_zero]; rfl
    · rw [limbs_pos (by omega)]; simp [h] <;> omega
  cases neg
  · simp only [ref02_made_r2, E2, seval]
    refine Safe.retn ?_
    simp only [E2, seval]
    rw [← Z_sgn]
    simp only [Bool.false_and]
    first | exact ⟨rfl, _, rfl⟩ | exact ⟨_, rfl⟩ | exact ⟨trivial, _, rfl⟩
  · simp only [ref02_made_r2, E2, seval, e0, pickV_and]
    refine Safe.retn ?_
    simp only [E2, seval]
    rw [← Z_sgn]
    simp only [Bool.true_and]
    first | exact ⟨rfl, _, rfl⟩ | exact ⟨_, rfl⟩ | exact ⟨trivial, _, rfl⟩
theorem made_pure (neg : Bool) (l : List Nat) (hl : Nt l) : PureC Pr F_zint_made [.bool neg, natV l] (Z (sgn neg (val l))) := by
  refine PureC.introL zint_made_fn zint_made_ok (by simp only [List.length_cons, List.length_nil]; omega) (Z_cl _) fun H hH => ?_
  have hll := hl.len
  refine Safe.seq (Safe.region ?_)
  simp only [zint_made_r0, E2, seval]
  refine Safe.seq (Safe.region ?_)
  simp only [zint_made_r1, E2, seval]
  refine Safe.seq (Safe.block (Safe.loop ?_))
  have copy : ∀ (n : Nat), n ≤ l.length → limbs (val l) = l.take n → ∀ env : Env, look env 0 = .bool neg → look env 1 = natV l → look env 4 = .loc (lid H 0) 0 0 → look env 5 = .int .i64 n →
      Safe ⟨Pr, fun _ _ => false, F_zint_made, 32, [.cell 4 (some 2)], H.length⟩ [.code (((ACode.region zint_made_r4 false).seq (.cond (.t 22) ((ACode.region zint_made_r5 false).seq .ret) .skip)).seq ((ACode.region zint_made_r6 false).seq ((ACode.region zint_made_r7 false).seq ((ACode.region zint_made_r8 false).seq .ret))))]
        env (hap H [some ⟨2, [.agg [.bool false, .nil]]⟩]) fun r' H' => Le r' (Z (sgn neg (val l))) ∧ ∃ L, H' = hap H L := by
    intro n hn hlim env e0 e1 e4 e5
    refine Safe.seq (Safe.seq (Safe.region ?_))
    simp only [zint_made_r4, E2, seval, e5]
    refine Safe.cond ?_
    simp only [E2, seval]
    by_cases h0 : n = 0
    · subst h0
      simp only [Int.natCast_zero, E2, seval]
      refine Safe.seq (Safe.region ?_)
      simp only [zint_made_r5, E2, seval, e4]
      refine Safe.retn ?_
      simp only [E2, seval, e4]
      refine ⟨?_, _, rfl⟩
      have : val l = 0 := by
        have := val_limbs (val l)
        rw [hlim] at this
        simpa [val] using this.symm
      rw [this, sgn_zero]
      exact le_zero
    · have h0' : ¬ ((n : Int) = 0) := by omega
      simp only [h0', E2, seval]
      refine Safe.skip (Safe.seq (Safe.region ?_))
      simp only [zint_made_r6, E2, seval, e5, mksl_nat _ H [some ⟨2, [.agg [.bool false, .nil]]⟩] _ _ n (by omega)]
      refine Safe.seq (Safe.region ?_)
      have hc := cpyV_row ((28, .int .i64 n) :: []) H [some ⟨2, [.agg [.bool false, .nil]]⟩, some ⟨1, u32s (List.replicate n 0)⟩] 1 1 n (some n) (natV l) (u32s (List.replicate n 0)) (u32s l) rfl (by simp [u32s_len]) (natV_src _ l) (by rw [u32s_len]; exact hn)
      simp only [zint_made_r7, E2, seval, e1]
      rw [cpyV_row _ H [some ⟨2, [.agg [.bool false, .nil]]⟩, some ⟨1, u32s (List.replicate n 0)⟩] 1 1 n (some n) (natV l) (u32s (List.replicate n 0)) (u32s l) rfl (by simp [u32s_len]) (natV_src _ l) (by rw [u32s_len]; exact hn)]
      simp only [E2, seval, u32s_take]
      refine Safe.freeze 1 (b := ⟨1, u32s (l.take n)⟩) hH rfl rfl (blk_u32 _) ?_
      have hlen : n = (l.take n).length := by rw [List.length_take]; omega
      have hfm : frz (lid H 1) ⟨1, u32s (l.take n)⟩ (.mu (lid H 1) 0 n (some n)) = natV (l.take n) := by
        have := frz_mu_nat H 1 (l.take n) (some n)
        rwa [← hlen] at this
      refine Safe.keep [0, 4, 6] ?_
      simp only [E2, seval, look_frzE, e0, e4, hfm, frz_loc_other H 1 0 _ 0 0 (by decide)]
      refine Safe.seq (Safe.region ?_)
      simp only [zint_made_r8, E2, seval]
      refine Safe.retn ?_
      simp only [E2, seval]
      refine ⟨?_, _, rfl⟩
      rw [← Z_sgn, hlim]
      have hp : 0 < val l := by
        rcases Nat.eq_zero_or_pos (val l) with h | h
        · rw [h, limbs_zero] at hlim
          have := congrArg List.length hlim
          simp at this; omega
        · exact h
      simp only [hp, decide_true, Bool.and_true]
      exact Le.refl _
  have key : ∀ (n : Nat), n ≤ l.length → val (l.take n) = val l → ∀ env : Env, look env 0 = .bool neg → look env 1 = natV l → look env 4 = .loc (lid H 0) 0 0 → look env 5 = .int .i64 n →
      Safe ⟨Pr, fun _ _ => false, F_zint_made, 32, [.cell 4 (some 2)], H.length⟩ [.inLoop zint_made_l0, .inBlock 0, .code (((ACode.region zint_made_r4 false).seq (.cond (.t 22) ((ACode.region zint_made_r5 false).seq .ret) .skip)).seq ((ACode.region zint_made_r6 false).seq ((ACode.region zint_made_r7 false).seq ((ACode.region zint_made_r8 false).seq .ret))))]
        env (hap H [some ⟨2, [.agg [.bool false, .nil]]⟩]) fun r' H' => Le r' (Z (sgn neg (val l))) ∧ ∃ L, H' = hap H L := by
    intro n
    induction n with
    | zero =>
      intro hn hv env e0 e1 e4 e5
      refine Safe.inLoop (Safe.seq (Safe.seq (Safe.region ?_)))
      simp only [zint_made_r2, E2, seval, e1, e5, Int.natCast_zero, Int.lt_irrefl]
      refine Safe.cond ?_
      simp only [E2, seval]
      refine Safe.exit rfl (copy 0 hn ?_ _ (by simp only [E2, seval, e0]) (by simp only [E2, seval, e1]) (by simp only [E2, seval, e4]) (by simp only [E2, seval, e5] <;> rfl))
      rw [← hv]; simp [val, limbs_zero]
    | succ n ih =>
      intro hn hv env e0 e1 e4 e5
      refine Safe.inLoop (Safe.seq (Safe.seq (Safe.region ?_)))
      have h0 : (0 : Int) < ((n + 1 : Nat) : Int) := by omega
      have hw : IntKind.wrap .i64 (((n + 1 : Nat) : Int) - 1) = (n : Int) := by rw [wrap_i64] <;> omega
      simp only [zint_made_r2, E2, seval, e1, e5, h0, hw, natV_idx _ l _ n (by omega)]
      refine Safe.cond ?_
      simp only [E2, seval]
      by_cases hd : l.getD n 0 = 0
      · simp only [hd, Int.natCast_zero, E2, seval]
        refine Safe.skip (Safe.block (Safe.region ?_))
        simp only [zint_made_r3, E2, seval, e5, hw]
        refine Safe.inBlock (ih (by omega) ?_ _ (by simp only [E2, seval, e0]) (by simp only [E2, seval, e1]) (by simp only [E2, seval, e4]) (by simp only [E2, seval]))
        rw [← hv, val_take_getD, hd]; simp
      · have hd' : ¬ (((l.getD n 0 : Nat) : Int) = 0) := by omega
        simp only [hd', E2, seval]
        refine Safe.exit rfl (copy (n + 1) hn ?_ _ (by simp only [E2, seval, e0]) (by simp only [E2, seval, e1]) (by simp only [E2, seval, e4]) (by simp only [E2, seval, e5]))
        rw [← hv, limbs_val (hl.lim.take _)]
        rw [take_snoc (by omega)]; simpa using hd
  exact key l.length (Nat.le_refl _) (by rw [List.take_length]) _ (by simp only [E2, seval]) (by simp only [E2, seval]) (by simp only [E2, seval]) (by simp only [E2, seval])
theorem sgn_add (n : Bool) (a b : Nat) : sgn n a + sgn n b = sgn n (a + b) := by cases n <;> simp [sgn] <;> omega
theorem sgn_sub (m n : Bool) (a b : Nat) (h : m ≠ n) (hb : b ≤ a) : sgn m a + sgn n b = sgn m (a - b) := by
  cases m <;> cases n <;> simp [sgn] at h ⊢ <;> omega
theorem sgn_sub' (m n : Bool) (a b : Nat) (h : m ≠ n) (hb : a ≤ b) : sgn m a + sgn n b = sgn n (b - a) := by
  cases m <;> cases n <;> simp [sgn] at h ⊢ <;> omega
theorem sgn_mul (m n : Bool) (a b : Nat) : sgn m a * sgn n b = sgn (!(m == n)) (a * b) := by
  cases m <;> cases n <;> simp [sgn, Int.neg_mul, Int.mul_neg]
theorem sgn_not (n : Bool) (a : Nat) : sgn (!n) a = - sgn n a := by cases n <;> simp [sgn]
theorem cmpI_ge (a b : Nat) : (0 ≤ cmpI a b) = (b ≤ a) := by unfold cmpI; split <;> (try split) <;> simp <;> omega
theorem cmpI_lt (a b : Nat) : (cmpI a b < 0) = (a < b) := by unfold cmpI; split <;> (try split) <;> simp <;> omega
theorem r2mul_pure (x y : ZI) (k l : Nat) (hx : Zok k x) (hy : Zok l y) (hkl : k + l ≤ 17592186044416) : PureC Pr F_ref02_Mul [x.av, y.av] (Z (x.z * y.z)) := by
  obtain ⟨n, a⟩ := x
  obtain ⟨m, b⟩ := y
  have hal := hx.len
  have hbl := hy.len
  simp only at hal hbl
  have ha : Nt a := ⟨hx.lim, by omega⟩
  have hb : Nt b := ⟨hy.lim, by omega⟩
  simp only [ZI.av, ZI.z]
  refine PureC.intro ref02_Mul_fn ref02_Mul_ok (by simp only [List.length_cons, List.length_nil]; omega) (Z_cl _) fun H hH => ?_
  refine Safe.seq (Safe.region ?_)
  simp only [ref02_Mul_r0, E2, seval]
  refine Safe.seq (Safe.regionD ?_)
  simp only [ref02_Mul_r1, E2, seval]
  refine (refmul_pure a b ha hb (by omega)).dcall ?_
  try simp only [E2, seval]
  have hn : Nt (limbs (val a * val b)) := ⟨lim_limbs _, by
    have h1 := val_lt ha.lim
    have h2 := val_lt hb.lim
    have h3 : val a * val b < LB ^ (a.length + b.length) := by
      rw [Nat.pow_add]
      exact Nat.mul_lt_mul'' h1 h2
    exact Nat.le_trans (limbs_len_le h3) (by omega)⟩
  refine (refmade_pure _ _ hn).dcall ?_
  rw [val_limbs, ← sgn_mul]
  simp only [Z, E2, seval]
  refine Safe.retn ?_
  simp only [E2, seval]
  first | exact ⟨rfl, _, rfl⟩ | exact ⟨_, rfl⟩ | exact ⟨trivial, _, rfl⟩
theorem r2of_pure (n : Int) (h0 : -9223372036854775808 ≤ n) (h1 : n < 9223372036854775808) : PureC Pr F_ref02_Of [.int .i64 n] (Z n) := by
  refine PureC.intro ref02_Of_fn ref02_Of_ok (by simp only [List.length_cons, List.length_nil]; omega) (Z_cl _) fun H hH => ?_
  have hLB : LB = 4294967296 := rfl
  refine Safe.seq (Safe.region ?_)
  simp only [ref02_Of_r0, E2, Nat.reduceLeDiff, Nat.reduceSub, Nat.reduceAdd, Nat.reduceEqDiff, reduceCtorEq, ↓reduceIte]
  refine Safe.seq (Safe.region ?_)
  simp only [ref02_Of_r1, E2, Nat.reduceLeDiff, Nat.reduceSub, Nat.reduceAdd, Nat.reduceEqDiff, reduceCtorEq, ↓reduceIte]
  refine Safe.seq (Safe.seq (Safe.region ?_))
  simp only [ref02_Of_r2, E2, Nat.reduceLeDiff, Nat.reduceSub, Nat.reduceAdd, Nat.reduceEqDiff, reduceCtorEq, ↓reduceIte]
  refine Safe.cond ?_
  simp only [E2, Nat.reduceLeDiff, Nat.reduceSub, Nat.reduceAdd, Nat.reduceEqDiff, reduceCtorEq, ↓reduceIte]
  have rest : ∀ (env : Env), look env 0 = .int .i64 n → look env 2 = .loc (lid H 0) 0 0 → look env 3 = .int .u64 (n.natAbs : Nat) →
      Safe ⟨Pr, fun _ _ => false, F_ref02_Of, 19, [.cell 2 (some 2)], H.length⟩ [.code ((ACode.region ref02_Of_r4 false).seq .ret)] env (hap H [some ⟨2, [.agg [.bool false, .nil]]⟩]) fun r' H' => r' = Z n ∧ ∃ L, H' = hap H L := by
    intro env e0 e2 e3
    refine Safe.seq (Safe.region ?_)
    have w1 : IntKind.wrap .u32 ((n.natAbs : Nat) : Int) = ((n.natAbs % LB : Nat) : Int) := wrap_u32_mod _
    have hLL : LB * LB = 18446744073709551616 := by decide
    have hdiv : n.natAbs / LB < LB := Nat.div_lt_of_lt_mul (by omega)
    have w2 : IntKind.wrap .u32 ((n.natAbs / LB : Nat) : Int) = ((n.natAbs / LB : Nat) : Int) := wrap_u32 (Int.natCast_nonneg _) (by omega)
    simp only [ref02_Of_r4, E2, Nat.reduceLeDiff, Nat.reduceSub, Nat.reduceAdd, Nat.reduceEqDiff, reduceCtorEq, ↓reduceIte, e0, e3, e2, w1, shBin_shr _ _ _ (show (0 : Int) ≤ 32 by decide), shr32, w2]
    have hm := Nat.mod_lt n.natAbs (show 0 < LB by decide)
    have := refmade_pure (decide (n < 0)) [n.natAbs % LB, n.natAbs / LB] ⟨by intro d hd; simp at hd; omega, by simp⟩
    have hv : val [n.natAbs % LB, n.natAbs / LB] = n.natAbs := by
      simp only [val]; rw [Nat.mul_zero, Nat.add_zero, Nat.mod_add_div]
    rw [hv, show sgn (decide (n < 0)) n.natAbs = n by unfold sgn; by_cases h : n < 0 <;> simp [h] <;> omega] at this
    refine PureC.acall this ?_
    simp only [Z, E2, Nat.reduceLeDiff, Nat.reduceSub, Nat.reduceAdd, Nat.reduceEqDiff, reduceCtorEq, ↓reduceIte, e2]
    refine Safe.retn ?_
    simp only [E2, Nat.reduceLeDiff, Nat.reduceSub, Nat.reduceAdd, Nat.reduceEqDiff, reduceCtorEq, ↓reduceIte, e2]
    first | exact ⟨rfl, _, rfl⟩ | exact ⟨_, rfl⟩ | exact ⟨trivial, _, rfl⟩
  by_cases hn : n < 0
  · simp only [hn, E2, Nat.reduceLeDiff, Nat.reduceSub, Nat.reduceAdd, Nat.reduceEqDiff, reduceCtorEq, ↓reduceIte]
    refine Safe.region ?_
    have w : IntKind.wrap .u64 (0 - IntKind.wrap .u64 n) = ((n.natAbs : Nat) : Int) := by rw [wrap_u64_mod, wrap_u64_mod]; omega
    simp only [ref02_Of_r3, E2, Nat.reduceLeDiff, Nat.reduceSub, Nat.reduceAdd, Nat.reduceEqDiff, reduceCtorEq, ↓reduceIte, w]
    exact rest _ (by simp only [E2, Nat.reduceLeDiff, Nat.reduceSub, Nat.reduceAdd, Nat.reduceEqDiff, reduceCtorEq, ↓reduceIte]) (by simp only [E2, Nat.reduceLeDiff, Nat.reduceSub, Nat.reduceAdd, Nat.reduceEqDiff, reduceCtorEq, ↓reduceIte]) (by simp only [E2, Nat.reduceLeDiff, Nat.reduceSub, Nat.reduceAdd, Nat.reduceEqDiff, reduceCtorEq, ↓reduceIte])
  · have w : IntKind.wrap .u64 n = ((n.natAbs : Nat) : Int) := by rw [wrap_u64_mod]; omega
    simp only [hn, E2, Nat.reduceLeDiff, Nat.reduceSub, Nat.reduceAdd, Nat.reduceEqDiff, reduceCtorEq, ↓reduceIte]
    exact Safe.skip (rest _ (by simp only [E2, Nat.reduceLeDiff, Nat.reduceSub, Nat.reduceAdd, Nat.reduceEqDiff, reduceCtorEq, ↓reduceIte]) (by simp only [E2, Nat.reduceLeDiff, Nat.reduceSub, Nat.reduceAdd, Nat.reduceEqDiff, reduceCtorEq, ↓reduceIte]) (by simp only [E2, Nat.reduceLeDiff, Nat.reduceSub, Nat.reduceAdd, Nat.reduceEqDiff, reduceCtorEq, ↓reduceIte, w]))
theorem zform_pure (x : ZI) (hx : Zok 17592186044416 x) : PureC Pr F_zint_Form [x.av] (Z x.z) := by
  obtain ⟨n, m⟩ := x
  have hm : Nt m := ⟨hx.lim, hx.len⟩
  simp only [ZI.av, ZI.z]
  refine PureC.intro zint_Form_fn zint_Form_ok (by simp only [List.length_cons, List.length_nil]; omega) (Z_cl _) fun H hH => ?_
  refine Safe.seq (Safe.region ?_)
  simp only [zint_Form_r0, E2, seval]
  refine Safe.seq (Safe.region ?_)
  simp only [zint_Form_r1, E2, seval]
  refine (made_pure n m hm).acall ?_
  simp only [Z, E2, seval]
  refine Safe.retn ?_
  simp only [E2, seval]
  first | exact ⟨rfl, _, rfl⟩ | exact ⟨_, rfl⟩ | exact ⟨trivial, _, rfl⟩
theorem zneg_pure (x : ZI) (hx : Zok 17592186044416 x) : PureC Pr F_zint_Neg [x.av] (Z (-x.z)) := by
  obtain ⟨n, m⟩ := x
  have hm : Nt m := ⟨hx.lim, hx.len⟩
  simp only [ZI.av, ZI.z]
  refine PureC.intro zint_Neg_fn zint_Neg_ok (by simp only [List.length_cons, List.length_nil]; omega) (Z_cl _) fun H hH => ?_
  refine Safe.seq (Safe.region ?_)
  simp only [zint_Neg_r0, E2, seval]
  refine Safe.seq (Safe.region ?_)
  simp only [zint_Neg_r1, E2, seval]
  refine (made_pure (!n) m hm).acall ?_
  rw [sgn_not]
  simp only [Z, E2, seval]
  refine Safe.retn ?_
  simp only [E2, seval]
  first | exact ⟨rfl, _, rfl⟩ | exact ⟨_, rfl⟩ | exact ⟨trivial, _, rfl⟩
theorem zmul_pure (x y : ZI) (k l : Nat) (hx : Zok k x) (hy : Zok l y) (hkl : k + l ≤ 17592186044416) : PureC Pr F_zint_Mul [x.av, y.av] (Z (x.z * y.z)) := by
  obtain ⟨n, a⟩ := x
  obtain ⟨m, b⟩ := y
  have hal := hx.len
  have hbl := hy.len
  simp only at hal hbl
  have ha : Nt a := ⟨hx.lim, by omega⟩
  have hb : Nt b := ⟨hy.lim, by omega⟩
  simp only [ZI.av, ZI.z]
  refine PureC.intro zint_Mul_fn zint_Mul_ok (by simp only [List.length_cons, List.length_nil]; omega) (Z_cl _) fun H hH => ?_
  refine Safe.seq (Safe.region ?_)
  simp only [zint_Mul_r0, E2, seval]
  refine Safe.seq (Safe.regionD ?_)
  simp only [zint_Mul_r1, E2, seval]
  refine (natmul_pure a b ha hb (by omega)).dcall ?_
  try simp only [E2, seval]
  have hn : Nt (limbs (val a * val b)) := ⟨lim_limbs _, by
    have h1 := val_lt ha.lim
    have h2 := val_lt hb.lim
    have h3 : val a * val b < LB ^ (a.length + b.length) := by
      rw [Nat.pow_add]
      exact Nat.mul_lt_mul'' h1 h2
    exact Nat.le_trans (limbs_len_le h3) (by omega)⟩
  refine (made_pure _ _ hn).dcall ?_
  rw [val_limbs, ← sgn_mul]
  simp only [Z, E2, seval]
  refine Safe.retn ?_
  simp only [E2, seval]
  first | exact ⟨rfl, _, rfl⟩ | exact ⟨_, rfl⟩ | exact ⟨trivial, _, rfl⟩
theorem zadd_pure (x y : ZI) (k : Nat) (hx : Zok k x) (hy : Zok k y) (hk : k < 17592186044416) : PureC Pr F_zint_Add [x.av, y.av] (Z (x.z + y.z)) := by
  obtain ⟨n, a⟩ := x
  obtain ⟨m, b⟩ := y
  have hal := hx.len
  have hbl := hy.len
  have hav := hx.lt
  have hbv := hy.lt
  simp only at hal hbl hav hbv
  have ha : Nt a := ⟨hx.lim, by omega⟩
  have hb : Nt b := ⟨hy.lim, by omega⟩
  have hle : ∀ v, v < LB ^ k → Nt (limbs v) := fun v hv => ⟨lim_limbs _, Nat.le_trans (limbs_len_le hv) (by omega)⟩
  simp only [ZI.av, ZI.z]
  refine PureC.intro zint_Add_fn zint_Add_ok (by simp only [List.length_cons, List.length_nil]; omega) (Z_cl _) fun H hH => ?_
  refine Safe.seq (Safe.region ?_)
  simp only [zint_Add_r0, E2, seval]
  refine Safe.seq (Safe.seq (Safe.region ?_))
  simp only [zint_Add_r1, E2, seval]
  refine Safe.cond ?_
  simp only [E2, seval]
  by_cases hnm : n = m
  · subst hnm
    simp only [beq_self_eq_true, E2, seval]
    refine Safe.seq (Safe.regionD ?_)
    simp only [zint_Add_r2, E2, seval]
    refine (natadd_pure a b ha.lim hb.lim (by omega) (by omega)).dcall ?_
    try simp only [E2, seval]
    have hn : Nt (limbs (val a + val b)) := ⟨lim_limbs _, by
      have h3 : val a + val b < LB ^ (k + 1) := by
        rw [Nat.pow_succ]
        have : LB ^ k * 2 ≤ LB ^ k * LB := Nat.mul_le_mul_left _ (by decide)
        omega
      exact Nat.le_trans (limbs_len_le h3) (by omega)⟩
    refine (made_pure _ _ hn).dcall ?_
    rw [val_limbs, sgn_add]
    simp only [Z, E2, seval]
    refine Safe.retn ?_
    simp only [E2, seval]
    first | exact ⟨rfl, _, rfl⟩ | exact ⟨_, rfl⟩ | exact ⟨trivial, _, rfl⟩
  · have hnm' : (n == m) = false := by simpa using hnm
    simp only [hnm', E2, seval]
    refine Safe.skip (Safe.seq (Safe.seq (Safe.region ?_)))
    simp only [zint_Add_r3, E2, seval]
    refine (natcmp_pure a b ha hb).acall ?_
    simp only [E2, seval, cmpI_lt, cmpI_ge]
    refine Safe.cond ?_
    simp only [E2, seval]
    by_cases hlt : val a < val b
    · simp only [hlt, E2, seval]
      refine Safe.region ?_
      simp only [zint_Add_r4, E2, seval]
      refine Safe.seq (Safe.region ?_)
      simp only [zint_Add_r5, E2, seval]
      refine (natsub_pure b a hb ha (by omega)).acall ?_
      simp only [E2, seval]
      refine Safe.seq (Safe.region ?_)
      simp only [zint_Add_r6, E2, seval]
      refine (made_pure _ _ (hle (val b - val a) (by omega))).acall ?_
      rw [val_limbs, sgn_sub' n m _ _ hnm (by omega)]
      simp only [Z, E2, seval]
      refine Safe.retn ?_
      simp only [E2, seval]
      first | exact ⟨rfl, _, rfl⟩ | exact ⟨_, rfl⟩ | exact ⟨trivial, _, rfl⟩
    · simp only [hlt, E2, seval]
      refine Safe.skip (Safe.seq (Safe.region ?_))
      simp only [zint_Add_r5, E2, seval]
      refine (natsub_pure a b ha hb (by omega)).acall ?_
      simp only [E2, seval]
      refine Safe.seq (Safe.region ?_)
      simp only [zint_Add_r6, E2, seval]
      refine (made_pure _ _ (hle (val a - val b) (by omega))).acall ?_
      rw [val_limbs, sgn_sub n m _ _ hnm (by omega)]
      simp only [Z, E2, seval]
      refine Safe.retn ?_
      simp only [E2, seval]
      first | exact ⟨rfl, _, rfl⟩ | exact ⟨_, rfl⟩ | exact ⟨trivial, _, rfl⟩
theorem zsub_pure (x y : ZI) (k : Nat) (hx : Zok k x) (hy : Zok k y) (hk : k < 17592186044416) : PureC Pr F_zint_Sub [x.av, y.av] (Z (x.z - y.z)) := by
  have hadd := zadd_pure x (canZ (-y.z)) k hx (zok_can (by rw [Int.natAbs_neg]; exact hy.abs)) hk
  rw [canZ_z, canZ_av] at hadd
  have hneg := zneg_pure y (hy.mono (by omega))
  obtain ⟨n, a⟩ := x
  obtain ⟨m, b⟩ := y
  simp only [ZI.av] at hadd hneg ⊢
  refine PureC.intro zint_Sub_fn zint_Sub_ok (by simp only [List.length_cons, List.length_nil]; omega) (Z_cl _) fun H hH => ?_
  refine Safe.seq (Safe.region ?_)
  simp only [zint_Sub_r0, E2, seval]
  refine Safe.seq (Safe.regionD ?_)
  simp only [zint_Sub_r1, E2, seval]
  refine hneg.dcall ?_
  try simp only [E2, seval]
  refine hadd.dcall ?_
  rw [← Int.sub_eq_add_neg]
  simp only [Z, E2, seval]
  refine Safe.retn ?_
  simp only [E2, seval]
  first | exact ⟨rfl, _, rfl⟩ | exact ⟨_, rfl⟩ | exact ⟨trivial, _, rfl⟩
theorem zof_pure (n : Int) (h0 : -9223372036854775808 ≤ n) (h1 : n < 9223372036854775808) : PureC Pr F_zint_Of [.int .i64 n] (Z n) := by
  refine PureC.intro zint_Of_fn zint_Of_ok (by simp only [List.length_cons, List.length_nil]; omega) (Z_cl _) fun H hH => ?_
  have hLB : LB = 4294967296 := rfl
  refine Safe.seq (Safe.region ?_)
  simp only [zint_Of_r0, E2, Nat.reduceLeDiff, Nat.reduceSub, Nat.reduceAdd, Nat.reduceEqDiff, reduceCtorEq, ↓reduceIte]
  refine Safe.seq (Safe.region ?_)
  simp only [zint_Of_r1, E2, Nat.reduceLeDiff, Nat.reduceSub, Nat.reduceAdd, Nat.reduceEqDiff, reduceCtorEq, ↓reduceIte]
  refine Safe.seq (Safe.seq (Safe.region ?_))
  simp only [zint_Of_r2, E2, Nat.reduceLeDiff, Nat.reduceSub, Nat.reduceAdd, Nat.reduceEqDiff, reduceCtorEq, ↓reduceIte]
  refine Safe.cond ?_
  simp only [E2, Nat.reduceLeDiff, Nat.reduceSub, Nat.reduceAdd, Nat.reduceEqDiff, reduceCtorEq, ↓reduceIte]
  have rest : ∀ (env : Env), look env 0 = .int .i64 n → look env 2 = .loc (lid H 0) 0 0 → look env 3 = .int .u64 (n.natAbs : Nat) →
      Safe ⟨Pr, fun _ _ => false, F_zint_Of, 19, [.cell 2 (some 2)], H.length⟩ [.code ((ACode.region zint_Of_r4 false).seq .ret)] env (hap H [some ⟨2, [.agg [.bool false, .nil]]⟩]) fun r' H' => r' = Z n ∧ ∃ L, H' = hap H L := by
    intro env e0 e2 e3
    refine Safe.seq (Safe.region ?_)
    have w1 : IntKind.wrap .u32 ((n.natAbs : Nat) : Int) = ((n.natAbs % LB : Nat) : Int) := wrap_u32_mod _
    have hLL : LB * LB = 18446744073709551616 := by decide
    have hdiv : n.natAbs / LB < LB := Nat.div_lt_of_lt_mul (by omega)
    have w2 : IntKind.wrap .u32 ((n.natAbs / LB : Nat) : Int) = ((n.natAbs / LB : Nat) : Int) := wrap_u32 (Int.natCast_nonneg _) (by omega)
    simp only [zint_Of_r4, E2, Nat.reduceLeDiff, Nat.reduceSub, Nat.reduceAdd, Nat.reduceEqDiff, reduceCtorEq, ↓reduceIte, e0, e3, e2, w1, shBin_shr _ _ _ (show (0 : Int) ≤ 32 by decide), shr32, w2]
    have hm := Nat.mod_lt n.natAbs (show 0 < LB by decide)
    have := made_pure (decide (n < 0)) [n.natAbs % LB, n.natAbs / LB] ⟨by intro d hd; simp at hd; omega, by simp⟩
    have hv : val [n.natAbs % LB, n.natAbs / LB] = n.natAbs := by
      simp only [val]; rw [Nat.mul_zero, Nat.add_zero, Nat.mod_add_div]
    rw [hv, show sgn (decide (n < 0)) n.natAbs = n by unfold sgn; by_cases h : n < 0 <;> simp [h] <;> omega] at this
    refine PureC.acall this ?_
    simp only [Z, E2, Nat.reduceLeDiff, Nat.reduceSub, Nat.reduceAdd, Nat.reduceEqDiff, reduceCtorEq, ↓reduceIte, e2]
    refine Safe.retn ?_
    simp only [E2, Nat.reduceLeDiff, Nat.reduceSub, Nat.reduceAdd, Nat.reduceEqDiff, reduceCtorEq, ↓reduceIte, e2]
    first | exact ⟨rfl, _, rfl⟩ | exact ⟨_, rfl⟩ | exact ⟨trivial, _, rfl⟩
  by_cases hn : n < 0
  · simp only [hn, E2, Nat.reduceLeDiff, Nat.reduceSub, Nat.reduceAdd, Nat.reduceEqDiff, reduceCtorEq, ↓reduceIte]
    refine Safe.region ?_
    have w : IntKind.wrap .u64 (0 - IntKind.wrap .u64 n) = ((n.natAbs : Nat) : Int) := by rw [wrap_u64_mod, wrap_u64_mod]; omega
    simp only [zint_Of_r3, E2, Nat.reduceLeDiff, Nat.reduceSub, Nat.reduceAdd, Nat.reduceEqDiff, reduceCtorEq, ↓reduceIte, w]
    exact rest _ (by simp only [E2, Nat.reduceLeDiff, Nat.reduceSub, Nat.reduceAdd, Nat.reduceEqDiff, reduceCtorEq, ↓reduceIte]) (by simp only [E2, Nat.reduceLeDiff, Nat.reduceSub, Nat.reduceAdd, Nat.reduceEqDiff, reduceCtorEq, ↓reduceIte]) (by simp only [E2, Nat.reduceLeDiff, Nat.reduceSub, Nat.reduceAdd, Nat.reduceEqDiff, reduceCtorEq, ↓reduceIte])
  · have w : IntKind.wrap .u64 n = ((n.natAbs : Nat) : Int) := by rw [wrap_u64_mod]; omega
    simp only [hn, E2, Nat.reduceLeDiff, Nat.reduceSub, Nat.reduceAdd, Nat.reduceEqDiff, reduceCtorEq, ↓reduceIte]
    exact Safe.skip (rest _ (by simp only [E2, Nat.reduceLeDiff, Nat.reduceSub, Nat.reduceAdd, Nat.reduceEqDiff, reduceCtorEq, ↓reduceIte]) (by simp only [E2, Nat.reduceLeDiff, Nat.reduceSub, Nat.reduceAdd, Nat.reduceEqDiff, reduceCtorEq, ↓reduceIte]) (by simp only [E2, Nat.reduceLeDiff, Nat.reduceSub, Nat.reduceAdd, Nat.reduceEqDiff, reduceCtorEq, ↓reduceIte, w]))
theorem sign_sgn (n : Bool) (a : Nat) : (sgn n a).sign = if a = 0 then 0 else if n then -1 else 1 := by
  rcases Nat.eq_zero_or_pos a with h | h
  · subst h; simp [sgn_zero]
  · rw [if_neg (by omega)]
    cases n
    · simp only [sgn, Bool.false_eq_true, if_false]
      exact Int.sign_eq_one_of_pos (by omega)
    · simp only [sgn, if_true]
      exact Int.sign_eq_neg_one_of_neg (by omega)
theorem blen_eq_zero (n : Nat) : ((blen n : Nat) : Int) = 0 ↔ n = 0 := by
  unfold blen
  split
  · rename_i h; simp [h]
  · rename_i h; simp [h]; omega
theorem zsign_pure (x : ZI) (hx : Zok 17592186044416 x) : PureC Pr F_zint_Sign [x.av] (.int .i64 x.z.sign) := by
  obtain ⟨n, m⟩ := x
  have hm : Nt m := ⟨hx.lim, hx.len⟩
  simp only [ZI.av, ZI.z, sign_sgn]
  refine PureC.intro zint_Sign_fn zint_Sign_ok (by simp only [List.length_cons, List.length_nil]; omega) (.int _ _) fun H hH => ?_
  refine Safe.seq (Safe.region ?_)
  simp only [zint_Sign_r0, E2, seval]
  refine Safe.seq (Safe.block (Safe.seq (Safe.region ?_)))
  simp only [zint_Sign_r1, E2, seval]
  refine (natbits_pure m hm).acall ?_
  simp only [E2, seval, blen_eq_zero]
  refine Safe.cond ?_
  simp only [E2, seval]
  by_cases h0 : val m = 0
  · simp only [h0, E2, seval]
    refine Safe.seq (Safe.region ?_)
    simp only [zint_Sign_r2, E2, seval]
    refine Safe.retn ?_
    simp only [E2, seval]
    first | exact ⟨rfl, _, rfl⟩ | exact ⟨_, rfl⟩ | exact ⟨trivial, _, rfl⟩
  · simp only [h0, E2, seval]
    refine Safe.seq (Safe.region ?_)
    simp only [zint_Sign_r3, E2, seval]
    refine Safe.cond ?_
    simp only [E2, seval]
    cases n
    · simp only [E2, seval]
      refine Safe.skip (Safe.inBlock (Safe.seq (Safe.region ?_)))
      simp only [zint_Sign_r5, E2, seval]
      refine Safe.retn ?_
      simp only [E2, seval]
      first | exact ⟨rfl, _, rfl⟩ | exact ⟨_, rfl⟩ | exact ⟨trivial, _, rfl⟩
    · simp only [E2, seval]
      refine Safe.seq (Safe.region ?_)
      simp only [zint_Sign_r4, E2, seval]
      refine Safe.retn ?_
      simp only [E2, seval]
      first | exact ⟨rfl, _, rfl⟩ | exact ⟨_, rfl⟩ | exact ⟨trivial, _, rfl⟩
end Go.Abs
set_option linter.unusedVariables false
set_option linter.unusedSimpArgs false
namespace Go.Abs
/-- Numbers in their one form. -/
def cans (v : List Int) : List ZI := v.map canZ
theorem times_pure (k : ZI) (v : List ZI) (p q : Nat) (hk : Zok p k) (hv : Vok q v) (hpq : p + q ≤ 17592186044416) : PureC Pr F_ref04_Times [k.av, vecV v] (vecV (cans (v.map fun x => k.z * x.z))) := by
  have hvl := hv.len
  obtain ⟨kn, km⟩ := k
  simp only [ZI.av]
  refine PureC.intro ref04_Times_fn ref04_Times_ok (by simp only [List.length_cons, List.length_nil]; omega) (vecV_cl _) fun H hH => ?_
  refine Safe.seq (Safe.region ?_)
  simp only [ref04_Times_r0, E3, seval]
  refine Safe.seq (Safe.region ?_)
  simp only [ref04_Times_r1, E3, seval]
  refine Safe.seq (Safe.seq (Safe.region ?_))
  simp only [ref04_Times_r2, E3, seval]
  refine Safe.nilrow 5 2 (by decide) (by simp only [E3, seval]) ?_
  refine Safe.block (Safe.loop ?_)
  have key : ∀ (m i : Nat), i + m = v.length → Safe ⟨Pr, fun _ _ => false, F_ref04_Times, 23, [.tmp 4], H.length⟩ [.inLoop ref04_Times_l0, .inBlock 0, .code ((ACode.region ref04_Times_r6 false).seq .ret)]
      [(1, vecV v), (2, .loc (lid H 0) 0 0), (5, .mu (lid H 1) 0 (cans ((v.take i).map fun x => (ZI.mk kn km).z * x.z)).length none), (6, .int .i64 i)] (hap H [some ⟨2, [.agg [.bool kn, natV km]]⟩, some ⟨2, (cans ((v.take i).map fun x => (ZI.mk kn km).z * x.z)).map ZI.av⟩])
        fun r' H' => r' = vecV (cans (v.map fun x => (ZI.mk kn km).z * x.z)) ∧ ∃ L, H' = hap H L := by
    intro m
    induction m with
    | zero =>
      intro i hi
      have hi' : i = v.length := by omega
      subst hi'
      refine Safe.inLoop (Safe.seq (Safe.seq (Safe.region ?_)))
      simp only [ref04_Times_r3, E3, seval, Int.lt_irrefl]
      refine Safe.cond ?_
      simp only [E3, seval]
      refine Safe.exit rfl ?_
      rw [List.take_length]
      refine Safe.freeze 1 (b := ⟨2, (cans (v.map fun x => (ZI.mk kn km).z * x.z)).map ZI.av⟩) hH rfl rfl (blk_map 2 ZI.av _ ZI.cl) ?_
      refine Safe.keep [5] ?_
      simp only [E3, seval, frz_mu_map]
      refine Safe.seq (Safe.region ?_)
      simp only [ref04_Times_r6, E3, seval]
      refine Safe.retn ?_
      simp only [E3, seval]
      first | exact ⟨rfl, _, rfl⟩ | exact ⟨_, rfl⟩ | exact ⟨trivial, _, rfl⟩
    | succ m ih =>
      intro i hi
      refine Safe.inLoop (Safe.seq (Safe.seq (Safe.region ?_)))
      have hlt : (i : Int) < (v.length : Int) := by omega
      simp only [ref04_Times_r3, E3, seval, hlt]
      refine Safe.cond ?_
      simp only [E3, seval]
      refine Safe.skip (Safe.seq (Safe.block (Safe.regionD ?_)))
      simp only [ref04_Times_r4, E3, seval, vec_idx _ v _ i (by omega)]
      refine (r2mul_pure ⟨kn, km⟩ v[i] p q hk (hv.get (by omega)) hpq).dcall ?_
      have hl : (cans ((v.take i).map fun x => (ZI.mk kn km).z * x.z)).length = i := by simp [cans]; omega
      have happ := fun env => app_map H hH [some ⟨2, [.agg [.bool kn, natV km]]⟩, some ⟨2, (cans ((v.take i).map fun x => (ZI.mk kn km).z * x.z)).map ZI.av⟩] 1 _ (lid_ge H 1) env 2 32 ZI.av ZI.cl (cans ((v.take i).map fun x => (ZI.mk kn km).z * x.z)) (canZ ((ZI.mk kn km).z * v[i].z)) rfl (by
        intro b hb
        simp only [List.mem_cons, Option.some.injEq, List.not_mem_nil, or_false] at hb
        rcases hb with rfl | rfl
        · exact fun a ha => clcells (ZI.cl ⟨kn, km⟩) a (by simpa [Blk.flat, ZI.av] using ha)
        · exact blk_map 2 ZI.av _ ZI.cl) (by omega) (by omega)
      rw [canZ_av] at happ
      simp only [E3, seval, happ, natV_clb, clb_bool]
      refine Safe.inBlock (Safe.region ?_)
      have hiw : IntKind.wrap .i64 ((i : Int) + 1) = ((i + 1 : Nat) : Int) := by rw [wrap_i64] <;> omega
      simp only [ref04_Times_r5, E3, seval, hiw]
      refine Safe.keep [1, 2, 5, 6] ?_
      simp only [E3, seval]
      have := ih (i + 1) (by omega)
      rw [List.take_succ_eq_append_getElem (by omega), List.map_append] at this
      simpa only [cans, List.map_append, List.map_cons, List.map_nil, List.length_append, List.length_cons, List.length_nil] using this
  refine Safe.keep [1, 2, 5, 6] ?_
  simp only [E3, seval]
  exact key v.length 0 (by omega)
theorem of_one : PureC Pr F_ref02_Of [.int .i64 1] (canZ 1).av := r2of_pure 1 (by omega) (by omega)
theorem zok_small {z : Int} (h : z.natAbs < 4294967296) : Zok 1 (canZ z) := zok_can (by simpa using h)
end Go.Abs
set_option linter.unusedVariables false
set_option linter.unusedSimpArgs false
namespace Go.Abs
theorem eq_pure (x : ZI) (hx : Zok 17592186044416 x) : PureC Pr F_law06_eq [x.av, x.av] (.bool true) := by
  obtain ⟨n, m⟩ := x
  have hml : m.length ≤ 17592186044416 := hx.len
  simp only [ZI.av]
  refine PureC.intro law06_eq_fn law06_eq_ok (Nat.le_of_ble_eq_true rfl) (.bool _) fun H hH => ?_
  refine Safe.rg rfl ?_
  simp only [law06_eq_r0, E3, seval]
  refine Safe.rg rfl ?_
  simp only [law06_eq_r1, beq_self_eq_true, E3, seval]
  refine Safe.cd rfl ?_
  simp only [E3, seval]
  refine Safe.rg rfl ?_
  simp only [law06_eq_r3, E3, seval]
  refine Safe.lp rfl ?_
  refine Safe.keep [2, 3, 5] ?_
  try simp only [E3, seval]
  refine Safe.loopN (m.length) (fun i => [(2, .loc (lid H 0) 0 0), (3, .loc (lid H 1) 0 0), (5, .int .i64 i)]) (fun i => hap H [some ⟨2, [.agg [.bool n, natV m]]⟩, some ⟨2, [.agg [.bool n, natV m]]⟩]) rfl rfl (fun i hi ih => ?_) ?_
  · have hlt : (i : Int) < (m.length : Int) := by omega
    have hiw : IntKind.wrap .i64 ((i : Int) + 1) = ((i + 1 : Nat) : Int) := by rw [wrap_i64] <;> omega
    refine Safe.inLoop ?_
    refine Safe.rg rfl ?_
    simp only [law06_eq_r4, hlt, E3, seval]
    refine Safe.cd rfl ?_
    simp only [E3, seval]
    refine Safe.rg rfl ?_
    simp only [law06_eq_r5, natV_idx _ m _ i (by omega), E3, seval]
    refine Safe.cd rfl ?_
    simp only [E3, seval]
    refine Safe.rg rfl ?_
    simp only [law06_eq_r7, hiw, E3, seval]
    refine Safe.keep [2, 3, 5] ?_
    simp only [E3, seval]
    exact ih
  · refine Safe.inLoop ?_
    refine Safe.rg rfl ?_
    simp only [law06_eq_r4, Int.lt_irrefl, E3, seval]
    refine Safe.cd rfl ?_
    simp only [E3, seval]
    refine Safe.rg rfl ?_
    simp only [law06_eq_r8, E3, seval]
    refine Safe.rt rfl ?_
    simp only [E3, seval]
    first | exact ⟨rfl, _, rfl⟩ | exact ⟨_, rfl⟩ | exact ⟨trivial, _, rfl⟩
theorem each_VV (g : FuncId) (caps : List AV) (v : List (List ZI)) (f : Nat → List ZI) (hv : v.length ≤ 2097152) (hc : ∀ c ∈ caps, Cl c) (hf : ∀ (i : Nat) (h : i < v.length), PureC Pr g (vecV v[i] :: caps) (vecV (f i))) : PureC Pr F_mat_each_V_V [matV v, .fn g caps] (matV (mat v.length f)) := by
  have hcl : ∀ id, caps.all (nref id) = true := fun id => List.all_eq_true.2 fun c h => nref_cl (hc c h)
  refine PureC.intro mat_each_V_V_fn mat_each_V_V_ok (Nat.le_of_ble_eq_true rfl) (matV_cl _) fun H hH => ?_
  refine Safe.rg rfl ?_
  simp only [mat_each_V_V_r0, E3, seval]
  refine Safe.rg rfl ?_
  simp only [mat_each_V_V_r1, mksl_row _ _ 1 24 _ _ _ v.length (by decide) (by omega) (by omega), E3, seval]
  refine Safe.rg rfl ?_
  simp only [mat_each_V_V_r2, E3, seval]
  refine Safe.lp rfl ?_
  refine Safe.keep [1, 5, 11, 12, 13] ?_
  try simp only [E3, seval]
  refine Safe.loopN (v.length) (fun i => [(1, .fn g caps), (5, .mu (lid H 0) 0 i (some v.length)), (11, matV v), (12, .int .i64 v.length), (13, .int .i64 i)]) (fun i => hap H [some ⟨1, (mat i f).map vecV⟩]) rfl rfl (fun i hi ih => ?_) ?_
  · have hlt : (i : Int) < (v.length : Int) := by omega
    have hiw : IntKind.wrap .i64 ((i : Int) + 1) = ((i + 1 : Nat) : Int) := by rw [wrap_i64] <;> omega
    refine Safe.inLoop ?_
    refine Safe.rg rfl ?_
    simp only [mat_each_V_V_r3, hlt, E3, seval]
    refine Safe.cd rfl ?_
    simp only [E3, seval]
    refine Safe.rg rfl ?_
    simp only [mat_each_V_V_r4, mat_idx _ v _ i (by omega), E3, seval]
    refine Safe.rg rfl ?_
    simp only [mat_each_V_V_r5, E3, seval]
    first | refine (hf i hi).acall ?_ | refine (hf i hi).dcall ?_
    try simp only [E3, seval]
    rw [app_room (H := H) 0 (lid_ge H 0) (f := vecV) (mat i f) (f i) (mat (i + 1) f) ?hlen ?hl ?hy ?hl2 ?hc]
    case hlen => first | rfl | (simp only [vec_length, mat_length, List.length_map, List.length_take]; done) | (simp only [vec_length, mat_length, List.length_map, List.length_take]; omega)
    case hl => rfl
    case hy => rfl
    case hl2 => first | exact vec_succ _ _ | exact mat_succ _ _ | exact take_succ _ (by omega) | exact take_map_succ _ _ (by omega)
    case hc => omega
    simp only [hcl, E3, seval]
    refine Safe.rg rfl ?_
    simp only [mat_each_V_V_r6, hiw, E3, seval]
    refine Safe.keep [1, 5, 11, 12, 13] ?_
    simp only [E3, seval]
    exact ih
  · refine Safe.inLoop ?_
    refine Safe.rg rfl ?_
    simp only [mat_each_V_V_r3, Int.lt_irrefl, E3, seval]
    refine Safe.cd rfl ?_
    simp only [E3, seval]
    refine Safe.freeze 0 hH rfl rfl (blk_map 1 vecV _ vecV_cl) ?_
    refine Safe.keep [5] ?_
    simp only [frz_row 0 1 vecV (mat v.length f) v.length (some v.length) (mat_length _ _).symm, E3, seval]
    refine Safe.rg rfl ?_
    simp only [mat_each_V_V_r7, E3, seval]
    refine Safe.rt rfl ?_
    simp only [E3, seval]
    first | exact ⟨rfl, _, rfl⟩ | exact ⟨_, rfl⟩ | exact ⟨trivial, _, rfl⟩
section
variable {a b : Int} {k l : Nat} (ha : a.natAbs < LB ^ k)
include ha
theorem zadd_can (hb : b.natAbs < LB ^ k) (hk : k < 17592186044416) : PureC Pr F_zint_Add [Z a, Z b] (Z (a + b)) := by
  have := zadd_pure (canZ a) (canZ b) k (zok_can ha) (zok_can hb) hk
  rwa [canZ_z, canZ_z] at this
theorem zsub_can (hb : b.natAbs < LB ^ k) (hk : k < 17592186044416) : PureC Pr F_zint_Sub [Z a, Z b] (Z (a - b)) := by
  have := zsub_pure (canZ a) (canZ b) k (zok_can ha) (zok_can hb) hk
  rwa [canZ_z, canZ_z] at this
end
theorem cl_tup2 {a b : AV} (ha : Cl a) (hb : Cl b) : Cl (.tup [a, b]) := .tup _ (by
  intro c hc
  simp only [List.mem_cons, List.not_mem_nil, or_false] at hc
  rcases hc with rfl | rfl
  · exact ha
  · exact hb)
theorem cl_tup3 {a b d : AV} (ha : Cl a) (hb : Cl b) (hd : Cl d) : Cl (.tup [a, b, d]) := .tup _ (by
  intro c hc
  simp only [List.mem_cons, List.not_mem_nil, or_false] at hc
  rcases hc with rfl | rfl | rfl
  · exact ha
  · exact hb
  · exact hd)
theorem cl_one {a : AV} (ha : Cl a) : ∀ c ∈ [a], Cl c := by
  intro c hc
  simp only [List.mem_cons, List.not_mem_nil, or_false] at hc
  subst hc; exact ha
theorem Le.nilvec : Le .nil (vecV []) := Le.nil 2 (by decide)
theorem cans_eq_vec (v : List ZI) (f : Int → Int) : cans (v.map fun x => f x.z) = vec v.length fun i => f (zg v i) := by
  apply List.ext_getElem
  · simp [cans, vec_length]
  · intro i h1 h2
    simp only [cans, List.getElem_map, vec_get]
    rw [zg_lt (by simpa [vec_length] using h2)]
end Go.Abs
set_option linter.unusedVariables false
set_option linter.unusedSimpArgs false
namespace Go.Abs
theorem sign_zero {z : Int} (h : z = 0) : z.sign = 0 := by rw [h]; rfl
theorem one3 (a b c : AV) : oneOf [a, b, c] = .tup [a, b, c] := rfl
theorem cl3i (a b c : Int) : Cl (.tup [.int .i64 a, .int .i64 b, .int .i64 c]) := cl_tup3 (.int _ _) (.int _ _) (.int _ _)
theorem rect_at {b : List (List ZI)} (hr : Rect b) {i : Nat} (hi : i < b.length) : (b[i].length : Int) = (b[0].length : Int) := by
  have := hr i hi
  rw [mg_lt hi, mg_lt (by omega)] at this
  omega
theorem wid_lt {b : List (List ZI)} (h : 0 < b.length) : wid b = b[0].length := by rw [wid, mg_lt h]
theorem mshape_ok (b : List (List ZI)) (k : Nat) (hb : Mok k b) (hr : Rect b) : PureC Pr F_mat_Shape [matV b] (.tup [.int .i64 b.length, .int .i64 (wid b), .int .i64 0]) := by
  have hbl := hb.len
  refine PureC.intro mat_Shape_fn mat_Shape_ok (Nat.le_of_ble_eq_true rfl) (cl3i _ _ _) fun H hH => ?_
  refine Safe.rg rfl ?_
  simp only [mat_Shape_r0, E3, seval]
  refine Safe.rg rfl ?_
  simp only [mat_Shape_r1, E3, seval]
  refine Safe.cd rfl ?_
  simp only [E3, seval]
  by_cases h0 : b.length = 0
  · have h0' : (b.length : Int) = 0 := by omega
    have hw : wid b = 0 := by simp [wid, mg, List.length_eq_zero_iff.1 h0]
    simp only [h0', E3, seval]
    refine Safe.rg rfl ?_
    simp only [mat_Shape_r2, E3, seval]
    refine Safe.rt rfl ?_
    simp only [one3, h0', hw, Int.natCast_zero, E3, seval]
    first | exact ⟨rfl, _, rfl⟩ | exact ⟨_, rfl⟩ | exact ⟨trivial, _, rfl⟩
  · have h0' : ¬ (b.length : Int) = 0 := by omega
    simp only [h0', E3, seval]
    refine Safe.rg rfl ?_
    simp only [mat_Shape_r3, E3, seval]
    refine Safe.lp rfl ?_
    refine Safe.keep [0, 10, 11, 12] ?_
    try simp only [E3, seval]
    refine Safe.loopN (b.length) (fun i => [(0, matV b), (10, matV b), (11, .int .i64 b.length), (12, .int .i64 i)]) (fun i => hap H []) rfl rfl (fun i hi ih => ?_) ?_
    · have hlt : (i : Int) < (b.length : Int) := by omega
      have hiw : IntKind.wrap .i64 ((i : Int) + 1) = ((i + 1 : Nat) : Int) := by rw [wrap_i64] <;> omega
      refine Safe.inLoop ?_
      refine Safe.rg rfl ?_
      simp only [mat_Shape_r4, hlt, E3, seval]
      refine Safe.cd rfl ?_
      simp only [E3, seval]
      refine Safe.rg rfl ?_
      simp only [mat_Shape_r5, mat_idx _ b _ i hi, E3, seval]
      refine Safe.rg rfl ?_
      simp only [mat_Shape_r6, mat_idx0 _ b _ (show 0 < b.length by omega), rect_at hr hi, E3, seval]
      refine Safe.cd rfl ?_
      simp only [E3, seval]
      refine Safe.rg rfl ?_
      simp only [mat_Shape_r8, hiw, E3, seval]
      refine Safe.keep [0, 10, 11, 12] ?_
      simp only [E3, seval]
      exact ih
    · refine Safe.inLoop ?_
      refine Safe.rg rfl ?_
      simp only [mat_Shape_r4, Int.lt_irrefl, E3, seval]
      refine Safe.cd rfl ?_
      simp only [E3, seval]
      refine Safe.rg rfl ?_
      simp only [mat_Shape_r9, mat_idx0 _ b _ (show 0 < b.length by omega), E3, seval]
      refine Safe.rt rfl ?_
      simp only [one3, wid_lt (show 0 < b.length by omega), E3, seval]
      first | exact ⟨rfl, _, rfl⟩ | exact ⟨_, rfl⟩ | exact ⟨trivial, _, rfl⟩
theorem mshape_bad (b : List (List ZI)) (k : Nat) (hb : Mok k b) (hr : ¬ Rect b) : PureC Pr F_mat_Shape [matV b] (.tup [.int .i64 0, .int .i64 0, .int .i64 8]) := by
  have hbl := hb.len
  rcases rect_cases b with h | ⟨m, hm, h1, h2⟩
  · exact absurd h hr
  have h0' : ¬ (b.length : Int) = 0 := by omega
  refine PureC.intro mat_Shape_fn mat_Shape_ok (Nat.le_of_ble_eq_true rfl) (cl3i _ _ _) fun H hH => ?_
  refine Safe.rg rfl ?_
  simp only [mat_Shape_r0, E3, seval]
  refine Safe.rg rfl ?_
  simp only [mat_Shape_r1, h0', E3, seval]
  refine Safe.cd rfl ?_
  simp only [E3, seval]
  refine Safe.rg rfl ?_
  simp only [mat_Shape_r3, E3, seval]
  refine Safe.lp rfl ?_
  refine Safe.keep [0, 10, 11, 12] ?_
  try simp only [E3, seval]
  refine Safe.loopN (m) (fun i => [(0, matV b), (10, matV b), (11, .int .i64 b.length), (12, .int .i64 i)]) (fun i => hap H []) rfl rfl (fun i hi ih => ?_) ?_
  · have hlt : (i : Int) < (b.length : Int) := by omega
    have he : (b[i].length : Int) = (b[0].length : Int) := by
      have := h2 i hi
      rw [mg_lt (by omega), mg_lt (by omega)] at this
      omega
    have hiw : IntKind.wrap .i64 ((i : Int) + 1) = ((i + 1 : Nat) : Int) := by rw [wrap_i64] <;> omega
    refine Safe.inLoop ?_
    refine Safe.rg rfl ?_
    simp only [mat_Shape_r4, hlt, E3, seval]
    refine Safe.cd rfl ?_
    simp only [E3, seval]
    refine Safe.rg rfl ?_
    simp only [mat_Shape_r5, mat_idx _ b _ i (by omega), E3, seval]
    refine Safe.rg rfl ?_
    simp only [mat_Shape_r6, mat_idx0 _ b _ (show 0 < b.length by omega), he, E3, seval]
    refine Safe.cd rfl ?_
    simp only [E3, seval]
    refine Safe.rg rfl ?_
    simp only [mat_Shape_r8, hiw, E3, seval]
    refine Safe.keep [0, 10, 11, 12] ?_
    simp only [E3, seval]
    exact ih
  · have hlt : (m : Int) < (b.length : Int) := by omega
    have he : ¬ (b[m].length : Int) = (b[0].length : Int) := by
      rw [mg_lt hm, mg_lt (by omega)] at h1
      omega
    refine Safe.inLoop ?_
    refine Safe.rg rfl ?_
    simp only [mat_Shape_r4, hlt, E3, seval]
    refine Safe.cd rfl ?_
    simp only [E3, seval]
    refine Safe.rg rfl ?_
    simp only [mat_Shape_r5, mat_idx _ b _ m hm, E3, seval]
    refine Safe.rg rfl ?_
    simp only [mat_Shape_r6, mat_idx0 _ b _ (show 0 < b.length by omega), he, E3, seval]
    refine Safe.cd rfl ?_
    simp only [E3, seval]
    refine Safe.rg rfl ?_
    simp only [mat_Shape_r7, E3, seval]
    refine Safe.rt rfl ?_
    simp only [one3, E3, seval]
    first | exact ⟨rfl, _, rfl⟩ | exact ⟨_, rfl⟩ | exact ⟨trivial, _, rfl⟩
def unitM (m : Nat) : List (List ZI) := mat m fun i => vec m (updF (fun _ => 0) i 1)
theorem munit_ok (m : Nat) (hm : m ≤ 64) : PureC Pr F_mat_Unit [.int .i64 m] (.tup [matV (unitM m), .int .i64 0]) := by
  have hn : ¬ (m : Int) < 0 := by omega
  have h64 : ¬ (m : Int) > 64 := by omega
  refine PureC.intro mat_Unit_fn mat_Unit_ok (Nat.le_of_ble_eq_true rfl) (cl_tup2 (matV_cl _) (.int _ _)) fun H hH => ?_
  refine Safe.rg rfl ?_
  simp only [mat_Unit_r0, E3, seval]
  refine Safe.rg rfl ?_
  simp only [mat_Unit_r1, hn, E3, seval]
  refine Safe.cd rfl ?_
  simp only [E3, seval]
  refine Safe.rg rfl ?_
  simp only [mat_Unit_r3, h64, E3, seval]
  refine Safe.cd rfl ?_
  simp only [E3, seval]
  refine Safe.rg rfl ?_
  simp only [mat_Unit_r5, E3, seval]
  refine Safe.rg rfl ?_
  simp only [mat_Unit_r6, E3, seval]
  refine Safe.nilrow 4 1 (by decide) (by simp only [E3, seval]) ?_
  refine Safe.lp rfl ?_
  refine Safe.keep [0, 4, 13, 14] ?_
  try simp only [E3, seval]
  refine Safe.loopN (m) (fun i => [(0, .int .i64 m), (4, .mu (lid H 0) 0 i none), (13, .int .i64 m), (14, .int .i64 i)]) (fun i => hap H [some ⟨1, (mat i fun i => vec m (updF (fun _ => 0) i 1)).map vecV⟩]) rfl rfl (fun i hi ih => ?_) ?_
  · have hlt : (i : Int) < (m : Int) := by omega
    have hiw : IntKind.wrap .i64 ((i : Int) + 1) = ((i + 1 : Nat) : Int) := by rw [wrap_i64] <;> omega
    refine Safe.inLoop ?_
    refine Safe.rg rfl ?_
    simp only [mat_Unit_r7, hlt, E3, seval]
    refine Safe.cd rfl ?_
    simp only [E3, seval]
    refine Safe.rg rfl ?_
    simp only [mat_Unit_r8, E3, seval]
    refine Safe.rg rfl ?_
    simp only [mat_Unit_r9, mkslV_int _ H [some ⟨1, (mat i fun i => vec m (updF (fun _ => 0) i 1)).map vecV⟩] 2 32 (.agg [.bool false, .nil]) .i64 .i64 m m (by decide) (Nat.le_refl _) (by omega) (by omega), E3, seval]
    refine Safe.toldRep 1 m rfl ?_
    simp only [E3, seval]
    refine Safe.rg rfl ?_
    simp only [mat_Unit_r10, E3, seval]
    first | refine (zof_pure 1 (by omega) (by omega)).acall ?_ | refine (zof_pure 1 (by omega) (by omega)).dcall ?_
    try simp only [E3, seval]
    simp only [mu_idx H [some ⟨1, (mat i fun i => vec m (updF (fun _ => 0) i 1)).map vecV⟩, some ⟨2, (vec m fun _ => 0).map ZI.av⟩] 2 1 0 m (some m) .i64 i rfl rfl hi, storeV_loc _ H [some ⟨1, (mat i fun i => vec m (updF (fun _ => 0) i 1)).map vecV⟩, some ⟨2, (vec m fun _ => 0).map ZI.av⟩] 2 1 i 0 (Z 1) rfl (by rw [List.length_map, vec_length]; exact hi) rfl rfl (Nat.le_refl 2), vec_set, E3, seval]
    refine Safe.freeze 1 hH rfl rfl (blk_map 2 ZI.av _ ZI.cl) ?_
    refine Safe.keep [0, 4, 6, 13, 14] ?_
    simp only [frz_vec H 1 (vec m (updF (fun _ => 0) i 1)) (m) (some m) (by simp only [vec_length, mat_length]), frz_mu_other, frz_loc_other, map_frz_vec, map_frz_mat, E3, seval]
    refine Safe.rg rfl ?_
    simp only [mat_Unit_r11, E3, seval]
    rw [app_row hH 0 (lid_ge H 0) vecV_cl (mat i fun i => vec m (updF (fun _ => 0) i 1)) (vec m (updF (fun _ => 0) i 1)) (mat (i + 1) fun i => vec m (updF (fun _ => 0) i 1)) ?hlen ?hl ?hL ?hy ?hl2 ?hb ?hbb]
    case hlen => first | rfl | (simp only [vec_length, mat_length, List.length_map, List.length_take]; done) | (simp only [vec_length, mat_length, List.length_map, List.length_take]; omega)
    case hl => rfl
    case hL => repeat (first | exact RC.nil | refine RC.none ?_ | refine RC.row ZI.cl ?_ | refine RC.cons (blk_u32 _) ?_ | refine RC.row vecV_cl ?_ | refine RC.emp ?_ | refine RC.zero ?_ | refine RC.one (Z_cl _) ?_ | refine RC.one (ZI.cl _) ?_ | refine RC.one (vecV_cl _) ?_)
    case hy => rfl
    case hl2 => first | exact vec_succ _ _ | exact mat_succ _ _ | exact take_succ _ (by omega) | exact take_map_succ _ _ (by omega)
    case hb => omega
    case hbb => omega
    simp only [E3, seval]
    refine Safe.rg rfl ?_
    simp only [mat_Unit_r12, hiw, E3, seval]
    refine Safe.keep [0, 4, 13, 14] ?_
    simp only [E3, seval]
    refine Safe.drop1 hH rfl (by simp only [List.all_cons, List.all_nil, E3, seval]) (by repeat (first | exact RC.nil | refine RC.none ?_ | refine RC.row ZI.cl ?_ | refine RC.cons (blk_u32 _) ?_ | refine RC.row vecV_cl ?_ | refine RC.emp ?_ | refine RC.zero ?_ | refine RC.one (Z_cl _) ?_ | refine RC.one (ZI.cl _) ?_ | refine RC.one (vecV_cl _) ?_)) ?_
    exact ih
  · refine Safe.inLoop ?_
    refine Safe.rg rfl ?_
    simp only [mat_Unit_r7, Int.lt_irrefl, E3, seval]
    refine Safe.cd rfl ?_
    simp only [E3, seval]
    refine Safe.freeze 0 hH rfl rfl (blk_map 1 vecV _ vecV_cl) ?_
    refine Safe.keep [4] ?_
    simp only [frz_row 0 1 vecV (mat m fun i => vec m (updF (fun _ => 0) i 1)) m none (mat_length _ _).symm, E3, seval]
    refine Safe.rg rfl ?_
    simp only [mat_Unit_r13, E3, seval]
    refine Safe.rt rfl ?_
    simp only [E3, seval]
    first | exact ⟨rfl, _, rfl⟩ | exact ⟨_, rfl⟩ | exact ⟨trivial, _, rfl⟩
theorem mok_form {b : List (List ZI)} {k : Nat} (hb : Mok k b) : Mok k (formM b) := mok_mat hb.len fun i hi => zok_vec (hb.row i).len fun j _ => (hb.row i).abs j
theorem mok_unit (m : Nat) (hm : m ≤ 64) : Mok 1 (unitM m) := mok_mat (by omega) fun i hi => zok_vec (by omega) fun j _ => by
  simp only [updF]; split <;> decide
end Go.Abs
set_option linter.unusedVariables false
set_option linter.unusedSimpArgs false
namespace Go.Abs
theorem combine_pure (x : List ZI) (b : List (List ZI)) (p q : Nat) (hx : Vok p x) (hb : Mok q b) (hp : p + q + 2 < 17592186044416) (hr : Rect b) (hl : x.length = b.length) : PureC Pr F_mat_combine [vecV x, matV b] (vecV (combV x b)) := by
  have hbl := hb.len
  refine PureC.introL mat_combine_fn mat_combine_ok (Nat.le_of_ble_eq_true rfl) (vecV_cl _) fun H hH => ?_
  refine Safe.rg rfl ?_
  simp only [mat_combine_r0, E3, seval]
  refine Safe.rg rfl ?_
  simp only [mat_combine_r1, E3, seval]
  refine Safe.cd rfl ?_
  simp only [E3, seval]
  by_cases h0 : b.length = 0
  · have h0' : (b.length : Int) = 0 := by omega
    have hw : combV x b = [] := by simp [combV, wid, mg, List.length_eq_zero_iff.1 h0, vec]
    simp only [h0', E3, seval]
    refine Safe.rg rfl ?_
    simp only [mat_combine_r2, E3, seval]
    refine Safe.rt rfl ?_
    simp only [E3, seval]
    rw [hw]
    exact ⟨Le.nilvec, _, rfl⟩
  · have h0' : ¬ (b.length : Int) = 0 := by omega
    have hw0 : b[0].length = wid b := (wid_lt (by omega)).symm
    have hwl := (hb.row 0).len
    rw [show (mg b 0).length = wid b from rfl] at hwl
    simp only [h0', E3, seval]
    refine Safe.rg rfl ?_
    simp only [mat_combine_r3, mat_idx0 _ b _ (show 0 < b.length by omega), hw0, mkslV_int _ H [] 2 32 (.agg [.bool false, .nil]) .i64 .i64 (wid b) (wid b) (by decide) (Nat.le_refl _) (by omega) (by omega), E3, seval]
    refine Safe.toldRep 0 (wid b) rfl ?_
    simp only [E3, seval]
    refine Safe.rg rfl ?_
    simp only [mat_combine_r4, E3, seval]
    refine Safe.lp rfl ?_
    refine Safe.keep [0, 5, 18, 19, 20] ?_
    try simp only [E3, seval]
    refine Safe.loopN (b.length) (fun i => [(0, vecV x), (5, .mu (lid H 0) 0 (wid b) (some (wid b))), (18, matV b), (19, .int .i64 b.length), (20, .int .i64 i)]) (fun i => hap H [some ⟨2, (vec (wid b) fun k => cmbS x b k i).map ZI.av⟩]) rfl rfl (fun i hi ih => ?_) ?_
    · have hlt : (i : Int) < (b.length : Int) := by omega
      have hri := rect_w hr hi
      have hiw : IntKind.wrap .i64 ((i : Int) + 1) = ((i + 1 : Nat) : Int) := by rw [wrap_i64] <;> omega
      refine Safe.inLoop ?_
      refine Safe.rg rfl ?_
      simp only [mat_combine_r5, hlt, E3, seval]
      refine Safe.cd rfl ?_
      simp only [E3, seval]
      refine Safe.rg rfl ?_
      simp only [mat_combine_r6, mat_idx _ b _ i hi, E3, seval]
      refine Safe.rg rfl ?_
      simp only [mat_combine_r7, hri, E3, seval]
      refine Safe.lp rfl ?_
      refine Safe.keep [0, 5, 6, 18, 19, 20, 25, 26, 27] ?_
      simp only [E3, seval]
      refine Safe.loopN (wid b) (fun j => [(0, vecV x), (5, .mu (lid H 0) 0 (wid b) (some (wid b))), (6, .int .i64 i), (18, matV b), (19, .int .i64 b.length), (20, .int .i64 i), (25, vecV b[i]), (26, .int .i64 (wid b)), (27, .int .i64 j)]) (fun j => hap H [some ⟨2, (vec (wid b) (cmbF x b i j)).map ZI.av⟩]) rfl (by rw [cmbF_zero]) (fun j hj ih2 => ?_) ?_
      · have hlt2 : (j : Int) < (wid b : Int) := by omega
        have hjw : IntKind.wrap .i64 ((j : Int) + 1) = ((j + 1 : Nat) : Int) := by rw [wrap_i64] <;> omega
        have hm := zmul_pure x[i] b[i][j] p q (hx.get (by omega)) ((hb.get hi).get (by omega)) (by omega)
        rw [← zg_lt (show i < x.length by omega), mgz hi (show j < b[i].length by omega)] at hm
        have ha := zadd_can (cmbF_abs hx hb hi j (j := j)) (Nat.lt_of_lt_of_le (mul_abs (hx.abs i) ((hb.row i).abs j)) (lb_mono (show p + q ≤ p + q + 2 by omega))) hp
        refine Safe.inLoop ?_
        refine Safe.rg rfl ?_
        simp only [mat_combine_r8, hlt2, E3, seval]
        refine Safe.cd rfl ?_
        simp only [E3, seval]
        refine Safe.rg rfl ?_
        simp only [mat_combine_r9, vec_idx _ b[i] _ j (by omega), E3, seval]
        refine Safe.rg rfl ?_
        simp only [mat_combine_r10, idx_r0 hj, at_r0 hj, vec_idx _ x _ i (by omega), E3, seval]
        first | refine (hm).acall ?_ | refine (hm).dcall ?_
        try simp only [E3, seval]
        first | refine (ha).acall ?_ | refine (ha).dcall ?_
        try simp only [E3, seval]
        simp only [idx_r0 hj, st_r0 hj, E3, seval]
        rw [cmbF_step]
        refine Safe.rg rfl ?_
        simp only [mat_combine_r11, hjw, E3, seval]
        refine Safe.keep [0, 5, 6, 18, 19, 20, 25, 26, 27] ?_
        simp only [E3, seval]
        refine Safe.drop1 hH rfl (by simp only [List.all_cons, List.all_nil, E3, seval]) (by repeat (first | exact RC.nil | refine RC.none ?_ | refine RC.row ZI.cl ?_ | refine RC.cons (blk_u32 _) ?_ | refine RC.row vecV_cl ?_ | refine RC.emp ?_ | refine RC.zero ?_ | refine RC.one (Z_cl _) ?_ | refine RC.one (ZI.cl _) ?_ | refine RC.one (vecV_cl _) ?_)) ?_
        exact ih2
      · refine Safe.inLoop ?_
        refine Safe.rg rfl ?_
        simp only [mat_combine_r8, Int.lt_irrefl, E3, seval]
        refine Safe.cd rfl ?_
        simp only [E3, seval]
        rw [cmbF_all]
        refine Safe.rg rfl ?_
        simp only [mat_combine_r12, hiw, E3, seval]
        refine Safe.keep [0, 5, 18, 19, 20] ?_
        simp only [E3, seval]
        exact ih
    · refine Safe.inLoop ?_
      refine Safe.rg rfl ?_
      simp only [mat_combine_r5, Int.lt_irrefl, E3, seval]
      refine Safe.cd rfl ?_
      simp only [E3, seval]
      refine Safe.freeze 0 hH rfl rfl (blk_map 2 ZI.av _ ZI.cl) ?_
      refine Safe.keep [5] ?_
      simp only [frz_vec H 0 (vec (wid b) fun k => cmbS x b k b.length) (wid b) (some (wid b)) (by simp only [vec_length, mat_length]), frz_mu_other, frz_loc_other, map_frz_vec, map_frz_mat, E3, seval]
      refine Safe.rg rfl ?_
      simp only [mat_combine_r13, E3, seval]
      refine Safe.rt rfl ?_
      simp only [E3, seval]
      exact ⟨Le.refl _, _, rfl⟩
theorem ro_mat_cl (b : List (List ZI)) (off : Nat) : Cl (.ro (matV b) off) := .ro _ _ (clcells (matV_cl b))
theorem blk_one {wd : Nat} {a : AV} (h : Cl a) : ∀ c ∈ (Blk.mk wd [a]).flat, Cl c := fun c hc => by
  simp only [Blk.flat, List.flatMap_cons, List.flatMap_nil, List.append_nil] at hc
  exact clcells h c hc
theorem prod1_pure (x : List ZI) (b : List (List ZI)) (p q : Nat) (hx : Vok p x) (hb : Mok q b) (hp : p + q + 2 < 17592186044416) (hr : Rect b) (hl : x.length = b.length) : PureC Pr F_mat_Product_1 [vecV x, .ro (matV b) 0] (vecV (combV x b)) := by
  refine PureC.intro mat_Product_1_fn mat_Product_1_ok (Nat.le_of_ble_eq_true rfl) (vecV_cl _) fun H hH => ?_
  refine Safe.rg rfl ?_
  simp only [mat_Product_1_r0, E3, seval]
  refine Safe.rg rfl ?_
  simp only [mat_Product_1_r1, E3, seval]
  first | refine (combine_pure x b p q hx hb hp hr hl).acall ?_ | refine (combine_pure x b p q hx hb hp hr hl).dcall ?_
  try simp only [E3, seval]
  refine Safe.rt rfl ?_
  simp only [E3, seval]
  first | exact ⟨rfl, _, rfl⟩ | exact ⟨_, rfl⟩ | exact ⟨trivial, _, rfl⟩
/-- Where a product is. -/
def Fits (a b : List (List ZI)) : Prop := Rect a ∧ Rect b ∧ (0 < a.length → wid a = b.length)
theorem product_ok (a b : List (List ZI)) (p q : Nat) (ha : Mok p a) (hb : Mok q b) (hp : p + q + 2 < 17592186044416) (hf : Fits a b) : PureC Pr F_mat_Product [matV a, matV b] (.tup [matV (prodM a b), .int .i64 0]) := by
  obtain ⟨hra, hrb, hw⟩ := hf
  have he := each_VV F_mat_Product_1 [.ro (matV b) 0] a (fun i => combV (mg a i) b) ha.len (cl_one (ro_mat_cl b 0)) fun i h => by
    have := prod1_pure a[i] b p q (ha.get h) hb hp hrb (by rw [rect_w hra h]; exact hw (by omega))
    rw [mg_lt h]; exact this
  refine PureC.intro mat_Product_fn mat_Product_ok (Nat.le_of_ble_eq_true rfl) (cl_tup2 (matV_cl _) (.int _ _)) fun H hH => ?_
  refine Safe.rg rfl ?_
  simp only [mat_Product_r0, E3, seval]
  refine Safe.freeze 0 (b := ⟨1, [matV b]⟩) hH rfl rfl (blk_one (matV_cl b)) ?_
  simp only [frz_loc_same, E3, seval]
  refine Safe.rg rfl ?_
  simp only [mat_Product_r1, E3, seval]
  first | refine (mshape_ok a p ha hra).acall ?_ | refine (mshape_ok a p ha hra).dcall ?_
  try simp only [E3, seval]
  refine Safe.rg rfl ?_
  simp only [mat_Product_r2, E3, seval]
  first | refine (mshape_ok b q hb hrb).acall ?_ | refine (mshape_ok b q hb hrb).dcall ?_
  try simp only [E3, seval]
  by_cases h0 : a.length = 0
  · have h0' : ¬ (a.length : Int) > 0 := by omega
    refine Safe.rg rfl ?_
    simp only [mat_Product_r3, h0', E3, seval]
    refine Safe.cd rfl ?_
    simp only [E3, seval]
    refine Safe.rg rfl ?_
    simp only [mat_Product_r5, E3, seval]
    first | refine (he).acall ?_ | refine (he).dcall ?_
    try simp only [E3, seval]
    refine Safe.rt rfl ?_
    simp only [E3, seval]
    first | exact ⟨rfl, _, rfl⟩ | exact ⟨_, rfl⟩ | exact ⟨trivial, _, rfl⟩
  · have h0' : (a.length : Int) > 0 := by omega
    have hw' : (wid a : Int) = (b.length : Int) := by have := hw (by omega); omega
    refine Safe.rg rfl ?_
    simp only [mat_Product_r3, h0', hw', E3, seval]
    refine Safe.cd rfl ?_
    simp only [E3, seval]
    refine Safe.rg rfl ?_
    simp only [mat_Product_r5, E3, seval]
    first | refine (he).acall ?_ | refine (he).dcall ?_
    try simp only [E3, seval]
    refine Safe.rt rfl ?_
    simp only [E3, seval]
    first | exact ⟨rfl, _, rfl⟩ | exact ⟨_, rfl⟩ | exact ⟨trivial, _, rfl⟩
end Go.Abs
set_option linter.unusedVariables false
set_option linter.unusedSimpArgs false
namespace Go.Abs
theorem slc_r0 {H L : Heap} {wd len lo hi mx : Nat} {X : List AV} {oc : Option Nat} {k k' k2 : IntKind} (h1 : lo ≤ hi) (h2 : hi ≤ mx) (h3 : mx ≤ len) :
    slcV (hap H (some ⟨wd, X⟩ :: L)) wd (.mu (lid H 0) 0 len oc) (some (.int k lo)) (some (.int k' hi)) (some (.int k2 mx)) = some (.mu (lid H 0) lo (hi - lo) (some (mx - lo))) := by
  simp only [slcV, hrow_hap, boundV, List.getElem?_cons_zero, Option.join_some, Option.bind_some]
  rw [if_pos ⟨trivial, rfl, by omega, by omega, by omega, by omega⟩]
  simp
theorem Safe.drop2n {x : Cx} {todo : List AItem} {env : Env} {R : AV → Heap → Prop} {H : Heap} {a b c : Option Blk} (hH : HRefs H) (hx : x.n0 = H.length) (he : env.all (fun p => nref (lid H 2) p.2) = true)
    (hL : ∀ r, some r ∈ [a, b] → ∀ v ∈ r.flat, nref (lid H 2) v = true) (h : Safe x todo env (hap H [a, b]) R) : Safe x todo env (hap H [a, b, c]) R := Safe.drop (L := [a, b]) hH hx he hL h
/-- The entries as they come, column after column. -/
def colF (b : List (List ZI)) (t : Nat) : Int := zg (mg b (t % b.length)) (t / b.length)
theorem colF_at (b : List (List ZI)) {k i : Nat} (hi : i < b.length) : colF b (k * b.length + i) = zg (mg b i) k := by
  unfold colF
  rw [Nat.add_comm, Nat.add_mul_mod_self_right, Nat.mod_eq_of_lt hi, Nat.add_mul_div_right _ _ (by omega), Nat.div_eq_of_lt hi, Nat.zero_add]
def parts (H : Heap) (n k : Nat) : List AV := (List.range k).map fun j => .mu (lid H 0) (j * n) n (some n)
theorem parts_succ (H : Heap) (n k : Nat) : parts H n (k + 1) = parts H n k ++ [.mu (lid H 0) (k * n) n (some n)] := by simp [parts, List.range_succ]
theorem parts_flat (H : Heap) (n k : Nat) : (parts H n k).flatMap AV.cells = parts H n k := by
  unfold parts
  induction (List.range k) with
  | nil => rfl
  | cons j l ih => rw [List.map_cons, List.flatMap_cons, ih]; rfl
theorem parts_mem {H : Heap} {n k : Nat} {a : AV} (h : a ∈ parts H n k) : ∃ j, a = .mu (lid H 0) (j * n) n (some n) := by
  obtain ⟨j, _, rfl⟩ := List.mem_map.1 h; exact ⟨j, rfl⟩
theorem parts_frz (H : Heap) (b : List (List ZI)) : (parts H b.length (wid b)).map (frz (lid H 0) ⟨2, (vec (wid b * b.length) (colF b)).map ZI.av⟩) = (turnM b).map vecV := by
  apply List.ext_getElem
  · simp [parts, turnM, mat_length]
  · intro j h1 h2
    have hj : j < wid b := by simpa [parts] using h1
    have hle : (j + 1) * b.length ≤ wid b * b.length := Nat.mul_le_mul_right _ hj
    rw [Nat.succ_mul] at hle
    simp only [parts, List.getElem_map, List.getElem_range, turnM, mat_get]
    rw [frz_mu_part _ _ _ _ _ _ (by rw [List.length_map, vec_length]; omega)]
    show AV.sl 2 _ = AV.sl 2 _
    congr 1
    apply List.ext_getElem
    · simp [vec_length]; omega
    · intro i g1 g2
      have hi : i < b.length := by simpa [vec_length] using g2
      simp only [List.getElem_take, List.getElem_drop, List.getElem_map, vec_get, colF_at b hi]
theorem turn_rect (b : List (List ZI)) (p : Nat) (hb : Mok p b) (hp : p ≤ 17592186044416) (hr : Rect b) : PureC Pr F_mat_Turn [matV b] (.tup [matV (turnM b), .int .i64 0]) := by
  have hbl := hb.len
  have hwl := (hb.row 0).len
  rw [show (mg b 0).length = wid b from rfl] at hwl
  have hnm : b.length * wid b ≤ 2097152 * 2097152 := Nat.mul_le_mul hbl hwl
  have hcm : wid b * b.length = b.length * wid b := Nat.mul_comm _ _
  have hmw : IntKind.wrap .i64 ((b.length : Int) * (wid b : Int)) = ((b.length * wid b : Nat) : Int) := by
    rw [← Int.natCast_mul, wrap_i64] <;> omega
  refine PureC.intro mat_Turn_fn mat_Turn_ok (Nat.le_of_ble_eq_true rfl) (cl_tup2 (matV_cl _) (.int _ _)) fun H hH => ?_
  refine Safe.rg rfl ?_
  simp only [mat_Turn_r0, E3, seval]
  refine Safe.rg rfl ?_
  simp only [mat_Turn_r1, E3, seval]
  first | refine (mshape_ok b p hb hr).acall ?_ | refine (mshape_ok b p hb hr).dcall ?_
  try simp only [E3, seval]
  refine Safe.rg rfl ?_
  simp only [mat_Turn_r2, E3, seval]
  refine Safe.cd rfl ?_
  simp only [E3, seval]
  refine Safe.rg rfl ?_
  simp only [mat_Turn_r4, hmw, mksl_row _ [] 2 32 _ _ _ (b.length * wid b) (by decide) (by omega) (by omega), E3, seval]
  refine Safe.rg rfl ?_
  simp only [mat_Turn_r5, E3, seval]
  refine Safe.nilrow 8 1 (by decide) (by simp only [E3, seval]) ?_
  refine Safe.rg rfl ?_
  simp only [mat_Turn_r6, E3, seval]
  refine Safe.lp rfl ?_
  refine Safe.keep [0, 4, 7, 8, 24, 25] ?_
  simp only [E3, seval]
  refine Safe.loopN (wid b) (fun k => [(0, matV b), (4, .int .i64 b.length), (7, .mu (lid H 0) 0 (k * b.length) (some (b.length * wid b))), (8, .mu (lid H 1) 0 k none), (24, .int .i64 (wid b)), (25, .int .i64 k)])
    (fun k => hap H [some ⟨2, (vec (k * b.length) (colF b)).map ZI.av⟩, some ⟨1, parts H b.length k⟩]) (by simp only [Nat.zero_mul]; rfl) (by simp only [Nat.zero_mul]; rfl) (fun k hk ih => ?_) ?_
  · have hlt : (k : Int) < (wid b : Int) := by omega
    have hle : (k + 1) * b.length ≤ wid b * b.length := Nat.mul_le_mul_right _ hk
    rw [Nat.succ_mul] at hle ih
    have hiw : IntKind.wrap .i64 ((k : Int) + 1) = ((k + 1 : Nat) : Int) := by rw [wrap_i64] <;> omega
    have hk0 : IntKind.wrap .i64 ((k : Int) * (b.length : Int)) = ((k * b.length : Nat) : Int) := by
      rw [← Int.natCast_mul, wrap_i64] <;> omega
    have hk1 : IntKind.wrap .i64 (((k + 1 : Nat) : Int) * (b.length : Int)) = ((k * b.length + b.length : Nat) : Int) := by
      rw [← Int.natCast_mul, Nat.succ_mul, wrap_i64] <;> omega
    refine Safe.inLoop ?_
    refine Safe.rg rfl ?_
    simp only [mat_Turn_r7, hlt, E3, seval]
    refine Safe.cd rfl ?_
    simp only [E3, seval]
    refine Safe.rg rfl ?_
    simp only [mat_Turn_r8, E3, seval]
    refine Safe.rg rfl ?_
    simp only [mat_Turn_r9, E3, seval]
    refine Safe.lp rfl ?_
    refine Safe.keep [0, 4, 7, 8, 9, 24, 25, 28, 29] ?_
    simp only [E3, seval]
    refine Safe.loopN b.length (fun i => [(0, matV b), (4, .int .i64 b.length), (7, .mu (lid H 0) 0 (k * b.length + i) (some (b.length * wid b))), (8, .mu (lid H 1) 0 k none), (9, .int .i64 k), (24, .int .i64 (wid b)), (25, .int .i64 k), (28, .int .i64 b.length), (29, .int .i64 i)])
      (fun i => hap H [some ⟨2, (vec (k * b.length + i) (colF b)).map ZI.av⟩, some ⟨1, parts H b.length k⟩]) rfl rfl (fun i hi ih2 => ?_) ?_
    · have hlt2 : (i : Int) < (b.length : Int) := by omega
      have hjw : IntKind.wrap .i64 ((i : Int) + 1) = ((i + 1 : Nat) : Int) := by rw [wrap_i64] <;> omega
      have hri := rect_w hr hi
      have hf := zform_pure b[i][k] (((hb.get hi).get (by omega)).mono hp)
      rw [mgz hi (by omega), ← colF_at b hi] at hf
      refine Safe.inLoop ?_
      refine Safe.rg rfl ?_
      simp only [mat_Turn_r10, hlt2, E3, seval]
      refine Safe.cd rfl ?_
      simp only [E3, seval]
      refine Safe.rg rfl ?_
      simp only [mat_Turn_r11, E3, seval]
      refine Safe.rg rfl ?_
      simp only [mat_Turn_r12, mat_idx _ b _ i hi, vec_idx _ b[i] _ k (by omega), E3, seval]
      first | refine (hf).acall ?_ | refine (hf).dcall ?_
      try simp only [E3, seval]
      rw [app_room (H := H) 0 (lid_ge H 0) (f := ZI.av) (vec (k * b.length + i) (colF b)) (canZ (colF b (k * b.length + i))) (vec (k * b.length + i + 1) (colF b)) ?hlen ?hl ?hy ?hl2 ?hc]
      case hlen => first | rfl | (simp only [vec_length, mat_length, List.length_map, List.length_take]; done) | (simp only [vec_length, mat_length, List.length_map, List.length_take]; omega)
      case hl => rfl
      case hy => rfl
      case hl2 => first | exact vec_succ _ _ | exact mat_succ _ _ | exact take_succ _ (by omega) | exact take_map_succ _ _ (by omega)
      case hc => omega
      simp only [E3, seval]
      refine Safe.rg rfl ?_
      simp only [mat_Turn_r13, hjw, E3, seval]
      refine Safe.keep [0, 4, 7, 8, 9, 24, 25, 28, 29] ?_
      simp only [E3, seval]
      exact ih2
    · refine Safe.inLoop ?_
      refine Safe.rg rfl ?_
      simp only [mat_Turn_r10, Int.lt_irrefl, E3, seval]
      refine Safe.cd rfl ?_
      simp only [E3, seval]
      have hsub : k * b.length + b.length - k * b.length = b.length := by omega
      have happ : ∀ env, appV H.length 1 24 false (.mu (lid H 1) 0 k none) (.mu (lid H 2) 0 1 (some 1)) env (hap H [some ⟨2, (vec (k * b.length + b.length) (colF b)).map ZI.av⟩, some ⟨1, parts H b.length k⟩, some ⟨1, [.mu (lid H 0) (k * b.length) b.length (some b.length)]⟩]) =
          some (.mu (lid H 1) 0 (k + 1) none, scrub (lid H 1) env, hap H [some ⟨2, (vec (k * b.length + b.length) (colF b)).map ZI.av⟩, some ⟨1, parts H b.length (k + 1)⟩, some ⟨1, [.mu (lid H 0) (k * b.length) b.length (some b.length)]⟩]) := by
        intro env
        have h01 : lid H 0 ≠ lid H 1 := by simp [lid]
        have := appV_own H.length env H [some ⟨2, (vec (k * b.length + b.length) (colF b)).map ZI.av⟩, some ⟨1, parts H b.length k⟩, some ⟨1, [.mu (lid H 0) (k * b.length) b.length (some b.length)]⟩] 1 24 false 1 k none (.mu (lid H 2) 0 1 (some 1)) (parts H b.length k) [.mu (lid H 0) (k * b.length) b.length (some b.length)] hH rfl (by simp [parts]) (lid_ge H 1)
          (srcEls_mu H _ 1 2 0 1 (some 1) [.mu (lid H 0) (k * b.length) b.length (some b.length)] rfl (Nat.le_refl _)) (by
            intro j r hj a ha
            match j with
            | 0 => cases hj; exact (blk_map 2 ZI.av _ ZI.cl a ha).ref
            | 1 =>
              cases hj
              rw [show (Blk.mk 1 (parts H b.length k)).flat = _ from parts_flat H b.length k] at ha
              obtain ⟨j, rfl⟩ := parts_mem ha
              exact .mu _ _ _ _ h01
            | 2 =>
              cases hj
              simp [Blk.flat, AV.cells] at ha
              subst ha
              exact .mu _ _ _ _ h01
            | j + 3 => simp at hj) (by
            intro a ha
            simp [AV.cells] at ha
            subst ha
            exact .mu _ _ _ _ h01) (by simp; omega) (by simp; omega) rfl
        simp only [capAfter, Option.bind_none, List.length_cons, List.length_nil, Nat.zero_add, List.set_cons_succ, List.set_cons_zero, ← parts_succ] at this
        exact this
      refine Safe.rg rfl ?_
      simp only [mat_Turn_r14, hk0, hiw, hk1, slc_r0 (Nat.le_add_right (k * b.length) b.length) (Nat.le_refl _) (Nat.le_refl _), hsub, happ, E3, seval]
      refine Safe.rg rfl ?_
      simp only [mat_Turn_r15, hiw, E3, seval]
      refine Safe.keep [0, 4, 7, 8, 24, 25] ?_
      simp only [E3, seval]
      refine Safe.drop2n hH rfl (by simp only [E3, seval]) (by
        intro r hr v hv
        simp only [List.mem_cons, Option.some.injEq, List.not_mem_nil, or_false] at hr
        rcases hr with rfl | rfl
        · exact nref_cl (blk_map 2 ZI.av _ ZI.cl v hv)
        · rw [show (Blk.mk 1 (parts H b.length (k + 1))).flat = _ from parts_flat H b.length (k + 1)] at hv
          obtain ⟨j, rfl⟩ := parts_mem hv
          simp only [E3, seval]) ?_
      exact ih
  · refine Safe.inLoop ?_
    refine Safe.rg rfl ?_
    simp only [mat_Turn_r7, Int.lt_irrefl, E3, seval]
    refine Safe.cd rfl ?_
    simp only [E3, seval]
    refine Safe.freeze 0 hH rfl rfl (blk_map 2 ZI.av _ ZI.cl) ?_
    refine Safe.keep [8] ?_
    simp only [frz_mu_other, parts_frz, E3, seval]
    refine Safe.freeze 1 hH rfl rfl (blk_map 1 vecV _ vecV_cl) ?_
    refine Safe.keep [8] ?_
    simp only [frz_mat H 1 (turnM b) (wid b) none (by simp only [turnM, mat_length]), E3, seval]
    refine Safe.rg rfl ?_
    simp only [mat_Turn_r16, E3, seval]
    refine Safe.rt rfl ?_
    simp only [E3, seval]
    first | exact ⟨rfl, _, rfl⟩ | exact ⟨_, rfl⟩ | exact ⟨trivial, _, rfl⟩
end Go.Abs
set_option linter.unusedVariables false
set_option linter.unusedSimpArgs false
namespace Go.Abs
theorem digs_zero {n : Nat} (M : Nat) : (fl n fun j => if n ≤ j then dig M j else 0) = fl n fun _ => 0 := fl_congr fun i hi => if_neg (by omega)
theorem digs_step {n i : Nat} (M : Nat) : (fl n fun j => if j = i then dig M i else if i + 1 ≤ j then dig M j else 0) = fl n fun j => if i ≤ j then dig M j else 0 := fl_congr fun j _ => by
  by_cases h : j = i
  · subst h; rw [if_pos rfl, if_pos (Nat.le_refl _)]
  · rw [if_neg h]
    by_cases h2 : i + 1 ≤ j
    · rw [if_pos h2, if_pos (by omega)]
    · rw [if_neg h2, if_neg (by omega)]
theorem digs_all {n : Nat} (M : Nat) : (fl n fun j => if 0 ≤ j then dig M j else 0) = fl n (dig M) := fl_congr fun j _ => if_pos (Nat.zero_le _)
theorem div_lt_pow {A n d : Nat} (h : A < LB ^ n) : A / d < LB ^ n := Nat.lt_of_le_of_lt (Nat.div_le_self _ _) h
theorem short_pure (a : List Nat) (d : Nat) (ha : Nt a) (hd : 0 < d) (hd2 : d < LB) : PureC Pr F_nat_short [natV a, .int .u32 d] (.tup [natV (limbs (val a / d)), .int .u32 (val a % d : Nat)]) := by
  have hLB : LB = 4294967296 := rfl
  have hlen := ha.len
  have hv := val_lt ha.lim
  refine PureC.intro nat_short_fn nat_short_ok (Nat.le_of_ble_eq_true rfl) (cl_tup2 (natV_cl _) (.int _ _)) fun H hH => ?_
  refine Safe.rg rfl ?_
  simp only [nat_short_r0, E3, seval]
  refine Safe.rg rfl ?_
  simp only [nat_short_r1, mksl_fl (H := H) (L := []) (n := a.length) (by omega), E3, seval]
  refine Safe.rg rfl ?_
  simp only [nat_short_r2, E3, seval]
  refine Safe.rg rfl ?_
  simp only [nat_short_r3, wrap_i64 (n := (a.length : Int) - 1) (by omega) (by omega), E3, seval]
  refine Safe.lp rfl ?_
  refine Safe.keep [0, 1, 6, 7, 8] ?_
  simp only [E3, seval]
  refine Safe.loopD a.length (fun i => [(0, natV a), (1, .int .u32 d), (6, .mu (lid H 0) 0 a.length (some a.length)), (7, .int .u64 (val a / LB ^ i % d : Nat)), (8, .int .i64 ((i : Int) - 1))])
    (fun i => hap H [some ⟨1, u32s (fl a.length fun j => if i ≤ j then dig (val a / d) j else 0)⟩]) ?_ ?_ (fun i hi ih => ?_) ?_
  · rw [Nat.div_eq_of_lt hv]; rfl
  · rw [digs_zero]
  · have e1 : ((i + 1 : Nat) : Int) - 1 = (i : Int) := by omega
    rw [e1]
    refine Safe.inLoop ?_
    refine Safe.rg rfl ?_
    simp only [nat_short_r4, Int.natCast_nonneg i, E3, seval]
    refine Safe.cd rfl ?_
    simp only [E3, seval]
    have hr : val a / LB ^ (i + 1) % d < LB := Nat.lt_trans (Nat.mod_lt _ hd) hd2
    have hai : a.getD i 0 < LB := getD_lt ha.lim i
    refine Safe.rg rfl ?_
    simp only [nat_short_r5, natV_idx _ a _ i hi, shl32 hr, wrap64 (x := a.getD i 0) (by omega), wrap_or64 hr hai, E3, seval]
    rw [← dig_val ha.lim i]
    have hs := short_mod (val a) d i
    have hq := short_div (val a) d i
    have hb : val a / LB ^ (i + 1) % d * LB + dig (val a) i < 18446744073709551616 := by
      have := dig_lt (val a) i
      have : val a / LB ^ (i + 1) % d * LB ≤ 4294967295 * LB := Nat.mul_le_mul_right _ (by omega)
      omega
    refine Safe.rg rfl ?_
    simp only [nat_short_r6, wrap64 (x := d) (by omega), quo_nat hd hb, hq, wrap32 (dig_lt _ _), fidx0 hi, fst0 hi, E3, seval]
    refine Safe.rg rfl ?_
    simp only [nat_short_r7, wrap64 (x := d) (by omega), rem_nat hd, hs, E3, seval]
    refine Safe.rg rfl ?_
    simp only [nat_short_r8, wrap_i64 (n := (i : Int) - 1) (by omega) (by omega), E3, seval]
    refine Safe.keep [0, 1, 6, 7, 8] ?_
    simp only [E3, seval]
    rw [digs_step]
    exact ih
  · refine Safe.inLoop ?_
    refine Safe.rg rfl ?_
    simp only [nat_short_r4, show (0 ≤ ((0 : Nat) : Int) - 1) = False by simp, E3, seval]
    refine Safe.cd rfl ?_
    simp only [E3, seval]
    refine Safe.freeze 0 hH rfl rfl (blk_u32 _) ?_
    refine Safe.keep [6, 7] ?_
    simp only [frz_fl, E3, seval]
    rw [digs_all]
    have hr : val a % d < LB := Nat.lt_trans (Nat.mod_lt _ hd) hd2
    refine Safe.rg rfl ?_
    simp only [nat_short_r9, E3, seval]
    first | refine (trim_pure _ (lim_dig _ _) (by rw [fl_len]; exact hlen)).acall ?_ | refine (trim_pure _ (lim_dig _ _) (by rw [fl_len]; exact hlen)).dcall ?_
    try simp only [E3, seval]
    simp only [val_fl_all (div_lt_pow hv (d := d)), Nat.pow_zero, Nat.div_one, wrap32 hr, E3, seval]
    refine Safe.rt rfl ?_
    simp only [E3, seval]
    first | exact ⟨rfl, _, rfl⟩ | exact ⟨_, rfl⟩ | exact ⟨trivial, _, rfl⟩
theorem clz_pure (n : Nat) (h : n < LB) : PureC Pr F_math_bits_LeadingZeros32 [.int .u32 n] (.int .i64 ((32 - blen n : Nat) : Int)) := by
  have hLB : LB = 4294967296 := rfl
  have hb : blen n ≤ 32 := by
    rcases Nat.lt_or_ge 32 (blen n) with hc | hc
    · exfalso
      have h0 : n ≠ 0 := by rintro rfl; simp [blen_zero] at hc
      have := blen_ge h0
      have h2 : 2 ^ 32 ≤ 2 ^ (blen n - 1) := Nat.pow_le_pow_right (by decide) (by omega)
      have : (2 : Nat) ^ 32 = LB := by decide
      omega
    · exact hc
  refine PureC.intro math_bits_LeadingZeros32_fn math_bits_LeadingZeros32_ok (Nat.le_of_ble_eq_true rfl) (.int _ _) fun H hH => ?_
  refine Safe.rg rfl ?_
  simp only [math_bits_LeadingZeros32_r0, E3, seval]
  refine Safe.rg rfl ?_
  simp only [math_bits_LeadingZeros32_r1, E3, seval]
  first | refine (len32_pure n (by omega)).acall ?_ | refine (len32_pure n (by omega)).dcall ?_
  try simp only [E3, seval]
  have hw : IntKind.wrap .i64 ((32 : Int) - ((blen n : Nat) : Int)) = ((32 - blen n : Nat) : Int) := by rw [wrap_i64] <;> omega
  simp only [hw, E3, seval]
  refine Safe.rt rfl ?_
  simp only [E3, seval]
  first | exact ⟨rfl, _, rfl⟩ | exact ⟨_, rfl⟩ | exact ⟨trivial, _, rfl⟩
section
variable {H L : Heap} {id : Nat} {b : Blk}
theorem lrow (h : H[id]? = some (some b)) : hrow (hap H L) id = some b := by
  have hlt := lt_of_live h
  rw [hrow_old _ _ _ hlt]
  unfold hrow; rw [h]; rfl
theorem llen (h : H[id]? = some (some b)) (off len : Nat) (oc : Option Nat) : lenV (hap H L) (.mu id off len oc) = some (.int .i64 len) := by rw [lenV_mu, lrow h]; rfl
theorem lidx (h : H[id]? = some (some b)) {wd off len j : Nat} (hw : b.wd = wd) (oc : Option Nat) (k : IntKind) (hj : j < len) : idxV (hap H L) wd (.mu id off len oc) (.int k j) = some (.loc id (off + j) 0) := by
  rw [idxV_mu _ _ _ _ _ _ _ _ (by omega) (by omega), lrow h]; simp [hw]
theorem lat (h : H[id]? = some (some b)) {j : Nat} (hj : j < b.xs.length) : atV (hap H L) (.loc id j 0) = some (b.xs.getD j .top).cells := by rw [atV_loc, lrow h]; simp [hj]
theorem lslc (h : H[id]? = some (some b)) {wd off len n : Nat} (hw : b.wd = wd) (oc : Option Nat) (k : IntKind) (hn : n ≤ len) : slcV (hap H L) wd (.mu id off len oc) none (some (.int k n)) none = some (.mu id off n oc) := by
  simp only [slcV, lrow h, Option.bind_some, boundV]
  rw [if_pos ⟨hw, by omega, by omega, by omega⟩]
  cases oc <;> simp
theorem hap_get {i : Nat} (h : L[i]? = some (some b)) : (hap H L)[lid H i]? = some (some b) := by
  unfold hap lid
  rw [List.getElem?_append_right (by omega), Nat.add_sub_cancel_left]; exact h
end
theorem trim_mu (X : List Nat) (hX : Lim X) (hb : X.length ≤ 17592186044416) {H : Heap} {id : Nat} (h : H[id]? = some (some ⟨1, u32s X⟩)) (n : Nat) (hn : n = X.length) (oc : Option Nat) :
    ACalls Pr F_nat_trim [.mu id 0 n oc] H fun r' H' => r' = .mu id 0 (limbs (val X)).length oc ∧ H' = H := by
  subst hn
  have hid := lt_of_live h
  refine ACalls.eff nat_trim_fn nat_trim_ok (Nat.le_of_ble_eq_true rfl) fun hH => ?_
  have kk : ∀ k : Nat, k ≤ X.length → val (X.take k) = val X → Safe ⟨Pr, fun _ _ => false, F_nat_trim, 21, [.tmp 2], H.length⟩ [.inLoop nat_trim_l0, .inBlock 0, .code ((ACode.region nat_trim_r3 false).seq ACode.ret)] [(0, .mu id 0 k oc)] (hap H [])
      fun r' H' => ∃ H1 L, H' = hap H1 L ∧ H1.length = H.length ∧ HRefs H1 ∧ Ref (· < H.length) r' ∧ r' = .mu id 0 (limbs (val X)).length oc ∧ H1 = H := by
    have stop : ∀ (k : Nat) (env : Env), k ≤ X.length → val (X.take k) = val X → ((X.take k).getLast?).getD 1 ≠ 0 → look env 0 = .mu id 0 k oc → Safe ⟨Pr, fun _ _ => false, F_nat_trim, 21, [.tmp 2], H.length⟩ [.code ((ACode.region nat_trim_r3 false).seq ACode.ret)] env (hap H [])
        fun r' H' => ∃ H1 L, H' = hap H1 L ∧ H1.length = H.length ∧ HRefs H1 ∧ Ref (· < H.length) r' ∧ r' = .mu id 0 (limbs (val X)).length oc ∧ H1 = H := by
      intro k env hk hv hl h0
      refine Safe.rg rfl ?_
      simp only [nat_trim_r3, h0, E3, seval]
      refine Safe.rt rfl ?_
      simp only [E3, seval]
      refine ⟨H, [], rfl, rfl, hH, .mu _ _ _ _ hid, ?_, rfl⟩
      rw [← hv, limbs_val (hX.take k) hl, List.length_take, Nat.min_eq_left hk]
    intro k
    induction k with
    | zero =>
      intro hk hv
      refine Safe.inLoop ?_
      refine Safe.rg rfl ?_
      simp only [nat_trim_r1, llen h, show ((0 : Int) < ((0 : Nat) : Int)) = False by simp, E3, seval]
      refine Safe.cd rfl ?_
      simp only [E3, seval]
      refine Safe.exit rfl ?_
      exact stop 0 _ hk hv (by simp) (by simp only [E3, seval])
    | succ k ih =>
      intro hk hv
      refine Safe.inLoop ?_
      have hw : IntKind.i64.wrap (((k + 1 : Nat) : Int) - 1) = (k : Int) := by rw [wrap_i64] <;> omega
      have hp : (0 < ((k + 1 : Nat) : Int)) = True := eq_true (by omega)
      have hat := lat (L := []) h (j := k) (by rw [u32s_len]; omega)
      rw [u32s_getD (by omega)] at hat
      refine Safe.rg rfl ?_
      simp only [nat_trim_r1, llen h, hw, hp, lidx h rfl oc .i64 (Nat.lt_succ_self k), hat, E3, seval]
      have hlast : ((X.take (k + 1)).getLast?).getD 1 = X.getD k 0 := by rw [take_snoc (by omega)]; simp
      by_cases hd : X.getD k 0 = 0
      · have e : (((X.getD k 0 : Nat) : Int) = 0) = True := eq_true (by omega)
        refine Safe.cd rfl ?_
        simp only [e, E3, seval]
        refine Safe.rg rfl ?_
        simp only [nat_trim_r2, llen h, hw, lslc h rfl oc .i64 (Nat.le_succ k), E3, seval]
        refine Safe.inBlock ?_
        refine Safe.keep [0] ?_
        simp only [E3, seval]
        refine ih (by omega) ?_
        rw [← hv, val_take_getD, hd]; simp
      · have e : (((X.getD k 0 : Nat) : Int) = 0) = False := eq_false (by omega)
        refine Safe.cd rfl ?_
        simp only [e, E3, seval]
        refine Safe.exit rfl ?_
        exact stop (k + 1) _ hk hv (by rw [hlast]; exact hd) (by simp only [E3, seval])
  refine Safe.rg rfl ?_
  simp only [nat_trim_r0, E3, seval]
  refine Safe.lp rfl ?_
  refine Safe.keep [0] ?_
  simp only [E3, seval]
  exact kk X.length (Nat.le_refl _) (by rw [List.take_length])
theorem shl_step {l : List Nat} (hl : Lim l) {i n : Nat} (hi : i < l.length) (hn : n < 32) (j : Nat) :
    (if j = i + 1 then l.getD i 0 * 2 ^ n / LB else if j = i then l.getD i 0 % 2 ^ (32 - n) * 2 ^ n + dig (val (l.take i) * 2 ^ n) i else dig (val (l.take i) * 2 ^ n) j) = dig (val (l.take (i + 1)) * 2 ^ n) j := by
  have hLB : LB = 2 ^ (32 - n) * 2 ^ n := by rw [← Nat.pow_add, show 32 - n + n = 32 by omega]
  have hp : 0 < 2 ^ n := Nat.pow_pos (by decide)
  have hai := getD_lt hl i
  have hM := val_take_lt hl i
  rw [val_take_getD, Nat.add_mul]
  have e : LB ^ i * l.getD i 0 * 2 ^ n = LB ^ i * (l.getD i 0 * 2 ^ n) := Nat.mul_assoc _ _ _
  rw [e]
  generalize l.getD i 0 = a at *
  generalize hV : val (l.take i) = V at *
  have hy : V * 2 ^ n / LB ^ i < 2 ^ n := by
    rw [Nat.div_lt_iff_lt_mul (pow_pos' i), Nat.mul_comm]
    exact Nat.mul_lt_mul_of_pos_left hM hp
  have h2n : 2 ^ n ≤ LB := by rw [hLB]; exact Nat.le_mul_of_pos_left _ (Nat.pow_pos (by decide))
  have hmod : a * 2 ^ n % LB = a % 2 ^ (32 - n) * 2 ^ n := by rw [hLB, Nat.mul_mod_mul_right]
  have hx : a % 2 ^ (32 - n) * 2 ^ n + V * 2 ^ n / LB ^ i < LB := by
    have h1 : (a % 2 ^ (32 - n) + 1) * 2 ^ n ≤ 2 ^ (32 - n) * 2 ^ n := Nat.mul_le_mul_right _ (Nat.mod_lt _ (Nat.pow_pos (by decide)))
    rw [← hLB, Nat.add_mul] at h1
    omega
  have hs : (V * 2 ^ n + LB ^ i * (a * 2 ^ n)) / LB ^ i = V * 2 ^ n / LB ^ i + a * 2 ^ n := Nat.add_mul_div_left _ _ (pow_pos' i)
  have hdm := Nat.mod_add_div (a * 2 ^ n) LB
  rw [hmod] at hdm
  by_cases h1 : j = i + 1
  · rw [if_pos h1, h1]
    unfold dig
    rw [div_succ_pow, hs]
    have h3 : (V * 2 ^ n / LB ^ i + a * 2 ^ n) / LB = a * 2 ^ n / LB := by
      conv => lhs; rw [← hdm, ← Nat.add_assoc, Nat.add_mul_div_left _ _ (show 0 < LB by decide)]
      rw [Nat.div_eq_of_lt (by omega), Nat.zero_add]
    rw [h3, Nat.mod_eq_of_lt]
    rw [Nat.div_lt_iff_lt_mul (by decide)]
    exact Nat.lt_of_lt_of_le (Nat.mul_lt_mul_of_pos_right hai hp) (Nat.mul_le_mul_left _ h2n)
  · rw [if_neg h1]
    by_cases h2 : j = i
    · rw [if_pos h2, h2]
      have h5 : (V * 2 ^ n / LB ^ i + a * 2 ^ n) % LB = V * 2 ^ n / LB ^ i + a % 2 ^ (32 - n) * 2 ^ n := by
        have : V * 2 ^ n / LB ^ i + a * 2 ^ n = (V * 2 ^ n / LB ^ i + a % 2 ^ (32 - n) * 2 ^ n) + LB * (a * 2 ^ n / LB) := by omega
        rw [this, Nat.add_mul_mod_self_left, Nat.mod_eq_of_lt (by omega)]
      unfold dig
      rw [hs, h5, Nat.mod_eq_of_lt (show V * 2 ^ n / LB ^ i < LB by omega), Nat.add_comm]
    · rw [if_neg h2]
      rcases Nat.lt_or_ge j i with h3 | h3
      · exact (dig_add_mul _ h3).symm
      · have hbig : LB ^ (i + 1) * LB ≤ LB ^ j := by
          rw [← Nat.pow_succ]; exact Nat.pow_le_pow_right (by decide) (by omega)
        have hlow : V * 2 ^ n < LB ^ (i + 1) := by
          rw [Nat.pow_succ]
          exact Nat.lt_of_lt_of_le (Nat.mul_lt_mul_of_pos_right hM hp) (Nat.mul_le_mul_left _ h2n)
        have hall : V * 2 ^ n + LB ^ i * (a * 2 ^ n) < LB ^ (i + 1) * LB := by
          have q1 : V * 2 ^ n + LB ^ i * (a * 2 ^ n) = (V + LB ^ i * a) * 2 ^ n := by rw [Nat.add_mul, Nat.mul_assoc]
          have q2 : LB ^ i * (a + 1) ≤ LB ^ (i + 1) := by rw [Nat.pow_succ]; exact Nat.mul_le_mul_left _ hai
          rw [Nat.mul_add, Nat.mul_one] at q2
          rw [q1]
          exact Nat.lt_of_lt_of_le (Nat.mul_lt_mul_of_pos_right (show V + LB ^ i * a < LB ^ (i + 1) by omega) hp) (Nat.mul_le_mul_left _ h2n)
        have hL1 : LB ^ (i + 1) ≤ LB ^ (i + 1) * LB := Nat.le_mul_of_pos_right _ (by decide)
        rw [dig_high (by omega), dig_high (by omega)]
theorem ACalls.introH {P : Program} {mu : Nat → Nat → Bool} {f : FuncId} {fn : Func} (hf : P.funcs[f]? = some fn) {ac : ACode} {rs : List ResV} {nt : Nat} (hc : fchk P mu fn = some (ac, rs, nt))
    {args : List AV} {H : Heap} {R : AV → Heap → Prop} (ha : args.length ≤ nt) (h : HRefs H → Safe ⟨P, mu, f, nt, rs, H.length⟩ [.code ac] (envOf 0 args) (hap H []) R) : ACalls P f args H R := ACalls.intro hf hc ha fun hH => by
  have := h hH
  rw [hap_nil] at this
  exact this
theorem shl_calls (a : List Nat) (n : Nat) (ha : Nt a) (hal : a.length < 17592186044416) (hv : val a ≠ 0) (hn : n < 32) (H : Heap) : ACalls Pr F_nat_shl [natV a, .int .i64 n] H fun r' H' =>
    r' = .mu (lid H 0) 0 (limbs (val a * 2 ^ n)).length (some ((limbs (val a)).length + 1)) ∧ H' = hap H [some ⟨1, u32s (fl ((limbs (val a)).length + 1) (dig (val a * 2 ^ n)))⟩] := by
  have hlb : (limbs (val a)).length < 17592186044416 := Nat.lt_of_le_of_lt (limbs_val_len ha.lim) hal
  have hlim := lim_limbs (val a)
  have hval := val_limbs (val a)
  have hne : (limbs (val a)).length ≠ 0 := by
    intro h0
    have := List.length_eq_zero_iff.1 h0
    rw [this] at hval
    exact hv hval.symm
  have hLB : LB = 4294967296 := rfl
  refine ACalls.introH nat_shl_fn nat_shl_ok (Nat.le_of_ble_eq_true rfl) fun hH => ?_
  refine Safe.rg rfl ?_
  simp only [nat_shl_r0, E3, seval]
  refine Safe.rg rfl ?_
  simp only [nat_shl_r1, E3, seval]
  first | refine (trim_pure a ha.lim ha.len).acall ?_ | refine (trim_pure a ha.lim ha.len).dcall ?_
  try simp only [E3, seval]
  generalize limbs (val a) = l at *
  generalize val a = A at *
  subst hval
  have h0 : ((l.length : Int) = 0) = False := eq_false (by omega)
  refine Safe.rg rfl ?_
  simp only [nat_shl_r2, h0, E3, seval]
  refine Safe.cd rfl ?_
  simp only [E3, seval]
  have hq : binV .quo (.int .i64 (n : Int)) (.int .i64 32) = some (.int .i64 0) := by
    have := quo_i (x := n) (y := 32) (by decide) (by omega)
    rw [Nat.div_eq_of_lt hn] at this; exact this
  have hr : binV .rem (.int .i64 (n : Int)) (.int .i64 32) = some (.int .i64 (n : Int)) := by
    have := rem_i (x := n) (y := 32) (by decide)
    rw [Nat.mod_eq_of_lt hn] at this; exact this
  refine Safe.rg rfl ?_
  simp only [nat_shl_r4, hq, hr, wrap64 (x := n) (by omega), E3, seval]
  have w1 : IntKind.wrap .i64 ((l.length : Int) + 0) = (l.length : Int) := by rw [Int.add_zero]; exact wrap63 (by omega)
  have w2 : IntKind.wrap .i64 ((l.length : Int) + 1) = ((l.length + 1 : Nat) : Int) := by rw [wrap_i64] <;> omega
  refine Safe.rg rfl ?_
  simp only [nat_shl_r5, w1, w2, mksl_fl (H := H) (L := []) (n := l.length + 1) (by omega), E3, seval]
  refine Safe.rg rfl ?_
  simp only [nat_shl_r6, E3, seval]
  refine Safe.lp rfl ?_
  refine Safe.keep [0, 5, 6, 7, 27, 28] ?_
  simp only [E3, seval]
  refine Safe.loopN l.length (fun i => [(0, natV l), (5, .int .i64 0), (6, .int .u64 (n : Int)), (7, .mu (lid H 0) 0 (l.length + 1) (some (l.length + 1))), (27, .int .i64 l.length), (28, .int .i64 i)])
    (fun i => hap H [some ⟨1, u32s (fl (l.length + 1) (dig (val (l.take i) * 2 ^ n)))⟩]) rfl ?_ (fun i hi ih => ?_) ?_
  · congr 5
    refine fl_congr fun j _ => ?_
    simp [dig, val]
  · have hlt : ((i : Int) < (l.length : Int)) = True := eq_true (by omega)
    refine Safe.inLoop ?_
    refine Safe.rg rfl ?_
    simp only [nat_shl_r7, hlt, E3, seval]
    refine Safe.cd rfl ?_
    simp only [E3, seval]
    have hai := getD_lt hlim i
    refine Safe.rg rfl ?_
    simp only [nat_shl_r8, E3, seval]
    refine Safe.rg rfl ?_
    simp only [nat_shl_r9, natV_idx _ l _ i hi, wrap64 (x := l.getD i 0) (by omega), shl64 hai (show n < 33 by omega), E3, seval]
    have w3 : IntKind.wrap .i64 ((i : Int) + 0) = (i : Int) := by rw [Int.add_zero]; exact wrap63 (by omega)
    have w4 : IntKind.wrap .i64 ((i : Int) + 1) = ((i + 1 : Nat) : Int) := by rw [wrap_i64] <;> omega
    have hLB2 : LB = 2 ^ (32 - n) * 2 ^ n := by rw [← Nat.pow_add, show 32 - n + n = 32 by omega]
    have w5 : IntKind.wrap .u32 ((l.getD i 0 * 2 ^ n : Nat) : Int) = ((l.getD i 0 % 2 ^ (32 - n) * 2 ^ n : Nat) : Int) := by
      rw [wrap_u32_mod]; congr 1
      rw [hLB2, Nat.mul_mod_mul_right]
    have hy : dig (val (l.take i) * 2 ^ n) i < 2 ^ n := by
      unfold dig
      refine Nat.lt_of_le_of_lt (Nat.mod_le _ _) ?_
      rw [Nat.div_lt_iff_lt_mul (pow_pos' i), Nat.mul_comm]
      exact Nat.mul_lt_mul_of_pos_left (val_take_lt hlim i) (Nat.pow_pos (by decide))
    have w6 := wrap_or32 (x := l.getD i 0 % 2 ^ (32 - n)) n (Nat.mod_lt _ (Nat.pow_pos (by decide))) (by omega) hy
    refine Safe.rg rfl ?_
    simp only [nat_shl_r10, w3, fidx0 (show i < l.length + 1 by omega), fat0 (show i < l.length + 1 by omega), w5, w6, fst0 (show i < l.length + 1 by omega), E3, seval]
    have hq2 : l.getD i 0 * 2 ^ n / LB < LB := by
      rw [Nat.div_lt_iff_lt_mul (by decide)]
      have h2n : 2 ^ n ≤ LB := by rw [hLB2]; exact Nat.le_mul_of_pos_left _ (Nat.pow_pos (by decide))
      exact Nat.lt_of_lt_of_le (Nat.mul_lt_mul_of_pos_right hai (Nat.pow_pos (by decide))) (Nat.mul_le_mul_left _ h2n)
    refine Safe.rg rfl ?_
    simp only [nat_shl_r11, w3, w4, shr_32, wrap32 hq2, fidx0 (show i + 1 < l.length + 1 by omega), fst0 (show i + 1 < l.length + 1 by omega), E3, seval]
    refine Safe.rg rfl ?_
    simp only [nat_shl_r12, w4, E3, seval]
    refine Safe.keep [0, 5, 6, 7, 27, 28] ?_
    simp only [E3, seval]
    rw [fl_congr fun j _ => shl_step hlim hi hn j]
    exact ih
  · refine Safe.inLoop ?_
    refine Safe.rg rfl ?_
    simp only [nat_shl_r7, Int.lt_irrefl, E3, seval]
    refine Safe.cd rfl ?_
    simp only [E3, seval]
    rw [List.take_length]
    refine Safe.rg rfl ?_
    simp only [nat_shl_r13, E3, seval]
    have hb : val l * 2 ^ n < LB ^ (l.length + 1) := by
      rw [Nat.pow_succ]
      have h2n : 2 ^ n ≤ LB := by
        have : LB = 2 ^ (32 - n) * 2 ^ n := by rw [← Nat.pow_add, show 32 - n + n = 32 by omega]
        rw [this]; exact Nat.le_mul_of_pos_left _ (Nat.pow_pos (by decide))
      exact Nat.lt_of_lt_of_le (Nat.mul_lt_mul_of_pos_right (val_lt hlim) (Nat.pow_pos (by decide))) (Nat.mul_le_mul_left _ h2n)
    refine ACalls.mono (trim_mu _ (lim_dig _ _) (by rw [fl_len]; omega) (hap_get rfl) (l.length + 1) (fl_len _ _).symm (some (l.length + 1))) ?_
    rintro r' H' ⟨rfl, rfl⟩
    rw [val_fl_all hb]
    simp only [E3, seval]
    refine Safe.rt rfl ?_
    simp only [E3, seval]
theorem val_drop_succ (l : List Nat) (i : Nat) : val (l.drop i) = l.getD i 0 + LB * val (l.drop (i + 1)) := by
  rcases Nat.lt_or_ge i l.length with h | h
  · rw [List.drop_eq_getElem_cons h, List.getD_eq_getElem?_getD, List.getElem?_eq_getElem h]; rfl
  · rw [List.drop_eq_nil_of_le h, List.drop_eq_nil_of_le (by omega), getD_out h]; rfl
theorem val_div_pow {l : List Nat} (hl : Lim l) (i : Nat) : val l / LB ^ i = val (l.drop i) := by
  rw [val_split l i, Nat.add_mul_div_left _ _ (pow_pos' i), Nat.div_eq_of_lt (val_take_lt hl i), Nat.zero_add]
theorem shr_step {l : List Nat} (hl : Lim l) (i : Nat) {n : Nat} (hn : n < 32) : (l.getD (i + 1) 0 * LB + l.getD i 0) / 2 ^ n % LB = dig (val l / 2 ^ n) i := by
  have hLB : LB = 2 ^ (32 - n) * 2 ^ n := by rw [← Nat.pow_add, show 32 - n + n = 32 by omega]
  unfold dig
  rw [Nat.div_div_eq_div_mul, Nat.mul_comm (2 ^ n), ← Nat.div_div_eq_div_mul, val_div_pow hl, val_drop_succ, val_drop_succ l (i + 1)]
  have e : l.getD i 0 + LB * (l.getD (i + 1) 0 + LB * val (l.drop (i + 1 + 1))) = (l.getD (i + 1) 0 * LB + l.getD i 0) + 2 ^ n * (LB * (2 ^ (32 - n) * val (l.drop (i + 1 + 1)))) := by
    have h1 : LB * (LB * val (l.drop (i + 1 + 1))) = 2 ^ n * (LB * (2 ^ (32 - n) * val (l.drop (i + 1 + 1)))) := by
      conv => lhs; rw [Nat.mul_left_comm]; lhs; rw [hLB]
      rw [Nat.mul_comm (2 ^ (32 - n)), Nat.mul_assoc]
      congr 1
      rw [Nat.mul_left_comm]
    rw [Nat.mul_add, h1, Nat.mul_comm LB (l.getD (i + 1) 0)]
    omega
  rw [e, Nat.add_mul_div_left _ _ (Nat.pow_pos (by decide)), Nat.add_mul_mod_self_left]
theorem shr_pure (a : List Nat) (n : Nat) (ha : Nt a) (hn : n < 32) : PureC Pr F_nat_shr [natV a, .int .i64 n] (natV (limbs (val a / 2 ^ n))) := by
  have hlb := ha.limbs.len
  have hlim := lim_limbs (val a)
  have hval := val_limbs (val a)
  have hLB : LB = 4294967296 := rfl
  refine PureC.introL nat_shr_fn nat_shr_ok (Nat.le_of_ble_eq_true rfl) (natV_cl _) fun H hH => ?_
  refine Safe.rg rfl ?_
  simp only [nat_shr_r0, E3, seval]
  refine Safe.rg rfl ?_
  simp only [nat_shr_r1, E3, seval]
  first | refine (trim_pure a ha.lim ha.len).acall ?_ | refine (trim_pure a ha.lim ha.len).dcall ?_
  try simp only [E3, seval]
  generalize limbs (val a) = l at *
  generalize val a = A at *
  subst hval
  have hq : binV .quo (.int .i64 (n : Int)) (.int .i64 32) = some (.int .i64 0) := by
    have := quo_i (x := n) (y := 32) (by decide) (by omega)
    rw [Nat.div_eq_of_lt hn] at this; exact this
  have hr : binV .rem (.int .i64 (n : Int)) (.int .i64 32) = some (.int .i64 (n : Int)) := by
    have := rem_i (x := n) (y := 32) (by decide)
    rw [Nat.mod_eq_of_lt hn] at this; exact this
  refine Safe.rg rfl ?_
  simp only [nat_shr_r2, hq, hr, wrap64 (x := n) (by omega), E3, seval]
  by_cases h0 : l.length = 0
  · have hc : ((l.length : Int) ≤ 0) = True := eq_true (by omega)
    refine Safe.rg rfl ?_
    simp only [nat_shr_r3, hc, E3, seval]
    refine Safe.cd rfl ?_
    simp only [E3, seval]
    refine Safe.rg rfl ?_
    simp only [nat_shr_r4, E3, seval]
    have : l = [] := List.length_eq_zero_iff.1 h0
    subst this
    refine Safe.rt rfl ?_
    simp only [E3, seval]
    refine ⟨?_, [], rfl⟩
    have : limbs (val [] / 2 ^ n) = [] := by simp [val, limbs_zero]
    rw [this]
    exact Le.nil 1 (by decide)
  · have hc : ((l.length : Int) ≤ 0) = False := eq_false (by omega)
    refine Safe.rg rfl ?_
    simp only [nat_shr_r3, hc, E3, seval]
    refine Safe.cd rfl ?_
    simp only [E3, seval]
    have w1 : IntKind.wrap .i64 ((l.length : Int) - 0) = (l.length : Int) := by rw [Int.sub_zero]; exact wrap63 (by omega)
    refine Safe.rg rfl ?_
    simp only [nat_shr_r5, w1, mksl_fl (H := H) (L := []) (n := l.length) (by omega), E3, seval]
    refine Safe.rg rfl ?_
    simp only [nat_shr_r6, one_len, E3, seval]
    refine Safe.lp rfl ?_
    refine Safe.keep [0, 5, 6, 7, 27, 28] ?_
    simp only [E3, seval]
    refine Safe.loopN l.length (fun i => [(0, natV l), (5, .int .i64 0), (6, .int .u64 (n : Int)), (7, .mu (lid H 0) 0 l.length (some l.length)), (27, .int .i64 l.length), (28, .int .i64 i)])
      (fun i => hap H [some ⟨1, u32s (fl l.length fun j => if j < i then dig (val l / 2 ^ n) j else 0)⟩]) rfl ?_ (fun i hi ih => ?_) ?_
    · congr 5
    · have hlt : ((i : Int) < (l.length : Int)) = True := eq_true (by omega)
      refine Safe.inLoop ?_
      refine Safe.rg rfl ?_
      simp only [nat_shr_r7, hlt, E3, seval]
      refine Safe.cd rfl ?_
      simp only [E3, seval]
      have hai := getD_lt hlim i
      have hai1 := getD_lt hlim (i + 1)
      have w3 : IntKind.wrap .i64 ((i : Int) + 0) = (i : Int) := by rw [Int.add_zero]; exact wrap63 (by omega)
      have w4 : IntKind.wrap .i64 ((i : Int) + 1) = ((i + 1 : Nat) : Int) := by rw [wrap_i64] <;> omega
      refine Safe.rg rfl ?_
      simp only [nat_shr_r8, E3, seval]
      refine Safe.rg rfl ?_
      simp only [nat_shr_r9, natV_idx _ l _ i hi, wrap64 (x := l.getD i 0) (by omega), w3, E3, seval]
      have rest : ∀ env : Env, look env 0 = natV l → look env 5 = .int .i64 0 → look env 6 = .int .u64 (n : Int) → look env 7 = .mu (lid H 0) 0 l.length (some l.length) → look env 27 = .int .i64 l.length → look env 28 = .int .i64 i → look env 8 = .int .i64 i →
          look env 9 = .int .u64 (l.getD (i + 1) 0 * LB + l.getD i 0 : Nat) → Safe ⟨Pr, fun _ _ => false, F_nat_shr, 66, [.tmp 4], H.length⟩ [.code (.region nat_shr_r12 false), .inBlock 1, .code (.region nat_shr_r13 false), .inLoop nat_shr_l0, .inBlock 0, .code ((ACode.region nat_shr_r14 false).seq .ret)]
            env (hap H [some ⟨1, u32s (fl l.length fun j => if j < i then dig (val l / 2 ^ n) j else 0)⟩]) fun r' H' => Le r' (natV (limbs (val l / 2 ^ n))) ∧ ∃ L, H' = hap H L := by
        intro env e0 e5 e6 e7 e27 e28 e8 e9
        have w5 := wrap_u32_mod ((l.getD (i + 1) 0 * LB + l.getD i 0) / 2 ^ n)
        rw [shr_step hlim i hn] at w5
        refine Safe.rg rfl ?_
        simp only [nat_shr_r12, e7, e8, e9, e6, shr64 (show n ≤ 64 by omega), w5, fidx0 hi, fst0 hi, E3, seval]
        refine Safe.inBlock ?_
        refine Safe.rg rfl ?_
        simp only [nat_shr_r13, e28, w4, E3, seval]
        refine Safe.keep [0, 5, 6, 7, 27, 28] ?_
        simp only [E3, seval]
        simp only [e0, e5, e6, e7, e27]
        rw [show (fl l.length fun j => if j = i then dig (val l / 2 ^ n) i else if j < i then dig (val l / 2 ^ n) j else 0) = fl l.length fun j => if j < i + 1 then dig (val l / 2 ^ n) j else 0 from fl_congr fun j _ => by
          by_cases h : j = i
          · subst h; rw [if_pos rfl, if_pos (by omega)]
          · rw [if_neg h]
            by_cases h2 : j < i
            · rw [if_pos h2, if_pos (by omega)]
            · rw [if_neg h2, if_neg (by omega)]]
        exact ih
      by_cases h1 : i + 1 < l.length
      · have hlt1 : (((i + 1 : Nat) : Int) < (l.length : Int)) = True := eq_true (by omega)
        refine Safe.rg rfl ?_
        simp only [nat_shr_r10, w3, w4, hlt1, E3, seval]
        refine Safe.cd rfl ?_
        simp only [E3, seval]
        refine Safe.rg rfl ?_
        simp only [nat_shr_r11, w3, w4, natV_idx _ l _ (i + 1) h1, wrap64 (x := l.getD (i + 1) 0) (by omega), shl32 hai1, wrap_or64' hai1 hai, E3, seval]
        exact rest _ (by simp only [E3, seval]) (by simp only [E3, seval]) (by simp only [E3, seval]) (by simp only [E3, seval]) (by simp only [E3, seval]) (by simp only [E3, seval]) (by simp only [E3, seval]) (by simp only [E3, seval])
      · have hlt1 : (((i + 1 : Nat) : Int) < (l.length : Int)) = False := eq_false (by omega)
        refine Safe.rg rfl ?_
        simp only [nat_shr_r10, w3, w4, hlt1, E3, seval]
        refine Safe.cd rfl ?_
        simp only [E3, seval]
        have hz : l.getD (i + 1) 0 * LB + l.getD i 0 = l.getD i 0 := by rw [getD_out (a := l) (i := i + 1) (by omega)]; omega
        refine Safe.skip (rest _ (by simp only [E3, seval]) (by simp only [E3, seval]) (by simp only [E3, seval]) (by simp only [E3, seval]) (by simp only [E3, seval]) (by simp only [E3, seval]) (by simp only [E3, seval]) (by rw [hz]; simp only [E3, seval]))
    · refine Safe.inLoop ?_
      refine Safe.rg rfl ?_
      simp only [nat_shr_r7, Int.lt_irrefl, E3, seval]
      refine Safe.cd rfl ?_
      simp only [E3, seval]
      refine Safe.freeze 0 hH rfl rfl (blk_u32 _) ?_
      refine Safe.keep [7] ?_
      simp only [frz_fl, E3, seval]
      rw [show (fl l.length fun j => if j < l.length then dig (val l / 2 ^ n) j else 0) = fl l.length (dig (val l / 2 ^ n)) from fl_congr fun j hj => if_pos hj]
      refine Safe.rg rfl ?_
      simp only [nat_shr_r14, E3, seval]
      first | refine (trim_pure _ (lim_dig _ _) (by rw [fl_len]; omega)).acall ?_ | refine (trim_pure _ (lim_dig _ _) (by rw [fl_len]; omega)).dcall ?_
      try simp only [E3, seval]
      simp only [val_fl_all (div_lt_pow (val_lt hlim) (d := 2 ^ n)), E3, seval]
      refine Safe.rt rfl ?_
      simp only [E3, seval]
      exact ⟨Le.refl _, _, rfl⟩
def xr (g : Nat → Nat) (off : Nat) (x : List Nat) : Nat → Nat := fun j => if off ≤ j ∧ j < off + x.length then x.getD (j - off) 0 else g j
section
variable {g : Nat → Nat} {off N : Nat} {x y : List Nat}
theorem xr_nil : xr g off [] = g := by funext j; unfold xr; rw [if_neg (by simp)]
theorem xr_snoc (d : Nat) : (fun j => if j = off + x.length then d else xr g off x j) = xr g off (x ++ [d]) := by
  funext j; unfold xr
  rw [List.length_append, List.length_singleton]
  by_cases h : j = off + x.length
  · subst h; rw [if_pos rfl, if_pos (by omega), Nat.add_sub_cancel_left]; simp
  · rw [if_neg h]
    by_cases h2 : off ≤ j ∧ j < off + x.length
    · rw [if_pos h2, if_pos (by omega)]
      simp only [List.getD_eq_getElem?_getD]
      rw [List.getElem?_append_left (by omega)]
    · rw [if_neg h2, if_neg (by omega)]
theorem xr_at : xr g off x (off + x.length) = g (off + x.length) := by unfold xr; rw [if_neg (by omega)]
theorem xr_lt (hg : ∀ i, i < N → g i < LB) (hx : Lim x) : ∀ i, i < N → xr g off x i < LB := by
  intro i hi; unfold xr; split
  · exact getD_lt hx _
  · exact hg i hi
theorem xr_seg : fl x.length (fun i => xr g off x (off + i)) = x := by
  refine Eq.trans ?_ (fl_eq (l := x) rfl).symm
  refine fl_congr fun i hi => ?_
  unfold xr; rw [if_pos (by omega), Nat.add_sub_cancel_left]
theorem xr_xr (h : x.length = y.length) : xr (xr g off x) off y = xr g off y := by
  funext j; unfold xr; rw [h]
  split
  · rfl
  · rfl
end
section
variable {H L : Heap} {id N : Nat} {f : Nat → Nat} (hid : id < H.length)
include hid
theorem ofat {j : Nat} (h : j < N) : atV (hap (H.set id (some ⟨1, u32s (fl N f)⟩)) L) (.loc id j 0) = some [.int .u32 (f j : Nat)] := by
  rw [old_at hid _ j (by rw [u32s_len, fl_len]; exact h)]
  simp only [u32s_getD (l := fl N f) (i := j) (by rw [fl_len]; exact h), fl_get h, AV.cells]
theorem ofst {env : Env} {j : Nat} (h : j < N) (d : Nat) : storeV 1 (.loc id j 0) (.int .u32 (d : Int)) env (hap (H.set id (some ⟨1, u32s (fl N f)⟩)) L) = some (.top, env, hap (H.set id (some ⟨1, u32s (fl N fun i => if i = j then d else f i)⟩)) L) := by
  rw [old_st hid env _ 1 j _ (by rw [u32s_len, fl_len]; exact h) rfl rfl (Nat.le_refl 1)]
  simp only [upd_whole, u32s_set, fl_set]
end
noncomputable abbrev digX (n0 : Nat) : Cx := ⟨Pr, fun _ _ => false, F_nat_digit, 117, [.tmp 4], n0⟩
theorem digit_add {H : Heap} {id off N n : Nat} {oc : Option Nat} {v : List Nat} {g : Nat → Nat} {todo : List AItem} {R : AV → Heap → Prop} {q b : Nat} (hid : id < H.length) (hv : Lim v) (hn : v.length = n) (hoff : off + n + 1 ≤ N) (hN : N ≤ 17592186044416) (hg : ∀ i, i < N → g i < LB)
    (k : ∀ y c, y.length = n + 1 → Lim y → c ≤ 1 → val y + LB ^ (n + 1) * c = val (fl (n + 1) fun i => g (off + i)) + val v →
      Safe (digX H.length) todo [(0, .mu id off (n + 1) oc), (1, natV v), (5, .int .i64 n), (7, .int .u64 q), (9, .int .u64 b), (13, .int .u64 c)] (hap (H.set id (some ⟨1, u32s (fl N (xr g off y))⟩)) []) R) :
    Safe (digX H.length) (.inLoop nat_digit_l2 :: .inBlock 4 :: todo) [(0, .mu id off (n + 1) oc), (1, natV v), (5, .int .i64 n), (7, .int .u64 q), (9, .int .u64 b), (13, .int .u64 0), (83, .int .i64 ((n + 1 : Nat) : Int)), (84, .int .i64 0)] (hap (H.set id (some ⟨1, u32s (fl N g)⟩)) []) R := by
  have hLB : LB = 4294967296 := rfl
  have key : ∀ (m i c : Nat) (y : List Nat), i + m = n + 1 → y.length = i → Lim y → c ≤ 1 → val y + LB ^ i * c = val ((fl (n + 1) fun i => g (off + i)).take i) + val (v.take i) →
      Safe (digX H.length) (.inLoop nat_digit_l2 :: .inBlock 4 :: todo) [(0, .mu id off (n + 1) oc), (1, natV v), (5, .int .i64 n), (7, .int .u64 q), (9, .int .u64 b), (13, .int .u64 c), (83, .int .i64 ((n + 1 : Nat) : Int)), (84, .int .i64 i)] (hap (H.set id (some ⟨1, u32s (fl N (xr g off y))⟩)) []) R := by
    intro m
    induction m with
    | zero =>
      intro i c y him hy ly hc hval
      have hi : i = n + 1 := by omega
      subst hi
      refine Safe.inLoop ?_
      refine Safe.rg rfl ?_
      simp only [nat_digit_r20, Int.lt_irrefl, E3, seval]
      refine Safe.cd rfl ?_
      simp only [E3, seval]
      refine Safe.exit rfl ?_
      refine Safe.keep [0, 1, 5, 7, 9, 13] ?_
      simp only [E3, seval]
      refine k y c hy ly hc ?_
      rw [hval, List.take_of_length_le (l := fl _ _) (by rw [fl_len]; omega), List.take_of_length_le (l := v) (by omega)]
    | succ m ih =>
      intro i c y him hy ly hc hval
      have hlt : ((i : Int) < ((n + 1 : Nat) : Int)) = True := eq_true (by omega)
      refine Safe.inLoop ?_
      refine Safe.rg rfl ?_
      simp only [nat_digit_r20, hlt, E3, seval]
      refine Safe.cd rfl ?_
      simp only [E3, seval]
      have hgi : g (off + i) < LB := hg _ (by omega)
      have hxi : xr g off y (off + i) = g (off + i) := by subst hy; exact xr_at
      have hvi := getD_lt hv i
      refine Safe.rg rfl ?_
      simp only [nat_digit_r21, E3, seval]
      refine Safe.rg rfl ?_
      simp only [nat_digit_r22, old_idx hid 1 _ off (n + 1) i oc .i64 (show i < n + 1 by omega), ofat hid (show off + i < N by omega), hxi, wrap64 (x := g (off + i)) (by omega), wrap_add64 (x := c) (y := g (off + i)) (by omega), E3, seval]
      have rest : ∀ env : Env, look env 0 = .mu id off (n + 1) oc → look env 1 = natV v → look env 5 = .int .i64 n → look env 7 = .int .u64 q → look env 9 = .int .u64 b → look env 83 = .int .i64 ((n + 1 : Nat) : Int) → look env 84 = .int .i64 i → look env 14 = .int .i64 i → look env 13 = .int .u64 (c + g (off + i) + v.getD i 0 : Nat) →
          Safe (digX H.length) (.code (.seq (.region nat_digit_r25 false) (.region nat_digit_r26 false)) :: .inBlock 5 :: .code (.region nat_digit_r27 false) :: .inLoop nat_digit_l2 :: .inBlock 4 :: todo) env (hap (H.set id (some ⟨1, u32s (fl N (xr g off y))⟩)) []) R := by
        intro env e0 e1 e5 e7 e9 e83 e84 e14 e13
        have w5 := wrap_u32_mod (c + g (off + i) + v.getD i 0)
        refine Safe.rg rfl ?_
        simp only [nat_digit_r25, e0, e14, e13, w5, old_idx hid 1 _ off (n + 1) i oc .i64 (show i < n + 1 by omega), ofst hid (show off + i < N by omega), E3, seval]
        refine Safe.rg rfl ?_
        simp only [nat_digit_r26, e13, shr_32, E3, seval]
        refine Safe.inBlock ?_
        have w4 : IntKind.wrap .i64 ((i : Int) + 1) = ((i + 1 : Nat) : Int) := by rw [wrap_i64] <;> omega
        refine Safe.rg rfl ?_
        simp only [nat_digit_r27, e84, w4, E3, seval]
        refine Safe.keep [0, 1, 5, 7, 9, 13, 83, 84] ?_
        simp only [E3, seval]
        simp only [e0, e1, e5, e7, e9, e83]
        rw [← hy, xr_snoc, hy]
        refine ih (i + 1) _ _ (by omega) (by simp [hy]) (val_snoc_lim ly (Nat.mod_lt _ (by decide))) ?_ ?_
        · have : c + g (off + i) + v.getD i 0 < LB * 2 := by omega
          have := Nat.div_lt_of_lt_mul this
          omega
        · rw [val_snoc, hy, val_take_getD, val_take_getD, Nat.pow_succ, fl_get (by omega)]
          exact sum_step (i := 0) hval
      by_cases hin : i < n
      · have hl2 : ((i : Int) < (n : Int)) = True := eq_true (by omega)
        refine Safe.rg rfl ?_
        simp only [nat_digit_r23, hl2, E3, seval]
        refine Safe.cd rfl ?_
        simp only [E3, seval]
        refine Safe.rg rfl ?_
        simp only [nat_digit_r24, natV_idx _ v _ i (by omega), wrap64 (x := v.getD i 0) (by omega), wrap_add64 (x := c + g (off + i)) (y := v.getD i 0) (by omega), E3, seval]
        exact rest _ (by simp only [E3, seval]) (by simp only [E3, seval]) (by simp only [E3, seval]) (by simp only [E3, seval]) (by simp only [E3, seval]) (by simp only [E3, seval]) (by simp only [E3, seval]) (by simp only [E3, seval]) (by simp only [E3, seval])
      · have hl2 : ((i : Int) < (n : Int)) = False := eq_false (by omega)
        refine Safe.rg rfl ?_
        simp only [nat_digit_r23, hl2, E3, seval]
        refine Safe.cd rfl ?_
        simp only [E3, seval]
        have hz : c + g (off + i) + v.getD i 0 = c + g (off + i) := by rw [getD_out (a := v) (by omega), Nat.add_zero]
        exact Safe.skip (rest _ (by simp only [E3, seval]) (by simp only [E3, seval]) (by simp only [E3, seval]) (by simp only [E3, seval]) (by simp only [E3, seval]) (by simp only [E3, seval]) (by simp only [E3, seval]) (by simp only [E3, seval]) (by rw [hz]; simp only [E3, seval]))
  have := key (n + 1) 0 0 [] (by omega) rfl lim_nil (by omega) (by simp [val])
  rw [xr_nil] at this
  exact this
theorem sub_step {vx qv vu B b c q vi lo d bo c' u : Nat} (h : vx + qv = vu + B * (b + c)) (hd : u + LB * bo = d + lo + b) (hl : lo + LB * c' = c + q * vi) : (vx + B * d) + (qv + B * (q * vi)) = (vu + B * u) + (B * LB) * (bo + c') := by
  have e1 : B * (u + LB * bo) = B * (d + lo + b) := by rw [hd]
  have e2 : B * (lo + LB * c') = B * (c + q * vi) := by rw [hl]
  simp only [Nat.mul_add, ← Nat.mul_assoc] at *
  omega
theorem digit_sub {H : Heap} {id off N n : Nat} {oc : Option Nat} {v : List Nat} {g : Nat → Nat} {todo : List AItem} {R : AV → Heap → Prop} {q : Nat} (hid : id < H.length) (hv : Lim v) (hn : v.length = n) (hoff : off + n + 1 ≤ N) (hN : N ≤ 17592186044416) (hg : ∀ i, i < N → g i < LB) (hq : q < LB)
    (k : ∀ y b, y.length = n + 1 → Lim y → b ≤ 1 → val y + q * val v = val (fl (n + 1) fun i => g (off + i)) + LB ^ (n + 1) * b →
      Safe (digX H.length) todo [(0, .mu id off (n + 1) oc), (1, natV v), (5, .int .i64 n), (7, .int .u64 q), (9, .int .u64 b)] (hap (H.set id (some ⟨1, u32s (fl N (xr g off y))⟩)) []) R) :
    Safe (digX H.length) (.inLoop nat_digit_l0 :: .inBlock 0 :: todo) [(0, .mu id off (n + 1) oc), (1, natV v), (5, .int .i64 n), (7, .int .u64 q), (8, .int .u64 0), (9, .int .u64 0), (40, .int .i64 ((n + 1 : Nat) : Int)), (41, .int .i64 0)] (hap (H.set id (some ⟨1, u32s (fl N g)⟩)) []) R := by
  have hLB : LB = 4294967296 := rfl
  have key : ∀ (m i b c : Nat) (y : List Nat), i + m = n + 1 → y.length = i → Lim y → b ≤ 1 → c < LB → val y + q * val (v.take i) = val ((fl (n + 1) fun i => g (off + i)).take i) + LB ^ i * (b + c) → LB ^ i * c ≤ q * val (v.take i) →
      Safe (digX H.length) (.inLoop nat_digit_l0 :: .inBlock 0 :: todo) [(0, .mu id off (n + 1) oc), (1, natV v), (5, .int .i64 n), (7, .int .u64 q), (8, .int .u64 c), (9, .int .u64 b), (40, .int .i64 ((n + 1 : Nat) : Int)), (41, .int .i64 i)] (hap (H.set id (some ⟨1, u32s (fl N (xr g off y))⟩)) []) R := by
    intro m
    induction m with
    | zero =>
      intro i b c y him hy ly hb hc hval hcl
      have hi : i = n + 1 := by omega
      subst hi
      refine Safe.inLoop ?_
      refine Safe.rg rfl ?_
      simp only [nat_digit_r6, Int.lt_irrefl, E3, Nat.reduceLeDiff, Nat.reduceSub, Nat.reduceAdd, Nat.reduceEqDiff, reduceCtorEq, ↓reduceIte]
      refine Safe.cd rfl ?_
      simp only [E3, Nat.reduceLeDiff, Nat.reduceSub, Nat.reduceAdd, Nat.reduceEqDiff, reduceCtorEq, ↓reduceIte]
      refine Safe.exit rfl ?_
      refine Safe.keep [0, 1, 5, 7, 9] ?_
      simp only [E3, Nat.reduceLeDiff, Nat.reduceSub, Nat.reduceAdd, Nat.reduceEqDiff, reduceCtorEq, ↓reduceIte]
      refine k y b hy ly hb ?_
      rw [List.take_of_length_le (l := v) (by omega)] at hval hcl
      rw [List.take_of_length_le (l := fl _ _) (by rw [fl_len]; omega)] at hval
      have hc0 : c = 0 := by
        have h1 := val_lt hv
        rw [hn] at h1
        have h2 : q * val v < LB * LB ^ n := Nat.mul_lt_mul'' hq h1
        rw [← Nat.pow_succ'] at h2
        have h3 : LB ^ (n + 1) * c < LB ^ (n + 1) * 1 := by rw [Nat.mul_one]; exact Nat.lt_of_le_of_lt hcl h2
        have := Nat.lt_of_mul_lt_mul_left h3
        omega
      rw [hval, hc0, show b + 0 = b from rfl]
    | succ m ih =>
      intro i b c y him hy ly hb hc hval hcl
      have hlt : ((i : Int) < ((n + 1 : Nat) : Int)) = True := eq_true (by omega)
      refine Safe.inLoop ?_
      refine Safe.rg rfl ?_
      simp only [nat_digit_r6, hlt, E3, Nat.reduceLeDiff, Nat.reduceSub, Nat.reduceAdd, Nat.reduceEqDiff, reduceCtorEq, ↓reduceIte]
      refine Safe.cd rfl ?_
      simp only [E3, Nat.reduceLeDiff, Nat.reduceSub, Nat.reduceAdd, Nat.reduceEqDiff, reduceCtorEq, ↓reduceIte]
      have hgi : g (off + i) < LB := hg _ (by omega)
      have hxi : xr g off y (off + i) = g (off + i) := by subst hy; exact xr_at
      have hvi := getD_lt hv i
      have hqv : c + q * v.getD i 0 < LB * LB := by
        have h1 : q * v.getD i 0 ≤ (LB - 1) * (LB - 1) := Nat.mul_le_mul (by omega) (by omega)
        have h2 : (LB - 1) * (LB - 1) + (LB - 1) < LB * LB := by decide
        omega
      have hqv2 : LB * LB = 18446744073709551616 := by decide
      refine Safe.rg rfl ?_
      simp only [nat_digit_r7, E3, Nat.reduceLeDiff, Nat.reduceSub, Nat.reduceAdd, Nat.reduceEqDiff, reduceCtorEq, ↓reduceIte]
      refine Safe.rg rfl ?_
      simp only [nat_digit_r8, E3, Nat.reduceLeDiff, Nat.reduceSub, Nat.reduceAdd, Nat.reduceEqDiff, reduceCtorEq, ↓reduceIte]
      have rest : ∀ env : Env, look env 0 = .mu id off (n + 1) oc → look env 1 = natV v → look env 5 = .int .i64 n → look env 7 = .int .u64 q → look env 9 = .int .u64 b → look env 40 = .int .i64 ((n + 1 : Nat) : Int) → look env 41 = .int .i64 i → look env 10 = .int .i64 i → look env 11 = .int .u64 (c + q * v.getD i 0 : Nat) →
          Safe (digX H.length) (.code (.seq (.region nat_digit_r11 false) (.seq (.region nat_digit_r12 false) (.seq (.region nat_digit_r13 false) (.region nat_digit_r14 false)))) :: .inBlock 1 :: .code (.region nat_digit_r15 false) :: .inLoop nat_digit_l0 :: .inBlock 0 :: todo) env (hap (H.set id (some ⟨1, u32s (fl N (xr g off y))⟩)) []) R := by
        intro env e0 e1 e5 e7 e9 e40 e41 e10 e11
        have w5 := wrap_u32_mod (c + q * v.getD i 0)
        have htl : (c + q * v.getD i 0) % LB < LB := Nat.mod_lt _ (by decide)
        have htm := Nat.mod_add_div (c + q * v.getD i 0) LB
        have htd : (c + q * v.getD i 0) / LB < LB := by rw [Nat.div_lt_iff_lt_mul (by decide)]; exact hqv
        have h4w : IntKind.wrap .u64 (IntKind.wrap .u64 (((g (off + i) : Nat) : Int) - (((c + q * v.getD i 0) % LB : Nat) : Int)) - (b : Int)) = (((g (off + i) : Nat) : Int) - (((c + q * v.getD i 0) % LB : Nat) : Int) - (b : Int)) % 18446744073709551616 := by
          rw [wrap_u64_mod, wrap_u64_mod]; omega
        refine Safe.rg rfl ?_
        simp only [nat_digit_r11, e11, shr_32, E3, Nat.reduceLeDiff, Nat.reduceSub, Nat.reduceAdd, Nat.reduceEqDiff, reduceCtorEq, ↓reduceIte]
        refine Safe.rg rfl ?_
        simp only [nat_digit_r12, e0, e10, e11, e9, old_idx hid 1 _ off (n + 1) i oc .i64 (show i < n + 1 by omega), ofat hid (show off + i < N by omega), hxi, wrap64 (x := g (off + i)) (by omega), w5, wrap64 (x := (c + q * v.getD i 0) % LB) (by omega), h4w, E3, Nat.reduceLeDiff, Nat.reduceSub, Nat.reduceAdd, Nat.reduceEqDiff, reduceCtorEq, ↓reduceIte]
        obtain ⟨d, bo, hd, hbo, hdl, hD, hB⟩ : ∃ d bo : Nat, g (off + i) + LB * bo = d + (c + q * v.getD i 0) % LB + b ∧ bo ≤ 1 ∧ d < LB ∧ ((((g (off + i) : Nat) : Int) - (((c + q * v.getD i 0) % LB : Nat) : Int) - (b : Int)) % 18446744073709551616) % 4294967296 = (d : Int) ∧ ((((g (off + i) : Nat) : Int) - (((c + q * v.getD i 0) % LB : Nat) : Int) - (b : Int)) % 18446744073709551616) / 9223372036854775808 = (bo : Int) := by
          generalize (c + q * v.getD i 0) % LB = lo at *
          by_cases hlt : g (off + i) < lo + b
          · exact ⟨g (off + i) + LB - lo - b, 1, by omega, by omega, by omega, by omega, by omega⟩
          · exact ⟨g (off + i) - lo - b, 0, by omega, by omega, by omega, by omega, by omega⟩
        refine Safe.rg rfl ?_
        simp only [nat_digit_r13, e0, e10, wrap_u32_emod, hD, old_idx hid 1 _ off (n + 1) i oc .i64 (show i < n + 1 by omega), ofst hid (show off + i < N by omega), E3, Nat.reduceLeDiff, Nat.reduceSub, Nat.reduceAdd, Nat.reduceEqDiff, reduceCtorEq, ↓reduceIte]
        have hs63 : ∀ n : Int, Int.fdiv n (2 ^ min (Int.toNat 63) IntKind.u64.bits) = n / 9223372036854775808 := by
          intro n
          rw [show (2 : Int) ^ min (Int.toNat 63) IntKind.u64.bits = 9223372036854775808 by decide, Int.fdiv_eq_ediv_of_nonneg _ (by decide)]
        refine Safe.rg rfl ?_
        simp only [nat_digit_r14, shBin_shr _ _ _ (show (0 : Int) ≤ 63 by decide), hs63, hB, E3, Nat.reduceLeDiff, Nat.reduceSub, Nat.reduceAdd, Nat.reduceEqDiff, reduceCtorEq, ↓reduceIte]
        refine Safe.inBlock ?_
        have w4 : IntKind.wrap .i64 ((i : Int) + 1) = ((i + 1 : Nat) : Int) := by rw [wrap_i64] <;> omega
        refine Safe.rg rfl ?_
        simp only [nat_digit_r15, e41, w4, E3, Nat.reduceLeDiff, Nat.reduceSub, Nat.reduceAdd, Nat.reduceEqDiff, reduceCtorEq, ↓reduceIte]
        refine Safe.keep [0, 1, 5, 7, 8, 9, 40, 41] ?_
        simp only [E3, Nat.reduceLeDiff, Nat.reduceSub, Nat.reduceAdd, Nat.reduceEqDiff, reduceCtorEq, ↓reduceIte]
        simp only [e0, e1, e5, e7, e40]
        rw [← hy, xr_snoc, hy]
        refine ih (i + 1) bo _ _ (by omega) (by simp [hy]) (val_snoc_lim ly hdl) hbo htd ?_ ?_
        · rw [val_snoc, hy, val_take_getD, val_take_getD, Nat.pow_succ, fl_get (by omega), Nat.mul_add, Nat.mul_left_comm]
          exact sub_step hval hd htm
        · rw [val_take_getD, Nat.mul_add, Nat.mul_left_comm q, Nat.pow_succ, Nat.mul_assoc]
          have h1 : LB ^ i * (LB * ((c + q * v.getD i 0) / LB)) ≤ LB ^ i * (c + q * v.getD i 0) := Nat.mul_le_mul_left _ (Nat.mul_div_le _ _)
          rw [Nat.mul_add] at h1
          omega
      by_cases hin : i < n
      · have hl2 : ((i : Int) < (n : Int)) = True := eq_true (by omega)
        refine Safe.rg rfl ?_
        simp only [nat_digit_r9, hl2, E3, Nat.reduceLeDiff, Nat.reduceSub, Nat.reduceAdd, Nat.reduceEqDiff, reduceCtorEq, ↓reduceIte]
        refine Safe.cd rfl ?_
        simp only [E3, Nat.reduceLeDiff, Nat.reduceSub, Nat.reduceAdd, Nat.reduceEqDiff, reduceCtorEq, ↓reduceIte]
        refine Safe.rg rfl ?_
        simp only [nat_digit_r10, natV_idx _ v _ i (by omega), wrap64 (x := v.getD i 0) (by omega), wrap_mul64 (x := q) (y := v.getD i 0) (by omega), wrap_add64 (x := c) (y := q * v.getD i 0) (by omega), E3, Nat.reduceLeDiff, Nat.reduceSub, Nat.reduceAdd, Nat.reduceEqDiff, reduceCtorEq, ↓reduceIte]
        exact rest _ (by simp only [E3, Nat.reduceLeDiff, Nat.reduceSub, Nat.reduceAdd, Nat.reduceEqDiff, reduceCtorEq, ↓reduceIte]) (by simp only [E3, Nat.reduceLeDiff, Nat.reduceSub, Nat.reduceAdd, Nat.reduceEqDiff, reduceCtorEq, ↓reduceIte]) (by simp only [E3, Nat.reduceLeDiff, Nat.reduceSub, Nat.reduceAdd, Nat.reduceEqDiff, reduceCtorEq, ↓reduceIte]) (by simp only [E3, Nat.reduceLeDiff, Nat.reduceSub, Nat.reduceAdd, Nat.reduceEqDiff, reduceCtorEq, ↓reduceIte]) (by simp only [E3, Nat.reduceLeDiff, Nat.reduceSub, Nat.reduceAdd, Nat.reduceEqDiff, reduceCtorEq, ↓reduceIte]) (by simp only [E3, Nat.reduceLeDiff, Nat.reduceSub, Nat.reduceAdd, Nat.reduceEqDiff, reduceCtorEq, ↓reduceIte]) (by simp only [E3, Nat.reduceLeDiff, Nat.reduceSub, Nat.reduceAdd, Nat.reduceEqDiff, reduceCtorEq, ↓reduceIte]) (by simp only [E3, Nat.reduceLeDiff, Nat.reduceSub, Nat.reduceAdd, Nat.reduceEqDiff, reduceCtorEq, ↓reduceIte]) (by simp only [E3, Nat.reduceLeDiff, Nat.reduceSub, Nat.reduceAdd, Nat.reduceEqDiff, reduceCtorEq, ↓reduceIte])
      · have hl2 : ((i : Int) < (n : Int)) = False := eq_false (by omega)
        refine Safe.rg rfl ?_
        simp only [nat_digit_r9, hl2, E3, Nat.reduceLeDiff, Nat.reduceSub, Nat.reduceAdd, Nat.reduceEqDiff, reduceCtorEq, ↓reduceIte]
        refine Safe.cd rfl ?_
        simp only [E3, Nat.reduceLeDiff, Nat.reduceSub, Nat.reduceAdd, Nat.reduceEqDiff, reduceCtorEq, ↓reduceIte]
        have hz : c + q * v.getD i 0 = c := by rw [getD_out (a := v) (by omega)]; omega
        exact Safe.skip (rest _ (by simp only [E3, Nat.reduceLeDiff, Nat.reduceSub, Nat.reduceAdd, Nat.reduceEqDiff, reduceCtorEq, ↓reduceIte]) (by simp only [E3, Nat.reduceLeDiff, Nat.reduceSub, Nat.reduceAdd, Nat.reduceEqDiff, reduceCtorEq, ↓reduceIte]) (by simp only [E3, Nat.reduceLeDiff, Nat.reduceSub, Nat.reduceAdd, Nat.reduceEqDiff, reduceCtorEq, ↓reduceIte]) (by simp only [E3, Nat.reduceLeDiff, Nat.reduceSub, Nat.reduceAdd, Nat.reduceEqDiff, reduceCtorEq, ↓reduceIte]) (by simp only [E3, Nat.reduceLeDiff, Nat.reduceSub, Nat.reduceAdd, Nat.reduceEqDiff, reduceCtorEq, ↓reduceIte]) (by simp only [E3, Nat.reduceLeDiff, Nat.reduceSub, Nat.reduceAdd, Nat.reduceEqDiff, reduceCtorEq, ↓reduceIte]) (by simp only [E3, Nat.reduceLeDiff, Nat.reduceSub, Nat.reduceAdd, Nat.reduceEqDiff, reduceCtorEq, ↓reduceIte]) (by simp only [E3, Nat.reduceLeDiff, Nat.reduceSub, Nat.reduceAdd, Nat.reduceEqDiff, reduceCtorEq, ↓reduceIte]) (by rw [hz]; simp only [E3, Nat.reduceLeDiff, Nat.reduceSub, Nat.reduceAdd, Nat.reduceEqDiff, reduceCtorEq, ↓reduceIte]))
  have := key (n + 1) 0 0 0 [] (by omega) rfl lim_nil (by omega) (by decide) (by simp [val]) (by simp)
  rw [xr_nil] at this
  exact this
theorem digit_calls {H : Heap} {id off N n : Nat} {oc : Option Nat} {v : List Nat} {f : Nat → Nat} (hl : H[id]? = some (some ⟨1, u32s (fl N f)⟩)) (hv : Lim v) (hn : v.length = n) (hn0 : 0 < n) (ht : 0 < v.getD (n - 1) 0) (hoff : off + n + 1 ≤ N) (hN : N ≤ 17592186044416) (hf : ∀ i, i < N → f i < LB)
    {S : Nat} (hS : val (fl (n + 1) fun i => f (off + i)) = S) (hlt : S < LB * val v) : ACalls Pr F_nat_digit [.mu id off (n + 1) oc, natV v] H fun r' H' => r' = .int .u32 (S / val v : Nat) ∧ H' = H.set id (some ⟨1, u32s (fl N (xr f off (fl (n + 1) (dig (S % val v)))))⟩) := by
  have hLB : LB = 4294967296 := rfl
  have hid := lt_of_live hl
  have hv0 : 0 < val v := by
    have := val_split v (n - 1)
    have h2 : val (v.drop (n - 1)) ≠ 0 := by
      rw [val_drop_succ]; rw [show n - 1 + 1 = n by omega]; omega
    have h3 : 0 < LB ^ (n - 1) * val (v.drop (n - 1)) := Nat.mul_pos (pow_pos' _) (by omega)
    omega
  have hUl : (fl (n + 1) fun i => f (off + i)).length = n + 1 := fl_len _ _
  have hU : Lim (fl (n + 1) fun i => f (off + i)) := fl_lim fun i hi => hf _ (by omega)
  have hguess := guess_ge hU hv hUl hn hn0 hv0 (by rw [hS]; exact hlt) ht
  rw [hS, fl_get (by omega), fl_get (by omega)] at hguess
  have hSl : S < LB ^ (n + 1) := by have := val_lt hU; rw [hS, hUl] at this; exact this
  have hvl := val_lt hv
  rw [hn] at hvl
  have hvle : val v ≤ LB ^ (n + 1) := by
    have : LB ^ n ≤ LB ^ (n + 1) := Nat.pow_le_pow_right (by decide) (by omega)
    omega
  have hvt : v.getD (n - 1) 0 < LB := getD_lt hv _
  have hfn : f (off + n) < LB := hf _ (by omega)
  have hfn1 : f (off + (n - 1)) < LB := hf _ (by omega)
  refine ACalls.eff nat_digit_fn nat_digit_ok (Nat.le_of_ble_eq_true rfl) fun hH => ?_
  have h0 : hap H [] = hap (H.set id (some ⟨1, u32s (fl N f)⟩)) [] := by rw [set_self hl]
  rw [h0]
  refine Safe.rg rfl ?_
  simp only [nat_digit_r0, E3, Nat.reduceLeDiff, Nat.reduceSub, Nat.reduceAdd, Nat.reduceEqDiff, reduceCtorEq, ↓reduceIte]
  refine Safe.rg rfl ?_
  simp only [nat_digit_r1, natV_len, E3, Nat.reduceLeDiff, Nat.reduceSub, Nat.reduceAdd, Nat.reduceEqDiff, reduceCtorEq, ↓reduceIte]
  have w1 : IntKind.wrap .i64 ((n : Int) - 1) = ((n - 1 : Nat) : Int) := by rw [wrap_i64] <;> omega
  refine Safe.rg rfl ?_
  simp only [nat_digit_r2, hn, w1, old_idx hid 1 _ off (n + 1) n oc .i64 (Nat.lt_succ_self n), old_idx hid 1 _ off (n + 1) (n - 1) oc .i64 (show n - 1 < n + 1 by omega), ofat hid (show off + n < N by omega), ofat hid (show off + (n - 1) < N by omega), wrap64 (x := f (off + n)) (by omega), wrap64 (x := f (off + (n - 1))) (by omega), shl32 hfn, wrap_or64 hfn hfn1, E3, Nat.reduceLeDiff, Nat.reduceSub, Nat.reduceAdd, Nat.reduceEqDiff, reduceCtorEq, ↓reduceIte]
  have htop : f (off + n) * LB + f (off + (n - 1)) < 18446744073709551616 := by
    have : f (off + n) * LB ≤ 4294967295 * LB := Nat.mul_le_mul_right _ (by omega)
    omega
  have hmin : (if (4294967295 : Int) < (((f (off + n) * LB + f (off + (n - 1))) / v.getD (n - 1) 0 : Nat) : Int) then (4294967295 : Int) else (((f (off + n) * LB + f (off + (n - 1))) / v.getD (n - 1) 0 : Nat) : Int)) = ((min ((f (off + n) * LB + f (off + (n - 1))) / v.getD (n - 1) 0) (LB - 1) : Nat) : Int) := by
    generalize (f (off + n) * LB + f (off + (n - 1))) / v.getD (n - 1) 0 = z
    split
    · rw [Nat.min_eq_right (by omega)]; rfl
    · rw [Nat.min_eq_left (by omega)]
  refine Safe.rg rfl ?_
  simp only [nat_digit_r3, hn, w1, natV_idx _ v _ (n - 1) (by omega), wrap64 (x := v.getD (n - 1) 0) (by omega), quo_nat ht htop, mnxV_int, hmin, E3, Nat.reduceLeDiff, Nat.reduceSub, Nat.reduceAdd, Nat.reduceEqDiff, reduceCtorEq, ↓reduceIte]
  have hq0l : min ((f (off + n) * LB + f (off + (n - 1))) / v.getD (n - 1) 0) (LB - 1) < LB := Nat.lt_of_le_of_lt (Nat.min_le_right _ _) (by decide)
  generalize hq0 : min ((f (off + n) * LB + f (off + (n - 1))) / v.getD (n - 1) 0) (LB - 1) = q0 at *
  refine Safe.rg rfl ?_
  simp only [nat_digit_r4, E3, Nat.reduceLeDiff, Nat.reduceSub, Nat.reduceAdd, Nat.reduceEqDiff, reduceCtorEq, ↓reduceIte]
  have w2 : IntKind.wrap .i64 ((n : Int) + 1) = ((n + 1 : Nat) : Int) := by rw [wrap_i64] <;> omega
  refine Safe.rg rfl ?_
  simp only [nat_digit_r5, w2, hn, E3, Nat.reduceLeDiff, Nat.reduceSub, Nat.reduceAdd, Nat.reduceEqDiff, reduceCtorEq, ↓reduceIte]
  refine Safe.lp rfl ?_
  refine Safe.keep [0, 1, 5, 7, 8, 9, 40, 41] ?_
  simp only [hn, E3, Nat.reduceLeDiff, Nat.reduceSub, Nat.reduceAdd, Nat.reduceEqDiff, reduceCtorEq, ↓reduceIte]
  refine digit_sub hid hv hn hoff hN hf hq0l fun y b hy ly hb hval => ?_
  rw [hS] at hval
  refine Safe.lp rfl ?_
  -- the rows put back
  have key : ∀ (q b : Nat) (y : List Nat), y.length = n + 1 → Lim y → b ≤ 1 → val y + q * val v = S + LB ^ (n + 1) * b → S / val v ≤ q → q < LB →
      Safe (digX H.length) [.inLoop nat_digit_l1, .inBlock 2, .code (.seq (.region nat_digit_r29 false) .ret)] [(0, .mu id off (n + 1) oc), (1, natV v), (5, .int .i64 n), (7, .int .u64 q), (9, .int .u64 b)] (hap (H.set id (some ⟨1, u32s (fl N (xr f off y))⟩)) [])
        fun r' H' => ∃ H1 L, H' = hap H1 L ∧ H1.length = H.length ∧ HRefs H1 ∧ Ref (· < H.length) r' ∧ r' = .int .u32 (S / val v : Nat) ∧ H1 = H.set id (some ⟨1, u32s (fl N (xr f off (fl (n + 1) (dig (S % val v)))))⟩) := by
    intro q
    induction q with
    | zero =>
      intro b y hy ly hb hval hq hql
      have hyl := val_lt ly
      rw [hy] at hyl
      have hb0 : b = 0 := by
        rcases Nat.eq_zero_or_pos b with h | h
        · exact h
        · have : b = 1 := by omega
          subst this; omega
      subst hb0
      refine Safe.inLoop ?_
      refine Safe.rg rfl ?_
      simp only [nat_digit_r16, show ((0 : Int) < ((0 : Nat) : Int)) = False by simp, E3, Nat.reduceLeDiff, Nat.reduceSub, Nat.reduceAdd, Nat.reduceEqDiff, reduceCtorEq, ↓reduceIte]
      refine Safe.cd rfl ?_
      simp only [E3, Nat.reduceLeDiff, Nat.reduceSub, Nat.reduceAdd, Nat.reduceEqDiff, reduceCtorEq, ↓reduceIte]
      refine Safe.exit rfl ?_
      refine Safe.rg rfl ?_
      simp only [nat_digit_r29, wrap32 (x := 0) (by decide), E3, Nat.reduceLeDiff, Nat.reduceSub, Nat.reduceAdd, Nat.reduceEqDiff, reduceCtorEq, ↓reduceIte]
      refine Safe.rt rfl ?_
      simp only [E3, Nat.reduceLeDiff, Nat.reduceSub, Nat.reduceAdd, Nat.reduceEqDiff, reduceCtorEq, ↓reduceIte]
      have e1 : S / val v = 0 := Nat.le_zero.1 hq
      have e2 : S % val v = val y := by
        have := Nat.mod_add_div S (val v)
        rw [e1] at this
        omega
      refine ⟨_, [], rfl, by simp, HRefs.set hH id fun a ha => (blk_u32 _ a ha).ref, .int _ _, by rw [e1], ?_⟩
      rw [e2, ← lim_fl_val ly hy]
    | succ q ih =>
      intro b y hy ly hb hval hq hql
      have hyl := val_lt ly
      rw [hy] at hyl
      refine Safe.inLoop ?_
      by_cases hb0 : b = 0
      · subst hb0
        refine Safe.rg rfl ?_
        simp only [nat_digit_r16, show ((0 : Int) < ((0 : Nat) : Int)) = False by simp, E3, Nat.reduceLeDiff, Nat.reduceSub, Nat.reduceAdd, Nat.reduceEqDiff, reduceCtorEq, ↓reduceIte]
        refine Safe.cd rfl ?_
        simp only [E3, Nat.reduceLeDiff, Nat.reduceSub, Nat.reduceAdd, Nat.reduceEqDiff, reduceCtorEq, ↓reduceIte]
        refine Safe.exit rfl ?_
        refine Safe.rg rfl ?_
        simp only [nat_digit_r29, wrap32 (x := q + 1) (by omega), E3, Nat.reduceLeDiff, Nat.reduceSub, Nat.reduceAdd, Nat.reduceEqDiff, reduceCtorEq, ↓reduceIte]
        refine Safe.rt rfl ?_
        simp only [E3, Nat.reduceLeDiff, Nat.reduceSub, Nat.reduceAdd, Nat.reduceEqDiff, reduceCtorEq, ↓reduceIte]
        have e1 : S / val v = q + 1 := by
          have : (q + 1) ≤ S / val v := by rw [Nat.le_div_iff_mul_le hv0]; omega
          omega
        have e2 : S % val v = val y := by
          have := Nat.mod_add_div S (val v)
          rw [e1, Nat.mul_comm (val v)] at this
          omega
        refine ⟨_, [], rfl, by simp, HRefs.set hH id fun a ha => (blk_u32 _ a ha).ref, .int _ _, by rw [e1], ?_⟩
        rw [e2, ← lim_fl_val ly hy]
      · have hb1 : b = 1 := by omega
        subst hb1
        have hlq : S / val v ≤ q := by
          have h1 : S < (q + 1) * val v := by omega
          have := (Nat.div_lt_iff_lt_mul hv0).2 h1
          omega
        have w3 : IntKind.wrap .u64 (((q + 1 : Nat) : Int) - 1) = (q : Int) := by rw [wrap_u64] <;> omega
        refine Safe.rg rfl ?_
        simp only [nat_digit_r16, show ((0 : Int) < ((1 : Nat) : Int)) = True by simp, E3, Nat.reduceLeDiff, Nat.reduceSub, Nat.reduceAdd, Nat.reduceEqDiff, reduceCtorEq, ↓reduceIte]
        refine Safe.cd rfl ?_
        simp only [E3, Nat.reduceLeDiff, Nat.reduceSub, Nat.reduceAdd, Nat.reduceEqDiff, reduceCtorEq, ↓reduceIte]
        refine Safe.rg rfl ?_
        simp only [nat_digit_r17, w3, E3, Nat.reduceLeDiff, Nat.reduceSub, Nat.reduceAdd, Nat.reduceEqDiff, reduceCtorEq, ↓reduceIte]
        refine Safe.rg rfl ?_
        simp only [nat_digit_r18, E3, Nat.reduceLeDiff, Nat.reduceSub, Nat.reduceAdd, Nat.reduceEqDiff, reduceCtorEq, ↓reduceIte]
        refine Safe.rg rfl ?_
        simp only [nat_digit_r19, w2, E3, Nat.reduceLeDiff, Nat.reduceSub, Nat.reduceAdd, Nat.reduceEqDiff, reduceCtorEq, ↓reduceIte]
        refine Safe.lp rfl ?_
        refine Safe.keep [0, 1, 5, 7, 9, 13, 83, 84] ?_
        simp only [E3, Nat.reduceLeDiff, Nat.reduceSub, Nat.reduceAdd, Nat.reduceEqDiff, reduceCtorEq, ↓reduceIte]
        refine digit_add (b := 1) hid hv hn hoff hN (xr_lt hf ly) fun z c hz lz hc hzv => ?_
        have hseg := xr_seg (g := f) (off := off) (x := y)
        rw [hy] at hseg
        rw [hseg] at hzv
        rw [xr_xr (by rw [hy, hz])]
        have w4 : IntKind.wrap .u64 (((1 : Nat) : Int) - (c : Int)) = ((1 - c : Nat) : Int) := by rw [wrap_u64] <;> omega
        refine Safe.rg rfl ?_
        simp only [nat_digit_r28, w4, E3, Nat.reduceLeDiff, Nat.reduceSub, Nat.reduceAdd, Nat.reduceEqDiff, reduceCtorEq, ↓reduceIte]
        refine Safe.inBlock ?_
        refine Safe.keep [0, 1, 5, 7, 9] ?_
        simp only [E3, Nat.reduceLeDiff, Nat.reduceSub, Nat.reduceAdd, Nat.reduceEqDiff, reduceCtorEq, ↓reduceIte]
        have hexp : (q + 1) * val v = q * val v + val v := by rw [Nat.add_mul, Nat.one_mul]
        refine ih (1 - c) z hz lz (by omega) ?_ hlq (by omega)
        rcases Nat.eq_zero_or_pos c with h | h
        · subst h; omega
        · have : c = 1 := by omega
          subst this; omega
  exact key q0 b y hy ly hb hval hguess hq0l
end Go.Abs
set_option linter.unusedVariables false
set_option linter.unusedSimpArgs false
namespace Go.Abs
theorem hap_hap (H L M : Heap) : hap (hap H L) M = hap H (L ++ M) := by simp [hap]
theorem lid_hap (H L : Heap) (i : Nat) : lid (hap H L) i = lid H (L.length + i) := by simp [hap, lid, Nat.add_assoc]
theorem limbs_idem (n : Nat) : limbs (val (limbs n)) = limbs n := by rw [val_limbs]
theorem fl_limbs {M k n : Nat} (hk : k = (limbs M).length) (hn : k ≤ n) : (fl n (dig M)).take k = limbs M := by
  rw [fl_take _ hn, hk]
  have := lim_fl_val (lim_limbs M) rfl
  rw [val_limbs] at this
  exact this.symm
theorem frz_part {H : Heap} {i len : Nat} {X : List Nat} (oc : Option Nat) (h : len ≤ X.length) : frz (lid H i) ⟨1, u32s X⟩ (.mu (lid H i) 0 len oc) = natV (X.take len) := by
  simp only [frz, if_true, Nat.zero_add, u32s_len, h, List.drop_zero, u32s_take]; rfl
theorem app_part {H : Heap} (hH : HRefs H) {n0 : Nat} {env : Env} {L : Heap} {len c : Nat} {X l : List Nat} {o : Option Blk} (hn : n0 ≤ lid H 0) (hlen : len ≤ X.length) (hc : c < len + l.length) (hb : X.length + l.length ≤ 35184372088832) :
    appV n0 1 4 false (.mu (lid H 0) 0 len (some c)) (.sl 1 (u32s l)) env (hap H [some ⟨1, u32s X⟩]) = some (.mu (lid H 0) 0 (len + l.length) none, scrub (lid H 0) env, hap H [some ⟨1, u32s (X.take len ++ l)⟩]) := by
  have hf : free (hap H [some ⟨1, u32s X⟩]) (lid H 0) = true := free_hap hH (aside_cl fun b hb a ha => by
    simp at hb; subst hb; exact blk_u32 X a ha)
  simp only [appV, srcEls_sl, Option.bind_some, hrow_hap, List.getElem?_cons_zero, Option.join_some, set_hap, List.set_cons_zero]
  rw [if_neg (by simp [u32s_len]; omega), if_pos]
  · simp only [u32s_len, u32s_take, u32s_append, capAfter]
    rw [Option.bind_some, if_neg (by omega)]
  · simp only [u32s_len, true_and]
    refine ⟨hlen, hn, hf, ?_, ?_, by omega, by omega⟩
    · exact List.all_eq_true.2 fun a ha => nref_cl (u32s_clf ha)
    · exact List.all_eq_true.2 fun a ha => nref_cl (u32s_clf ha)
theorem slc_lohi {H L : Heap} {i lo hi len m : Nat} {b : Blk} (hl : L[i]? = some (some b)) {wd : Nat} (hw : b.wd = wd) (oc : Option Nat) (k k' : IntKind) (h1 : hi = lo + m) (h2 : hi ≤ len) :
    slcV (hap H L) wd (.mu (lid H i) 0 len oc) (some (.int k lo)) (some (.int k' hi)) none = some (.mu (lid H i) lo m (oc.map (· - lo))) := by
  subst h1
  simp only [slcV, hrow_hap, hl, Option.join_some, Option.bind_some, boundV]
  rw [if_pos ⟨hw, by omega, by omega, by omega⟩]
  simp
  omega
/-- The rests, from the top. -/
theorem rest_step {U V i nv : Nat} (hV : V < LB ^ nv) (hV0 : 0 < V) : (∀ j, xr (dig (U % (V * LB ^ (i + 1)))) i (fl (nv + 1) (dig (U % (V * LB ^ (i + 1)) / LB ^ i % V))) j = dig (U % (V * LB ^ i)) j) ∧
    U % (V * LB ^ (i + 1)) / LB ^ i / V = dig (U / V) i ∧ val (fl (nv + 1) fun t => dig (U % (V * LB ^ (i + 1))) (i + t)) = U % (V * LB ^ (i + 1)) / LB ^ i ∧ U % (V * LB ^ (i + 1)) / LB ^ i < LB * V := by
  have hp := pow_pos' i
  have e1 : V * LB ^ (i + 1) = V * LB ^ i * LB := by rw [Nat.pow_succ, Nat.mul_assoc]
  have hR1 : U % (V * LB ^ (i + 1)) < V * LB ^ (i + 1) := Nat.mod_lt _ (Nat.mul_pos hV0 (pow_pos' _))
  have hS : U % (V * LB ^ (i + 1)) / LB ^ i < LB * V := by
    rw [Nat.div_lt_iff_lt_mul hp]
    have : LB * V * LB ^ i = V * LB ^ (i + 1) := by rw [e1]; rw [Nat.mul_comm LB, Nat.mul_right_comm]
    rw [this]; exact hR1
  have hSl : U % (V * LB ^ (i + 1)) / LB ^ i < LB ^ (nv + 1) := by
    have : LB * V ≤ LB ^ (nv + 1) := by rw [Nat.pow_succ']; exact Nat.mul_le_mul_left _ (Nat.le_of_lt hV)
    omega
  have hR : U % (V * LB ^ i) = U % (V * LB ^ (i + 1)) % (V * LB ^ i) := by
    rw [e1, Nat.mod_mul_right_mod]
  have hq : U % (V * LB ^ (i + 1)) / LB ^ i % V = U % (V * LB ^ i) / LB ^ i := by
    rw [hR, Nat.mul_comm V (LB ^ i), Nat.mod_mul_right_div_self]
  refine ⟨fun j => ?_, ?_, ?_, hS⟩
  · unfold xr
    rw [fl_len]
    by_cases h : i ≤ j ∧ j < i + (nv + 1)
    · rw [if_pos h, fl_get (by omega), hq, dig_div]
      congr 1; omega
    · rw [if_neg h]
      rcases Nat.lt_or_ge j i with h1 | h1
      · have h2 := Nat.mod_add_div (U % (V * LB ^ (i + 1))) (V * LB ^ i)
        rw [← hR] at h2
        have h3 : V * LB ^ i * (U % (V * LB ^ (i + 1)) / (V * LB ^ i)) = LB ^ i * (V * (U % (V * LB ^ (i + 1)) / (V * LB ^ i))) := by rw [Nat.mul_comm V, Nat.mul_assoc]
        rw [h3] at h2
        conv => lhs; rw [← h2]
        exact dig_add_mul _ h1
      · have hj : i + (nv + 1) ≤ j := by omega
        have hpj : LB ^ (nv + (i + 1)) ≤ LB ^ j := Nat.pow_le_pow_right (by decide) (by omega)
        have h3 : V * LB ^ (i + 1) ≤ LB ^ (nv + (i + 1)) := by rw [Nat.pow_add LB nv (i + 1)]; exact Nat.mul_le_mul_right _ (Nat.le_of_lt hV)
        have h4 : U % (V * LB ^ i) ≤ U % (V * LB ^ (i + 1)) := by rw [hR]; exact Nat.mod_le _ _
        rw [dig_high (by omega), dig_high (by omega)]
  · rw [Nat.div_div_eq_div_mul, Nat.mul_comm (LB ^ i), e1, Nat.mod_mul_right_div_self]
    unfold dig
    rw [Nat.div_div_eq_div_mul]
  · have : (fl (nv + 1) fun t => dig (U % (V * LB ^ (i + 1))) (i + t)) = fl (nv + 1) (dig (U % (V * LB ^ (i + 1)) / LB ^ i)) := fl_congr fun t _ => (dig_div _ _ _).symm
    rw [this, val_fl_all hSl]
theorem last_pos {l : List Nat} (h : (l.getLast?).getD 1 ≠ 0) (hl : 0 < l.length) : 0 < l.getD (l.length - 1) 0 := by
  rw [List.getLast?_eq_getElem?, List.getElem?_eq_getElem (by omega)] at h
  rw [List.getD_eq_getElem?_getD, List.getElem?_eq_getElem (by omega)]
  simp at h ⊢; omega
theorem blen_le32 {n : Nat} (h : n < LB) : blen n ≤ 32 := by
  rcases Nat.lt_or_ge 32 (blen n) with hc | hc
  · exfalso
    have h0 : n ≠ 0 := by rintro rfl; simp [blen_zero] at hc
    have := blen_ge h0
    have h2 : 2 ^ 32 ≤ 2 ^ (blen n - 1) := Nat.pow_le_pow_right (by decide) (by omega)
    have : (2 : Nat) ^ 32 = LB := by decide
    omega
  · exact hc
/-- Doubled till the top bit is set: as many limbs. -/
theorem norm_len {l : List Nat} (hl : Lim l) (h0 : 0 < l.length) (ht : 0 < l.getD (l.length - 1) 0) : val l * 2 ^ (32 - blen (l.getD (l.length - 1) 0)) < LB ^ l.length ∧ LB ^ (l.length - 1) ≤ val l := by
  have hd := getD_lt hl (l.length - 1)
  have hb := blen_le32 hd
  have hs := val_split l (l.length - 1)
  have hdr : val (l.drop (l.length - 1)) = l.getD (l.length - 1) 0 := by
    rw [val_drop_succ, show l.length - 1 + 1 = l.length by omega, List.drop_length]; simp [val]
  rw [hdr] at hs
  have htk := val_take_lt hl (l.length - 1)
  generalize l.getD (l.length - 1) 0 = d at *
  have hlt := blen_lt d
  constructor
  · have h1 : val l < LB ^ (l.length - 1) * 2 ^ blen d := by
      have : LB ^ (l.length - 1) * (d + 1) ≤ LB ^ (l.length - 1) * 2 ^ blen d := Nat.mul_le_mul_left _ hlt
      rw [Nat.mul_add] at this
      omega
    have h2 : LB ^ (l.length - 1) * 2 ^ blen d * 2 ^ (32 - blen d) = LB ^ l.length := by
      rw [Nat.mul_assoc, ← Nat.pow_add, show blen d + (32 - blen d) = 32 by omega, show (2 : Nat) ^ 32 = LB by decide, ← Nat.pow_succ]
      congr 1; omega
    rw [← h2]
    exact Nat.mul_lt_mul_of_pos_right h1 (Nat.pow_pos (by decide))
  · have : LB ^ (l.length - 1) * 1 ≤ LB ^ (l.length - 1) * d := Nat.mul_le_mul_left _ ht
    omega
theorem natV_one (r : Nat) : AV.sl 1 [.int .u32 (r : Int)] = natV [r] := rfl
theorem limbs_one {r : Nat} : val [r] = r := by simp [val]
theorem natdiv_pure (a b : List Nat) (ha : Nt a) (hb : Nt b) (hal : a.length < 17592186044000) (hbl : b.length < 17592186044000) (hb0 : val b ≠ 0) : PureC Pr F_nat_Div [natV a, natV b] (.tup [natV (limbs (val a / val b)), natV (limbs (val a % val b)), .int .i64 0]) := by
  have hLB : LB = 4294967296 := rfl
  have hna := ha.limbs
  have hnb := hb.limbs
  have hlal : (limbs (val a)).length < 17592186044000 := Nat.lt_of_le_of_lt (limbs_val_len ha.lim) hal
  have hlbl : (limbs (val b)).length < 17592186044000 := Nat.lt_of_le_of_lt (limbs_val_len hb.lim) hbl
  have hva := val_limbs (val a)
  have hvb := val_limbs (val b)
  have hlasta := limbs_last (val a)
  have hlastb := limbs_last (val b)
  have hia := limbs_idem (val a)
  have hib := limbs_idem (val b)
  refine PureC.introL nat_Div_fn nat_Div_ok (Nat.le_of_ble_eq_true rfl) (cl_tup3 (natV_cl _) (natV_cl _) (.int _ _)) fun H hH => ?_
  refine Safe.rg rfl ?_
  simp only [nat_Div_r0, E3, seval]
  refine Safe.rg rfl ?_
  simp only [nat_Div_r1, E3, seval]
  first | refine (trim_pure a ha.lim ha.len).acall ?_ | refine (trim_pure a ha.lim ha.len).dcall ?_
  try simp only [E3, seval]
  first | refine (trim_pure b hb.lim hb.len).acall ?_ | refine (trim_pure b hb.lim hb.len).dcall ?_
  try simp only [E3, seval]
  generalize limbs (val a) = la at *
  generalize limbs (val b) = lb at *
  generalize val a = A at *
  generalize val b = B at *
  subst hva
  subst hvb
  have hb1 : 0 < lb.length := by
    rcases Nat.eq_zero_or_pos lb.length with h | h
    · exfalso; have := List.length_eq_zero_iff.1 h; subst this; exact hb0 rfl
    · exact h
  have hB : 0 < val lb := Nat.pos_of_ne_zero hb0
  refine Safe.rg rfl ?_
  simp only [nat_Div_r2, show (((lb.length : Nat) : Int) = 0) = False from eq_false (by omega), E3, seval]
  refine Safe.cd rfl ?_
  simp only [E3, seval]
  refine Safe.rg rfl ?_
  simp only [nat_Div_r4, E3, seval]
  refine (natcmp_pure la lb hna hnb).acall ?_
  by_cases hab : val la < val lb
  · have hcm : (cmpI (val la) (val lb) < 0) = True := by rw [cmpI_lt]; exact eq_true hab
    simp only [hcm, E3, seval]
    refine Safe.cd rfl ?_
    simp only [E3, seval]
    refine Safe.rg rfl ?_
    simp only [nat_Div_r5, E3, seval]
    first | refine (norm_pure la hna).acall ?_ | refine (norm_pure la hna).dcall ?_
    try simp only [E3, seval]
    refine Safe.rt rfl ?_
    simp only [E3, seval]
    rw [Nat.div_eq_of_lt hab, Nat.mod_eq_of_lt hab, limbs_zero]
    exact ⟨Le.tup3 (Le.nil 1 (by decide)) (Le.refl _) (Le.refl _), _, rfl⟩
  have hcm : (cmpI (val la) (val lb) < 0) = False := by rw [cmpI_lt]; exact eq_false hab
  simp only [hcm, E3, seval]
  refine Safe.cd rfl ?_
  simp only [E3, seval]
  have htb := last_pos hlastb hb1
  have hdl := getD_lt hnb.lim (lb.length - 1)
  by_cases hone : lb.length = 1
  · have h1 : (((lb.length : Nat) : Int) = 1) = True := eq_true (by omega)
    refine Safe.rg rfl ?_
    simp only [nat_Div_r6, h1, E3, seval]
    refine Safe.cd rfl ?_
    simp only [E3, seval]
    have hvb1 : val lb = lb.getD 0 0 := by
      have := val_drop_succ lb 0
      rw [List.drop_zero, List.drop_eq_nil_of_le (by omega)] at this
      simpa [val] using this
    have i0 := natV_idx (hap H []) lb .i64 0 hb1
    rw [Int.natCast_zero] at i0
    have hd0 : 0 < lb.getD 0 0 := by rw [← hvb1]; exact hB
    have hd1 : lb.getD 0 0 < LB := getD_lt hnb.lim 0
    refine Safe.rg rfl ?_
    simp only [nat_Div_r7, i0, E3, seval]
    first | refine (short_pure la (lb.getD 0 0) hna hd0 hd1).acall ?_ | refine (short_pure la (lb.getD 0 0) hna hd0 hd1).dcall ?_
    try simp only [E3, seval]
    have hrl : val la % lb.getD 0 0 < LB := Nat.lt_trans (Nat.mod_lt _ hd0) hd1
    refine Safe.rg rfl ?_
    simp only [nat_Div_r8, natV_one, E3, seval]
    first | refine (trim_pure [val la % lb.getD 0 0] (by intro d hd; simp at hd; subst hd; exact hrl) (by simp)).acall ?_ | refine (trim_pure [val la % lb.getD 0 0] (by intro d hd; simp at hd; subst hd; exact hrl) (by simp)).dcall ?_
    try simp only [E3, seval]
    refine Safe.rt rfl ?_
    simp only [E3, seval]
    rw [hvb1, limbs_one]
    exact ⟨Le.refl _, _, rfl⟩
  have h1 : (((lb.length : Nat) : Int) = 1) = False := eq_false (by omega)
  refine Safe.rg rfl ?_
  simp only [nat_Div_r6, h1, E3, seval]
  refine Safe.cd rfl ?_
  simp only [E3, seval]
  have w0 : IntKind.wrap .i64 (((lb.length : Nat) : Int) - 1) = ((lb.length - 1 : Nat) : Int) := by rw [wrap_i64] <;> omega
  refine Safe.rg rfl ?_
  simp only [nat_Div_r9, w0, natV_idx _ lb _ (lb.length - 1) (by omega), E3, seval]
  first | refine (clz_pure _ hdl).acall ?_ | refine (clz_pure _ hdl).dcall ?_
  try simp only [E3, seval]
  obtain ⟨hVl, hBl⟩ := norm_len hnb.lim hb1 htb
  have hn32 : 32 - blen (lb.getD (lb.length - 1) 0) < 32 := by
    have : 0 < blen (lb.getD (lb.length - 1) 0) := by unfold blen; rw [if_neg (by omega)]; omega
    omega
  generalize hn : 32 - blen (lb.getD (lb.length - 1) 0) = n at *
  have hp2 : 0 < 2 ^ n := Nat.pow_pos (by decide)
  -- the divisor
  refine Safe.rg rfl ?_
  simp only [nat_Div_r10, E3, seval]
  refine ACalls.mono (shl_calls lb n hnb (by omega) hb0 hn32 (hap H [])) ?_
  rintro r' H' ⟨rfl, rfl⟩
  simp only [hap_hap, lid_hap, List.nil_append, List.length_nil, hib, E3, seval]
  have hVp : 0 < val lb * 2 ^ n := Nat.mul_pos hB hp2
  have hnv1 : (limbs (val lb * 2 ^ n)).length ≤ lb.length := limbs_len_le hVl
  have hnv2 : lb.length ≤ (limbs (val lb * 2 ^ n)).length := by
    rcases Nat.lt_or_ge (limbs (val lb * 2 ^ n)).length lb.length with h | h
    · exfalso
      have h2 := val_lt (lim_limbs (val lb * 2 ^ n))
      rw [val_limbs] at h2
      have h3 : LB ^ (limbs (val lb * 2 ^ n)).length ≤ LB ^ (lb.length - 1) := Nat.pow_le_pow_right (by decide) (by omega)
      have h4 : val lb * 1 ≤ val lb * 2 ^ n := Nat.mul_le_mul_left _ hp2
      omega
    · exact h
  have hnv : (limbs (val lb * 2 ^ n)).length = lb.length := by omega
  refine Safe.freeze 0 hH rfl rfl (blk_u32 _) ?_
  refine Safe.keep [0, 1, 9, 10] ?_
  simp only [frz_part (H := H) (i := 0) _ (show (limbs (val lb * 2 ^ n)).length ≤ (fl (lb.length + 1) (dig (val lb * 2 ^ n))).length by rw [fl_len]; omega), fl_limbs (M := val lb * 2 ^ n) rfl (show (limbs (val lb * 2 ^ n)).length ≤ lb.length + 1 by omega), E3, seval]
  refine Safe.drop0 hH rfl (by simp only [List.all_cons, List.all_nil, E3, seval]) (by repeat (first | exact RC.nil | refine RC.none ?_ | refine RC.row ZI.cl ?_ | refine RC.cons (blk_u32 _) ?_ | refine RC.row vecV_cl ?_ | refine RC.emp ?_ | refine RC.zero ?_ | refine RC.one (Z_cl _) ?_ | refine RC.one (ZI.cl _) ?_ | refine RC.one (vecV_cl _) ?_)) ?_
  -- the dividend
  have hA0 : val la ≠ 0 := by omega
  have hla1 : 0 < la.length := by
    rcases Nat.eq_zero_or_pos la.length with h | h
    · exfalso; have := List.length_eq_zero_iff.1 h; subst this; exact hA0 rfl
    · exact h
  have hU1 : la.length ≤ (limbs (val la * 2 ^ n)).length := by
    rcases Nat.lt_or_ge (limbs (val la * 2 ^ n)).length la.length with h | h
    · exfalso
      have h2 := val_lt (lim_limbs (val la * 2 ^ n))
      rw [val_limbs] at h2
      have h3 : LB ^ (limbs (val la * 2 ^ n)).length ≤ LB ^ (la.length - 1) := Nat.pow_le_pow_right (by decide) (by omega)
      have h4 : val la * 1 ≤ val la * 2 ^ n := Nat.mul_le_mul_left _ hp2
      have h5 := (norm_len hna.lim hla1 (last_pos hlasta hla1)).2
      omega
    · exact h
  have hU2 : val la * 2 ^ n < LB ^ (la.length + 1) := by
    rw [Nat.pow_succ]
    have h2n : 2 ^ n ≤ LB := by
      have : LB = 2 ^ (32 - n) * 2 ^ n := by rw [← Nat.pow_add, show 32 - n + n = 32 by omega]
      rw [this]; exact Nat.le_mul_of_pos_left _ (Nat.pow_pos (by decide))
    exact Nat.lt_of_lt_of_le (Nat.mul_lt_mul_of_pos_right (val_lt hna.lim) hp2) (Nat.mul_le_mul_left _ h2n)
  have hU3 : (limbs (val la * 2 ^ n)).length ≤ la.length + 1 := limbs_len_le hU2
  refine Safe.rg rfl ?_
  simp only [nat_Div_r11, E3, seval]
  refine ACalls.mono (shl_calls la n hna (by omega) hA0 hn32 (hap H [])) ?_
  rintro r' H' ⟨rfl, rfl⟩
  generalize hK : (limbs (val la * 2 ^ n)).length = K at *
  have hrow : (fl (la.length + 1) (dig (val la * 2 ^ n))).take K ++ [0, 0] = fl (K + 2) (dig (val la * 2 ^ n)) := by
    have hh : val la * 2 ^ n < LB ^ K := by have := val_lt (lim_limbs (val la * 2 ^ n)); rwa [val_limbs, hK] at this
    have hh2 : val la * 2 ^ n < LB ^ (K + 1) := Nat.lt_of_lt_of_le hh (Nat.pow_le_pow_right (by decide) (by omega))
    rw [fl_take _ hU3, fl_succ, fl_succ, dig_high hh, dig_high hh2, List.append_assoc]; rfl
  have happ := fun (env : Env) => app_part (H := H) hH (n0 := H.length) (env := env) (L := []) (len := K) (c := la.length + 1) (X := fl (la.length + 1) (dig (val la * 2 ^ n))) (l := [0, 0]) (o := none) (lid_ge H 0) (by rw [fl_len]; exact hU3) (by simp; omega) (by rw [fl_len]; simp; omega)
  have w2 : IntKind.wrap .i64 ((la.length : Int) + 1) = ((la.length + 1 : Nat) : Int) := by rw [wrap_i64] <;> omega
  have hslc : slcV (hap H [some ⟨1, u32s (fl (K + 2) (dig (val la * 2 ^ n)))⟩]) 1 (.mu (lid H 0) 0 (K + 2) none) none (some (.int .i64 ((la.length + 1 : Nat) : Int))) none = some (.mu (lid H 0) 0 (la.length + 1) none) := by
    simp only [slcV, hrow_hap, List.getElem?_cons_zero, Option.join_some, Option.bind_some, boundV]
    rw [if_pos ⟨trivial, by omega, by omega, by omega⟩]
    simp
  simp only [u32s_cons, u32s_nil, Int.natCast_zero, List.length_cons, List.length_nil, hrow] at happ
  simp only [hap_hap, lid_hap, List.nil_append, List.length_nil, hia, E3, seval]
  simp only [happ, w2, hslc, E3, seval]
  have hle : lb.length ≤ la.length := by
    rcases Nat.lt_or_ge la.length lb.length with h | h
    · exfalso
      have h2 := val_lt hna.lim
      have h3 : LB ^ la.length ≤ LB ^ (lb.length - 1) := Nat.pow_le_pow_right (by decide) (by omega)
      omega
    · exact h
  have w3 : IntKind.wrap .i64 ((la.length : Int) - (lb.length : Int)) = ((la.length - lb.length : Nat) : Int) := by rw [wrap_i64] <;> omega
  generalize hm : la.length - lb.length = m at *
  have w4 : IntKind.wrap .i64 ((m : Int) + 1) = ((m + 1 : Nat) : Int) := by rw [wrap_i64] <;> omega
  refine Safe.rg rfl ?_
  simp only [nat_Div_r12, w3, w4, mksl_fl (H := H) (L := [some ⟨1, u32s (fl (K + 2) (dig (val la * 2 ^ n)))⟩]) (n := m + 1) (by omega), E3, seval]
  refine Safe.rg rfl ?_
  simp only [nat_Div_r13, w3, E3, seval]
  have hUV : val la * 2 ^ n < val lb * 2 ^ n * LB ^ (m + 1) := by
    rw [Nat.mul_right_comm]
    refine Nat.mul_lt_mul_of_pos_right ?_ hp2
    have h1 := val_lt hna.lim
    have h2 : LB ^ (lb.length - 1) * LB ^ (m + 1) ≤ val lb * LB ^ (m + 1) := Nat.mul_le_mul_right _ hBl
    rw [← Nat.pow_add, show lb.length - 1 + (m + 1) = la.length by omega] at h2
    omega
  generalize hU : val la * 2 ^ n = U at *
  generalize hV : val lb * 2 ^ n = V at *
  have hvt : 0 < (limbs V).getD (lb.length - 1) 0 := by
    have := last_pos (limbs_last V) (by omega)
    rwa [hnv] at this
  refine Safe.lp rfl ?_
  refine Safe.keep [0, 1, 9, 10, 11, 12, 13] ?_
  simp only [E3, seval]
  refine Safe.loopD (m + 1) (fun i => [(0, natV la), (1, natV lb), (9, .int .i64 n), (10, natV (limbs V)), (11, .mu (lid H 0) 0 (la.length + 1) none), (12, .mu (lid H 1) 0 (m + 1) (some (m + 1))), (13, .int .i64 ((i : Int) - 1))])
    (fun i => hap H [some ⟨1, u32s (fl (K + 2) (dig (U % (V * LB ^ i))))⟩, some ⟨1, u32s (fl (m + 1) fun j => if i ≤ j then dig (U / V) j else 0)⟩]) ?_ ?_ (fun i hi ih => ?_) ?_
  · have : (((m + 1 : Nat) : Int) - 1) = (m : Int) := by omega
    rw [this]
  · rw [digs_zero, Nat.mod_eq_of_lt hUV]
  · have e1 : ((i + 1 : Nat) : Int) - 1 = (i : Int) := by omega
    rw [e1]
    obtain ⟨s1, s2, s3, s4⟩ := rest_step (U := U) (V := V) (i := i) (nv := lb.length) hVl hVp
    refine Safe.inLoop ?_
    refine Safe.rg rfl ?_
    simp only [nat_Div_r14, Int.natCast_nonneg i, E3, seval]
    refine Safe.cd rfl ?_
    simp only [E3, seval]
    have w5 : IntKind.wrap .i64 ((i : Int) + (lb.length : Int)) = ((i + lb.length : Nat) : Int) := by rw [wrap_i64] <;> omega
    have w6 : IntKind.wrap .i64 (((i + lb.length : Nat) : Int) + 1) = ((i + lb.length + 1 : Nat) : Int) := by rw [wrap_i64] <;> omega
    refine Safe.rg rfl ?_
    simp only [nat_Div_r15, hnv, w5, w6, slc_lohi (H := H) (i := 0) (L := [some ⟨1, u32s (fl (K + 2) (dig (U % (V * LB ^ (i + 1)))))⟩, some ⟨1, u32s (fl (m + 1) fun j => if i + 1 ≤ j then dig (U / V) j else 0)⟩]) rfl rfl none .i64 .i64 (show i + lb.length + 1 = i + (lb.length + 1) by omega) (show i + lb.length + 1 ≤ la.length + 1 by omega), E3, seval]
    have hcall := digit_calls (H := hap H [some ⟨1, u32s (fl (K + 2) (dig (U % (V * LB ^ (i + 1)))))⟩, some ⟨1, u32s (fl (m + 1) fun j => if i + 1 ≤ j then dig (U / V) j else 0)⟩]) (id := lid H 0) (off := i) (N := K + 2) (n := lb.length) (oc := none) (v := limbs V) (f := dig (U % (V * LB ^ (i + 1))))
      (hap_get rfl) (lim_limbs V) hnv hb1 hvt (by omega) (by omega) (fun j _ => dig_lt _ _) s3 (by rw [val_limbs]; exact s4)
    refine ACalls.mono hcall ?_
    rintro r' H' ⟨rfl, rfl⟩
    rw [val_limbs, s2, fl_congr fun j _ => s1 j]
    simp only [set_hap, List.set_cons_zero, fidx1 (show i < m + 1 by omega), fst1 (show i < m + 1 by omega), digs_step, E3, seval]
    refine Safe.inBlock ?_
    refine Safe.rg rfl ?_
    simp only [nat_Div_r16, wrap_i64 (n := (i : Int) - 1) (by omega) (by omega), E3, seval]
    refine Safe.keep [0, 1, 9, 10, 11, 12, 13] ?_
    simp only [E3, seval]
    exact ih
  · refine Safe.inLoop ?_
    refine Safe.rg rfl ?_
    simp only [nat_Div_r14, show (0 ≤ ((0 : Nat) : Int) - 1) = False by simp, E3, seval]
    refine Safe.cd rfl ?_
    simp only [E3, seval]
    have hR0 : U % (V * LB ^ 0) = U % V := by rw [Nat.pow_zero, Nat.mul_one]
    rw [hR0]
    refine Safe.freeze 0 hH rfl rfl (blk_u32 _) ?_
    refine Safe.keep [9, 11, 12] ?_
    simp only [frz_part (H := H) (i := 0) none (show la.length + 1 ≤ (fl (K + 2) (dig (U % V))).length by rw [fl_len]; omega), frz_mu_other, E3, seval]
    refine Safe.freeze 1 hH rfl rfl (blk_u32 _) ?_
    refine Safe.keep [9, 11, 12] ?_
    simp only [frz_fl, E3, seval]
    rw [digs_all, fl_take _ (show la.length + 1 ≤ K + 2 by omega)]
    have hUm : U % V < LB ^ (la.length + 1) := Nat.lt_of_le_of_lt (Nat.mod_le _ _) hU2
    have hUd : U / V < LB ^ (m + 1) := by rw [Nat.div_lt_iff_lt_mul hVp, Nat.mul_comm]; exact hUV
    refine Safe.rg rfl ?_
    simp only [nat_Div_r17, E3, seval]
    first | refine (trim_pure _ (lim_dig (U / V) (m + 1)) (by rw [fl_len]; omega)).acall ?_ | refine (trim_pure _ (lim_dig (U / V) (m + 1)) (by rw [fl_len]; omega)).dcall ?_
    try simp only [E3, seval]
    first | refine (trim_pure _ (lim_dig (U % V) (la.length + 1)) (by rw [fl_len]; omega)).acall ?_ | refine (trim_pure _ (lim_dig (U % V) (la.length + 1)) (by rw [fl_len]; omega)).dcall ?_
    try simp only [E3, seval]
    rw [val_fl_all hUm, val_fl_all hUd]
    first | refine (shr_pure (limbs (U % V)) n ⟨lim_limbs _, Nat.le_trans (limbs_len_le hUm) (by omega)⟩ hn32).acall ?_ | refine (shr_pure (limbs (U % V)) n ⟨lim_limbs _, Nat.le_trans (limbs_len_le hUm) (by omega)⟩ hn32).dcall ?_
    try simp only [E3, seval]
    refine Safe.rt rfl ?_
    simp only [E3, seval]
    rw [val_limbs, ← hU, ← hV, Nat.mul_mod_mul_right, Nat.mul_div_cancel _ hp2, Nat.mul_div_mul_right _ _ hp2]
    exact ⟨Le.refl _, _, rfl⟩
end Go.Abs
set_option linter.unusedVariables false
set_option linter.unusedSimpArgs false
namespace Go.Abs
theorem sgn_quo {n m : Bool} {A B : Nat} {q : Int} (hB : B ≠ 0) (h : sgn n A = sgn m B * q) : A % B = 0 ∧ sgn (!(n == m)) (A / B) = q := by
  have hA : A = B * q.natAbs := by
    have := congrArg Int.natAbs h
    rwa [sgn_abs, Int.natAbs_mul, sgn_abs] at this
  refine ⟨by rw [hA]; exact Nat.mul_mod_right _ _, ?_⟩
  have hne : sgn m B ≠ 0 := by cases m <;> simp [sgn] <;> omega
  refine Int.eq_of_mul_eq_mul_left hne ?_
  rw [← h, sgn_mul]
  have hC : B * (A / B) = A := by rw [hA, Nat.mul_div_cancel_left _ (Nat.pos_of_ne_zero hB)]
  rw [hC]
  cases n <;> cases m <;> rfl
theorem zfloor_exact (x y : ZI) (k : Nat) (hx : Zok k x) (hy : Zok k y) (hk : k < 17592186044000) (q : Int) (hy0 : y.z ≠ 0) (hq : x.z = y.z * q) : PureC Pr F_zint_Floor [x.av, y.av] (.tup [Z q, Z 0, .int .i64 0]) := by
  obtain ⟨n, a⟩ := x
  obtain ⟨m, b⟩ := y
  have hal := hx.len
  have hbl := hy.len
  simp only at hal hbl
  have ha : Nt a := ⟨hx.lim, by omega⟩
  have hb : Nt b := ⟨hy.lim, by omega⟩
  simp only [ZI.av, ZI.z] at *
  have hb0 : val b ≠ 0 := by
    intro h; rw [h, sgn_zero] at hy0; exact hy0 rfl
  obtain ⟨hr, hqq⟩ := sgn_quo hb0 hq
  have hnt : ∀ v, v ≤ val a → Nt (limbs v) := fun v hv => ⟨lim_limbs _, Nat.le_trans (limbs_len_le (Nat.lt_of_le_of_lt hv (val_lt ha.lim))) ha.len⟩
  refine PureC.intro zint_Floor_fn zint_Floor_ok (Nat.le_of_ble_eq_true rfl) (cl_tup3 (Z_cl _) (Z_cl _) (.int _ _)) fun H hH => ?_
  refine Safe.rg rfl ?_
  simp only [zint_Floor_r0, E3, seval]
  refine Safe.rg rfl ?_
  simp only [zint_Floor_r1, E3, seval]
  first | refine (natdiv_pure a b ha hb (by omega) (by omega) hb0).acall ?_ | refine (natdiv_pure a b ha hb (by omega) (by omega) hb0).dcall ?_
  try simp only [E3, seval]
  refine Safe.rg rfl ?_
  simp only [zint_Floor_r2, E3, seval]
  refine Safe.cd rfl ?_
  simp only [E3, seval]
  refine Safe.rx rfl (by simp only [sdOk_cons, sdOk_nil, locNe_loc, E3, seval]) ?_
  simp only [zint_Floor_r4, zint_Floor_r4a, zint_Floor_r4b, E3, seval]
  refine (made_pure (!(n == m)) _ (hnt _ (Nat.div_le_self _ _))).dcall ?_
  rw [val_limbs, hqq]
  simp only [E3, seval]
  refine (made_pure n _ (hnt _ (Nat.mod_le _ _))).dcall ?_
  rw [val_limbs, hr, sgn_zero]
  simp only [E3, seval]
  refine ⟨?_, ?_⟩
  all_goals
    refine Safe.rg rfl ?_
    simp only [zint_Floor_r5, E3, seval]
    refine (zsign_pure (canZ 0) (zok_can (k := 1) (by decide) |>.mono (by omega))).dcall ?_
    rw [canZ_z]
    simp only [Int.sign_zero, E3, seval]
    refine Safe.cd rfl ?_
    simp only [E3, seval]
    refine Safe.rx rfl (by simp only [sdOk_cons, sdOk_nil, locNe_loc, E3, seval]) ?_
    simp only [zint_Floor_r7, zint_Floor_r7a, zint_Floor_r7b, E3, seval]
    refine Safe.rt rfl ?_
    simp only [E3, seval]
    exact ⟨rfl, _, rfl⟩
end Go.Abs
set_option linter.unusedVariables false
set_option linter.unusedSimpArgs false
namespace Go.Abs
theorem lb_one (k : Nat) : (1 : Int).natAbs < LB ^ (k + 1) := Nat.one_lt_pow (Nat.succ_ne_zero k) (by decide)
end Go.Abs
set_option linter.unusedVariables false
set_option linter.unusedSimpArgs false
namespace Go.Abs
structure Rok (k : Nat) (q : Rat) : Prop where
  num : q.num.natAbs < LB ^ k
  den : q.den < LB ^ k
theorem Rok.mono {k l : Nat} {q : Rat} (h : Rok k q) (hl : k ≤ l) : Rok l q := ⟨Nat.lt_of_lt_of_le h.num (lb_mono hl), Nat.lt_of_lt_of_le h.den (lb_mono hl)⟩
end Go.Abs
set_option linter.unusedVariables false
set_option linter.unusedSimpArgs false
namespace Go.Abs
theorem nref_ne {id j off len : Nat} {oc : Option Nat} (h : j ≠ id) : nref id (.mu j off len oc) = true := nref_iff.2 (.mu _ _ _ _ h)
end Go.Abs
set_option linter.unusedVariables false
set_option linter.unusedSimpArgs false
namespace Go.Abs
def intV (x : Nat) : AV := .int .i64 (x : Int)
theorem intV_cl (x : Nat) : Cl (intV x) := .int _ _
/-- Places, as a value. -/
def hsV (cs : List Nat) : AV := .sl 1 (cs.map intV)
theorem app_rowM {G : Heap} {β n w c : Nat} {oc : Option Nat} {π : Nat → Nat} {S : Nat → Nat → AV} {α : Type} (hH : HRefs (hM G β n w c oc π S)) {L : Heap} (i : Nat) {n0 : Nat} (hn : n0 ≤ lid G i) {env : Env} {wd bytes : Nat} {f : α → AV} (hf : ∀ x, Cl (f x)) (l : List α) (x : α) {y : AV} {len : Nat}
    (hlen : len = l.length) (hl : L[i]? = some (some ⟨wd, l.map f⟩)) (hL : RC L) (hy : y = f x) (hb : (len + 1) * bytes ≤ 140737488355328) (hbb : len + 1 ≤ 9223372036854775807) :
    appV n0 wd bytes false (.mu (lid G i) 0 len none) (.sl wd [y]) env (hap (hM G β n w c oc π S) L) = some (.mu (lid G i) 0 (len + 1) none, scrub (lid G i) env, hap (hM G β n w c oc π S) (L.set i (some ⟨wd, (l ++ [x]).map f⟩))) := by
  have := app_row (H := hM G β n w c oc π S) hH i (by rw [lid_hM]; exact hn) (env := env) (bytes := bytes) hf l x (l ++ [x]) hlen hl hL hy rfl hb hbb
  rwa [lid_hM] at this
theorem swp_at (π : Nat → Nat) (p r : Nat) : (fun t => if t = r then π p else (fun t => if t = p then π r else π t) t) = swp π p r := by
  funext t; unfold swp
  by_cases h1 : t = r
  · by_cases h2 : t = p
    · rw [if_pos h1, if_pos h2]; rw [← h1, ← h2]
    · rw [if_pos h1, if_neg h2, if_pos h1]
  · rw [if_neg h1]
    show (if t = p then π r else π t) = _
    by_cases h2 : t = p
    · rw [if_pos h2, if_pos h2]
    · rw [if_neg h2, if_neg h2, if_neg h1]
/-- A matrix's logical entries. -/
structure Lk (n c : Nat) (π : Nat → Nat) (S : Nat → Nat → AV) (F : Nat → Nat → AV) : Prop where
  lt : ∀ a, a < n → π a < n
  inj : ∀ a b, a < n → b < n → π a = π b → a = b
  at_ : ∀ a b, a < n → b < c → S (π a) b = F a b
  cl : ∀ a b, Cl (S a b)
theorem Lk.swap {n c : Nat} {π : Nat → Nat} {S : Nat → Nat → AV} {α : Type} {M : Nat → Nat → α} {f : α → AV} (h : Lk n c π S fun a b => f (M a b)) {p r : Nat} (hp : p < n) (hr : r < n) : Lk n c (swp π p r) S fun a b => f (if a = p then M r b else if a = r then M p b else M a b) := by
  refine ⟨fun a ha => ?_, fun a b ha hb he => ?_, fun a b ha hb => ?_, h.cl⟩
  · unfold swp; split
    · exact h.lt r hr
    · split
      · exact h.lt p hp
      · exact h.lt a ha
  · unfold swp at he
    split at he
    · split at he
      · omega
      · split at he
        · have := h.inj _ _ hr hp he; omega
        · have := h.inj _ _ hr hb he; omega
    · split at he
      · split at he
        · have := h.inj _ _ hp hr he; omega
        · split at he
          · omega
          · have := h.inj _ _ hp hb he; omega
      · split at he
        · have := h.inj _ _ ha hr he; omega
        · split at he
          · have := h.inj _ _ ha hp he; omega
          · exact h.inj _ _ ha hb he
  · unfold swp
    split
    · exact h.at_ r b hr hb
    · split
      · exact h.at_ p b hp hb
      · exact h.at_ a b ha hb
end Go.Abs
set_option linter.unusedVariables false
set_option linter.unusedSimpArgs false
namespace Go.Abs
section
variable {G L : Heap} {id w : Nat} {X : List AV}
theorem lst (h : G[id]? = some (some ⟨w, X⟩)) {j : Nat} (hj : j < X.length) {v : AV} (hf : v.fit = true) (hn : v.cells.length = w) (env : Env) : storeV w (.loc id j 0) v env (hap G L) = some (.top, env, hap (G.set id (some ⟨w, X.set j v⟩)) L) := by
  have hid := lt_of_live h
  have hr : hrow (hap G L) id = some ⟨w, X⟩ := by rw [hrow_old _ _ _ hid]; simp [hrow, h]
  simp only [storeV, hr, Option.bind_some]
  rw [if_pos ⟨hj, hf, hn, by omega⟩, upd_whole, set_app _ _ _ _ hid]
theorem lcpy (h : G[id]? = some (some ⟨w, X⟩)) {len : Nat} (hlen : X.length = len) {oc : Option Nat} {y : AV} {ys : List AV} (hy : srcEls (hap G L) w false y = some ys) (hyl : ys.length = len) (env : Env) :
    cpyV w (.mu id 0 len oc) y env (hap G L) = some (.int .i64 len, env, hap (G.set id (some ⟨w, ys⟩)) L) := by
  have hid := lt_of_live h
  have hr : hrow (hap G L) id = some ⟨w, X⟩ := by rw [hrow_old _ _ _ hid]; simp [hrow, h]
  simp only [cpyV, hy, hr, Option.bind_some]
  rw [if_pos ⟨trivial, by omega⟩, set_app _ _ _ _ hid]
  simp [hyl, hlen]
  rw [List.take_of_length_le (by omega), List.drop_eq_nil_of_le (by omega), List.append_nil]
end
/-- The copy as it grows. -/
def mpart (β n i w c : Nat) (oc : Option Nat) (S : Nat → Nat → AV) : Heap := some ⟨1, fr n fun a => if a < i then .mu (β + 1 + a) 0 c oc else .nil⟩ :: (List.range i).map fun j => some ⟨w, fr c (S j)⟩
theorem mpart_len (β n i w c : Nat) (oc : Option Nat) (S : Nat → Nat → AV) : (mpart β n i w c oc S).length = i + 1 := by simp [mpart]
theorem mpart_full (β n w c : Nat) (oc : Option Nat) (S : Nat → Nat → AV) : mpart β n n w c oc S = mrows β n w c oc S := by
  unfold mpart mrows orow
  rw [fr_congr fun a ha => by rw [if_pos ha]]
theorem mpart_succ (H : Heap) {n i : Nat} (w c : Nat) (oc : Option Nat) (S : Nat → Nat → AV) :
    hap ((hap H (mpart (lid H 0) n i w c oc S)).set (lid H 0) (some ⟨1, (fr n fun a => if a < i then .mu (lid H 0 + 1 + a) 0 c oc else .nil).set i (.mu (lid H 0 + 1 + i) 0 c oc)⟩)) [some ⟨w, fr c (S i)⟩] = hap H (mpart (lid H 0) n (i + 1) w c oc S) := by
  have e2 : (fr n fun a => if a < i then AV.mu (lid H 0 + 1 + a) 0 c oc else .nil).set i (.mu (lid H 0 + 1 + i) 0 c oc) = fr n fun a => if a < i + 1 then .mu (lid H 0 + 1 + a) 0 c oc else .nil := by
    rw [fr_set]
    refine fr_congr fun a _ => ?_
    by_cases h : a = i
    · subst h; rw [if_pos rfl, if_pos (by omega)]
    · rw [if_neg h]
      by_cases h2 : a < i
      · rw [if_pos h2, if_pos (by omega)]
      · rw [if_neg h2, if_neg (by omega)]
  rw [e2]
  simp only [hap, lid, Nat.add_zero]
  rw [List.set_append_right _ _ (Nat.le_refl _), Nat.sub_self]
  simp only [mpart, List.set_cons_zero, List.append_assoc, List.cons_append]
  congr 2
  rw [List.range_succ, List.map_append]; rfl
def zav (b : List (List ZI)) (j k : Nat) : AV := ((mg b j).getD k ⟨false, []⟩).av
theorem zav_row (b : List (List ZI)) {i c : Nat} (hi : i < b.length) (hc : b[i].length = c) : b[i].map ZI.av = fr c (zav b i) := by
  apply List.ext_getElem?
  intro k
  simp only [fr, zav, mg_lt hi, List.getElem?_map]
  rcases Nat.lt_or_ge k c with h | h
  · rw [List.getElem?_range h, List.getElem?_eq_getElem (by omega)]
    simp only [Option.map_some, zav, mg_lt hi]
    simp [List.getD_eq_getElem?_getD, List.getElem?_eq_getElem (show k < b[i].length by omega)]
  · rw [List.getElem?_eq_none (by omega), List.getElem?_eq_none (by simp; omega)]; rfl
theorem copied_calls (b : List (List ZI)) {c : Nat} (hc : ∀ i, (h : i < b.length) → b[i].length = c) (hnb : b.length ≤ 2097152) (hcb : c ≤ 2097152) (H : Heap) :
    ACalls Pr F_elim_copied [matV b] H fun r' H' => r' = .mu (lid H 0) 0 b.length (some b.length) ∧ H' = hap H (mrows (lid H 0) b.length 2 c (some c) (zav b)) := by
  refine ACalls.introH elim_copied_fn elim_copied_ok (Nat.le_of_ble_eq_true rfl) fun hH => ?_
  refine Safe.rg rfl ?_
  simp only [elim_copied_r0, E3, seval]
  refine Safe.rg rfl ?_
  simp only [elim_copied_r1, E3, seval]
  have hmk : ∀ env : Env, mkslV 1 24 .nil (.int .i64 b.length) (.int .i64 b.length) env (hap H []) = some (.mu (lid H 0) 0 b.length (some b.length), env, hap H (mpart (lid H 0) b.length 0 2 c (some c) (zav b))) := by
    intro env
    simp only [mkslV]
    rw [if_pos ⟨by decide, by omega, by omega, by omega, by omega⟩]
    simp only [Int.toNat_natCast, len_hap, List.length_nil, app_hap, List.nil_append]
    have : List.replicate b.length AV.nil = fr b.length fun a => if a < 0 then .mu (lid H 0 + 1 + a) 0 c (some c) else .nil := by
      apply List.ext_getElem?
      intro j
      simp only [fr, List.getElem?_map, List.getElem?_replicate]
      rcases Nat.lt_or_ge j b.length with h | h
      · rw [List.getElem?_range h]; simp [h]
      · rw [List.getElem?_eq_none (by simpa using h), if_neg (by omega)]; rfl
    rw [this]; rfl
  simp only [hmk, E3, seval]
  refine Safe.rg rfl ?_
  simp only [elim_copied_r2, E3, seval]
  refine Safe.lp rfl ?_
  refine Safe.keep [0, 3, 9, 10, 11] ?_
  try simp only [E3, seval]
  refine Safe.loopN (b.length) (fun i => [(0, matV b), (3, .mu (lid H 0) 0 b.length (some b.length)), (9, matV b), (10, .int .i64 b.length), (11, .int .i64 i)]) (fun i => hap H (mpart (lid H 0) b.length i 2 c (some c) (zav b))) rfl rfl (fun i hi ih => ?_) ?_
  · have hlt : ((i : Int) < (b.length : Int)) = True := eq_true (by omega)
    have hbc := hc i hi
    have hiw : IntKind.wrap .i64 ((i : Int) + 1) = ((i + 1 : Nat) : Int) := by rw [wrap_i64] <;> omega
    refine Safe.inLoop ?_
    refine Safe.rg rfl ?_
    simp only [elim_copied_r3, hlt, E3, seval]
    refine Safe.cd rfl ?_
    simp only [E3, seval]
    refine Safe.rg rfl ?_
    simp only [elim_copied_r4, mat_idx _ b _ i hi, E3, seval]
    have hG0 : (hap H (mpart (lid H 0) b.length i 2 c (some c) (zav b)))[lid H 0]? = some (some ⟨1, fr b.length fun a => if a < i then .mu (lid H 0 + 1 + a) 0 c (some c) else .nil⟩) := by
      simp only [hap, lid]; rw [List.getElem?_append_right (by omega)]; simp [mpart, lid]
    have hGl : (hap H (mpart (lid H 0) b.length i 2 c (some c) (zav b))).length = lid H 0 + 1 + i := by simp [hap, lid, mpart_len]; omega
    have hsucc := mpart_succ H (n := b.length) (i := i) 2 c (some c) (zav b)
    rw [← hap_nil (hap H (mpart (lid H 0) b.length i 2 c (some c) (zav b)))]
    generalize hap H (mpart (lid H 0) b.length i 2 c (some c) (zav b)) = G at *
    have hlG : lid G 0 = lid H 0 + 1 + i := hGl
    have hmk2 : ∀ env : Env, mkslV 2 32 (.agg [.bool false, .nil]) (.int .i64 c) (.int .i64 c) env (hap G []) = some (.mu (lid G 0) 0 c (some c), env, hap G [some ⟨2, List.replicate c (.agg [.bool false, .nil])⟩]) := by
      intro env
      simp only [mkslV]
      rw [if_pos ⟨by decide, by omega, by omega, by omega, by omega⟩]
      simp only [Int.toNat_natCast, len_hap, List.length_nil, app_hap, List.nil_append]
    have e1 : lid H 0 + 1 + i = lid G 0 := hlG.symm
    rw [e1] at hsucc
    have hXl : (fr b.length fun a => if a < i then AV.mu (lid H 0 + 1 + a) 0 c (some c) else .nil).length = b.length := fr_len _ _
    generalize (fr b.length fun a => if a < i then AV.mu (lid H 0 + 1 + a) 0 c (some c) else .nil) = X at *
    refine Safe.rg rfl ?_
    simp only [elim_copied_r5, hbc, hmk2, lidx hG0 rfl (some b.length) .i64 hi, E3, seval]
    rw [lst hG0 (by omega) rfl rfl]
    simp only [E3, seval]
    rw [← hap_nil (hap (G.set _ _) _)]
    have h2a : (hap (G.set (lid H 0) (some ⟨1, X.set i (.mu (lid G 0) 0 c (some c))⟩)) [some ⟨2, List.replicate c (.agg [.bool false, .nil])⟩])[lid H 0]? = some (some ⟨1, X.set i (.mu (lid G 0) 0 c (some c))⟩) := by
      simp only [hap]
      rw [List.getElem?_append_left (by rw [List.length_set]; omega), List.getElem?_set]
      simp; omega
    have h2b : (hap (G.set (lid H 0) (some ⟨1, X.set i (.mu (lid G 0) 0 c (some c))⟩)) [some ⟨2, List.replicate c (.agg [.bool false, .nil])⟩])[lid G 0]? = some (some ⟨2, List.replicate c (.agg [.bool false, .nil])⟩) := by
      simp only [hap, lid, Nat.add_zero]
      rw [List.getElem?_append_right (by simp)]; simp
    have h2c : (hap (G.set (lid H 0) (some ⟨1, X.set i (.mu (lid G 0) 0 c (some c))⟩)) [some ⟨2, List.replicate c (.agg [.bool false, .nil])⟩]).set (lid G 0) (some ⟨2, b[i].map ZI.av⟩) = hap H (mpart (lid H 0) b.length (i + 1) 2 c (some c) (zav b)) := by
      rw [← hsucc, zav_row b hi hbc]
      simp only [hap, lid, Nat.add_zero]
      rw [List.set_append_right _ _ (by simp)]
      simp
    generalize hap (G.set (lid H 0) (some ⟨1, X.set i (.mu (lid G 0) 0 c (some c))⟩)) [some ⟨2, List.replicate c (.agg [.bool false, .nil])⟩] = G2 at *
    have hxi : (X.set i (AV.mu (lid G 0) 0 c (some c))).getD i .top = .mu (lid G 0) 0 c (some c) := by
      simp [List.getD_eq_getElem?_getD, hXl, hi]
    refine Safe.rg rfl ?_
    simp only [elim_copied_r6, lidx h2a rfl (some b.length) .i64 hi, lat h2a (show i < (X.set i (AV.mu (lid G 0) 0 c (some c))).length by rw [List.length_set]; omega), hxi, E3, seval]
    rw [lcpy h2b (by simp) (show srcEls (hap G2 []) 2 false (vecV b[i]) = some (b[i].map ZI.av) by simp [srcEls, vecV]) (by simpa using hbc), h2c, hap_nil]
    simp only [E3, seval]
    refine Safe.rg rfl ?_
    simp only [elim_copied_r7, hiw, E3, seval]
    refine Safe.keep [0, 3, 9, 10, 11] ?_
    simp only [E3, seval]
    exact ih
  · refine Safe.inLoop ?_
    refine Safe.rg rfl ?_
    simp only [elim_copied_r3, Int.lt_irrefl, E3, seval]
    refine Safe.cd rfl ?_
    simp only [E3, seval]
    refine Safe.rg rfl ?_
    simp only [elim_copied_r8, E3, seval]
    refine Safe.rt rfl ?_
    simp only [E3, seval]
    rw [mpart_full]
end Go.Abs

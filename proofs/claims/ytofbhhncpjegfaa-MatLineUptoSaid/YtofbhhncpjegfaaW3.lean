/- The walks: zint, trammelref02. -/
import Derived.Test.YtofbhhncpjegfaaW2
set_option linter.unusedVariables false
set_option linter.unusedSimpArgs false
namespace Go.Abs

theorem refmade_pure (neg : Bool) (l : List Nat) (hl : Nt l) : PureC Pr F_ref02_made [.bool neg, natV l] (Z (sgn neg (val l))) := by
  refine PureC.intro ref02_made_fn ref02_made_ok (by simp only [List.length_cons, List.length_nil]; omega) (Z_cl _) fun H hH => ?_
  refine Safe.seq (Safe.region ?_)
  simp only [ref02_made_r0, E2, Nat.reduceLeDiff, Nat.reduceSub, Nat.reduceAdd, Nat.reduceEqDiff, reduceCtorEq, ↓reduceIte]
  refine Safe.seq (Safe.region ?_)
  simp only [ref02_made_r1, E2, Nat.reduceLeDiff, Nat.reduceSub, Nat.reduceAdd, Nat.reduceEqDiff, reduceCtorEq, ↓reduceIte]
  refine (refnorm_pure l hl).acall ?_
  try simp only [E2, Nat.reduceLeDiff, Nat.reduceSub, Nat.reduceAdd, Nat.reduceEqDiff, reduceCtorEq, ↓reduceIte]
  refine Safe.seq (Safe.region ?_)
  have e0 : decide ((0 : Int) < ((limbs (val l)).length : Int)) = decide (0 < val l) := by
    rcases Nat.eq_zero_or_pos (val l) with h | h
    · rw [h, limbs_zero]; rfl
    · rw [limbs_pos (by omega)]; simp [h] <;> omega
  cases neg
  · simp only [ref02_made_r2, E2, Nat.reduceLeDiff, Nat.reduceSub, Nat.reduceAdd, Nat.reduceEqDiff, reduceCtorEq, ↓reduceIte]
    refine Safe.retn ?_
    simp only [E2, Nat.reduceLeDiff, Nat.reduceSub, Nat.reduceAdd, Nat.reduceEqDiff, reduceCtorEq, ↓reduceIte]
    rw [← Z_sgn]
    simp only [Bool.false_and]
    first | exact ⟨rfl, _, rfl⟩ | exact ⟨_, rfl⟩ | exact ⟨trivial, _, rfl⟩
  · simp only [ref02_made_r2, E2, Nat.reduceLeDiff, Nat.reduceSub, Nat.reduceAdd, Nat.reduceEqDiff, reduceCtorEq, ↓reduceIte, e0, pickV_and]
    refine Safe.retn ?_
    simp only [E2, Nat.reduceLeDiff, Nat.reduceSub, Nat.reduceAdd, Nat.reduceEqDiff, reduceCtorEq, ↓reduceIte]
    rw [← Z_sgn]
    simp only [Bool.true_and]
    first | exact ⟨rfl, _, rfl⟩ | exact ⟨_, rfl⟩ | exact ⟨trivial, _, rfl⟩

theorem made_pure (neg : Bool) (l : List Nat) (hl : Nt l) : PureC Pr F_zint_made [.bool neg, natV l] (Z (sgn neg (val l))) := by
  refine PureC.introL zint_made_fn zint_made_ok (by simp only [List.length_cons, List.length_nil]; omega) (Z_cl _) fun H hH => ?_
  have hll := hl.len
  refine Safe.seq (Safe.region ?_)
  simp only [zint_made_r0, E2, Nat.reduceLeDiff, Nat.reduceSub, Nat.reduceAdd, Nat.reduceEqDiff, reduceCtorEq, ↓reduceIte]
  refine Safe.seq (Safe.region ?_)
  simp only [zint_made_r1, E2, Nat.reduceLeDiff, Nat.reduceSub, Nat.reduceAdd, Nat.reduceEqDiff, reduceCtorEq, ↓reduceIte]
  refine Safe.seq (Safe.block (Safe.loop ?_))
  have copy : ∀ (n : Nat), n ≤ l.length → limbs (val l) = l.take n → ∀ env : Env, look env 0 = .bool neg → look env 1 = natV l → look env 4 = .loc (lid H 0) 0 0 → look env 5 = .int .i64 n →
      Safe ⟨Pr, fun _ _ => false, F_zint_made, 32, [.cell 4 (some 2)], H.length⟩ [.code (((ACode.region zint_made_r4 false).seq (.cond (.t 22) ((ACode.region zint_made_r5 false).seq .ret) .skip)).seq ((ACode.region zint_made_r6 false).seq ((ACode.region zint_made_r7 false).seq ((ACode.region zint_made_r8 false).seq .ret))))]
        env (hap H [some ⟨2, [.agg [.bool false, .nil]]⟩]) fun r' H' => Le r' (Z (sgn neg (val l))) ∧ ∃ L, H' = hap H L := by
    intro n hn hlim env e0 e1 e4 e5
    refine Safe.seq (Safe.seq (Safe.region ?_))
    simp only [zint_made_r4, E2, Nat.reduceLeDiff, Nat.reduceSub, Nat.reduceAdd, Nat.reduceEqDiff, reduceCtorEq, ↓reduceIte, e5]
    refine Safe.cond ?_
    simp only [E2, Nat.reduceLeDiff, Nat.reduceSub, Nat.reduceAdd, Nat.reduceEqDiff, reduceCtorEq, ↓reduceIte]
    by_cases h0 : n = 0
    · subst h0
      simp only [Int.natCast_zero, E2, Nat.reduceLeDiff, Nat.reduceSub, Nat.reduceAdd, Nat.reduceEqDiff, reduceCtorEq, ↓reduceIte]
      refine Safe.seq (Safe.region ?_)
      simp only [zint_made_r5, E2, Nat.reduceLeDiff, Nat.reduceSub, Nat.reduceAdd, Nat.reduceEqDiff, reduceCtorEq, ↓reduceIte, e4]
      refine Safe.retn ?_
      simp only [E2, Nat.reduceLeDiff, Nat.reduceSub, Nat.reduceAdd, Nat.reduceEqDiff, reduceCtorEq, ↓reduceIte, e4]
      refine ⟨?_, _, rfl⟩
      have : val l = 0 := by
        have := val_limbs (val l)
        rw [hlim] at this
        simpa [val] using this.symm
      rw [this, sgn_zero]
      exact le_zero
    · have h0' : ¬ ((n : Int) = 0) := by omega
      simp only [h0', E2, Nat.reduceLeDiff, Nat.reduceSub, Nat.reduceAdd, Nat.reduceEqDiff, reduceCtorEq, ↓reduceIte]
      refine Safe.skip (Safe.seq (Safe.region ?_))
      simp only [zint_made_r6, E2, Nat.reduceLeDiff, Nat.reduceSub, Nat.reduceAdd, Nat.reduceEqDiff, reduceCtorEq, ↓reduceIte, e5, mksl_nat _ H [some ⟨2, [.agg [.bool false, .nil]]⟩] _ _ n (by omega)]
      refine Safe.seq (Safe.region ?_)
      have hc := cpyV_row ((28, .int .i64 n) :: []) H [some ⟨2, [.agg [.bool false, .nil]]⟩, some ⟨1, u32s (List.replicate n 0)⟩] 1 1 n (some n) (natV l) (u32s (List.replicate n 0)) (u32s l) rfl (by simp [u32s_len]) (natV_src _ l) (by rw [u32s_len]; exact hn)
      simp only [zint_made_r7, E2, Nat.reduceLeDiff, Nat.reduceSub, Nat.reduceAdd, Nat.reduceEqDiff, reduceCtorEq, ↓reduceIte, e1]
      rw [cpyV_row _ H [some ⟨2, [.agg [.bool false, .nil]]⟩, some ⟨1, u32s (List.replicate n 0)⟩] 1 1 n (some n) (natV l) (u32s (List.replicate n 0)) (u32s l) rfl (by simp [u32s_len]) (natV_src _ l) (by rw [u32s_len]; exact hn)]
      simp only [E2, Nat.reduceLeDiff, Nat.reduceSub, Nat.reduceAdd, Nat.reduceEqDiff, reduceCtorEq, ↓reduceIte, u32s_take]
      refine Safe.freeze 1 (b := ⟨1, u32s (l.take n)⟩) hH rfl rfl (blk_u32 _) ?_
      have hlen : n = (l.take n).length := by rw [List.length_take]; omega
      have hfm : frz (lid H 1) ⟨1, u32s (l.take n)⟩ (.mu (lid H 1) 0 n (some n)) = natV (l.take n) := by
        have := frz_mu_nat H 1 (l.take n) (some n)
        rwa [← hlen] at this
      refine Safe.keep [0, 4, 6] ?_
      simp only [E2, Nat.reduceLeDiff, Nat.reduceSub, Nat.reduceAdd, Nat.reduceEqDiff, reduceCtorEq, ↓reduceIte, look_frzE, e0, e4, hfm, frz_loc_other H 1 0 _ 0 0 (by decide)]
      refine Safe.seq (Safe.region ?_)
      simp only [zint_made_r8, E2, Nat.reduceLeDiff, Nat.reduceSub, Nat.reduceAdd, Nat.reduceEqDiff, reduceCtorEq, ↓reduceIte]
      refine Safe.retn ?_
      simp only [E2, Nat.reduceLeDiff, Nat.reduceSub, Nat.reduceAdd, Nat.reduceEqDiff, reduceCtorEq, ↓reduceIte]
      refine ⟨?_, _, rfl⟩
      rw [← Z_sgn, hlim]
      have hp : 0 < val l := by
        rcases Nat.eq_zero_or_pos (val l) with h | h
        · rw [h, limbs_zero] at hlim
          have := congrArg List.length hlim
          simp at this; omega
        · exact h
      simp only [hp, decide_true, Bool.and_true]
      exact Le.refl _
  have key : ∀ (n : Nat), n ≤ l.length → val (l.take n) = val l → ∀ env : Env, look env 0 = .bool neg → look env 1 = natV l → look env 4 = .loc (lid H 0) 0 0 → look env 5 = .int .i64 n →
      Safe ⟨Pr, fun _ _ => false, F_zint_made, 32, [.cell 4 (some 2)], H.length⟩ [.inLoop zint_made_l0, .inBlock 0, .code (((ACode.region zint_made_r4 false).seq (.cond (.t 22) ((ACode.region zint_made_r5 false).seq .ret) .skip)).seq ((ACode.region zint_made_r6 false).seq ((ACode.region zint_made_r7 false).seq ((ACode.region zint_made_r8 false).seq .ret))))]
        env (hap H [some ⟨2, [.agg [.bool false, .nil]]⟩]) fun r' H' => Le r' (Z (sgn neg (val l))) ∧ ∃ L, H' = hap H L := by
    intro n
    induction n with
    | zero =>
      intro hn hv env e0 e1 e4 e5
      refine Safe.inLoop (Safe.seq (Safe.seq (Safe.region ?_)))
      simp only [zint_made_r2, E2, Nat.reduceLeDiff, Nat.reduceSub, Nat.reduceAdd, Nat.reduceEqDiff, reduceCtorEq, ↓reduceIte, e1, e5, Int.natCast_zero, Int.lt_irrefl]
      refine Safe.cond ?_
      simp only [E2, Nat.reduceLeDiff, Nat.reduceSub, Nat.reduceAdd, Nat.reduceEqDiff, reduceCtorEq, ↓reduceIte]
      refine Safe.exit rfl (copy 0 hn ?_ _ (by simp only [E2, Nat.reduceLeDiff, Nat.reduceSub, Nat.reduceAdd, Nat.reduceEqDiff, reduceCtorEq, ↓reduceIte, e0]) (by simp only [E2, Nat.reduceLeDiff, Nat.reduceSub, Nat.reduceAdd, Nat.reduceEqDiff, reduceCtorEq, ↓reduceIte, e1]) (by simp only [E2, Nat.reduceLeDiff, Nat.reduceSub, Nat.reduceAdd, Nat.reduceEqDiff, reduceCtorEq, ↓reduceIte, e4]) (by simp only [E2, Nat.reduceLeDiff, Nat.reduceSub, Nat.reduceAdd, Nat.reduceEqDiff, reduceCtorEq, ↓reduceIte, e5] <;> rfl))
      rw [← hv]; simp [val, limbs_zero]
    | succ n ih =>
      intro hn hv env e0 e1 e4 e5
      refine Safe.inLoop (Safe.seq (Safe.seq (Safe.region ?_)))
      have h0 : (0 : Int) < ((n + 1 : Nat) : Int) := by omega
      have hw : IntKind.wrap .i64 (((n + 1 : Nat) : Int) - 1) = (n : Int) := by rw [wrap_i64] <;> omega
      simp only [zint_made_r2, E2, Nat.reduceLeDiff, Nat.reduceSub, Nat.reduceAdd, Nat.reduceEqDiff, reduceCtorEq, ↓reduceIte, e1, e5, h0, hw, natV_idx _ l _ n (by omega)]
      refine Safe.cond ?_
      simp only [E2, Nat.reduceLeDiff, Nat.reduceSub, Nat.reduceAdd, Nat.reduceEqDiff, reduceCtorEq, ↓reduceIte]
      by_cases hd : l.getD n 0 = 0
      · simp only [hd, Int.natCast_zero, E2, Nat.reduceLeDiff, Nat.reduceSub, Nat.reduceAdd, Nat.reduceEqDiff, reduceCtorEq, ↓reduceIte]
        refine Safe.skip (Safe.block (Safe.region ?_))
        simp only [zint_made_r3, E2, Nat.reduceLeDiff, Nat.reduceSub, Nat.reduceAdd, Nat.reduceEqDiff, reduceCtorEq, ↓reduceIte, e5, hw]
        refine Safe.inBlock (ih (by omega) ?_ _ (by simp only [E2, Nat.reduceLeDiff, Nat.reduceSub, Nat.reduceAdd, Nat.reduceEqDiff, reduceCtorEq, ↓reduceIte, e0]) (by simp only [E2, Nat.reduceLeDiff, Nat.reduceSub, Nat.reduceAdd, Nat.reduceEqDiff, reduceCtorEq, ↓reduceIte, e1]) (by simp only [E2, Nat.reduceLeDiff, Nat.reduceSub, Nat.reduceAdd, Nat.reduceEqDiff, reduceCtorEq, ↓reduceIte, e4]) (by simp only [E2, Nat.reduceLeDiff, Nat.reduceSub, Nat.reduceAdd, Nat.reduceEqDiff, reduceCtorEq, ↓reduceIte]))
        rw [← hv, val_take_getD, hd]; simp
      · have hd' : ¬ (((l.getD n 0 : Nat) : Int) = 0) := by omega
        simp only [hd', E2, Nat.reduceLeDiff, Nat.reduceSub, Nat.reduceAdd, Nat.reduceEqDiff, reduceCtorEq, ↓reduceIte]
        refine Safe.exit rfl (copy (n + 1) hn ?_ _ (by simp only [E2, Nat.reduceLeDiff, Nat.reduceSub, Nat.reduceAdd, Nat.reduceEqDiff, reduceCtorEq, ↓reduceIte, e0]) (by simp only [E2, Nat.reduceLeDiff, Nat.reduceSub, Nat.reduceAdd, Nat.reduceEqDiff, reduceCtorEq, ↓reduceIte, e1]) (by simp only [E2, Nat.reduceLeDiff, Nat.reduceSub, Nat.reduceAdd, Nat.reduceEqDiff, reduceCtorEq, ↓reduceIte, e4]) (by simp only [E2, Nat.reduceLeDiff, Nat.reduceSub, Nat.reduceAdd, Nat.reduceEqDiff, reduceCtorEq, ↓reduceIte, e5]))
        rw [← hv, limbs_val (hl.lim.take _)]
        rw [take_snoc (by omega)]; simpa using hd
  exact key l.length (Nat.le_refl _) (by rw [List.take_length]) _ (by simp only [E2, Nat.reduceLeDiff, Nat.reduceSub, Nat.reduceAdd, Nat.reduceEqDiff, reduceCtorEq, ↓reduceIte]) (by simp only [E2, Nat.reduceLeDiff, Nat.reduceSub, Nat.reduceAdd, Nat.reduceEqDiff, reduceCtorEq, ↓reduceIte]) (by simp only [E2, Nat.reduceLeDiff, Nat.reduceSub, Nat.reduceAdd, Nat.reduceEqDiff, reduceCtorEq, ↓reduceIte]) (by simp only [E2, Nat.reduceLeDiff, Nat.reduceSub, Nat.reduceAdd, Nat.reduceEqDiff, reduceCtorEq, ↓reduceIte])

theorem sgn_add (n : Bool) (a b : Nat) : sgn n a + sgn n b = sgn n (a + b) := by cases n <;> simp [sgn] <;> omega
theorem sgn_sub (m n : Bool) (a b : Nat) (h : m ≠ n) (hb : b ≤ a) : sgn m a + sgn n b = sgn m (a - b) := by
  cases m <;> cases n <;> simp [sgn] at h ⊢ <;> omega
theorem sgn_sub' (m n : Bool) (a b : Nat) (h : m ≠ n) (hb : a ≤ b) : sgn m a + sgn n b = sgn n (b - a) := by
  cases m <;> cases n <;> simp [sgn] at h ⊢ <;> omega
theorem sgn_mul (m n : Bool) (a b : Nat) : sgn m a * sgn n b = sgn (!(m == n)) (a * b) := by
  cases m <;> cases n <;> simp [sgn, Int.neg_mul, Int.mul_neg]
theorem sgn_not (n : Bool) (a : Nat) : sgn (!n) a = - sgn n a := by cases n <;> simp [sgn]
theorem cmpI_ge (a b : Nat) : (0 ≤ cmpI a b) = (b ≤ a) := by unfold cmpI; split <;> (try split) <;> simp <;> omega
theorem cmpI_lt (a b : Nat) : (cmpI a b < 0) = (a < b) := by unfold cmpI; split <;> (try split) <;> simp <;> omega

theorem r2form_pure (x : ZI) (hx : Zok 17592186044416 x) : PureC Pr F_ref02_Norm [x.av] (Z x.z) := by
  obtain ⟨n, m⟩ := x
  have hm : Nt m := ⟨hx.lim, hx.len⟩
  simp only [ZI.av, ZI.z]
  refine PureC.intro ref02_Norm_fn ref02_Norm_ok (by simp only [List.length_cons, List.length_nil]; omega) (Z_cl _) fun H hH => ?_
  refine Safe.seq (Safe.region ?_)
  simp only [ref02_Norm_r0, E2, Nat.reduceLeDiff, Nat.reduceSub, Nat.reduceAdd, Nat.reduceEqDiff, reduceCtorEq, ↓reduceIte]
  refine Safe.seq (Safe.region ?_)
  simp only [ref02_Norm_r1, E2, Nat.reduceLeDiff, Nat.reduceSub, Nat.reduceAdd, Nat.reduceEqDiff, reduceCtorEq, ↓reduceIte]
  refine (refmade_pure n m hm).acall ?_
  simp only [Z, E2, Nat.reduceLeDiff, Nat.reduceSub, Nat.reduceAdd, Nat.reduceEqDiff, reduceCtorEq, ↓reduceIte]
  refine Safe.retn ?_
  simp only [E2, Nat.reduceLeDiff, Nat.reduceSub, Nat.reduceAdd, Nat.reduceEqDiff, reduceCtorEq, ↓reduceIte]
  first | exact ⟨rfl, _, rfl⟩ | exact ⟨_, rfl⟩ | exact ⟨trivial, _, rfl⟩

theorem r2neg_pure (x : ZI) (hx : Zok 17592186044416 x) : PureC Pr F_ref02_Neg [x.av] (Z (-x.z)) := by
  obtain ⟨n, m⟩ := x
  have hm : Nt m := ⟨hx.lim, hx.len⟩
  simp only [ZI.av, ZI.z]
  refine PureC.intro ref02_Neg_fn ref02_Neg_ok (by simp only [List.length_cons, List.length_nil]; omega) (Z_cl _) fun H hH => ?_
  refine Safe.seq (Safe.region ?_)
  simp only [ref02_Neg_r0, E2, Nat.reduceLeDiff, Nat.reduceSub, Nat.reduceAdd, Nat.reduceEqDiff, reduceCtorEq, ↓reduceIte]
  refine Safe.seq (Safe.region ?_)
  simp only [ref02_Neg_r1, E2, Nat.reduceLeDiff, Nat.reduceSub, Nat.reduceAdd, Nat.reduceEqDiff, reduceCtorEq, ↓reduceIte]
  refine (refmade_pure (!n) m hm).acall ?_
  rw [sgn_not]
  simp only [Z, E2, Nat.reduceLeDiff, Nat.reduceSub, Nat.reduceAdd, Nat.reduceEqDiff, reduceCtorEq, ↓reduceIte]
  refine Safe.retn ?_
  simp only [E2, Nat.reduceLeDiff, Nat.reduceSub, Nat.reduceAdd, Nat.reduceEqDiff, reduceCtorEq, ↓reduceIte]
  first | exact ⟨rfl, _, rfl⟩ | exact ⟨_, rfl⟩ | exact ⟨trivial, _, rfl⟩

theorem r2bits_pure (x : ZI) (hx : Zok 17592186044416 x) : PureC Pr F_ref02_Bits [x.av] (.int .i64 (blen x.z.natAbs)) := by
  obtain ⟨n, m⟩ := x
  have hm : Nt m := ⟨hx.lim, hx.len⟩
  simp only [ZI.av, ZI.z, sgn_abs]
  refine PureC.intro ref02_Bits_fn ref02_Bits_ok (by simp only [List.length_cons, List.length_nil]; omega) (.int _ _) fun H hH => ?_
  refine Safe.seq (Safe.region ?_)
  simp only [ref02_Bits_r0, E2, Nat.reduceLeDiff, Nat.reduceSub, Nat.reduceAdd, Nat.reduceEqDiff, reduceCtorEq, ↓reduceIte]
  refine Safe.seq (Safe.region ?_)
  simp only [ref02_Bits_r1, E2, Nat.reduceLeDiff, Nat.reduceSub, Nat.reduceAdd, Nat.reduceEqDiff, reduceCtorEq, ↓reduceIte]
  refine (refbits_pure m hm).acall ?_
  try simp only [E2, Nat.reduceLeDiff, Nat.reduceSub, Nat.reduceAdd, Nat.reduceEqDiff, reduceCtorEq, ↓reduceIte]
  refine Safe.retn ?_
  simp only [E2, Nat.reduceLeDiff, Nat.reduceSub, Nat.reduceAdd, Nat.reduceEqDiff, reduceCtorEq, ↓reduceIte]
  first | exact ⟨rfl, _, rfl⟩ | exact ⟨_, rfl⟩ | exact ⟨trivial, _, rfl⟩

theorem r2mul_pure (x y : ZI) (k l : Nat) (hx : Zok k x) (hy : Zok l y) (hkl : k + l ≤ 17592186044416) : PureC Pr F_ref02_Mul [x.av, y.av] (Z (x.z * y.z)) := by
  obtain ⟨n, a⟩ := x
  obtain ⟨m, b⟩ := y
  have hal := hx.len
  have hbl := hy.len
  simp only at hal hbl
  have ha : Nt a := ⟨hx.lim, by omega⟩
  have hb : Nt b := ⟨hy.lim, by omega⟩
  simp only [ZI.av, ZI.z]
  refine PureC.intro ref02_Mul_fn ref02_Mul_ok (by simp only [List.length_cons, List.length_nil]; omega) (Z_cl _) fun H hH => ?_
  refine Safe.seq (Safe.region ?_)
  simp only [ref02_Mul_r0, E2, Nat.reduceLeDiff, Nat.reduceSub, Nat.reduceAdd, Nat.reduceEqDiff, reduceCtorEq, ↓reduceIte]
  refine Safe.seq (Safe.regionD ?_)
  simp only [ref02_Mul_r1, E2, Nat.reduceLeDiff, Nat.reduceSub, Nat.reduceAdd, Nat.reduceEqDiff, reduceCtorEq, ↓reduceIte]
  refine (refmul_pure a b ha hb (by omega)).dcall ?_
  try simp only [E2, Nat.reduceLeDiff, Nat.reduceSub, Nat.reduceAdd, Nat.reduceEqDiff, reduceCtorEq, ↓reduceIte]
  have hn : Nt (limbs (val a * val b)) := ⟨lim_limbs _, by
    have h1 := val_lt ha.lim
    have h2 := val_lt hb.lim
    have h3 : val a * val b < LB ^ (a.length + b.length) := by
      rw [Nat.pow_add]
      exact Nat.mul_lt_mul'' h1 h2
    exact Nat.le_trans (limbs_len_le h3) (by omega)⟩
  refine (refmade_pure _ _ hn).dcall ?_
  rw [val_limbs, ← sgn_mul]
  simp only [Z, E2, Nat.reduceLeDiff, Nat.reduceSub, Nat.reduceAdd, Nat.reduceEqDiff, reduceCtorEq, ↓reduceIte]
  refine Safe.retn ?_
  simp only [E2, Nat.reduceLeDiff, Nat.reduceSub, Nat.reduceAdd, Nat.reduceEqDiff, reduceCtorEq, ↓reduceIte]
  first | exact ⟨rfl, _, rfl⟩ | exact ⟨_, rfl⟩ | exact ⟨trivial, _, rfl⟩

theorem r2add_pure (x y : ZI) (k : Nat) (hx : Zok k x) (hy : Zok k y) (hk : k < 17592186044416) : PureC Pr F_ref02_Add [x.av, y.av] (Z (x.z + y.z)) := by
  obtain ⟨n, a⟩ := x
  obtain ⟨m, b⟩ := y
  have hal := hx.len
  have hbl := hy.len
  have hav := hx.lt
  have hbv := hy.lt
  simp only at hal hbl hav hbv
  have ha : Nt a := ⟨hx.lim, by omega⟩
  have hb : Nt b := ⟨hy.lim, by omega⟩
  have hle : ∀ v, v < LB ^ k → Nt (limbs v) := fun v hv => ⟨lim_limbs _, Nat.le_trans (limbs_len_le hv) (by omega)⟩
  simp only [ZI.av, ZI.z]
  refine PureC.intro ref02_Add_fn ref02_Add_ok (by simp only [List.length_cons, List.length_nil]; omega) (Z_cl _) fun H hH => ?_
  refine Safe.seq (Safe.region ?_)
  simp only [ref02_Add_r0, E2, Nat.reduceLeDiff, Nat.reduceSub, Nat.reduceAdd, Nat.reduceEqDiff, reduceCtorEq, ↓reduceIte]
  refine Safe.seq (Safe.seq (Safe.region ?_))
  simp only [ref02_Add_r1, E2, Nat.reduceLeDiff, Nat.reduceSub, Nat.reduceAdd, Nat.reduceEqDiff, reduceCtorEq, ↓reduceIte]
  refine Safe.cond ?_
  simp only [E2, Nat.reduceLeDiff, Nat.reduceSub, Nat.reduceAdd, Nat.reduceEqDiff, reduceCtorEq, ↓reduceIte]
  by_cases hnm : n = m
  · subst hnm
    simp only [beq_self_eq_true, E2, Nat.reduceLeDiff, Nat.reduceSub, Nat.reduceAdd, Nat.reduceEqDiff, reduceCtorEq, ↓reduceIte]
    refine Safe.seq (Safe.regionD ?_)
    simp only [ref02_Add_r2, E2, Nat.reduceLeDiff, Nat.reduceSub, Nat.reduceAdd, Nat.reduceEqDiff, reduceCtorEq, ↓reduceIte]
    refine (refadd_pure a b ha.lim hb.lim (by omega) (by omega)).dcall ?_
    try simp only [E2, Nat.reduceLeDiff, Nat.reduceSub, Nat.reduceAdd, Nat.reduceEqDiff, reduceCtorEq, ↓reduceIte]
    have hn : Nt (limbs (val a + val b)) := ⟨lim_limbs _, by
      have h3 : val a + val b < LB ^ (k + 1) := by
        rw [Nat.pow_succ]
        have : LB ^ k * 2 ≤ LB ^ k * LB := Nat.mul_le_mul_left _ (by decide)
        omega
      exact Nat.le_trans (limbs_len_le h3) (by omega)⟩
    refine (refmade_pure _ _ hn).dcall ?_
    rw [val_limbs, sgn_add]
    simp only [Z, E2, Nat.reduceLeDiff, Nat.reduceSub, Nat.reduceAdd, Nat.reduceEqDiff, reduceCtorEq, ↓reduceIte]
    refine Safe.retn ?_
    simp only [E2, Nat.reduceLeDiff, Nat.reduceSub, Nat.reduceAdd, Nat.reduceEqDiff, reduceCtorEq, ↓reduceIte]
    first | exact ⟨rfl, _, rfl⟩ | exact ⟨_, rfl⟩ | exact ⟨trivial, _, rfl⟩
  · have hnm' : (n == m) = false := by simpa using hnm
    simp only [hnm', E2, Nat.reduceLeDiff, Nat.reduceSub, Nat.reduceAdd, Nat.reduceEqDiff, reduceCtorEq, ↓reduceIte]
    refine Safe.skip (Safe.seq (Safe.seq (Safe.region ?_)))
    simp only [ref02_Add_r3, E2, Nat.reduceLeDiff, Nat.reduceSub, Nat.reduceAdd, Nat.reduceEqDiff, reduceCtorEq, ↓reduceIte]
    refine (refcmp_pure a b ha hb).acall ?_
    simp only [E2, Nat.reduceLeDiff, Nat.reduceSub, Nat.reduceAdd, Nat.reduceEqDiff, reduceCtorEq, ↓reduceIte, cmpI_lt, cmpI_ge]
    refine Safe.cond ?_
    simp only [E2, Nat.reduceLeDiff, Nat.reduceSub, Nat.reduceAdd, Nat.reduceEqDiff, reduceCtorEq, ↓reduceIte]
    by_cases hlt : val b ≤ val a
    · simp only [hlt, E2, Nat.reduceLeDiff, Nat.reduceSub, Nat.reduceAdd, Nat.reduceEqDiff, reduceCtorEq, ↓reduceIte]
      refine Safe.seq (Safe.region ?_)
      simp only [ref02_Add_r4, E2, Nat.reduceLeDiff, Nat.reduceSub, Nat.reduceAdd, Nat.reduceEqDiff, reduceCtorEq, ↓reduceIte]
      refine (refsub_pure a b ha hb (by omega)).acall ?_
      simp only [E2, Nat.reduceLeDiff, Nat.reduceSub, Nat.reduceAdd, Nat.reduceEqDiff, reduceCtorEq, ↓reduceIte]
      refine Safe.seq (Safe.region ?_)
      simp only [ref02_Add_r5, E2, Nat.reduceLeDiff, Nat.reduceSub, Nat.reduceAdd, Nat.reduceEqDiff, reduceCtorEq, ↓reduceIte]
      refine (refmade_pure _ _ (hle (val a - val b) (by omega))).acall ?_
      rw [val_limbs, sgn_sub n m _ _ hnm (by omega)]
      simp only [Z, E2, Nat.reduceLeDiff, Nat.reduceSub, Nat.reduceAdd, Nat.reduceEqDiff, reduceCtorEq, ↓reduceIte]
      refine Safe.retn ?_
      simp only [E2, Nat.reduceLeDiff, Nat.reduceSub, Nat.reduceAdd, Nat.reduceEqDiff, reduceCtorEq, ↓reduceIte]
      first | exact ⟨rfl, _, rfl⟩ | exact ⟨_, rfl⟩ | exact ⟨trivial, _, rfl⟩
    · simp only [hlt, E2, Nat.reduceLeDiff, Nat.reduceSub, Nat.reduceAdd, Nat.reduceEqDiff, reduceCtorEq, ↓reduceIte]
      refine Safe.skip (Safe.seq (Safe.region ?_))
      simp only [ref02_Add_r6, E2, Nat.reduceLeDiff, Nat.reduceSub, Nat.reduceAdd, Nat.reduceEqDiff, reduceCtorEq, ↓reduceIte]
      refine (refsub_pure b a hb ha (by omega)).acall ?_
      simp only [E2, Nat.reduceLeDiff, Nat.reduceSub, Nat.reduceAdd, Nat.reduceEqDiff, reduceCtorEq, ↓reduceIte]
      refine Safe.seq (Safe.region ?_)
      simp only [ref02_Add_r7, E2, Nat.reduceLeDiff, Nat.reduceSub, Nat.reduceAdd, Nat.reduceEqDiff, reduceCtorEq, ↓reduceIte]
      refine (refmade_pure _ _ (hle (val b - val a) (by omega))).acall ?_
      rw [val_limbs, sgn_sub' n m _ _ hnm (by omega)]
      simp only [Z, E2, Nat.reduceLeDiff, Nat.reduceSub, Nat.reduceAdd, Nat.reduceEqDiff, reduceCtorEq, ↓reduceIte]
      refine Safe.retn ?_
      simp only [E2, Nat.reduceLeDiff, Nat.reduceSub, Nat.reduceAdd, Nat.reduceEqDiff, reduceCtorEq, ↓reduceIte]
      first | exact ⟨rfl, _, rfl⟩ | exact ⟨_, rfl⟩ | exact ⟨trivial, _, rfl⟩

theorem r2sub_pure (x y : ZI) (k : Nat) (hx : Zok k x) (hy : Zok k y) (hk : k < 17592186044416) : PureC Pr F_ref02_Sub [x.av, y.av] (Z (x.z - y.z)) := by
  have hadd := r2add_pure x (canZ (-y.z)) k hx (zok_can (by rw [Int.natAbs_neg]; exact hy.abs)) hk
  rw [canZ_z, canZ_av] at hadd
  have hneg := r2neg_pure y (hy.mono (by omega))
  obtain ⟨n, a⟩ := x
  obtain ⟨m, b⟩ := y
  simp only [ZI.av] at hadd hneg ⊢
  refine PureC.intro ref02_Sub_fn ref02_Sub_ok (by simp only [List.length_cons, List.length_nil]; omega) (Z_cl _) fun H hH => ?_
  refine Safe.seq (Safe.region ?_)
  simp only [ref02_Sub_r0, E2, Nat.reduceLeDiff, Nat.reduceSub, Nat.reduceAdd, Nat.reduceEqDiff, reduceCtorEq, ↓reduceIte]
  refine Safe.seq (Safe.regionD ?_)
  simp only [ref02_Sub_r1, E2, Nat.reduceLeDiff, Nat.reduceSub, Nat.reduceAdd, Nat.reduceEqDiff, reduceCtorEq, ↓reduceIte]
  refine hneg.dcall ?_
  try simp only [E2, Nat.reduceLeDiff, Nat.reduceSub, Nat.reduceAdd, Nat.reduceEqDiff, reduceCtorEq, ↓reduceIte]
  refine hadd.dcall ?_
  rw [← Int.sub_eq_add_neg]
  simp only [Z, E2, Nat.reduceLeDiff, Nat.reduceSub, Nat.reduceAdd, Nat.reduceEqDiff, reduceCtorEq, ↓reduceIte]
  refine Safe.retn ?_
  simp only [E2, Nat.reduceLeDiff, Nat.reduceSub, Nat.reduceAdd, Nat.reduceEqDiff, reduceCtorEq, ↓reduceIte]
  first | exact ⟨rfl, _, rfl⟩ | exact ⟨_, rfl⟩ | exact ⟨trivial, _, rfl⟩

theorem r2of_pure (n : Int) (h0 : -9223372036854775808 ≤ n) (h1 : n < 9223372036854775808) : PureC Pr F_ref02_Of [.int .i64 n] (Z n) := by
  refine PureC.intro ref02_Of_fn ref02_Of_ok (by simp only [List.length_cons, List.length_nil]; omega) (Z_cl _) fun H hH => ?_
  have hLB : LB = 4294967296 := rfl
  refine Safe.seq (Safe.region ?_)
  simp only [ref02_Of_r0, E2, Nat.reduceLeDiff, Nat.reduceSub, Nat.reduceAdd, Nat.reduceEqDiff, reduceCtorEq, ↓reduceIte]
  refine Safe.seq (Safe.region ?_)
  simp only [ref02_Of_r1, E2, Nat.reduceLeDiff, Nat.reduceSub, Nat.reduceAdd, Nat.reduceEqDiff, reduceCtorEq, ↓reduceIte]
  refine Safe.seq (Safe.seq (Safe.region ?_))
  simp only [ref02_Of_r2, E2, Nat.reduceLeDiff, Nat.reduceSub, Nat.reduceAdd, Nat.reduceEqDiff, reduceCtorEq, ↓reduceIte]
  refine Safe.cond ?_
  simp only [E2, Nat.reduceLeDiff, Nat.reduceSub, Nat.reduceAdd, Nat.reduceEqDiff, reduceCtorEq, ↓reduceIte]
  have rest : ∀ (env : Env), look env 0 = .int .i64 n → look env 2 = .loc (lid H 0) 0 0 → look env 3 = .int .u64 (n.natAbs : Nat) →
      Safe ⟨Pr, fun _ _ => false, F_ref02_Of, 19, [.cell 2 (some 2)], H.length⟩ [.code ((ACode.region ref02_Of_r4 false).seq .ret)] env (hap H [some ⟨2, [.agg [.bool false, .nil]]⟩]) fun r' H' => r' = Z n ∧ ∃ L, H' = hap H L := by
    intro env e0 e2 e3
    refine Safe.seq (Safe.region ?_)
    have w1 : IntKind.wrap .u32 ((n.natAbs : Nat) : Int) = ((n.natAbs % LB : Nat) : Int) := wrap_u32_mod _
    have hLL : LB * LB = 18446744073709551616 := by decide
    have hdiv : n.natAbs / LB < LB := Nat.div_lt_of_lt_mul (by omega)
    have w2 : IntKind.wrap .u32 ((n.natAbs / LB : Nat) : Int) = ((n.natAbs / LB : Nat) : Int) := wrap_u32 (Int.natCast_nonneg _) (by omega)
    simp only [ref02_Of_r4, E2, Nat.reduceLeDiff, Nat.reduceSub, Nat.reduceAdd, Nat.reduceEqDiff, reduceCtorEq, ↓reduceIte, e0, e3, e2, w1, shBin_shr _ _ _ (show (0 : Int) ≤ 32 by decide), shr32, w2]
    have hm := Nat.mod_lt n.natAbs (show 0 < LB by decide)
    have := refmade_pure (decide (n < 0)) [n.natAbs % LB, n.natAbs / LB] ⟨by intro d hd; simp at hd; omega, by simp⟩
    have hv : val [n.natAbs % LB, n.natAbs / LB] = n.natAbs := by
      simp only [val]; rw [Nat.mul_zero, Nat.add_zero, Nat.mod_add_div]
    rw [hv, show sgn (decide (n < 0)) n.natAbs = n by unfold sgn; by_cases h : n < 0 <;> simp [h] <;> omega] at this
    refine PureC.acall this ?_
    simp only [Z, E2, Nat.reduceLeDiff, Nat.reduceSub, Nat.reduceAdd, Nat.reduceEqDiff, reduceCtorEq, ↓reduceIte, e2]
    refine Safe.retn ?_
    simp only [E2, Nat.reduceLeDiff, Nat.reduceSub, Nat.reduceAdd, Nat.reduceEqDiff, reduceCtorEq, ↓reduceIte, e2]
    first | exact ⟨rfl, _, rfl⟩ | exact ⟨_, rfl⟩ | exact ⟨trivial, _, rfl⟩
  by_cases hn : n < 0
  · simp only [hn, E2, Nat.reduceLeDiff, Nat.reduceSub, Nat.reduceAdd, Nat.reduceEqDiff, reduceCtorEq, ↓reduceIte]
    refine Safe.region ?_
    have w : IntKind.wrap .u64 (0 - IntKind.wrap .u64 n) = ((n.natAbs : Nat) : Int) := by rw [wrap_u64_mod, wrap_u64_mod]; omega
    simp only [ref02_Of_r3, E2, Nat.reduceLeDiff, Nat.reduceSub, Nat.reduceAdd, Nat.reduceEqDiff, reduceCtorEq, ↓reduceIte, w]
    exact rest _ (by simp only [E2, Nat.reduceLeDiff, Nat.reduceSub, Nat.reduceAdd, Nat.reduceEqDiff, reduceCtorEq, ↓reduceIte]) (by simp only [E2, Nat.reduceLeDiff, Nat.reduceSub, Nat.reduceAdd, Nat.reduceEqDiff, reduceCtorEq, ↓reduceIte]) (by simp only [E2, Nat.reduceLeDiff, Nat.reduceSub, Nat.reduceAdd, Nat.reduceEqDiff, reduceCtorEq, ↓reduceIte])
  · have w : IntKind.wrap .u64 n = ((n.natAbs : Nat) : Int) := by rw [wrap_u64_mod]; omega
    simp only [hn, E2, Nat.reduceLeDiff, Nat.reduceSub, Nat.reduceAdd, Nat.reduceEqDiff, reduceCtorEq, ↓reduceIte]
    exact Safe.skip (rest _ (by simp only [E2, Nat.reduceLeDiff, Nat.reduceSub, Nat.reduceAdd, Nat.reduceEqDiff, reduceCtorEq, ↓reduceIte]) (by simp only [E2, Nat.reduceLeDiff, Nat.reduceSub, Nat.reduceAdd, Nat.reduceEqDiff, reduceCtorEq, ↓reduceIte]) (by simp only [E2, Nat.reduceLeDiff, Nat.reduceSub, Nat.reduceAdd, Nat.reduceEqDiff, reduceCtorEq, ↓reduceIte, w]))

theorem zform_pure (x : ZI) (hx : Zok 17592186044416 x) : PureC Pr F_zint_Form [x.av] (Z x.z) := by
  obtain ⟨n, m⟩ := x
  have hm : Nt m := ⟨hx.lim, hx.len⟩
  simp only [ZI.av, ZI.z]
  refine PureC.intro zint_Form_fn zint_Form_ok (by simp only [List.length_cons, List.length_nil]; omega) (Z_cl _) fun H hH => ?_
  refine Safe.seq (Safe.region ?_)
  simp only [zint_Form_r0, E2, Nat.reduceLeDiff, Nat.reduceSub, Nat.reduceAdd, Nat.reduceEqDiff, reduceCtorEq, ↓reduceIte]
  refine Safe.seq (Safe.region ?_)
  simp only [zint_Form_r1, E2, Nat.reduceLeDiff, Nat.reduceSub, Nat.reduceAdd, Nat.reduceEqDiff, reduceCtorEq, ↓reduceIte]
  refine (made_pure n m hm).acall ?_
  simp only [Z, E2, Nat.reduceLeDiff, Nat.reduceSub, Nat.reduceAdd, Nat.reduceEqDiff, reduceCtorEq, ↓reduceIte]
  refine Safe.retn ?_
  simp only [E2, Nat.reduceLeDiff, Nat.reduceSub, Nat.reduceAdd, Nat.reduceEqDiff, reduceCtorEq, ↓reduceIte]
  first | exact ⟨rfl, _, rfl⟩ | exact ⟨_, rfl⟩ | exact ⟨trivial, _, rfl⟩

theorem zneg_pure (x : ZI) (hx : Zok 17592186044416 x) : PureC Pr F_zint_Neg [x.av] (Z (-x.z)) := by
  obtain ⟨n, m⟩ := x
  have hm : Nt m := ⟨hx.lim, hx.len⟩
  simp only [ZI.av, ZI.z]
  refine PureC.intro zint_Neg_fn zint_Neg_ok (by simp only [List.length_cons, List.length_nil]; omega) (Z_cl _) fun H hH => ?_
  refine Safe.seq (Safe.region ?_)
  simp only [zint_Neg_r0, E2, Nat.reduceLeDiff, Nat.reduceSub, Nat.reduceAdd, Nat.reduceEqDiff, reduceCtorEq, ↓reduceIte]
  refine Safe.seq (Safe.region ?_)
  simp only [zint_Neg_r1, E2, Nat.reduceLeDiff, Nat.reduceSub, Nat.reduceAdd, Nat.reduceEqDiff, reduceCtorEq, ↓reduceIte]
  refine (made_pure (!n) m hm).acall ?_
  rw [sgn_not]
  simp only [Z, E2, Nat.reduceLeDiff, Nat.reduceSub, Nat.reduceAdd, Nat.reduceEqDiff, reduceCtorEq, ↓reduceIte]
  refine Safe.retn ?_
  simp only [E2, Nat.reduceLeDiff, Nat.reduceSub, Nat.reduceAdd, Nat.reduceEqDiff, reduceCtorEq, ↓reduceIte]
  first | exact ⟨rfl, _, rfl⟩ | exact ⟨_, rfl⟩ | exact ⟨trivial, _, rfl⟩

theorem zbits_pure (x : ZI) (hx : Zok 17592186044416 x) : PureC Pr F_zint_Bits [x.av] (.int .i64 (blen x.z.natAbs)) := by
  obtain ⟨n, m⟩ := x
  have hm : Nt m := ⟨hx.lim, hx.len⟩
  simp only [ZI.av, ZI.z, sgn_abs]
  refine PureC.intro zint_Bits_fn zint_Bits_ok (by simp only [List.length_cons, List.length_nil]; omega) (.int _ _) fun H hH => ?_
  refine Safe.seq (Safe.region ?_)
  simp only [zint_Bits_r0, E2, Nat.reduceLeDiff, Nat.reduceSub, Nat.reduceAdd, Nat.reduceEqDiff, reduceCtorEq, ↓reduceIte]
  refine Safe.seq (Safe.region ?_)
  simp only [zint_Bits_r1, E2, Nat.reduceLeDiff, Nat.reduceSub, Nat.reduceAdd, Nat.reduceEqDiff, reduceCtorEq, ↓reduceIte]
  refine (natbits_pure m hm).acall ?_
  try simp only [E2, Nat.reduceLeDiff, Nat.reduceSub, Nat.reduceAdd, Nat.reduceEqDiff, reduceCtorEq, ↓reduceIte]
  refine Safe.retn ?_
  simp only [E2, Nat.reduceLeDiff, Nat.reduceSub, Nat.reduceAdd, Nat.reduceEqDiff, reduceCtorEq, ↓reduceIte]
  first | exact ⟨rfl, _, rfl⟩ | exact ⟨_, rfl⟩ | exact ⟨trivial, _, rfl⟩

theorem zmul_pure (x y : ZI) (k l : Nat) (hx : Zok k x) (hy : Zok l y) (hkl : k + l ≤ 17592186044416) : PureC Pr F_zint_Mul [x.av, y.av] (Z (x.z * y.z)) := by
  obtain ⟨n, a⟩ := x
  obtain ⟨m, b⟩ := y
  have hal := hx.len
  have hbl := hy.len
  simp only at hal hbl
  have ha : Nt a := ⟨hx.lim, by omega⟩
  have hb : Nt b := ⟨hy.lim, by omega⟩
  simp only [ZI.av, ZI.z]
  refine PureC.intro zint_Mul_fn zint_Mul_ok (by simp only [List.length_cons, List.length_nil]; omega) (Z_cl _) fun H hH => ?_
  refine Safe.seq (Safe.region ?_)
  simp only [zint_Mul_r0, E2, Nat.reduceLeDiff, Nat.reduceSub, Nat.reduceAdd, Nat.reduceEqDiff, reduceCtorEq, ↓reduceIte]
  refine Safe.seq (Safe.regionD ?_)
  simp only [zint_Mul_r1, E2, Nat.reduceLeDiff, Nat.reduceSub, Nat.reduceAdd, Nat.reduceEqDiff, reduceCtorEq, ↓reduceIte]
  refine (natmul_pure a b ha hb (by omega)).dcall ?_
  try simp only [E2, Nat.reduceLeDiff, Nat.reduceSub, Nat.reduceAdd, Nat.reduceEqDiff, reduceCtorEq, ↓reduceIte]
  have hn : Nt (limbs (val a * val b)) := ⟨lim_limbs _, by
    have h1 := val_lt ha.lim
    have h2 := val_lt hb.lim
    have h3 : val a * val b < LB ^ (a.length + b.length) := by
      rw [Nat.pow_add]
      exact Nat.mul_lt_mul'' h1 h2
    exact Nat.le_trans (limbs_len_le h3) (by omega)⟩
  refine (made_pure _ _ hn).dcall ?_
  rw [val_limbs, ← sgn_mul]
  simp only [Z, E2, Nat.reduceLeDiff, Nat.reduceSub, Nat.reduceAdd, Nat.reduceEqDiff, reduceCtorEq, ↓reduceIte]
  refine Safe.retn ?_
  simp only [E2, Nat.reduceLeDiff, Nat.reduceSub, Nat.reduceAdd, Nat.reduceEqDiff, reduceCtorEq, ↓reduceIte]
  first | exact ⟨rfl, _, rfl⟩ | exact ⟨_, rfl⟩ | exact ⟨trivial, _, rfl⟩

theorem zadd_pure (x y : ZI) (k : Nat) (hx : Zok k x) (hy : Zok k y) (hk : k < 17592186044416) : PureC Pr F_zint_Add [x.av, y.av] (Z (x.z + y.z)) := by
  obtain ⟨n, a⟩ := x
  obtain ⟨m, b⟩ := y
  have hal := hx.len
  have hbl := hy.len
  have hav := hx.lt
  have hbv := hy.lt
  simp only at hal hbl hav hbv
  have ha : Nt a := ⟨hx.lim, by omega⟩
  have hb : Nt b := ⟨hy.lim, by omega⟩
  have hle : ∀ v, v < LB ^ k → Nt (limbs v) := fun v hv => ⟨lim_limbs _, Nat.le_trans (limbs_len_le hv) (by omega)⟩
  simp only [ZI.av, ZI.z]
  refine PureC.intro zint_Add_fn zint_Add_ok (by simp only [List.length_cons, List.length_nil]; omega) (Z_cl _) fun H hH => ?_
  refine Safe.seq (Safe.region ?_)
  simp only [zint_Add_r0, E2, Nat.reduceLeDiff, Nat.reduceSub, Nat.reduceAdd, Nat.reduceEqDiff, reduceCtorEq, ↓reduceIte]
  refine Safe.seq (Safe.seq (Safe.region ?_))
  simp only [zint_Add_r1, E2, Nat.reduceLeDiff, Nat.reduceSub, Nat.reduceAdd, Nat.reduceEqDiff, reduceCtorEq, ↓reduceIte]
  refine Safe.cond ?_
  simp only [E2, Nat.reduceLeDiff, Nat.reduceSub, Nat.reduceAdd, Nat.reduceEqDiff, reduceCtorEq, ↓reduceIte]
  by_cases hnm : n = m
  · subst hnm
    simp only [beq_self_eq_true, E2, Nat.reduceLeDiff, Nat.reduceSub, Nat.reduceAdd, Nat.reduceEqDiff, reduceCtorEq, ↓reduceIte]
    refine Safe.seq (Safe.regionD ?_)
    simp only [zint_Add_r2, E2, Nat.reduceLeDiff, Nat.reduceSub, Nat.reduceAdd, Nat.reduceEqDiff, reduceCtorEq, ↓reduceIte]
    refine (natadd_pure a b ha.lim hb.lim (by omega) (by omega)).dcall ?_
    try simp only [E2, Nat.reduceLeDiff, Nat.reduceSub, Nat.reduceAdd, Nat.reduceEqDiff, reduceCtorEq, ↓reduceIte]
    have hn : Nt (limbs (val a + val b)) := ⟨lim_limbs _, by
      have h3 : val a + val b < LB ^ (k + 1) := by
        rw [Nat.pow_succ]
        have : LB ^ k * 2 ≤ LB ^ k * LB := Nat.mul_le_mul_left _ (by decide)
        omega
      exact Nat.le_trans (limbs_len_le h3) (by omega)⟩
    refine (made_pure _ _ hn).dcall ?_
    rw [val_limbs, sgn_add]
    simp only [Z, E2, Nat.reduceLeDiff, Nat.reduceSub, Nat.reduceAdd, Nat.reduceEqDiff, reduceCtorEq, ↓reduceIte]
    refine Safe.retn ?_
    simp only [E2, Nat.reduceLeDiff, Nat.reduceSub, Nat.reduceAdd, Nat.reduceEqDiff, reduceCtorEq, ↓reduceIte]
    first | exact ⟨rfl, _, rfl⟩ | exact ⟨_, rfl⟩ | exact ⟨trivial, _, rfl⟩
  · have hnm' : (n == m) = false := by simpa using hnm
    simp only [hnm', E2, Nat.reduceLeDiff, Nat.reduceSub, Nat.reduceAdd, Nat.reduceEqDiff, reduceCtorEq, ↓reduceIte]
    refine Safe.skip (Safe.seq (Safe.seq (Safe.region ?_)))
    simp only [zint_Add_r3, E2, Nat.reduceLeDiff, Nat.reduceSub, Nat.reduceAdd, Nat.reduceEqDiff, reduceCtorEq, ↓reduceIte]
    refine (natcmp_pure a b ha hb).acall ?_
    simp only [E2, Nat.reduceLeDiff, Nat.reduceSub, Nat.reduceAdd, Nat.reduceEqDiff, reduceCtorEq, ↓reduceIte, cmpI_lt, cmpI_ge]
    refine Safe.cond ?_
    simp only [E2, Nat.reduceLeDiff, Nat.reduceSub, Nat.reduceAdd, Nat.reduceEqDiff, reduceCtorEq, ↓reduceIte]
    by_cases hlt : val a < val b
    · simp only [hlt, E2, Nat.reduceLeDiff, Nat.reduceSub, Nat.reduceAdd, Nat.reduceEqDiff, reduceCtorEq, ↓reduceIte]
      refine Safe.region ?_
      simp only [zint_Add_r4, E2, Nat.reduceLeDiff, Nat.reduceSub, Nat.reduceAdd, Nat.reduceEqDiff, reduceCtorEq, ↓reduceIte]
      refine Safe.seq (Safe.region ?_)
      simp only [zint_Add_r5, E2, Nat.reduceLeDiff, Nat.reduceSub, Nat.reduceAdd, Nat.reduceEqDiff, reduceCtorEq, ↓reduceIte]
      refine (natsub_pure b a hb ha (by omega)).acall ?_
      simp only [E2, Nat.reduceLeDiff, Nat.reduceSub, Nat.reduceAdd, Nat.reduceEqDiff, reduceCtorEq, ↓reduceIte]
      refine Safe.seq (Safe.region ?_)
      simp only [zint_Add_r6, E2, Nat.reduceLeDiff, Nat.reduceSub, Nat.reduceAdd, Nat.reduceEqDiff, reduceCtorEq, ↓reduceIte]
      refine (made_pure _ _ (hle (val b - val a) (by omega))).acall ?_
      rw [val_limbs, sgn_sub' n m _ _ hnm (by omega)]
      simp only [Z, E2, Nat.reduceLeDiff, Nat.reduceSub, Nat.reduceAdd, Nat.reduceEqDiff, reduceCtorEq, ↓reduceIte]
      refine Safe.retn ?_
      simp only [E2, Nat.reduceLeDiff, Nat.reduceSub, Nat.reduceAdd, Nat.reduceEqDiff, reduceCtorEq, ↓reduceIte]
      first | exact ⟨rfl, _, rfl⟩ | exact ⟨_, rfl⟩ | exact ⟨trivial, _, rfl⟩
    · simp only [hlt, E2, Nat.reduceLeDiff, Nat.reduceSub, Nat.reduceAdd, Nat.reduceEqDiff, reduceCtorEq, ↓reduceIte]
      refine Safe.skip (Safe.seq (Safe.region ?_))
      simp only [zint_Add_r5, E2, Nat.reduceLeDiff, Nat.reduceSub, Nat.reduceAdd, Nat.reduceEqDiff, reduceCtorEq, ↓reduceIte]
      refine (natsub_pure a b ha hb (by omega)).acall ?_
      simp only [E2, Nat.reduceLeDiff, Nat.reduceSub, Nat.reduceAdd, Nat.reduceEqDiff, reduceCtorEq, ↓reduceIte]
      refine Safe.seq (Safe.region ?_)
      simp only [zint_Add_r6, E2, Nat.reduceLeDiff, Nat.reduceSub, Nat.reduceAdd, Nat.reduceEqDiff, reduceCtorEq, ↓reduceIte]
      refine (made_pure _ _ (hle (val a - val b) (by omega))).acall ?_
      rw [val_limbs, sgn_sub n m _ _ hnm (by omega)]
      simp only [Z, E2, Nat.reduceLeDiff, Nat.reduceSub, Nat.reduceAdd, Nat.reduceEqDiff, reduceCtorEq, ↓reduceIte]
      refine Safe.retn ?_
      simp only [E2, Nat.reduceLeDiff, Nat.reduceSub, Nat.reduceAdd, Nat.reduceEqDiff, reduceCtorEq, ↓reduceIte]
      first | exact ⟨rfl, _, rfl⟩ | exact ⟨_, rfl⟩ | exact ⟨trivial, _, rfl⟩

theorem zsub_pure (x y : ZI) (k : Nat) (hx : Zok k x) (hy : Zok k y) (hk : k < 17592186044416) : PureC Pr F_zint_Sub [x.av, y.av] (Z (x.z - y.z)) := by
  have hadd := zadd_pure x (canZ (-y.z)) k hx (zok_can (by rw [Int.natAbs_neg]; exact hy.abs)) hk
  rw [canZ_z, canZ_av] at hadd
  have hneg := zneg_pure y (hy.mono (by omega))
  obtain ⟨n, a⟩ := x
  obtain ⟨m, b⟩ := y
  simp only [ZI.av] at hadd hneg ⊢
  refine PureC.intro zint_Sub_fn zint_Sub_ok (by simp only [List.length_cons, List.length_nil]; omega) (Z_cl _) fun H hH => ?_
  refine Safe.seq (Safe.region ?_)
  simp only [zint_Sub_r0, E2, Nat.reduceLeDiff, Nat.reduceSub, Nat.reduceAdd, Nat.reduceEqDiff, reduceCtorEq, ↓reduceIte]
  refine Safe.seq (Safe.regionD ?_)
  simp only [zint_Sub_r1, E2, Nat.reduceLeDiff, Nat.reduceSub, Nat.reduceAdd, Nat.reduceEqDiff, reduceCtorEq, ↓reduceIte]
  refine hneg.dcall ?_
  try simp only [E2, Nat.reduceLeDiff, Nat.reduceSub, Nat.reduceAdd, Nat.reduceEqDiff, reduceCtorEq, ↓reduceIte]
  refine hadd.dcall ?_
  rw [← Int.sub_eq_add_neg]
  simp only [Z, E2, Nat.reduceLeDiff, Nat.reduceSub, Nat.reduceAdd, Nat.reduceEqDiff, reduceCtorEq, ↓reduceIte]
  refine Safe.retn ?_
  simp only [E2, Nat.reduceLeDiff, Nat.reduceSub, Nat.reduceAdd, Nat.reduceEqDiff, reduceCtorEq, ↓reduceIte]
  first | exact ⟨rfl, _, rfl⟩ | exact ⟨_, rfl⟩ | exact ⟨trivial, _, rfl⟩

theorem zof_pure (n : Int) (h0 : -9223372036854775808 ≤ n) (h1 : n < 9223372036854775808) : PureC Pr F_zint_Of [.int .i64 n] (Z n) := by
  refine PureC.intro zint_Of_fn zint_Of_ok (by simp only [List.length_cons, List.length_nil]; omega) (Z_cl _) fun H hH => ?_
  have hLB : LB = 4294967296 := rfl
  refine Safe.seq (Safe.region ?_)
  simp only [zint_Of_r0, E2, Nat.reduceLeDiff, Nat.reduceSub, Nat.reduceAdd, Nat.reduceEqDiff, reduceCtorEq, ↓reduceIte]
  refine Safe.seq (Safe.region ?_)
  simp only [zint_Of_r1, E2, Nat.reduceLeDiff, Nat.reduceSub, Nat.reduceAdd, Nat.reduceEqDiff, reduceCtorEq, ↓reduceIte]
  refine Safe.seq (Safe.seq (Safe.region ?_))
  simp only [zint_Of_r2, E2, Nat.reduceLeDiff, Nat.reduceSub, Nat.reduceAdd, Nat.reduceEqDiff, reduceCtorEq, ↓reduceIte]
  refine Safe.cond ?_
  simp only [E2, Nat.reduceLeDiff, Nat.reduceSub, Nat.reduceAdd, Nat.reduceEqDiff, reduceCtorEq, ↓reduceIte]
  have rest : ∀ (env : Env), look env 0 = .int .i64 n → look env 2 = .loc (lid H 0) 0 0 → look env 3 = .int .u64 (n.natAbs : Nat) →
      Safe ⟨Pr, fun _ _ => false, F_zint_Of, 19, [.cell 2 (some 2)], H.length⟩ [.code ((ACode.region zint_Of_r4 false).seq .ret)] env (hap H [some ⟨2, [.agg [.bool false, .nil]]⟩]) fun r' H' => r' = Z n ∧ ∃ L, H' = hap H L := by
    intro env e0 e2 e3
    refine Safe.seq (Safe.region ?_)
    have w1 : IntKind.wrap .u32 ((n.natAbs : Nat) : Int) = ((n.natAbs % LB : Nat) : Int) := wrap_u32_mod _
    have hLL : LB * LB = 18446744073709551616 := by decide
    have hdiv : n.natAbs / LB < LB := Nat.div_lt_of_lt_mul (by omega)
    have w2 : IntKind.wrap .u32 ((n.natAbs / LB : Nat) : Int) = ((n.natAbs / LB : Nat) : Int) := wrap_u32 (Int.natCast_nonneg _) (by omega)
    simp only [zint_Of_r4, E2, Nat.reduceLeDiff, Nat.reduceSub, Nat.reduceAdd, Nat.reduceEqDiff, reduceCtorEq, ↓reduceIte, e0, e3, e2, w1, shBin_shr _ _ _ (show (0 : Int) ≤ 32 by decide), shr32, w2]
    have hm := Nat.mod_lt n.natAbs (show 0 < LB by decide)
    have := made_pure (decide (n < 0)) [n.natAbs % LB, n.natAbs / LB] ⟨by intro d hd; simp at hd; omega, by simp⟩
    have hv : val [n.natAbs % LB, n.natAbs / LB] = n.natAbs := by
      simp only [val]; rw [Nat.mul_zero, Nat.add_zero, Nat.mod_add_div]
    rw [hv, show sgn (decide (n < 0)) n.natAbs = n by unfold sgn; by_cases h : n < 0 <;> simp [h] <;> omega] at this
    refine PureC.acall this ?_
    simp only [Z, E2, Nat.reduceLeDiff, Nat.reduceSub, Nat.reduceAdd, Nat.reduceEqDiff, reduceCtorEq, ↓reduceIte, e2]
    refine Safe.retn ?_
    simp only [E2, Nat.reduceLeDiff, Nat.reduceSub, Nat.reduceAdd, Nat.reduceEqDiff, reduceCtorEq, ↓reduceIte, e2]
    first | exact ⟨rfl, _, rfl⟩ | exact ⟨_, rfl⟩ | exact ⟨trivial, _, rfl⟩
  by_cases hn : n < 0
  · simp only [hn, E2, Nat.reduceLeDiff, Nat.reduceSub, Nat.reduceAdd, Nat.reduceEqDiff, reduceCtorEq, ↓reduceIte]
    refine Safe.region ?_
    have w : IntKind.wrap .u64 (0 - IntKind.wrap .u64 n) = ((n.natAbs : Nat) : Int) := by rw [wrap_u64_mod, wrap_u64_mod]; omega
    simp only [zint_Of_r3, E2, Nat.reduceLeDiff, Nat.reduceSub, Nat.reduceAdd, Nat.reduceEqDiff, reduceCtorEq, ↓reduceIte, w]
    exact rest _ (by simp only [E2, Nat.reduceLeDiff, Nat.reduceSub, Nat.reduceAdd, Nat.reduceEqDiff, reduceCtorEq, ↓reduceIte]) (by simp only [E2, Nat.reduceLeDiff, Nat.reduceSub, Nat.reduceAdd, Nat.reduceEqDiff, reduceCtorEq, ↓reduceIte]) (by simp only [E2, Nat.reduceLeDiff, Nat.reduceSub, Nat.reduceAdd, Nat.reduceEqDiff, reduceCtorEq, ↓reduceIte])
  · have w : IntKind.wrap .u64 n = ((n.natAbs : Nat) : Int) := by rw [wrap_u64_mod]; omega
    simp only [hn, E2, Nat.reduceLeDiff, Nat.reduceSub, Nat.reduceAdd, Nat.reduceEqDiff, reduceCtorEq, ↓reduceIte]
    exact Safe.skip (rest _ (by simp only [E2, Nat.reduceLeDiff, Nat.reduceSub, Nat.reduceAdd, Nat.reduceEqDiff, reduceCtorEq, ↓reduceIte]) (by simp only [E2, Nat.reduceLeDiff, Nat.reduceSub, Nat.reduceAdd, Nat.reduceEqDiff, reduceCtorEq, ↓reduceIte]) (by simp only [E2, Nat.reduceLeDiff, Nat.reduceSub, Nat.reduceAdd, Nat.reduceEqDiff, reduceCtorEq, ↓reduceIte, w]))

theorem sign_sgn (n : Bool) (a : Nat) : (sgn n a).sign = if a = 0 then 0 else if n then -1 else 1 := by
  rcases Nat.eq_zero_or_pos a with h | h
  · subst h; simp [sgn_zero]
  · rw [if_neg (by omega)]
    cases n
    · simp only [sgn, Bool.false_eq_true, if_false]
      exact Int.sign_eq_one_of_pos (by omega)
    · simp only [sgn, if_true]
      exact Int.sign_eq_neg_one_of_neg (by omega)
theorem blen_eq_zero (n : Nat) : ((blen n : Nat) : Int) = 0 ↔ n = 0 := by
  unfold blen
  split
  · rename_i h; simp [h]
  · rename_i h; simp [h]; omega
theorem limbs_len_zero (n : Nat) : (((limbs n).length : Nat) : Int) = 0 ↔ n = 0 := by
  constructor
  · intro h
    have : limbs n = [] := List.length_eq_zero_iff.1 (by omega)
    have := congrArg val this
    rwa [val_limbs] at this
  · intro h; rw [h, limbs_zero]; rfl

theorem zsign_pure (x : ZI) (hx : Zok 17592186044416 x) : PureC Pr F_zint_Sign [x.av] (.int .i64 x.z.sign) := by
  obtain ⟨n, m⟩ := x
  have hm : Nt m := ⟨hx.lim, hx.len⟩
  simp only [ZI.av, ZI.z, sign_sgn]
  refine PureC.intro zint_Sign_fn zint_Sign_ok (by simp only [List.length_cons, List.length_nil]; omega) (.int _ _) fun H hH => ?_
  refine Safe.seq (Safe.region ?_)
  simp only [zint_Sign_r0, E2, Nat.reduceLeDiff, Nat.reduceSub, Nat.reduceAdd, Nat.reduceEqDiff, reduceCtorEq, ↓reduceIte]
  refine Safe.seq (Safe.block (Safe.seq (Safe.region ?_)))
  simp only [zint_Sign_r1, E2, Nat.reduceLeDiff, Nat.reduceSub, Nat.reduceAdd, Nat.reduceEqDiff, reduceCtorEq, ↓reduceIte]
  refine (natbits_pure m hm).acall ?_
  simp only [E2, Nat.reduceLeDiff, Nat.reduceSub, Nat.reduceAdd, Nat.reduceEqDiff, reduceCtorEq, ↓reduceIte, blen_eq_zero]
  refine Safe.cond ?_
  simp only [E2, Nat.reduceLeDiff, Nat.reduceSub, Nat.reduceAdd, Nat.reduceEqDiff, reduceCtorEq, ↓reduceIte]
  by_cases h0 : val m = 0
  · simp only [h0, E2, Nat.reduceLeDiff, Nat.reduceSub, Nat.reduceAdd, Nat.reduceEqDiff, reduceCtorEq, ↓reduceIte]
    refine Safe.seq (Safe.region ?_)
    simp only [zint_Sign_r2, E2, Nat.reduceLeDiff, Nat.reduceSub, Nat.reduceAdd, Nat.reduceEqDiff, reduceCtorEq, ↓reduceIte]
    refine Safe.retn ?_
    simp only [E2, Nat.reduceLeDiff, Nat.reduceSub, Nat.reduceAdd, Nat.reduceEqDiff, reduceCtorEq, ↓reduceIte]
    first | exact ⟨rfl, _, rfl⟩ | exact ⟨_, rfl⟩ | exact ⟨trivial, _, rfl⟩
  · simp only [h0, E2, Nat.reduceLeDiff, Nat.reduceSub, Nat.reduceAdd, Nat.reduceEqDiff, reduceCtorEq, ↓reduceIte]
    refine Safe.seq (Safe.region ?_)
    simp only [zint_Sign_r3, E2, Nat.reduceLeDiff, Nat.reduceSub, Nat.reduceAdd, Nat.reduceEqDiff, reduceCtorEq, ↓reduceIte]
    refine Safe.cond ?_
    simp only [E2, Nat.reduceLeDiff, Nat.reduceSub, Nat.reduceAdd, Nat.reduceEqDiff, reduceCtorEq, ↓reduceIte]
    cases n
    · simp only [E2, Nat.reduceLeDiff, Nat.reduceSub, Nat.reduceAdd, Nat.reduceEqDiff, reduceCtorEq, ↓reduceIte]
      refine Safe.skip (Safe.inBlock (Safe.seq (Safe.region ?_)))
      simp only [zint_Sign_r5, E2, Nat.reduceLeDiff, Nat.reduceSub, Nat.reduceAdd, Nat.reduceEqDiff, reduceCtorEq, ↓reduceIte]
      refine Safe.retn ?_
      simp only [E2, Nat.reduceLeDiff, Nat.reduceSub, Nat.reduceAdd, Nat.reduceEqDiff, reduceCtorEq, ↓reduceIte]
      first | exact ⟨rfl, _, rfl⟩ | exact ⟨_, rfl⟩ | exact ⟨trivial, _, rfl⟩
    · simp only [E2, Nat.reduceLeDiff, Nat.reduceSub, Nat.reduceAdd, Nat.reduceEqDiff, reduceCtorEq, ↓reduceIte]
      refine Safe.seq (Safe.region ?_)
      simp only [zint_Sign_r4, E2, Nat.reduceLeDiff, Nat.reduceSub, Nat.reduceAdd, Nat.reduceEqDiff, reduceCtorEq, ↓reduceIte]
      refine Safe.retn ?_
      simp only [E2, Nat.reduceLeDiff, Nat.reduceSub, Nat.reduceAdd, Nat.reduceEqDiff, reduceCtorEq, ↓reduceIte]
      first | exact ⟨rfl, _, rfl⟩ | exact ⟨_, rfl⟩ | exact ⟨trivial, _, rfl⟩

theorem r2sign_pure (x : ZI) (hx : Zok 17592186044416 x) : PureC Pr F_ref02_Sign [x.av] (.int .i64 x.z.sign) := by
  obtain ⟨n, m⟩ := x
  have hm : Nt m := ⟨hx.lim, hx.len⟩
  simp only [ZI.av, ZI.z, sign_sgn]
  refine PureC.intro ref02_Sign_fn ref02_Sign_ok (by simp only [List.length_cons, List.length_nil]; omega) (.int _ _) fun H hH => ?_
  refine Safe.seq (Safe.region ?_)
  simp only [ref02_Sign_r0, E2, Nat.reduceLeDiff, Nat.reduceSub, Nat.reduceAdd, Nat.reduceEqDiff, reduceCtorEq, ↓reduceIte]
  refine Safe.seq (Safe.region ?_)
  simp only [ref02_Sign_r1, E2, Nat.reduceLeDiff, Nat.reduceSub, Nat.reduceAdd, Nat.reduceEqDiff, reduceCtorEq, ↓reduceIte]
  refine (refnorm_pure m hm).acall ?_
  try simp only [E2, Nat.reduceLeDiff, Nat.reduceSub, Nat.reduceAdd, Nat.reduceEqDiff, reduceCtorEq, ↓reduceIte]
  refine Safe.seq (Safe.block (Safe.seq (Safe.region ?_)))
  simp only [ref02_Sign_r2, E2, Nat.reduceLeDiff, Nat.reduceSub, Nat.reduceAdd, Nat.reduceEqDiff, reduceCtorEq, ↓reduceIte, limbs_len_zero]
  refine Safe.cond ?_
  simp only [E2, Nat.reduceLeDiff, Nat.reduceSub, Nat.reduceAdd, Nat.reduceEqDiff, reduceCtorEq, ↓reduceIte]
  by_cases h0 : val m = 0
  · simp only [h0, E2, Nat.reduceLeDiff, Nat.reduceSub, Nat.reduceAdd, Nat.reduceEqDiff, reduceCtorEq, ↓reduceIte]
    refine Safe.seq (Safe.region ?_)
    simp only [ref02_Sign_r3, E2, Nat.reduceLeDiff, Nat.reduceSub, Nat.reduceAdd, Nat.reduceEqDiff, reduceCtorEq, ↓reduceIte]
    refine Safe.retn ?_
    simp only [E2, Nat.reduceLeDiff, Nat.reduceSub, Nat.reduceAdd, Nat.reduceEqDiff, reduceCtorEq, ↓reduceIte]
    first | exact ⟨rfl, _, rfl⟩ | exact ⟨_, rfl⟩ | exact ⟨trivial, _, rfl⟩
  · simp only [h0, E2, Nat.reduceLeDiff, Nat.reduceSub, Nat.reduceAdd, Nat.reduceEqDiff, reduceCtorEq, ↓reduceIte]
    refine Safe.seq (Safe.region ?_)
    simp only [ref02_Sign_r4, E2, Nat.reduceLeDiff, Nat.reduceSub, Nat.reduceAdd, Nat.reduceEqDiff, reduceCtorEq, ↓reduceIte]
    refine Safe.cond ?_
    simp only [E2, Nat.reduceLeDiff, Nat.reduceSub, Nat.reduceAdd, Nat.reduceEqDiff, reduceCtorEq, ↓reduceIte]
    cases n
    · simp only [E2, Nat.reduceLeDiff, Nat.reduceSub, Nat.reduceAdd, Nat.reduceEqDiff, reduceCtorEq, ↓reduceIte]
      refine Safe.skip (Safe.inBlock (Safe.seq (Safe.region ?_)))
      simp only [ref02_Sign_r6, E2, Nat.reduceLeDiff, Nat.reduceSub, Nat.reduceAdd, Nat.reduceEqDiff, reduceCtorEq, ↓reduceIte]
      refine Safe.retn ?_
      simp only [E2, Nat.reduceLeDiff, Nat.reduceSub, Nat.reduceAdd, Nat.reduceEqDiff, reduceCtorEq, ↓reduceIte]
      first | exact ⟨rfl, _, rfl⟩ | exact ⟨_, rfl⟩ | exact ⟨trivial, _, rfl⟩
    · simp only [E2, Nat.reduceLeDiff, Nat.reduceSub, Nat.reduceAdd, Nat.reduceEqDiff, reduceCtorEq, ↓reduceIte]
      refine Safe.seq (Safe.region ?_)
      simp only [ref02_Sign_r5, E2, Nat.reduceLeDiff, Nat.reduceSub, Nat.reduceAdd, Nat.reduceEqDiff, reduceCtorEq, ↓reduceIte]
      refine Safe.retn ?_
      simp only [E2, Nat.reduceLeDiff, Nat.reduceSub, Nat.reduceAdd, Nat.reduceEqDiff, reduceCtorEq, ↓reduceIte]
      first | exact ⟨rfl, _, rfl⟩ | exact ⟨_, rfl⟩ | exact ⟨trivial, _, rfl⟩

theorem r2cmp_pure (x y : ZI) (k : Nat) (hx : Zok k x) (hy : Zok k y) (hk : k < 17592186044416) : PureC Pr F_ref02_Cmp [x.av, y.av] (.int .i64 (x.z - y.z).sign) := by
  have hsub := r2sub_pure x y k hx hy hk
  have hsgn := r2sign_pure (canZ (x.z - y.z)) ((zok_can (k := k + 1) (by
    have h1 := hx.abs
    have h2 := hy.abs
    have h3 : (x.z - y.z).natAbs ≤ x.z.natAbs + y.z.natAbs := Int.natAbs_sub_le _ _
    have h4 : LB ^ k * 2 ≤ LB ^ k * LB := Nat.mul_le_mul_left _ (by decide)
    have h5 : LB ^ k * LB = LB ^ (k + 1) := (Nat.pow_succ ..).symm
    omega)).mono (by omega))
  rw [canZ_z, canZ_av] at hsgn
  obtain ⟨n, a⟩ := x
  obtain ⟨m, b⟩ := y
  simp only [ZI.av] at hsub ⊢
  refine PureC.intro ref02_Cmp_fn ref02_Cmp_ok (by simp only [List.length_cons, List.length_nil]; omega) (.int _ _) fun H hH => ?_
  refine Safe.seq (Safe.region ?_)
  simp only [ref02_Cmp_r0, E2, Nat.reduceLeDiff, Nat.reduceSub, Nat.reduceAdd, Nat.reduceEqDiff, reduceCtorEq, ↓reduceIte]
  refine Safe.seq (Safe.region ?_)
  simp only [ref02_Cmp_r1, E2, Nat.reduceLeDiff, Nat.reduceSub, Nat.reduceAdd, Nat.reduceEqDiff, reduceCtorEq, ↓reduceIte]
  refine hsub.acall ?_
  try simp only [E2, Nat.reduceLeDiff, Nat.reduceSub, Nat.reduceAdd, Nat.reduceEqDiff, reduceCtorEq, ↓reduceIte]
  refine hsgn.acall ?_
  try simp only [E2, Nat.reduceLeDiff, Nat.reduceSub, Nat.reduceAdd, Nat.reduceEqDiff, reduceCtorEq, ↓reduceIte]
  refine Safe.retn ?_
  simp only [E2, Nat.reduceLeDiff, Nat.reduceSub, Nat.reduceAdd, Nat.reduceEqDiff, reduceCtorEq, ↓reduceIte]
  first | exact ⟨rfl, _, rfl⟩ | exact ⟨_, rfl⟩ | exact ⟨trivial, _, rfl⟩

theorem sgn_pos {n : Bool} {a : Nat} (h : 0 < sgn n a) : sgn n a = a := by
  cases n
  · rfl
  · exfalso; simp only [sgn, if_true] at h; omega
theorem sgn_neg {n : Bool} {a : Nat} (h : sgn n a < 0) : sgn n a = -(a : Int) := by
  cases n
  · exfalso; simp only [sgn, Bool.false_eq_true, if_false] at h; omega
  · rfl

theorem zcmp_pure (x y : ZI) (hx : Zok 17592186044416 x) (hy : Zok 17592186044416 y) : PureC Pr F_zint_Compare [x.av, y.av] (.int .i64 (x.z - y.z).sign) := by
  have sx := zsign_pure x hx
  have sy := zsign_pure y hy
  obtain ⟨n, a⟩ := x
  obtain ⟨m, b⟩ := y
  have ha : Nt a := ⟨hx.lim, hx.len⟩
  have hb : Nt b := ⟨hy.lim, hy.len⟩
  simp only [ZI.av] at sx sy ⊢
  refine PureC.intro zint_Compare_fn zint_Compare_ok (by simp only [List.length_cons, List.length_nil]; omega) (.int _ _) fun H hH => ?_
  refine Safe.seq (Safe.region ?_)
  simp only [zint_Compare_r0, E2, Nat.reduceLeDiff, Nat.reduceSub, Nat.reduceAdd, Nat.reduceEqDiff, reduceCtorEq, ↓reduceIte]
  refine Safe.seq (Safe.regionD ?_)
  simp only [zint_Compare_r1, E2, Nat.reduceLeDiff, Nat.reduceSub, Nat.reduceAdd, Nat.reduceEqDiff, reduceCtorEq, ↓reduceIte]
  refine sx.dcall ?_
  try simp only [E2, Nat.reduceLeDiff, Nat.reduceSub, Nat.reduceAdd, Nat.reduceEqDiff, reduceCtorEq, ↓reduceIte]
  refine sy.dcall ?_
  try simp only [E2, Nat.reduceLeDiff, Nat.reduceSub, Nat.reduceAdd, Nat.reduceEqDiff, reduceCtorEq, ↓reduceIte]
  refine Safe.seq (Safe.block (Safe.seq (Safe.region ?_)))
  simp only [zint_Compare_r2, E2, Nat.reduceLeDiff, Nat.reduceSub, Nat.reduceAdd, Nat.reduceEqDiff, reduceCtorEq, ↓reduceIte]
  refine Safe.cond ?_
  simp only [E2, Nat.reduceLeDiff, Nat.reduceSub, Nat.reduceAdd, Nat.reduceEqDiff, reduceCtorEq, ↓reduceIte]
  simp only [ZI.z]
  have dx : (sgn n (val a)).sign = 0 ∧ sgn n (val a) = 0 ∨ (sgn n (val a)).sign = 1 ∧ 0 < sgn n (val a) ∨ (sgn n (val a)).sign = -1 ∧ sgn n (val a) < 0 := by
    rcases Int.lt_trichotomy (sgn n (val a)) 0 with h | h | h
    · exact .inr (.inr ⟨Int.sign_eq_neg_one_of_neg h, h⟩)
    · exact .inl ⟨by rw [h]; rfl, h⟩
    · exact .inr (.inl ⟨Int.sign_eq_one_of_pos h, h⟩)
  have dy : (sgn m (val b)).sign = 0 ∧ sgn m (val b) = 0 ∨ (sgn m (val b)).sign = 1 ∧ 0 < sgn m (val b) ∨ (sgn m (val b)).sign = -1 ∧ sgn m (val b) < 0 := by
    rcases Int.lt_trichotomy (sgn m (val b)) 0 with h | h | h
    · exact .inr (.inr ⟨Int.sign_eq_neg_one_of_neg h, h⟩)
    · exact .inl ⟨by rw [h]; rfl, h⟩
    · exact .inr (.inl ⟨Int.sign_eq_one_of_pos h, h⟩)
  by_cases h1 : (sgn n (val a)).sign < (sgn m (val b)).sign
  · simp only [h1, E2, Nat.reduceLeDiff, Nat.reduceSub, Nat.reduceAdd, Nat.reduceEqDiff, reduceCtorEq, ↓reduceIte]
    refine Safe.seq (Safe.region ?_)
    simp only [zint_Compare_r3, E2, Nat.reduceLeDiff, Nat.reduceSub, Nat.reduceAdd, Nat.reduceEqDiff, reduceCtorEq, ↓reduceIte]
    refine Safe.retn ?_
    simp only [E2, Nat.reduceLeDiff, Nat.reduceSub, Nat.reduceAdd, Nat.reduceEqDiff, reduceCtorEq, ↓reduceIte]
    refine ⟨?_, _, rfl⟩
    rw [Int.sign_eq_neg_one_of_neg (by omega)]
  · simp only [h1, E2, Nat.reduceLeDiff, Nat.reduceSub, Nat.reduceAdd, Nat.reduceEqDiff, reduceCtorEq, ↓reduceIte]
    refine Safe.seq (Safe.region ?_)
    simp only [zint_Compare_r4, E2, Nat.reduceLeDiff, Nat.reduceSub, Nat.reduceAdd, Nat.reduceEqDiff, reduceCtorEq, ↓reduceIte]
    refine Safe.cond ?_
    simp only [E2, Nat.reduceLeDiff, Nat.reduceSub, Nat.reduceAdd, Nat.reduceEqDiff, reduceCtorEq, ↓reduceIte]
    by_cases h2 : (sgn m (val b)).sign < (sgn n (val a)).sign
    · simp only [h2, E2, Nat.reduceLeDiff, Nat.reduceSub, Nat.reduceAdd, Nat.reduceEqDiff, reduceCtorEq, ↓reduceIte]
      refine Safe.seq (Safe.region ?_)
      simp only [zint_Compare_r5, E2, Nat.reduceLeDiff, Nat.reduceSub, Nat.reduceAdd, Nat.reduceEqDiff, reduceCtorEq, ↓reduceIte]
      refine Safe.retn ?_
      simp only [E2, Nat.reduceLeDiff, Nat.reduceSub, Nat.reduceAdd, Nat.reduceEqDiff, reduceCtorEq, ↓reduceIte]
      refine ⟨?_, _, rfl⟩
      rw [Int.sign_eq_one_of_pos (by omega)]
    · simp only [h2, E2, Nat.reduceLeDiff, Nat.reduceSub, Nat.reduceAdd, Nat.reduceEqDiff, reduceCtorEq, ↓reduceIte]
      refine Safe.skip (Safe.inBlock (Safe.seq (Safe.region ?_)))
      simp only [zint_Compare_r6, E2, Nat.reduceLeDiff, Nat.reduceSub, Nat.reduceAdd, Nat.reduceEqDiff, reduceCtorEq, ↓reduceIte]
      refine (natcmp_pure a b ha hb).acall ?_
      have hs : (sgn n (val a)).sign = (sgn m (val b)).sign := by omega
      have key : IntKind.wrap .i64 ((sgn n (val a)).sign * cmpI (val a) (val b)) = (sgn n (val a) - sgn m (val b)).sign := by
        have hc : cmpI (val a) (val b) = -1 ∧ val a < val b ∨ cmpI (val a) (val b) = 1 ∧ val b < val a ∨ cmpI (val a) (val b) = 0 ∧ val a = val b := by
          unfold cmpI
          split
          · exact .inl ⟨rfl, by assumption⟩
          · split
            · exact .inr (.inl ⟨rfl, by assumption⟩)
            · exact .inr (.inr ⟨rfl, by omega⟩)
        rcases dx with ⟨e1, e2⟩ | ⟨e1, e2⟩ | ⟨e1, e2⟩ <;> rcases dy with ⟨f1, f2⟩ | ⟨f1, f2⟩ | ⟨f1, f2⟩ <;> try omega
        · rw [e1, e2, f2, Int.zero_mul]; rfl
        · have hx1 : sgn n (val a) = val a := sgn_pos e2
          have hy1 : sgn m (val b) = val b := sgn_pos f2
          rw [e1, hx1, hy1]
          rcases hc with ⟨c1, c2⟩ | ⟨c1, c2⟩ | ⟨c1, c2⟩
          · rw [c1, Int.sign_eq_neg_one_of_neg (by omega)]; rfl
          · rw [c1, Int.sign_eq_one_of_pos (by omega)]; rfl
          · rw [c1, c2, Int.sub_self]; rfl
        · have hx1 : sgn n (val a) = -(val a : Int) := sgn_neg e2
          have hy1 : sgn m (val b) = -(val b : Int) := sgn_neg f2
          rw [e1, hx1, hy1]
          rcases hc with ⟨c1, c2⟩ | ⟨c1, c2⟩ | ⟨c1, c2⟩
          · rw [c1, Int.sign_eq_one_of_pos (by omega)]; rfl
          · rw [c1, Int.sign_eq_neg_one_of_neg (by omega)]; rfl
          · rw [c1, c2, Int.sub_self]; rfl
      simp only [E2, Nat.reduceLeDiff, Nat.reduceSub, Nat.reduceAdd, Nat.reduceEqDiff, reduceCtorEq, ↓reduceIte, key]
      refine Safe.retn ?_
      simp only [E2, Nat.reduceLeDiff, Nat.reduceSub, Nat.reduceAdd, Nat.reduceEqDiff, reduceCtorEq, ↓reduceIte]
      first | exact ⟨rfl, _, rfl⟩ | exact ⟨_, rfl⟩ | exact ⟨trivial, _, rfl⟩

end Go.Abs

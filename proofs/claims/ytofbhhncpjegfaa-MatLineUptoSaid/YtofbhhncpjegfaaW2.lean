/- The walks: trammelref01. -/
import Derived.Test.YtofbhhncpjegfaaW1
set_option linter.unusedVariables false
set_option linter.unusedSimpArgs false
namespace Go.Abs

theorem refnorm_pure (l : List Nat) (hl : Nt l) : PureC Pr F_ref01_Norm [natV l] (natV (limbs (val l))) := by
  refine PureC.intro ref01_Norm_fn ref01_Norm_ok (by simp only [List.length_cons, List.length_nil]; omega) (natV_cl _) fun H hH => ?_
  have hll := hl.len
  refine Safe.seq (Safe.region ?_)
  simp only [ref01_Norm_r0, E1, Nat.reduceAdd, Nat.reduceEqDiff, reduceCtorEq, ↓reduceIte]
  refine Safe.seq (Safe.region ?_)
  simp only [ref01_Norm_r1, E1, Nat.reduceAdd, Nat.reduceEqDiff, reduceCtorEq, ↓reduceIte]
  refine Safe.seq (Safe.block (Safe.loop ?_))
  -- the copy
  have copy : ∀ (n : Nat), n ≤ l.length → limbs (val l) = l.take n → ∀ env : Env, look env 0 = natV l → look env 3 = .int .i64 n →
      Safe ⟨Pr, fun _ _ => false, F_ref01_Norm, 33, [.tmp 2], H.length⟩ [.code ((ACode.region ref01_Norm_r4 false).seq (((ACode.region ref01_Norm_r5 false).seq (.block 2 (.loop ref01_Norm_l1))).seq ((ACode.region ref01_Norm_r9 false).seq .ret)))]
        env (hap H []) fun r' H' => r' = natV (limbs (val l)) ∧ ∃ L, H' = hap H L := by
    intro n hn hlim env e0 e3
    refine Safe.seq (Safe.region ?_)
    simp only [ref01_Norm_r4, E1, Nat.reduceAdd, Nat.reduceEqDiff, reduceCtorEq, ↓reduceIte]
    refine Safe.seq (Safe.seq (Safe.region ?_))
    simp only [ref01_Norm_r5, E1, Nat.reduceAdd, Nat.reduceEqDiff, reduceCtorEq, ↓reduceIte]
    refine Safe.nilrow 4 1 (by decide) (by simp only [E1, Nat.reduceAdd, Nat.reduceEqDiff, reduceCtorEq, ↓reduceIte]) ?_
    refine Safe.block (Safe.loop ?_)
    have key : ∀ (k i : Nat), i + k = n → Safe ⟨Pr, fun _ _ => false, F_ref01_Norm, 33, [.tmp 2], H.length⟩ [.inLoop ref01_Norm_l1, .inBlock 2, .code ((ACode.region ref01_Norm_r9 false).seq .ret)]
        [(0, natV l), (3, .int .i64 n), (4, .mu (lid H 0) 0 (l.take i).length none), (5, .int .i64 i)] (hap H [some ⟨1, u32s (l.take i)⟩]) fun r' H' => r' = natV (limbs (val l)) ∧ ∃ L, H' = hap H L := by
      intro k
      induction k with
      | zero =>
        intro i hi
        have hi : i = n := by omega
        subst hi
        refine Safe.inLoop (Safe.seq (Safe.seq (Safe.region ?_)))
        simp only [ref01_Norm_r6, E1, Nat.reduceAdd, Nat.reduceEqDiff, reduceCtorEq, ↓reduceIte, Int.lt_irrefl]
        refine Safe.cond ?_
        simp only [E1, Nat.reduceAdd, Nat.reduceEqDiff, reduceCtorEq, ↓reduceIte]
        refine Safe.exit rfl ?_
        refine Safe.freeze 0 (b := ⟨1, u32s (l.take i)⟩) hH rfl rfl (blk_u32 _) ?_
        refine Safe.seq (Safe.region ?_)
        simp only [ref01_Norm_r9, E1, Nat.reduceAdd, Nat.reduceEqDiff, reduceCtorEq, ↓reduceIte]
        refine Safe.retn ?_
        simp only [E1, Nat.reduceAdd, Nat.reduceEqDiff, reduceCtorEq, ↓reduceIte, hlim]
        first | exact ⟨rfl, _, rfl⟩ | exact ⟨_, rfl⟩ | exact ⟨trivial, _, rfl⟩
      | succ k ih =>
        intro i hi
        refine Safe.inLoop (Safe.seq (Safe.seq (Safe.region ?_)))
        have hlt : (i : Int) < (n : Int) := by omega
        simp only [ref01_Norm_r6, E1, Nat.reduceAdd, Nat.reduceEqDiff, reduceCtorEq, ↓reduceIte, hlt]
        refine Safe.cond ?_
        simp only [E1, Nat.reduceAdd, Nat.reduceEqDiff, reduceCtorEq, ↓reduceIte]
        refine Safe.skip (Safe.seq (Safe.block (Safe.region ?_)))
        simp only [ref01_Norm_r7, E1, Nat.reduceAdd, Nat.reduceEqDiff, reduceCtorEq, ↓reduceIte, natV_idx _ l _ i (by omega), one_app H hH _ (lid_ge H 0) _ (l.take i) (l.getD i 0) (by rw [List.length_take]; omega)]
        refine Safe.inBlock (Safe.region ?_)
        have hiw : IntKind.wrap .i64 ((i : Int) + 1) = ((i + 1 : Nat) : Int) := by rw [wrap_i64] <;> omega
        simp only [ref01_Norm_r8, E1, Nat.reduceAdd, Nat.reduceEqDiff, reduceCtorEq, ↓reduceIte, hiw]
        refine Safe.keep [0, 3, 4, 5] ?_
        simp only [E1, Nat.reduceAdd, Nat.reduceEqDiff, reduceCtorEq, ↓reduceIte, natV_nref]
        have := ih (i + 1) (by omega)
        rw [take_snoc (by omega)] at this
        simpa only [List.length_append, List.length_cons, List.length_nil] using this
    refine Safe.keep [0, 3, 4, 5] ?_
    simp only [E1, Nat.reduceAdd, Nat.reduceEqDiff, reduceCtorEq, ↓reduceIte, e0, e3]
    exact key n 0 (by omega)
  have key : ∀ (n : Nat), n ≤ l.length → val (l.take n) = val l → ∀ env : Env, look env 0 = natV l → look env 3 = .int .i64 n →
      Safe ⟨Pr, fun _ _ => false, F_ref01_Norm, 33, [.tmp 2], H.length⟩ [.inLoop ref01_Norm_l0, .inBlock 0, .code ((ACode.region ref01_Norm_r4 false).seq (((ACode.region ref01_Norm_r5 false).seq (.block 2 (.loop ref01_Norm_l1))).seq ((ACode.region ref01_Norm_r9 false).seq .ret)))]
        env (hap H []) fun r' H' => r' = natV (limbs (val l)) ∧ ∃ L, H' = hap H L := by
    intro n
    induction n with
    | zero =>
      intro hn hv env e0 e3
      refine Safe.inLoop (Safe.seq (Safe.seq (Safe.region ?_)))
      simp only [ref01_Norm_r2, E1, Nat.reduceAdd, Nat.reduceEqDiff, reduceCtorEq, ↓reduceIte, e0, e3, Int.natCast_zero, Int.lt_irrefl]
      refine Safe.cond ?_
      simp only [E1, Nat.reduceAdd, Nat.reduceEqDiff, reduceCtorEq, ↓reduceIte]
      refine Safe.exit rfl (copy 0 hn ?_ _ (by simp only [E1, Nat.reduceAdd, Nat.reduceEqDiff, reduceCtorEq, ↓reduceIte, e0]) (by simp only [E1, Nat.reduceAdd, Nat.reduceEqDiff, reduceCtorEq, ↓reduceIte, e3] <;> rfl))
      rw [← hv]; simp [val, limbs_zero]
    | succ n ih =>
      intro hn hv env e0 e3
      refine Safe.inLoop (Safe.seq (Safe.seq (Safe.region ?_)))
      have h0 : (0 : Int) < ((n + 1 : Nat) : Int) := by omega
      have hw : IntKind.wrap .i64 (((n + 1 : Nat) : Int) - 1) = (n : Int) := by rw [wrap_i64] <;> omega
      simp only [ref01_Norm_r2, E1, Nat.reduceAdd, Nat.reduceEqDiff, reduceCtorEq, ↓reduceIte, e0, e3, h0, hw, natV_idx _ l _ n (by omega)]
      refine Safe.cond ?_
      simp only [E1, Nat.reduceAdd, Nat.reduceEqDiff, reduceCtorEq, ↓reduceIte]
      by_cases hd : l.getD n 0 = 0
      · simp only [hd, Int.natCast_zero, E1, Nat.reduceAdd, Nat.reduceEqDiff, reduceCtorEq, ↓reduceIte]
        refine Safe.skip (Safe.block (Safe.region ?_))
        simp only [ref01_Norm_r3, E1, Nat.reduceAdd, Nat.reduceEqDiff, reduceCtorEq, ↓reduceIte, e3, hw]
        refine Safe.inBlock (ih (by omega) ?_ _ (by simp only [E1, Nat.reduceAdd, Nat.reduceEqDiff, reduceCtorEq, ↓reduceIte, e0]) (by simp only [E1, Nat.reduceAdd, Nat.reduceEqDiff, reduceCtorEq, ↓reduceIte]))
        rw [← hv, val_take_getD, hd]; simp
      · have hd' : ¬ (((l.getD n 0 : Nat) : Int) = 0) := by omega
        simp only [hd', E1, Nat.reduceAdd, Nat.reduceEqDiff, reduceCtorEq, ↓reduceIte]
        refine Safe.exit rfl (copy (n + 1) hn ?_ _ (by simp only [E1, Nat.reduceAdd, Nat.reduceEqDiff, reduceCtorEq, ↓reduceIte, e0]) (by simp only [E1, Nat.reduceAdd, Nat.reduceEqDiff, reduceCtorEq, ↓reduceIte, e3]))
        rw [← hv, limbs_val (hl.lim.take _)]
        rw [take_snoc (by omega)]; simpa using hd
  exact key l.length (Nat.le_refl _) (by rw [List.take_length]) _ (by simp only [E1, Nat.reduceAdd, Nat.reduceEqDiff, reduceCtorEq, ↓reduceIte]) (by simp only [E1, Nat.reduceAdd, Nat.reduceEqDiff, reduceCtorEq, ↓reduceIte])

theorem limb_pure (l : List Nat) (i : Nat) (hl : Lim l) (hb : l.length ≤ 17592186044416) : PureC Pr F_ref01_limb [natV l, .int .i64 i] (.int .u64 (l.getD i 0 : Nat)) := by
  refine PureC.intro ref01_limb_fn ref01_limb_ok (by simp only [List.length_cons, List.length_nil]; omega) (.int _ _) fun H hH => ?_
  have hd := getD_lt hl i
  have hLB : LB = 4294967296 := rfl
  refine Safe.seq (Safe.region ?_)
  simp only [ref01_limb_r0, E1, Nat.reduceAdd, Nat.reduceEqDiff, reduceCtorEq, ↓reduceIte]
  refine Safe.seq (Safe.seq (Safe.region ?_))
  simp only [ref01_limb_r1, E1, Nat.reduceAdd, Nat.reduceEqDiff, reduceCtorEq, ↓reduceIte]
  refine Safe.cond ?_
  simp only [E1, Nat.reduceAdd, Nat.reduceEqDiff, reduceCtorEq, ↓reduceIte]
  by_cases h : i < l.length
  · have h' : (i : Int) < (l.length : Int) := by omega
    simp only [h', E1, Nat.reduceAdd, Nat.reduceEqDiff, reduceCtorEq, ↓reduceIte]
    refine Safe.seq (Safe.region ?_)
    simp only [ref01_limb_r2, E1, Nat.reduceAdd, Nat.reduceEqDiff, reduceCtorEq, ↓reduceIte, natV_idx _ l _ i h, wrap_u64 (n := ((l.getD i 0 : Nat) : Int)) (by omega) (by omega)]
    refine Safe.retn ?_
    simp only [E1, Nat.reduceAdd, Nat.reduceEqDiff, reduceCtorEq, ↓reduceIte]
    first | exact ⟨rfl, _, rfl⟩ | exact ⟨_, rfl⟩ | exact ⟨trivial, _, rfl⟩
  · have h' : ¬ (i : Int) < (l.length : Int) := by omega
    simp only [h', E1, Nat.reduceAdd, Nat.reduceEqDiff, reduceCtorEq, ↓reduceIte]
    refine Safe.skip (Safe.seq (Safe.region ?_))
    simp only [ref01_limb_r3, E1, Nat.reduceAdd, Nat.reduceEqDiff, reduceCtorEq, ↓reduceIte]
    refine Safe.retn ?_
    simp only [E1, Nat.reduceAdd, Nat.reduceEqDiff, reduceCtorEq, ↓reduceIte]
    rw [getD_out (by omega)]
    first | exact ⟨rfl, _, rfl⟩ | exact ⟨_, rfl⟩ | exact ⟨trivial, _, rfl⟩

theorem most_pure (a b : Nat) : PureC Pr F_ref01_most [.int .i64 a, .int .i64 b] (.int .i64 (max a b : Nat)) := by
  refine PureC.intro ref01_most_fn ref01_most_ok (by simp only [List.length_cons, List.length_nil]; omega) (.int _ _) fun H hH => ?_
  refine Safe.seq (Safe.region ?_)
  simp only [ref01_most_r0, E1, Nat.reduceAdd, Nat.reduceEqDiff, reduceCtorEq, ↓reduceIte]
  refine Safe.seq (Safe.seq (Safe.region ?_))
  simp only [ref01_most_r1, E1, Nat.reduceAdd, Nat.reduceEqDiff, reduceCtorEq, ↓reduceIte]
  refine Safe.cond ?_
  simp only [E1, Nat.reduceAdd, Nat.reduceEqDiff, reduceCtorEq, ↓reduceIte]
  by_cases h : b < a
  · have h' : (b : Int) < (a : Int) := by omega
    simp only [h', E1, Nat.reduceAdd, Nat.reduceEqDiff, reduceCtorEq, ↓reduceIte]
    refine Safe.seq (Safe.region ?_)
    simp only [ref01_most_r2, E1, Nat.reduceAdd, Nat.reduceEqDiff, reduceCtorEq, ↓reduceIte]
    refine Safe.retn ?_
    simp only [E1, Nat.reduceAdd, Nat.reduceEqDiff, reduceCtorEq, ↓reduceIte]
    rw [Nat.max_eq_left (by omega)]
    first | exact ⟨rfl, _, rfl⟩ | exact ⟨_, rfl⟩ | exact ⟨trivial, _, rfl⟩
  · have h' : ¬ (b : Int) < (a : Int) := by omega
    simp only [h', E1, Nat.reduceAdd, Nat.reduceEqDiff, reduceCtorEq, ↓reduceIte]
    refine Safe.skip (Safe.seq (Safe.region ?_))
    simp only [ref01_most_r3, E1, Nat.reduceAdd, Nat.reduceEqDiff, reduceCtorEq, ↓reduceIte]
    refine Safe.retn ?_
    simp only [E1, Nat.reduceAdd, Nat.reduceEqDiff, reduceCtorEq, ↓reduceIte]
    rw [Nat.max_eq_right (by omega)]
    first | exact ⟨rfl, _, rfl⟩ | exact ⟨_, rfl⟩ | exact ⟨trivial, _, rfl⟩

theorem refcmp_pure (a b : List Nat) (ha : Nt a) (hb : Nt b) : PureC Pr F_ref01_Cmp [natV a, natV b] (.int .i64 (cmpI (val a) (val b))) := by
  refine PureC.intro ref01_Cmp_fn ref01_Cmp_ok (by simp only [List.length_cons, List.length_nil]; omega) (.int _ _) fun H hH => ?_
  have hal := ha.len
  have hbl := hb.len
  refine Safe.seq (Safe.region ?_)
  simp only [ref01_Cmp_r0, E1, Nat.reduceAdd, Nat.reduceEqDiff, reduceCtorEq, ↓reduceIte]
  refine Safe.seq (Safe.seq (Safe.region ?_))
  simp only [ref01_Cmp_r1, E1, Nat.reduceAdd, Nat.reduceEqDiff, reduceCtorEq, ↓reduceIte]
  refine (most_pure _ _).acall ?_
  have hm : max a.length b.length ≤ 17592186044416 := Nat.max_le.2 ⟨hal, hbl⟩
  simp only [E1, Nat.reduceAdd, Nat.reduceEqDiff, reduceCtorEq, ↓reduceIte, wrap_i64 (n := ((max a.length b.length : Nat) : Int) - 1) (by omega) (by omega)]
  refine Safe.block (Safe.loop ?_)
  have key : ∀ (n : Nat), n ≤ max a.length b.length → (∀ j, n ≤ j → a.getD j 0 = b.getD j 0) → 
      Safe ⟨Pr, fun _ _ => false, F_ref01_Cmp, 30, [.tmp 4], H.length⟩ [.inLoop ref01_Cmp_l0, .inBlock 0, .code ((ACode.region ref01_Cmp_r10 false).seq .ret)]
        [(0, natV a), (1, natV b), (5, .int .i64 ((n : Int) - 1))] (hap H []) fun r' H' => r' = .int .i64 (cmpI (val a) (val b)) ∧ ∃ L, H' = hap H L := by
    intro n
    induction n with
    | zero =>
      intro hn hd
      refine Safe.inLoop (Safe.seq (Safe.seq (Safe.region ?_)))
      simp only [ref01_Cmp_r2, E1, Nat.reduceAdd, Nat.reduceEqDiff, reduceCtorEq, ↓reduceIte, show ¬ ((0 : Int) ≤ ((0 : Nat) : Int) - 1) by omega]
      refine Safe.cond ?_
      simp only [E1, Nat.reduceAdd, Nat.reduceEqDiff, reduceCtorEq, ↓reduceIte]
      refine Safe.exit rfl (Safe.seq (Safe.region ?_))
      simp only [ref01_Cmp_r10, E1, Nat.reduceAdd, Nat.reduceEqDiff, reduceCtorEq, ↓reduceIte]
      refine Safe.retn ?_
      simp only [E1, Nat.reduceAdd, Nat.reduceEqDiff, reduceCtorEq, ↓reduceIte]
      have : val a = val b := val_ext fun i => hd i (Nat.zero_le _)
      exact ⟨by simp [cmpI, this], [], rfl⟩
    | succ n ih =>
      intro hn hd
      refine Safe.inLoop (Safe.seq (Safe.seq (Safe.region ?_)))
      have e1 : ((n + 1 : Nat) : Int) - 1 = (n : Int) := by omega
      simp only [ref01_Cmp_r2, E1, Nat.reduceAdd, Nat.reduceEqDiff, reduceCtorEq, ↓reduceIte, e1, Int.natCast_nonneg]
      refine Safe.cond ?_
      simp only [E1, Nat.reduceAdd, Nat.reduceEqDiff, reduceCtorEq, ↓reduceIte]
      refine Safe.skip (Safe.seq (Safe.block (Safe.seq (Safe.region ?_))))
      simp only [ref01_Cmp_r3, E1, Nat.reduceAdd, Nat.reduceEqDiff, reduceCtorEq, ↓reduceIte]
      refine (limb_pure a n ha.lim hal).acall ?_
      try simp only [E1, Nat.reduceAdd, Nat.reduceEqDiff, reduceCtorEq, ↓reduceIte]
      refine Safe.seq (Safe.region ?_)
      simp only [ref01_Cmp_r4, E1, Nat.reduceAdd, Nat.reduceEqDiff, reduceCtorEq, ↓reduceIte]
      refine (limb_pure b n hb.lim hbl).acall ?_
      try simp only [E1, Nat.reduceAdd, Nat.reduceEqDiff, reduceCtorEq, ↓reduceIte]
      refine Safe.seq (Safe.seq (Safe.region ?_))
      simp only [ref01_Cmp_r5, E1, Nat.reduceAdd, Nat.reduceEqDiff, reduceCtorEq, ↓reduceIte]
      refine Safe.cond ?_
      simp only [E1, Nat.reduceAdd, Nat.reduceEqDiff, reduceCtorEq, ↓reduceIte]
      by_cases h1 : a.getD n 0 < b.getD n 0
      · have h1' : ((a.getD n 0 : Nat) : Int) < ((b.getD n 0 : Nat) : Int) := by omega
        simp only [h1', E1, Nat.reduceAdd, Nat.reduceEqDiff, reduceCtorEq, ↓reduceIte]
        refine Safe.seq (Safe.region ?_)
        simp only [ref01_Cmp_r6, E1, Nat.reduceAdd, Nat.reduceEqDiff, reduceCtorEq, ↓reduceIte]
        refine Safe.retn ?_
        simp only [E1, Nat.reduceAdd, Nat.reduceEqDiff, reduceCtorEq, ↓reduceIte]
        have := val_lt_of_digit ha.lim hb.lim (fun j hj => hd j (by omega)) h1
        exact ⟨by simp [cmpI, this], [], rfl⟩
      · have h1' : ¬ ((a.getD n 0 : Nat) : Int) < ((b.getD n 0 : Nat) : Int) := by omega
        simp only [h1', E1, Nat.reduceAdd, Nat.reduceEqDiff, reduceCtorEq, ↓reduceIte]
        refine Safe.skip (Safe.seq (Safe.region ?_))
        simp only [ref01_Cmp_r7, E1, Nat.reduceAdd, Nat.reduceEqDiff, reduceCtorEq, ↓reduceIte]
        refine Safe.cond ?_
        simp only [E1, Nat.reduceAdd, Nat.reduceEqDiff, reduceCtorEq, ↓reduceIte]
        by_cases h2 : b.getD n 0 < a.getD n 0
        · have h2' : ((b.getD n 0 : Nat) : Int) < ((a.getD n 0 : Nat) : Int) := by omega
          simp only [h2', E1, Nat.reduceAdd, Nat.reduceEqDiff, reduceCtorEq, ↓reduceIte]
          refine Safe.seq (Safe.region ?_)
          simp only [ref01_Cmp_r8, E1, Nat.reduceAdd, Nat.reduceEqDiff, reduceCtorEq, ↓reduceIte]
          refine Safe.retn ?_
          simp only [E1, Nat.reduceAdd, Nat.reduceEqDiff, reduceCtorEq, ↓reduceIte]
          have := val_lt_of_digit hb.lim ha.lim (fun j hj => (hd j (by omega)).symm) h2
          exact ⟨by simp [cmpI, this, Nat.lt_asymm this], [], rfl⟩
        · have h2' : ¬ ((b.getD n 0 : Nat) : Int) < ((a.getD n 0 : Nat) : Int) := by omega
          simp only [h2', E1, Nat.reduceAdd, Nat.reduceEqDiff, reduceCtorEq, ↓reduceIte]
          refine Safe.skip (Safe.inBlock (Safe.region ?_))
          simp only [ref01_Cmp_r9, E1, Nat.reduceAdd, Nat.reduceEqDiff, reduceCtorEq, ↓reduceIte, wrap_i64 (n := (n : Int) - 1) (by omega) (by omega)]
          refine Safe.keep [0, 1, 5] ?_
          simp only [E1, Nat.reduceAdd, Nat.reduceEqDiff, reduceCtorEq, ↓reduceIte]
          refine ih (by omega) fun j hj => ?_
          rcases Nat.eq_or_lt_of_le hj with rfl | hj
          · omega
          · exact hd j hj
  refine Safe.keep [0, 1, 5] ?_
  simp only [E1, Nat.reduceAdd, Nat.reduceEqDiff, reduceCtorEq, ↓reduceIte]
  refine key _ (Nat.le_refl _) fun j hj => ?_
  rw [getD_out (by have := Nat.le_max_left a.length b.length; omega), getD_out (by have := Nat.le_max_right a.length b.length; omega)]

theorem refadd_pure (a b : List Nat) (la : Lim a) (lb : Lim b) (ha : a.length < 17592186044416) (hb : b.length < 17592186044416) : PureC Pr F_ref01_Add [natV a, natV b] (natV (limbs (val a + val b))) := by
  refine PureC.intro ref01_Add_fn ref01_Add_ok (by simp only [List.length_cons, List.length_nil]; omega) (natV_cl _) fun H hH => ?_
  have hLB : LB = 4294967296 := rfl
  refine Safe.seq (Safe.region ?_)
  simp only [ref01_Add_r0, E1, Nat.reduceAdd, Nat.reduceEqDiff, reduceCtorEq, ↓reduceIte]
  refine Safe.seq (Safe.region ?_)
  simp only [ref01_Add_r1, E1, Nat.reduceAdd, Nat.reduceEqDiff, reduceCtorEq, ↓reduceIte]
  refine Safe.seq (Safe.region ?_)
  simp only [ref01_Add_r2, E1, Nat.reduceAdd, Nat.reduceEqDiff, reduceCtorEq, ↓reduceIte]
  refine Safe.seq (Safe.seq (Safe.region ?_))
  simp only [ref01_Add_r3, E1, Nat.reduceAdd, Nat.reduceEqDiff, reduceCtorEq, ↓reduceIte]
  refine Safe.nilrow 5 1 (by decide) (by simp only [E1, Nat.reduceAdd, Nat.reduceEqDiff, reduceCtorEq, ↓reduceIte]) ?_
  refine Safe.block (Safe.loop ?_)
  have hm : max a.length b.length < 17592186044416 := Nat.max_lt.2 ⟨ha, hb⟩
  have m1 := Nat.le_max_left a.length b.length
  have m2 := Nat.le_max_right a.length b.length
  generalize hM : max a.length b.length = M at hm m1 m2
  have key : ∀ (k i c : Nat) (x : List Nat), i + k = M → x.length = i → Lim x → c ≤ 1 → val x + LB ^ i * c = val (a.take i) + val (b.take i) →
      Safe ⟨Pr, fun _ _ => false, F_ref01_Add, 41, [.tmp 4], H.length⟩ [.inLoop ref01_Add_l0, .inBlock 0, .code ((ACode.region ref01_Add_r9 false).seq ((ACode.region ref01_Add_r10 false).seq .ret))]
        [(0, natV a), (1, natV b), (5, .mu (lid H 0) 0 x.length none), (6, .int .u64 c), (7, .int .i64 i)] (hap H [some ⟨1, u32s x⟩]) fun r' H' => r' = natV (limbs (val a + val b)) ∧ ∃ L, H' = hap H L := by
    intro k
    induction k with
    | zero =>
      intro i c x hik hx lx hc hv
      refine Safe.inLoop (Safe.seq (Safe.seq (Safe.region ?_)))
      simp only [ref01_Add_r4, E1, Nat.reduceAdd, Nat.reduceEqDiff, reduceCtorEq, ↓reduceIte]
      refine (most_pure _ _).acall ?_
      have : ¬ (i : Int) < (M : Int) := by omega
      rw [hM]
      simp only [E1, Nat.reduceAdd, Nat.reduceEqDiff, reduceCtorEq, ↓reduceIte, this]
      refine Safe.cond ?_
      simp only [E1, Nat.reduceAdd, Nat.reduceEqDiff, reduceCtorEq, ↓reduceIte]
      refine Safe.exit rfl (Safe.seq (Safe.region ?_))
      simp only [ref01_Add_r9, E1, Nat.reduceAdd, Nat.reduceEqDiff, reduceCtorEq, ↓reduceIte, wrap_u32 (n := (c : Int)) (by omega) (by omega), one_app H hH _ (lid_ge H 0) _ x c (by omega)]
      have hlen : x.length + 1 = (x ++ [c]).length := by simp
      refine Safe.freeze 0 (b := ⟨1, u32s (x ++ [c])⟩) hH rfl rfl (blk_u32 _) ?_
      refine Safe.seq (Safe.region ?_)
      simp only [ref01_Add_r10, E1, Nat.reduceAdd, Nat.reduceEqDiff, reduceCtorEq, ↓reduceIte, hlen]
      refine (refnorm_pure (x ++ [c]) ⟨val_snoc_lim lx (by omega), by simp; omega⟩).acall ?_
      try simp only [E1, Nat.reduceAdd, Nat.reduceEqDiff, reduceCtorEq, ↓reduceIte]
      refine Safe.retn ?_
      simp only [E1, Nat.reduceAdd, Nat.reduceEqDiff, reduceCtorEq, ↓reduceIte]
      rw [List.take_of_length_le (by omega), List.take_of_length_le (by omega)] at hv
      rw [val_snoc, hx, hv]
      first | exact ⟨rfl, _, rfl⟩ | exact ⟨_, rfl⟩ | exact ⟨trivial, _, rfl⟩
    | succ k ih =>
      intro i c x hik hx lx hc hv
      refine Safe.inLoop (Safe.seq (Safe.seq (Safe.region ?_)))
      simp only [ref01_Add_r4, E1, Nat.reduceAdd, Nat.reduceEqDiff, reduceCtorEq, ↓reduceIte]
      refine (most_pure _ _).acall ?_
      have : (i : Int) < (M : Int) := by omega
      rw [hM]
      simp only [E1, Nat.reduceAdd, Nat.reduceEqDiff, reduceCtorEq, ↓reduceIte, this]
      refine Safe.cond ?_
      simp only [E1, Nat.reduceAdd, Nat.reduceEqDiff, reduceCtorEq, ↓reduceIte]
      refine Safe.skip (Safe.seq (Safe.block (Safe.seq (Safe.region ?_))))
      simp only [ref01_Add_r5, E1, Nat.reduceAdd, Nat.reduceEqDiff, reduceCtorEq, ↓reduceIte]
      have xa := getD_lt la i
      have xb := getD_lt lb i
      refine (limb_pure a i la (by omega)).acall ?_
      have w1 : IntKind.wrap .u64 ((c : Int) + ((a.getD i 0 : Nat) : Int)) = ((c + a.getD i 0 : Nat) : Int) := by rw [wrap_u64] <;> omega
      simp only [E1, Nat.reduceAdd, Nat.reduceEqDiff, reduceCtorEq, ↓reduceIte, w1]
      refine (limb_pure b i lb (by omega)).acall ?_
      have w2 : IntKind.wrap .u64 (((c + a.getD i 0 : Nat) : Int) + ((b.getD i 0 : Nat) : Int)) = ((c + a.getD i 0 + b.getD i 0 : Nat) : Int) := by rw [wrap_u64] <;> omega
      simp only [E1, Nat.reduceAdd, Nat.reduceEqDiff, reduceCtorEq, ↓reduceIte, w2]
      refine Safe.seq (Safe.region ?_)
      have hmod := Nat.mod_lt (c + a.getD i 0 + b.getD i 0) (show 0 < LB by decide)
      have w3 : IntKind.wrap .u32 (((c + a.getD i 0 + b.getD i 0) % LB : Nat) : Int) = (((c + a.getD i 0 + b.getD i 0) % LB : Nat) : Int) := wrap_u32 (by omega) (by omega)
      simp only [ref01_Add_r6, E1, Nat.reduceAdd, Nat.reduceEqDiff, reduceCtorEq, ↓reduceIte, rem_lb, w3, one_app H hH _ (lid_ge H 0) _ x _ (show x.length < 35184372088832 by omega)]
      refine Safe.region ?_
      simp only [ref01_Add_r7, E1, Nat.reduceAdd, Nat.reduceEqDiff, reduceCtorEq, ↓reduceIte, quo_lb _ (show c + a.getD i 0 + b.getD i 0 < 18446744073709551616 by omega)]
      refine Safe.inBlock (Safe.region ?_)
      have hiw : IntKind.wrap .i64 ((i : Int) + 1) = ((i + 1 : Nat) : Int) := by rw [wrap_i64] <;> omega
      simp only [ref01_Add_r8, E1, Nat.reduceAdd, Nat.reduceEqDiff, reduceCtorEq, ↓reduceIte, hiw]
      refine Safe.keep [0, 1, 5, 6, 7] ?_
      simp only [E1, Nat.reduceAdd, Nat.reduceEqDiff, reduceCtorEq, ↓reduceIte]
      have hlen : x.length + 1 = (x ++ [(c + a.getD i 0 + b.getD i 0) % LB]).length := by simp
      rw [hlen]
      refine ih (i + 1) _ _ (by omega) (by simp [hx]) (val_snoc_lim lx hmod) ?_ ?_
      · have : c + a.getD i 0 + b.getD i 0 < LB * 2 := by omega
        have := Nat.div_lt_of_lt_mul this
        omega
      · rw [val_snoc, hx, val_take_getD, val_take_getD, Nat.pow_succ]
        exact sum_step (i := 0) hv
  refine Safe.keep [0, 1, 5, 6, 7] ?_
  simp only [E1, Nat.reduceAdd, Nat.reduceEqDiff, reduceCtorEq, ↓reduceIte]
  exact key M 0 0 [] (by omega) rfl lim_nil (by omega) (by simp [val])

theorem refless_pure (a b : List Nat) (la : Lim a) (lb : Lim b) (ha : a.length ≤ 17592186044416) (hb : b.length ≤ 17592186044416) (hv : val b ≤ val a) : PureC Pr F_ref01_less [natV a, natV b] (natV (limbs (val a - val b))) := by
  refine PureC.intro ref01_less_fn ref01_less_ok (by simp only [List.length_cons, List.length_nil]; omega) (natV_cl _) fun H hH => ?_
  have hLB : LB = 4294967296 := rfl
  refine Safe.seq (Safe.region ?_)
  simp only [ref01_less_r0, E1, Nat.reduceAdd, Nat.reduceEqDiff, reduceCtorEq, ↓reduceIte]
  refine Safe.seq (Safe.region ?_)
  simp only [ref01_less_r1, E1, Nat.reduceAdd, Nat.reduceEqDiff, reduceCtorEq, ↓reduceIte]
  refine Safe.seq (Safe.region ?_)
  simp only [ref01_less_r2, E1, Nat.reduceAdd, Nat.reduceEqDiff, reduceCtorEq, ↓reduceIte]
  refine Safe.seq (Safe.seq (Safe.region ?_))
  simp only [ref01_less_r3, E1, Nat.reduceAdd, Nat.reduceEqDiff, reduceCtorEq, ↓reduceIte]
  refine Safe.nilrow 5 1 (by decide) (by simp only [E1, Nat.reduceAdd, Nat.reduceEqDiff, reduceCtorEq, ↓reduceIte]) ?_
  refine Safe.block (Safe.loop ?_)
  have key : ∀ (k i c : Nat) (x : List Nat), i + k = a.length → x.length = i → Lim x → c ≤ 1 → val (a.take i) + LB ^ i * c = val x + val (b.take i) →
      Safe ⟨Pr, fun _ _ => false, F_ref01_less, 38, [.tmp 4], H.length⟩ [.inLoop ref01_less_l0, .inBlock 0, .code ((ACode.region ref01_less_r13 false).seq .ret)]
        [(0, natV a), (1, natV b), (5, .mu (lid H 0) 0 x.length none), (6, .int .u64 c), (7, .int .i64 i)] (hap H [some ⟨1, u32s x⟩]) fun r' H' => r' = natV (limbs (val a - val b)) ∧ ∃ L, H' = hap H L := by
    intro k
    induction k with
    | zero =>
      intro i c x hik hx lx hc hv2
      refine Safe.inLoop (Safe.seq (Safe.seq (Safe.region ?_)))
      have : ¬ (i : Int) < (a.length : Int) := by omega
      simp only [ref01_less_r4, E1, Nat.reduceAdd, Nat.reduceEqDiff, reduceCtorEq, ↓reduceIte, this]
      refine Safe.cond ?_
      simp only [E1, Nat.reduceAdd, Nat.reduceEqDiff, reduceCtorEq, ↓reduceIte]
      refine Safe.exit rfl ?_
      refine Safe.freeze 0 (b := ⟨1, u32s x⟩) hH rfl rfl (blk_u32 _) ?_
      refine Safe.seq (Safe.region ?_)
      simp only [ref01_less_r13, E1, Nat.reduceAdd, Nat.reduceEqDiff, reduceCtorEq, ↓reduceIte]
      refine (refnorm_pure x ⟨lx, by omega⟩).acall ?_
      try simp only [E1, Nat.reduceAdd, Nat.reduceEqDiff, reduceCtorEq, ↓reduceIte]
      refine Safe.retn ?_
      simp only [E1, Nat.reduceAdd, Nat.reduceEqDiff, reduceCtorEq, ↓reduceIte]
      rw [List.take_of_length_le (by omega)] at hv2
      have h1 := val_lt lx
      rw [hx] at h1
      have h3 := val_split b i
      have hc0 : c = 0 ∧ val b = val (b.take i) := by
        rcases Nat.eq_zero_or_pos (val (b.drop i)) with h0 | h0
        · rw [h0, Nat.mul_zero] at h3
          rcases Nat.eq_zero_or_pos c with h | h
          · exact ⟨h, by omega⟩
          · have : c = 1 := by omega
            subst this
            omega
        · exfalso
          have h4 : LB ^ i * 1 ≤ LB ^ i * val (b.drop i) := Nat.mul_le_mul_left _ h0
          have h5 := val_lt la
          have : a.length = i := by omega
          rw [this] at h5
          omega
      obtain ⟨rfl, hb2⟩ := hc0
      have : val x = val a - val b := by omega
      rw [this]
      first | exact ⟨rfl, _, rfl⟩ | exact ⟨_, rfl⟩ | exact ⟨trivial, _, rfl⟩
    | succ k ih =>
      intro i c x hik hx lx hc hv2
      refine Safe.inLoop (Safe.seq (Safe.seq (Safe.region ?_)))
      have : (i : Int) < (a.length : Int) := by omega
      simp only [ref01_less_r4, E1, Nat.reduceAdd, Nat.reduceEqDiff, reduceCtorEq, ↓reduceIte, this]
      refine Safe.cond ?_
      simp only [E1, Nat.reduceAdd, Nat.reduceEqDiff, reduceCtorEq, ↓reduceIte]
      refine Safe.skip (Safe.seq (Safe.block (Safe.seq (Safe.region ?_))))
      simp only [ref01_less_r5, E1, Nat.reduceAdd, Nat.reduceEqDiff, reduceCtorEq, ↓reduceIte]
      have xa := getD_lt la i
      have xb := getD_lt lb i
      refine (limb_pure a i la ha).acall ?_
      try simp only [E1, Nat.reduceAdd, Nat.reduceEqDiff, reduceCtorEq, ↓reduceIte]
      refine Safe.seq (Safe.region ?_)
      simp only [ref01_less_r6, E1, Nat.reduceAdd, Nat.reduceEqDiff, reduceCtorEq, ↓reduceIte]
      refine (limb_pure b i lb hb).acall ?_
      have w1 : IntKind.wrap .u64 (((b.getD i 0 : Nat) : Int) + (c : Int)) = ((b.getD i 0 + c : Nat) : Int) := by rw [wrap_u64] <;> omega
      simp only [E1, Nat.reduceAdd, Nat.reduceEqDiff, reduceCtorEq, ↓reduceIte, w1]
      refine Safe.seq (Safe.region ?_)
      simp only [ref01_less_r7, E1, Nat.reduceAdd, Nat.reduceEqDiff, reduceCtorEq, ↓reduceIte]
      refine Safe.seq (Safe.seq (Safe.region ?_))
      simp only [ref01_less_r8, E1, Nat.reduceAdd, Nat.reduceEqDiff, reduceCtorEq, ↓reduceIte]
      refine Safe.cond ?_
      simp only [E1, Nat.reduceAdd, Nat.reduceEqDiff, reduceCtorEq, ↓reduceIte]
      have rest : ∀ (X bo d : Nat) (env : Env), X = d + (b.getD i 0 + c) → X < 18446744073709551616 → bo ≤ 1 → d < LB → a.getD i 0 + LB * bo = d + c + b.getD i 0 → look env 0 = natV a → look env 1 = natV b → look env 5 = .mu (lid H 0) 0 x.length none → look env 6 = .int .u64 bo → look env 7 = .int .i64 i → look env 8 = .int .u64 X → look env 9 = .int .u64 (b.getD i 0 + c : Nat) →
          Safe ⟨Pr, fun _ _ => false, F_ref01_less, 38, [.tmp 4], H.length⟩ [.code (.region ref01_less_r11 false), .inBlock 1, .code (.region ref01_less_r12 false), .inLoop ref01_less_l0, .inBlock 0, .code ((ACode.region ref01_less_r13 false).seq .ret)]
            env (hap H [some ⟨1, u32s x⟩]) fun r' H' => r' = natV (limbs (val a - val b)) ∧ ∃ L, H' = hap H L := by
        intro X bo d env hX hX64 hbo hd hdig e0 e1 e5 e6 e7 e8 e9
        refine Safe.region ?_
        have w2 : IntKind.wrap .u64 ((X : Int) - ((b.getD i 0 + c : Nat) : Int)) = (d : Int) := by rw [wrap_u64] <;> omega
        have w3 : IntKind.wrap .u32 (d : Int) = (d : Int) := wrap_u32 (by omega) (by omega)
        simp only [ref01_less_r11, E1, Nat.reduceAdd, Nat.reduceEqDiff, reduceCtorEq, ↓reduceIte, e5, e8, e9, w2, w3, one_app H hH _ (lid_ge H 0) _ x _ (show x.length < 35184372088832 by omega)]
        refine Safe.inBlock (Safe.region ?_)
        have hiw : IntKind.wrap .i64 ((i : Int) + 1) = ((i + 1 : Nat) : Int) := by rw [wrap_i64] <;> omega
        simp only [ref01_less_r12, E1, Nat.reduceAdd, Nat.reduceEqDiff, reduceCtorEq, ↓reduceIte, look_scrub, e7, hiw]
        refine Safe.keep [0, 1, 5, 6, 7] ?_
        simp only [E1, Nat.reduceAdd, Nat.reduceEqDiff, reduceCtorEq, ↓reduceIte, look_scrub, e0, e1, e6]
        have hlen : x.length + 1 = (x ++ [d]).length := by simp
        rw [hlen]
        refine ih (i + 1) _ _ (by omega) (by simp [hx]) (val_snoc_lim lx hd) hbo ?_
        rw [val_snoc, hx, val_take_getD, val_take_getD, Nat.pow_succ]
        exact less_step hv2 hdig
      by_cases hlt : a.getD i 0 < b.getD i 0 + c
      · have hlt' : ((a.getD i 0 : Nat) : Int) < ((b.getD i 0 + c : Nat) : Int) := by omega
        simp only [hlt', E1, Nat.reduceAdd, Nat.reduceEqDiff, reduceCtorEq, ↓reduceIte]
        refine Safe.seq (Safe.region ?_)
        have w4 : IntKind.wrap .u64 (((a.getD i 0 : Nat) : Int) + 4294967296) = ((a.getD i 0 + 4294967296 : Nat) : Int) := by rw [wrap_u64] <;> omega
        simp only [ref01_less_r9, E1, Nat.reduceAdd, Nat.reduceEqDiff, reduceCtorEq, ↓reduceIte, w4]
        refine Safe.region ?_
        simp only [ref01_less_r10, E1, Nat.reduceAdd, Nat.reduceEqDiff, reduceCtorEq, ↓reduceIte]
        exact rest (a.getD i 0 + 4294967296) 1 (a.getD i 0 + 4294967296 - (b.getD i 0 + c)) _ (by omega) (by omega) (by omega) (by omega) (by omega) (by simp only [E1, Nat.reduceAdd, Nat.reduceEqDiff, reduceCtorEq, ↓reduceIte]) (by simp only [E1, Nat.reduceAdd, Nat.reduceEqDiff, reduceCtorEq, ↓reduceIte]) (by simp only [E1, Nat.reduceAdd, Nat.reduceEqDiff, reduceCtorEq, ↓reduceIte]) (by simp only [E1, Nat.reduceAdd, Nat.reduceEqDiff, reduceCtorEq, ↓reduceIte] <;> rfl) (by simp only [E1, Nat.reduceAdd, Nat.reduceEqDiff, reduceCtorEq, ↓reduceIte]) (by simp only [E1, Nat.reduceAdd, Nat.reduceEqDiff, reduceCtorEq, ↓reduceIte]) (by simp only [E1, Nat.reduceAdd, Nat.reduceEqDiff, reduceCtorEq, ↓reduceIte])
      · have hlt' : ¬ ((a.getD i 0 : Nat) : Int) < ((b.getD i 0 + c : Nat) : Int) := by omega
        simp only [hlt', E1, Nat.reduceAdd, Nat.reduceEqDiff, reduceCtorEq, ↓reduceIte]
        exact Safe.skip (rest (a.getD i 0) 0 (a.getD i 0 - (b.getD i 0 + c)) _ (by omega) (by omega) (by omega) (by omega) (by omega) (by simp only [E1, Nat.reduceAdd, Nat.reduceEqDiff, reduceCtorEq, ↓reduceIte]) (by simp only [E1, Nat.reduceAdd, Nat.reduceEqDiff, reduceCtorEq, ↓reduceIte]) (by simp only [E1, Nat.reduceAdd, Nat.reduceEqDiff, reduceCtorEq, ↓reduceIte]) (by simp only [E1, Nat.reduceAdd, Nat.reduceEqDiff, reduceCtorEq, ↓reduceIte] <;> rfl) (by simp only [E1, Nat.reduceAdd, Nat.reduceEqDiff, reduceCtorEq, ↓reduceIte]) (by simp only [E1, Nat.reduceAdd, Nat.reduceEqDiff, reduceCtorEq, ↓reduceIte]) (by simp only [E1, Nat.reduceAdd, Nat.reduceEqDiff, reduceCtorEq, ↓reduceIte]))
  refine Safe.keep [0, 1, 5, 6, 7] ?_
  simp only [E1, Nat.reduceAdd, Nat.reduceEqDiff, reduceCtorEq, ↓reduceIte]
  exact key a.length 0 0 [] (by omega) rfl lim_nil (by omega) (by simp [val])

theorem refsub_pure (a b : List Nat) (ha : Nt a) (hb : Nt b) (hv : val b ≤ val a) : PureC Pr F_ref01_Sub [natV a, natV b] (.tup [natV (limbs (val a - val b)), .int .i64 0]) := by
  refine PureC.intro ref01_Sub_fn ref01_Sub_ok (by simp only [List.length_cons, List.length_nil]; omega) (.tup _ (by intro c hc; simp at hc; rcases hc with rfl | rfl; exact natV_cl _; exact .int _ _)) fun H hH => ?_
  refine Safe.seq (Safe.region ?_)
  simp only [ref01_Sub_r0, E1, Nat.reduceAdd, Nat.reduceEqDiff, reduceCtorEq, ↓reduceIte]
  refine Safe.seq (Safe.seq (Safe.region ?_))
  simp only [ref01_Sub_r1, E1, Nat.reduceAdd, Nat.reduceEqDiff, reduceCtorEq, ↓reduceIte]
  refine (refcmp_pure a b ha hb).acall ?_
  have h0 : ¬ (cmpI (val a) (val b) < 0) := by unfold cmpI; split <;> (try split) <;> omega
  simp only [E1, Nat.reduceAdd, Nat.reduceEqDiff, reduceCtorEq, ↓reduceIte, h0]
  refine Safe.cond ?_
  simp only [E1, Nat.reduceAdd, Nat.reduceEqDiff, reduceCtorEq, ↓reduceIte]
  refine Safe.skip (Safe.seq (Safe.region ?_))
  simp only [ref01_Sub_r3, E1, Nat.reduceAdd, Nat.reduceEqDiff, reduceCtorEq, ↓reduceIte]
  refine (refless_pure a b ha.lim hb.lim ha.len hb.len hv).acall ?_
  try simp only [E1, Nat.reduceAdd, Nat.reduceEqDiff, reduceCtorEq, ↓reduceIte]
  refine Safe.retn ?_
  simp only [E1, Nat.reduceAdd, Nat.reduceEqDiff, reduceCtorEq, ↓reduceIte]
  first | exact ⟨rfl, _, rfl⟩ | exact ⟨_, rfl⟩ | exact ⟨trivial, _, rfl⟩

theorem refmul_pure (A B : List Nat) (ha : Nt A) (hb : Nt B) (hab : A.length + B.length ≤ 17592186044416) : PureC Pr F_ref01_Mul [natV A, natV B] (natV (limbs (val A * val B))) := by
  refine PureC.intro ref01_Mul_fn ref01_Mul_ok (by simp only [List.length_cons, List.length_nil]; omega) (natV_cl _) fun H hH => ?_
  have la := ha.lim
  have lb := hb.lim
  refine Safe.seq (Safe.region ?_)
  have hLB : LB = 4294967296 := rfl
  simp only [ref01_Mul_r0, E1, Nat.reduceAdd, Nat.reduceEqDiff, reduceCtorEq, ↓reduceIte]
  refine Safe.seq (Safe.region ?_)
  have hw : IntKind.wrap .i64 ((A.length : Int) + (B.length : Int)) = ((A.length + B.length : Nat) : Int) := by rw [wrap_i64] <;> omega
  simp only [ref01_Mul_r1, E1, Nat.reduceAdd, Nat.reduceEqDiff, reduceCtorEq, ↓reduceIte, hw, mksl_nat _ H [] _ _ (A.length + B.length) (by omega)]
  refine Safe.seq (Safe.seq (Safe.region ?_))
  simp only [ref01_Mul_r2, E1, Nat.reduceAdd, Nat.reduceEqDiff, reduceCtorEq, ↓reduceIte]
  refine Safe.block (Safe.loop ?_)
  have inner : ∀ (todo : List AItem) (i x : Nat) (z vx : Nat), i < A.length → x = A.getD i 0 → 
      (∀ (w : List Nat) (c : Nat) (env : Env), w.length = i + B.length → Lim w → c < LB → val w + LB ^ (i + B.length) * c = vx + LB ^ i * (x * val B) →
        look env 0 = natV A → look env 1 = natV B → look env 5 = .mu (lid H 0) 0 (A.length + B.length) (some (A.length + B.length)) → look env 6 = .int .i64 i → look env 7 = .int .u64 c →
        Safe ⟨Pr, fun _ _ => false, F_ref01_Mul, 68, [.tmp 4], H.length⟩ todo env (hap H [some ⟨1, u32s (w ++ List.replicate z 0)⟩]) fun r' H' => r' = natV (limbs (val A * val B)) ∧ ∃ L, H' = hap H L) →
      ∀ (k j c : Nat) (w : List Nat), j + k = B.length → w.length = i + B.length → Lim w → c < LB → val w + LB ^ (i + j) * c = vx + LB ^ i * (x * val (B.take j)) →
        Safe ⟨Pr, fun _ _ => false, F_ref01_Mul, 68, [.tmp 4], H.length⟩ (.inLoop ref01_Mul_l1 :: .inBlock 2 :: todo)
          [(0, natV A), (1, natV B), (5, .mu (lid H 0) 0 (A.length + B.length) (some (A.length + B.length))), (6, .int .i64 i), (7, .int .u64 c), (8, .int .i64 j)]
          (hap H [some ⟨1, u32s (w ++ List.replicate z 0)⟩]) fun r' H' => r' = natV (limbs (val A * val B)) ∧ ∃ L, H' = hap H L := by
    intro todo i x z vx hi hx hk k
    induction k with
    | zero =>
      intro j c w hjk hw lw hc hv
      have hj : j = B.length := by omega
      subst hj
      refine Safe.inLoop (Safe.seq (Safe.seq (Safe.region ?_)))
      simp only [ref01_Mul_r6, E1, Nat.reduceAdd, Nat.reduceEqDiff, reduceCtorEq, ↓reduceIte, Int.lt_irrefl]
      refine Safe.cond ?_
      simp only [E1, Nat.reduceAdd, Nat.reduceEqDiff, reduceCtorEq, ↓reduceIte]
      refine Safe.exit rfl ?_
      rw [List.take_length] at hv
      exact hk w c _ hw lw hc hv (by simp only [E1, Nat.reduceAdd, Nat.reduceEqDiff, reduceCtorEq, ↓reduceIte]) (by simp only [E1, Nat.reduceAdd, Nat.reduceEqDiff, reduceCtorEq, ↓reduceIte]) (by simp only [E1, Nat.reduceAdd, Nat.reduceEqDiff, reduceCtorEq, ↓reduceIte]) (by simp only [E1, Nat.reduceAdd, Nat.reduceEqDiff, reduceCtorEq, ↓reduceIte]) (by simp only [E1, Nat.reduceAdd, Nat.reduceEqDiff, reduceCtorEq, ↓reduceIte])
    | succ k ih =>
      intro j c w hjk hw lw hc hv
      refine Safe.inLoop (Safe.seq (Safe.seq (Safe.region ?_)))
      have hlt : (j : Int) < (B.length : Int) := by omega
      simp only [ref01_Mul_r6, E1, Nat.reduceAdd, Nat.reduceEqDiff, reduceCtorEq, ↓reduceIte, hlt]
      refine Safe.cond ?_
      simp only [E1, Nat.reduceAdd, Nat.reduceEqDiff, reduceCtorEq, ↓reduceIte]
      refine Safe.skip (Safe.seq (Safe.block (Safe.seq (Safe.regionD ?_))))
      have xa := getD_lt la i
      have xb := getD_lt lb j
      have xw := getD_lt lw (i + j)
      have hfit := mul_fits hc xa xb xw
      have hLL : LB * LB = 18446744073709551616 := by decide
      have h1w : IntKind.wrap .u64 ((A.getD i 0 : Nat) : Int) = ((A.getD i 0 : Nat) : Int) := wrap_u64 (by omega) (by omega)
      have h2w : IntKind.wrap .u64 ((B.getD j 0 : Nat) : Int) = ((B.getD j 0 : Nat) : Int) := wrap_u64 (by omega) (by omega)
      have h3w : IntKind.wrap .u64 ((w.getD (i + j) 0 : Nat) : Int) = ((w.getD (i + j) 0 : Nat) : Int) := wrap_u64 (by omega) (by omega)
      have h4w : IntKind.wrap .u64 (((A.getD i 0 : Nat) : Int) * ((B.getD j 0 : Nat) : Int)) = ((A.getD i 0 * B.getD j 0 : Nat) : Int) := by rw [← Int.natCast_mul, wrap_u64] <;> omega
      have h5w : IntKind.wrap .u64 ((c : Int) + ((w.getD (i + j) 0 : Nat) : Int)) = ((c + w.getD (i + j) 0 : Nat) : Int) := by rw [wrap_u64] <;> omega
      have h6w : IntKind.wrap .u64 (((c + w.getD (i + j) 0 : Nat) : Int) + ((A.getD i 0 * B.getD j 0 : Nat) : Int)) = ((c + A.getD i 0 * B.getD j 0 + w.getD (i + j) 0 : Nat) : Int) := by rw [wrap_u64] <;> omega
      have h7w : IntKind.wrap .i64 ((i : Int) + (j : Int)) = ((i + j : Nat) : Int) := by rw [wrap_i64] <;> omega
      simp only [ref01_Mul_r7, E1, Nat.reduceAdd, Nat.reduceEqDiff, reduceCtorEq, ↓reduceIte, natV_idx _ A _ i hi, natV_idx _ B _ j (by omega), h1w, h2w, h3w, h4w, h7w, one_idx _ _ _ _ _ _ (i + j) (show i + j < A.length + B.length by omega), one_at _ _ (i + j) (show i + j < (w ++ List.replicate z 0).length by simp [hw]; omega),
        getD_left w _ (i + j) (show i + j < w.length by omega), h5w, h6w]
      refine Safe.seq (Safe.region ?_)
      have hmod := Nat.mod_lt (c + A.getD i 0 * B.getD j 0 + w.getD (i + j) 0) (show 0 < LB by decide)
      have hcw : IntKind.wrap .u32 (((c + A.getD i 0 * B.getD j 0 + w.getD (i + j) 0) % LB : Nat) : Int) = (((c + A.getD i 0 * B.getD j 0 + w.getD (i + j) 0) % LB : Nat) : Int) := wrap_u32 (by omega) (by omega)
      simp only [ref01_Mul_r8, E1, Nat.reduceAdd, Nat.reduceEqDiff, reduceCtorEq, ↓reduceIte, h7w, rem_lb, hcw, one_idx _ _ _ _ _ _ (i + j) (show i + j < A.length + B.length by omega), one_st _ _ _ (i + j) _ (show i + j < (w ++ List.replicate z 0).length by simp [hw]; omega), set_left w _ (i + j) _ (show i + j < w.length by omega)]
      refine Safe.region ?_
      simp only [ref01_Mul_r9, E1, Nat.reduceAdd, Nat.reduceEqDiff, reduceCtorEq, ↓reduceIte, quo_lb _ (show c + A.getD i 0 * B.getD j 0 + w.getD (i + j) 0 < 18446744073709551616 by omega)]
      refine Safe.inBlock (Safe.region ?_)
      have hiw : IntKind.wrap .i64 ((j : Int) + 1) = ((j + 1 : Nat) : Int) := by rw [wrap_i64] <;> omega
      simp only [ref01_Mul_r10, E1, Nat.reduceAdd, Nat.reduceEqDiff, reduceCtorEq, ↓reduceIte, hiw]
      refine Safe.keep [0, 1, 5, 6, 7, 8] ?_
      simp only [E1, Nat.reduceAdd, Nat.reduceEqDiff, reduceCtorEq, ↓reduceIte]
      refine ih (j + 1) _ _ (by omega) (by simp [hw]) (lim_set lw hmod) ?_ ?_
      · exact Nat.div_lt_of_lt_mul hfit
      · rw [val_take_getD, show i + (j + 1) = (i + j) + 1 by omega, Nat.pow_succ]
        subst hx
        exact mul_step (Nat.pow_add LB i j) hv (val_set (by omega)) rfl
  have outer : ∀ (k i : Nat) (x : List Nat), i + k = A.length → x.length = i + B.length → Lim x → val x = val (A.take i) * val B →
        Safe ⟨Pr, fun _ _ => false, F_ref01_Mul, 68, [.tmp 4], H.length⟩ [.inLoop ref01_Mul_l0, .inBlock 0, .code ((ACode.region ref01_Mul_r13 false).seq .ret)]
          [(0, natV A), (1, natV B), (5, .mu (lid H 0) 0 (A.length + B.length) (some (A.length + B.length))), (6, .int .i64 i)]
          (hap H [some ⟨1, u32s (x ++ List.replicate k 0)⟩]) fun r' H' => r' = natV (limbs (val A * val B)) ∧ ∃ L, H' = hap H L := by
    intro k
    induction k with
    | zero =>
      intro i x hik hx lx hv
      have hi : i = A.length := by omega
      subst hi
      refine Safe.inLoop (Safe.seq (Safe.seq (Safe.region ?_)))
      simp only [ref01_Mul_r3, E1, Nat.reduceAdd, Nat.reduceEqDiff, reduceCtorEq, ↓reduceIte, Int.lt_irrefl]
      refine Safe.cond ?_
      simp only [E1, Nat.reduceAdd, Nat.reduceEqDiff, reduceCtorEq, ↓reduceIte]
      refine Safe.exit rfl ?_
      simp only [List.replicate_zero, List.append_nil]
      refine Safe.freeze 0 (b := ⟨1, u32s x⟩) hH rfl rfl (blk_u32 _) ?_
      refine Safe.seq (Safe.region ?_)
      simp only [ref01_Mul_r13, E1, Nat.reduceAdd, Nat.reduceEqDiff, reduceCtorEq, ↓reduceIte, ← hx]
      refine (refnorm_pure x ⟨lx, by omega⟩).acall ?_
      try simp only [E1, Nat.reduceAdd, Nat.reduceEqDiff, reduceCtorEq, ↓reduceIte]
      refine Safe.retn ?_
      simp only [E1, Nat.reduceAdd, Nat.reduceEqDiff, reduceCtorEq, ↓reduceIte]
      rw [List.take_length] at hv
      rw [hv]
      first | exact ⟨rfl, _, rfl⟩ | exact ⟨_, rfl⟩ | exact ⟨trivial, _, rfl⟩
    | succ k ih =>
      intro i x hik hx lx hv
      refine Safe.inLoop (Safe.seq (Safe.seq (Safe.region ?_)))
      have hlt : (i : Int) < (A.length : Int) := by omega
      simp only [ref01_Mul_r3, E1, Nat.reduceAdd, Nat.reduceEqDiff, reduceCtorEq, ↓reduceIte, hlt]
      refine Safe.cond ?_
      simp only [E1, Nat.reduceAdd, Nat.reduceEqDiff, reduceCtorEq, ↓reduceIte]
      refine Safe.skip (Safe.seq (Safe.block (Safe.seq (Safe.region ?_))))
      simp only [ref01_Mul_r4, E1, Nat.reduceAdd, Nat.reduceEqDiff, reduceCtorEq, ↓reduceIte]
      refine Safe.seq (Safe.seq (Safe.region ?_))
      simp only [ref01_Mul_r5, E1, Nat.reduceAdd, Nat.reduceEqDiff, reduceCtorEq, ↓reduceIte]
      refine Safe.block (Safe.loop ?_)
      refine Safe.keep [0, 1, 5, 6, 7, 8] ?_
      simp only [E1, Nat.reduceAdd, Nat.reduceEqDiff, reduceCtorEq, ↓reduceIte]
      refine inner _ i _ (k + 1) (val x) (by omega) rfl ?_ B.length 0 0 x (by omega) hx lx (by decide) (by simp [val])
      intro w c env hw lw hc hv2 e0 e1 e5 e6 e7
      refine Safe.region ?_
      have h7w : IntKind.wrap .i64 ((i : Int) + (B.length : Int)) = ((i + B.length : Nat) : Int) := by rw [wrap_i64] <;> omega
      have hcw : IntKind.wrap .u32 (c : Int) = (c : Int) := wrap_u32 (by omega) (by omega)
      simp only [ref01_Mul_r11, E1, Nat.reduceAdd, Nat.reduceEqDiff, reduceCtorEq, ↓reduceIte, e0, e1, e5, e6, e7, h7w, hcw, one_idx _ _ _ _ _ _ (i + B.length) (show i + B.length < A.length + B.length by omega), one_st _ _ _ (i + B.length) _ (show i + B.length < (w ++ List.replicate (k + 1) 0).length by simp [hw])]
      refine Safe.inBlock (Safe.region ?_)
      have hiw : IntKind.wrap .i64 ((i : Int) + 1) = ((i + 1 : Nat) : Int) := by rw [wrap_i64] <;> omega
      simp only [ref01_Mul_r12, E1, Nat.reduceAdd, Nat.reduceEqDiff, reduceCtorEq, ↓reduceIte, e6, hiw]
      refine Safe.keep [0, 1, 5, 6] ?_
      simp only [E1, Nat.reduceAdd, Nat.reduceEqDiff, reduceCtorEq, ↓reduceIte, e0, e1, e5]
      have hset : (w ++ List.replicate (k + 1) 0).set (i + B.length) c = (w ++ [c]) ++ List.replicate k 0 := by rw [← hw]; exact set_rep _ _ _
      rw [hset]
      refine ih (i + 1) _ (by omega) (by simp [hw]; omega) (val_snoc_lim lw hc) ?_
      rw [val_snoc, hw, hv2, val_take_getD, hv, Nat.add_mul, Nat.mul_assoc]
  refine Safe.keep [0, 1, 5, 6] ?_
  simp only [E1, Nat.reduceAdd, Nat.reduceEqDiff, reduceCtorEq, ↓reduceIte]
  have := outer A.length 0 (List.replicate B.length 0) (by omega) (by simp) (by intro d hd; simp at hd; omega) (by simp [val_replicate, val])
  rw [List.replicate_append_replicate, Nat.add_comm B.length] at this
  exact this

theorem refbits_pure (l : List Nat) (hl : Nt l) : PureC Pr F_ref01_Bits [natV l] (.int .i64 (blen (val l))) := by
  refine PureC.intro ref01_Bits_fn ref01_Bits_ok (by simp only [List.length_cons, List.length_nil]; omega) (.int _ _) fun H hH => ?_
  have hll := hl.len
  refine Safe.seq (Safe.region ?_)
  simp only [ref01_Bits_r0, E1, Nat.reduceAdd, Nat.reduceEqDiff, reduceCtorEq, ↓reduceIte]
  refine Safe.seq (Safe.seq (Safe.region ?_))
  have hw : IntKind.wrap .i64 ((l.length : Int) - 1) = (l.length : Int) - 1 := wrap_i64 (by omega) (by omega)
  simp only [ref01_Bits_r1, E1, Nat.reduceAdd, Nat.reduceEqDiff, reduceCtorEq, ↓reduceIte, hw]
  refine Safe.block (Safe.loop ?_)
  have inner : ∀ (todo : List AItem) (m s : Nat), m < 4294967296 → s + blen m = blen (val l) → s + blen m ≤ 32 * l.length →
      Safe ⟨Pr, fun _ _ => false, F_ref01_Bits, 31, [.tmp 2], H.length⟩ (.inLoop ref01_Bits_l1 :: .inBlock 2 :: .code ((ACode.region ref01_Bits_r9 false).seq .ret) :: todo)
        [(4, .int .i64 s), (5, .int .u32 m)] (hap H []) fun r' H' => r' = .int .i64 (blen (val l)) ∧ ∃ L, H' = hap H L := by
    intro todo m
    induction m using Nat.strongRecOn with
    | _ m ih =>
    intro s hm hs hb
    refine Safe.inLoop (Safe.seq (Safe.seq (Safe.region ?_)))
    by_cases h0 : m = 0
    · subst h0
      simp only [ref01_Bits_r6, E1, Nat.reduceAdd, Nat.reduceEqDiff, reduceCtorEq, ↓reduceIte, Int.natCast_zero, Int.lt_irrefl]
      refine Safe.cond ?_
      simp only [E1, Nat.reduceAdd, Nat.reduceEqDiff, reduceCtorEq, ↓reduceIte]
      refine Safe.exit rfl (Safe.seq (Safe.region ?_))
      simp only [ref01_Bits_r9, E1, Nat.reduceAdd, Nat.reduceEqDiff, reduceCtorEq, ↓reduceIte]
      refine Safe.retn ?_
      simp only [E1, Nat.reduceAdd, Nat.reduceEqDiff, reduceCtorEq, ↓reduceIte]
      rw [← hs]
      exact ⟨rfl, [], rfl⟩
    · have h0' : (0 : Int) < (m : Int) := by omega
      simp only [ref01_Bits_r6, E1, Nat.reduceAdd, Nat.reduceEqDiff, reduceCtorEq, ↓reduceIte, h0']
      refine Safe.cond ?_
      simp only [E1, Nat.reduceAdd, Nat.reduceEqDiff, reduceCtorEq, ↓reduceIte]
      refine Safe.skip (Safe.seq (Safe.block (Safe.region ?_)))
      have hbl : blen m = 1 + blen (m / 2) := by
        by_cases h1 : m = 1
        · subst h1; rfl
        · have := blen_div (n := m) (k := 1) (by omega)
          simpa using this
      have w1 : IntKind.wrap .i64 ((s : Int) + 1) = ((s + 1 : Nat) : Int) := by rw [wrap_i64] <;> omega
      simp only [ref01_Bits_r7, E1, Nat.reduceAdd, Nat.reduceEqDiff, reduceCtorEq, ↓reduceIte, w1]
      refine Safe.inBlock (Safe.region ?_)
      have w2 : binV .quo (.int .u32 (m : Int)) (.int .u32 2) = some (.int .u32 ((m / 2 : Nat) : Int)) := by
        rw [binV_quo _ _ _ (by decide), Int.tdiv_eq_ediv_of_nonneg (by omega)]
        have : (m : Int) / 2 = ((m / 2 : Nat) : Int) := rfl
        rw [this, wrap_u32 (by omega) (by omega)]
      simp only [ref01_Bits_r8, E1, Nat.reduceAdd, Nat.reduceEqDiff, reduceCtorEq, ↓reduceIte, w2]
      refine Safe.keep [4, 5] ?_
      simp only [E1, Nat.reduceAdd, Nat.reduceEqDiff, reduceCtorEq, ↓reduceIte]
      exact ih (m / 2) (by omega) (s + 1) (by omega) (by omega) (by omega)
  have key : ∀ (n : Nat), n ≤ l.length → val (l.take n) = val l → 
      Safe ⟨Pr, fun _ _ => false, F_ref01_Bits, 31, [.tmp 2], H.length⟩ [.inLoop ref01_Bits_l0, .inBlock 0, .code ((ACode.region ref01_Bits_r11 false).seq .ret)]
        [(0, natV l), (3, .int .i64 ((n : Int) - 1))] (hap H []) fun r' H' => r' = .int .i64 (blen (val l)) ∧ ∃ L, H' = hap H L := by
    intro n
    induction n with
    | zero =>
      intro hn hv
      refine Safe.inLoop (Safe.seq (Safe.seq (Safe.region ?_)))
      simp only [ref01_Bits_r2, E1, Nat.reduceAdd, Nat.reduceEqDiff, reduceCtorEq, ↓reduceIte, show ¬ ((0 : Int) ≤ ((0 : Nat) : Int) - 1) by omega]
      refine Safe.cond ?_
      simp only [E1, Nat.reduceAdd, Nat.reduceEqDiff, reduceCtorEq, ↓reduceIte]
      refine Safe.exit rfl (Safe.seq (Safe.region ?_))
      simp only [ref01_Bits_r11, E1, Nat.reduceAdd, Nat.reduceEqDiff, reduceCtorEq, ↓reduceIte]
      refine Safe.retn ?_
      simp only [E1, Nat.reduceAdd, Nat.reduceEqDiff, reduceCtorEq, ↓reduceIte]
      rw [← hv]
      exact ⟨rfl, [], rfl⟩
    | succ n ih =>
      intro hn hv
      refine Safe.inLoop (Safe.seq (Safe.seq (Safe.region ?_)))
      have e1 : ((n + 1 : Nat) : Int) - 1 = (n : Int) := by omega
      simp only [ref01_Bits_r2, E1, Nat.reduceAdd, Nat.reduceEqDiff, reduceCtorEq, ↓reduceIte, e1, Int.natCast_nonneg]
      refine Safe.cond ?_
      simp only [E1, Nat.reduceAdd, Nat.reduceEqDiff, reduceCtorEq, ↓reduceIte]
      refine Safe.skip (Safe.seq (Safe.block (Safe.seq (Safe.region ?_))))
      simp only [ref01_Bits_r3, E1, Nat.reduceAdd, Nat.reduceEqDiff, reduceCtorEq, ↓reduceIte, natV_idx _ l _ n (by omega)]
      refine Safe.cond ?_
      simp only [E1, Nat.reduceAdd, Nat.reduceEqDiff, reduceCtorEq, ↓reduceIte]
      by_cases hd : l.getD n 0 = 0
      · simp only [hd, Int.natCast_zero, E1, Nat.reduceAdd, Nat.reduceEqDiff, reduceCtorEq, ↓reduceIte]
        refine Safe.skip (Safe.inBlock (Safe.region ?_))
        simp only [ref01_Bits_r10, E1, Nat.reduceAdd, Nat.reduceEqDiff, reduceCtorEq, ↓reduceIte, wrap_i64 (n := (n : Int) - 1) (by omega) (by omega)]
        refine Safe.keep [0, 3] ?_
        simp only [E1, Nat.reduceAdd, Nat.reduceEqDiff, reduceCtorEq, ↓reduceIte]
        refine ih (by omega) ?_
        rw [← hv, val_take_getD, hd]; simp
      · have hd' : ¬ (((l.getD n 0 : Nat) : Int) = 0) := by omega
        simp only [hd', E1, Nat.reduceAdd, Nat.reduceEqDiff, reduceCtorEq, ↓reduceIte]
        refine Safe.seq (Safe.region ?_)
        have w1 : IntKind.wrap .i64 (32 * (n : Int)) = ((32 * n : Nat) : Int) := by rw [wrap_i64] <;> omega
        simp only [ref01_Bits_r4, E1, Nat.reduceAdd, Nat.reduceEqDiff, reduceCtorEq, ↓reduceIte, w1]
        refine Safe.seq (Safe.seq (Safe.region ?_))
        simp only [ref01_Bits_r5, E1, Nat.reduceAdd, Nat.reduceEqDiff, reduceCtorEq, ↓reduceIte, natV_idx _ l _ n (by omega)]
        refine Safe.block (Safe.loop ?_)
        refine Safe.keep [4, 5] ?_
        simp only [E1, Nat.reduceAdd, Nat.reduceEqDiff, reduceCtorEq, ↓reduceIte]
        have hlt : l.getD n 0 < 4294967296 := getD_lt hl.lim n
        have hbv : blen (val l) = 32 * n + blen (l.getD n 0) := by
          rw [← hv, take_snoc (by omega), blen_limbs (hl.lim.take n) hd, List.length_take, Nat.min_eq_left (by omega)]
        refine inner _ _ (32 * n) hlt hbv.symm ?_
        rw [← hbv]
        have h1 := val_lt hl.lim
        rw [lb_pow] at h1
        rcases Nat.lt_or_ge (32 * l.length) (blen (val l)) with h | h
        · have h0 : val l ≠ 0 := by intro h0; rw [h0] at h; simp [blen] at h
          have h2 := blen_ge h0
          have h3 := Nat.pow_le_pow_right (show 0 < 2 by decide) (show 32 * l.length ≤ blen (val l) - 1 by omega)
          omega
        · exact h
  refine Safe.keep [0, 3] ?_
  simp only [E1, Nat.reduceAdd, Nat.reduceEqDiff, reduceCtorEq, ↓reduceIte]
  exact key l.length (Nat.le_refl _) (by rw [List.take_length])

end Go.Abs
